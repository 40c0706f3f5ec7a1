/- QuarPlays: one is put in. -/
import Derived.Test.YtabeolmfgmbfaaaR13
namespace Go.Proofs.Ytabeolmfgmbfaaa
open Go.RowKit
set_option linter.unusedVariables false
set_option linter.unusedSimpArgs false
attribute [local go_sem ↓] Go.wp_at_zero Go.wp_at_succ

theorem put_end {w w1 w' : World} {bq be xb j mn mc c6 : Nat} {ma a6 : Option Addr} {ls' : List (List It)} {ms : List It} {x : It} {bytes n : Int} {on : Bool} {F3 : Nat → Prop} {g6 : Option Nat}
    (hs : Sep [quarAt bq ls' (bytes + x.room), own 79 5 (.slice ma mn mc) mn (cellsI ms), blk be #[.int .i64 n, .bool on] 24, blk xb x.cells 79] w1 F3) (hu : Upd w w1 Non F3)
    (inv : QInv ls' (ms ++ [x]) (bytes + x.room) n (j + 1)) (hmn : mn = ms.length) (ho : Own w' 79 5 (.slice a6 (mn + 1) c6) (mn + 1) (cellsI (ms ++ [x])) g6) (hc : Chg Non w1 w') (hg : ∀ k, g6 = some k → w1.heap.size ≤ k) :
    LR bq be w (j + 1) a6 (mn + 1) c6 w' := by
  obtain ⟨G, h4, u4⟩ := (hs.bring 1 rfl).drop
  obtain ⟨F5, h5, u5⟩ := h4.pushOwnAt hc ho hg
  obtain ⟨F6, h6, u6⟩ := (h5.bring 3 rfl).drop
  exact ⟨ls', ms ++ [x], bytes + x.room, n, on, F6, inv, by simp [hmn], h6.swap, ((hu.trans u4).trans u5).trans u6⟩

noncomputable def codePut : Code := (Try.f14.body.bind (seqAt 6)).getD .skip

set_option maxHeartbeats 20000000 in
set_option maxRecDepth 100000 in
theorem put_piece {u1 u2 u7 u8 u9 u10 u11 u12 u13 u14 u15 u16 u17 u18 u19 u20 u21 u22 u23 u24 u25 u26 u27 u28 u29 u30 u31 u32 u33 u34 u35 u36 u37 u38 u39 u40 u41 u42 u43 u44 u45 u46 u47 u48 u49 u50 u51 u52 u53 u54 u55 u56 u57 u58 u59 u60 u61 u62 u63 u64 u65 u66 u67 u68 u69 u70 u71 u72 u73 u74 u75 u76 u77 u78 u79 u80 u81 u82 u83 u84 u85 u86 u87 u88 u89 u90 u91 u92 u93 u94 u95 u96 u97 u98 u99 u100 u101 u102 u103 u104 u105 u106 u107 u108 u109 u110 u111 u112 u113 u114 u115 u116 u117 u118 u119 u120 u121 u122 u123 u124 u125 u126 u127 u128 u129 u130 u131 u132 u133 u134 u135 u136 u137 u138 u139 u140 u141 u142 u143 u144 u145 u146 u147 u148 u149 u150 u151 u152 u153 u154 u155 u156 u157 u158 u159 u160 u161 u162 u163 u164 u165 u166 u167 u168 u169 u170 u171 u172 u173 u174 u175 u176 u177 u178 u179 u180 u181 u182 u183 u184 u185 u186 u187 u188 u189 u190 u191 u192 u193 u194 u195 u196 u197 u198 u199 u200 u201 u202 u203 u204 u205 u206 u207 u208 u209 u210 u211 u212 u213 u214 u215 u216 u217 u218 u219 u220 u221 u222 u223 u224 u225 u226 u227 u228 u229 u230 u231 u232 u233 u234 u235 u236 u237 u238 u239 u240 u241 u242 u243 u244 u245 u246 u247 u248 u249 u250 u251 u252 u253 u254 u255 u256 u257 u258 u259 u260 u261 u262 u263 u264 u265 u266 u267 u268 u269 u270 u271 u272 u273 u274 u275 u276 u277 u278 u279 u280 u281 u282 u283 u284 u285 u286 : Value} (b off len cap bq be j mn mc : Nat) (ma : Option Addr) (p : Int × Int) (w wr : World) (K : Act → World → Prop) (hlt6 : j < 60)
    (z1 : wr.cell? ⟨b, off + j * 2 + 1, none⟩ = some (.int .i64 p.2)) (hp3 : -9223372036854775808 ≤ p.2) (hp4 : p.2 ≤ 9223372036854775807) (hlt : j < len) (hlen : len ≤ 9000000000000000000) (hR : LR bq be w j ma mn mc wr)
    (hQ : ∀ (v10 v11 v21 v22 v23 v24 v25 v26 v27 v28 v29 v30 v31 v32 v33 v34 v35 v37 v38 v39 v40 v41 v42 v43 v44 v45 v46 v47 v48 v49 v50 v51 v52 v53 v54 v55 v56 v57 v58 v59 v60 v61 v62 v63 v64 v65 v66 v67 v68 v69 v70 v71 v72 v73 v74 v75 v76 v77 v78 v79 v80 v81 v82 v83 v84 v85 v86 v87 v88 v89 v90 v91 v92 v93 v94 v95 v96 v97 v98 v99 v100 v101 v102 v103 v104 v105 v106 v107 v108 v109 v110 v111 v112 v113 v114 v115 v116 v117 v118 v119 v120 v121 v122 v123 v124 v125 v126 v127 v128 v129 v130 v131 v132 v133 v134 v135 v136 v137 v138 v139 v140 v141 v142 v143 v144 v145 v146 v147 v148 v149 v150 v151 v152 v153 v154 v155 v156 v157 v158 v159 v160 v161 v162 v163 v164 v165 v166 v167 v168 v169 v170 v171 v172 v173 v174 v175 v176 v177 v178 v179 v180 v181 v182 v183 v184 v185 v186 v187 v188 v189 v190 v191 v192 v193 v194 v195 v196 v197 v198 v199 v200 v201 v202 v203 v204 v205 v206 v207 v208 v209 v210 v211 v212 v213 v214 v215 v216 v217 v218 v219 v220 v221 v222 v223 v224 v225 v226 v227 v228 v229 v230 v231 v232 v233 v234 v235 v236 v237 v238 v239 v240 v241 v242 v243 v244 v245 v246 v247 : Value) (a6 : Option Addr) (n6 c6 : Nat) (w' : World), LR bq be w (j + 1) a6 n6 c6 w' → K ⟨#[.slice (some ⟨b, off, none⟩) len cap, u1, u2, .pointer (some ⟨bq, 0, none⟩), .slice a6 n6 c6, .pointer (some ⟨be, 0, none⟩), .int .i64 j, u7, u8, u9, v10, v11, u12, u13, u14, u15, u16, u17, u18, u19, u20, v21, v22, v23, v24, v25, v26, v27, v28, v29, v30, v31, v32, v33, v34, v35, u36, v37, v38, v39, v40, v41, v42, v43, v44, v45, v46, v47, v48, v49, v50, v51, v52, v53, v54, v55, v56, v57, v58, v59, v60, v61, v62, v63, v64, v65, v66, v67, v68, v69, v70, v71, v72, v73, v74, v75, v76, v77, v78, v79, v80, v81, v82, v83, v84, v85, v86, v87, v88, v89, v90, v91, v92, v93, v94, v95, v96, v97, v98, v99, v100, v101, v102, v103, v104, v105, v106, v107, v108, v109, v110, v111, v112, v113, v114, v115, v116, v117, v118, v119, v120, v121, v122, v123, v124, v125, v126, v127, v128, v129, v130, v131, v132, v133, v134, v135, v136, v137, v138, v139, v140, v141, v142, v143, v144, v145, v146, v147, v148, v149, v150, v151, v152, v153, v154, v155, v156, v157, v158, v159, v160, v161, v162, v163, v164, v165, v166, v167, v168, v169, v170, v171, v172, v173, v174, v175, v176, v177, v178, v179, v180, v181, v182, v183, v184, v185, v186, v187, v188, v189, v190, v191, v192, v193, v194, v195, v196, v197, v198, v199, v200, v201, v202, v203, v204, v205, v206, v207, v208, v209, v210, v211, v212, v213, v214, v215, v216, v217, v218, v219, v220, v221, v222, v223, v224, v225, v226, v227, v228, v229, v230, v231, v232, v233, v234, v235, v236, v237, v238, v239, v240, v241, v242, v243, v244, v245, v246, v247, u248, u249, u250, u251, u252, u253, u254, u255, u256, u257, u258, u259, u260, u261, u262, u263, u264, u265, u266, u267, u268, u269, u270, u271, u272, u273, u274, u275, u276, u277, u278, u279, u280, u281, u282, u283, u284, u285, u286], []⟩ w') :
    Code.wp Try.prog codePut (OnlyN K) ⟨#[.slice (some ⟨b, off, none⟩) len cap, u1, u2, .pointer (some ⟨bq, 0, none⟩), .slice ma mn mc, .pointer (some ⟨be, 0, none⟩), .int .i64 j, u7, u8, u9, u10, u11, u12, u13, u14, u15, u16, u17, u18, u19, u20, u21, u22, u23, u24, u25, u26, u27, u28, u29, u30, u31, u32, u33, u34, u35, u36, u37, u38, u39, u40, u41, u42, u43, u44, u45, u46, u47, u48, u49, u50, u51, u52, u53, u54, u55, u56, u57, u58, u59, u60, u61, u62, u63, u64, u65, u66, u67, u68, u69, u70, u71, u72, u73, u74, u75, u76, u77, u78, u79, u80, u81, u82, u83, u84, u85, u86, u87, u88, u89, u90, u91, u92, u93, u94, u95, u96, u97, u98, u99, u100, u101, u102, u103, u104, u105, u106, u107, u108, u109, u110, u111, u112, u113, u114, u115, u116, u117, u118, u119, u120, u121, u122, u123, u124, u125, u126, u127, u128, u129, u130, u131, u132, u133, u134, u135, u136, u137, u138, u139, u140, u141, u142, u143, u144, u145, u146, u147, u148, u149, u150, u151, u152, u153, u154, u155, u156, u157, u158, u159, u160, u161, u162, u163, u164, u165, u166, u167, u168, u169, u170, u171, u172, u173, u174, u175, u176, u177, u178, u179, u180, u181, u182, u183, u184, u185, u186, u187, u188, u189, u190, u191, u192, u193, u194, u195, u196, u197, u198, u199, u200, u201, u202, u203, u204, u205, u206, u207, u208, u209, u210, u211, u212, u213, u214, u215, u216, u217, u218, u219, u220, u221, u222, u223, u224, u225, u226, u227, u228, u229, u230, u231, u232, u233, u234, u235, u236, u237, u238, u239, u240, u241, u242, u243, u244, u245, u246, u247, u248, u249, u250, u251, u252, u253, u254, u255, u256, u257, u258, u259, u260, u261, u262, u263, u264, u265, u266, u267, u268, u269, u270, u271, u272, u273, u274, u275, u276, u277, u278, u279, u280, u281, u282, u283, u284, u285, u286], []⟩ wr := by
  have HR := Lib.hid hR
  dsimp only at hQ
  have HQ := Lib.hid hQ
  clear hR hQ
  unfold codePut
  let hbp := bodyPost Try.prog Try.f14 (fun _ _ => True)
  conv => arg 2; whnf
  conv => arg 4; dsimp only
  go_upto_region 6 with fail
  obtain ⟨ls, ms, bytes, n, on, F, inv, hmn, hs, hu⟩ := HR.out
  have e0 := (hs.blkAt 2 rfl).cell 0
  have e1 := (hs.blkAt 2 rfl).cell 1
  simp only [List.getElem?_toArray, List.getElem?_cons_zero, List.getElem?_cons_succ] at e0 e1
  have HS := Lib.hid hs
  have HU := Lib.hid hu
  have HV := Lib.hid inv
  have HMN := Lib.hid hmn
  have HEN : Hid (∀ W, Calls Try.prog 18 #[.agg #[.int .i64 n, .bool on]] W fun e w' => e = .returned (.int .i64 n) ∧ Chg Non W w') := fun W => epNow n on W
  have HZ : Hid (∀ W, Chg Non wr W → W.cell? ⟨b, off + j * 2 + 1, none⟩ = some (.int .i64 p.2) ∧ W.cell? ⟨be, 0, none⟩ = some (.int .i64 n) ∧ W.cell? ⟨be, 1, none⟩ = some (.bool on)) := fun W hc => by
    have hb := World.block_lt_of_cell? wr ⟨b, off + j * 2 + 1, none⟩ z1
    have hbe2 := (hs.blkAt 2 rfl).chg hc (fun h => h)
    exact ⟨(World.cell?_of_block (a := ⟨b, off + j * 2 + 1, none⟩) (hc.block b hb (fun h => h))).trans z1, hbe2.cell 0, hbe2.cell 1⟩
  have hl1 : b < wr.heap.size := World.block_lt_of_cell? wr ⟨b, off + j * 2 + 1, none⟩ z1
  have hl2 : be < wr.heap.size := (hs.blkAt 2 rfl).lt
  have hl3 : wr.heap.size ≠ b := Nat.ne_of_gt hl1
  have hl4 : wr.heap.size ≠ be := Nat.ne_of_gt hl2
  have hl5 : b ≠ wr.heap.size := Nat.ne_of_lt hl1
  have hl6 : be ≠ wr.heap.size := Nat.ne_of_lt hl2
  clear hs hu inv hmn
  go_cut [10] (fun v wx => ∃ (xb : Nat) (room cls : Int), v = .pointer (some ⟨xb, 0, none⟩) ∧ 0 ≤ room ∧ room ≤ 1023 ∧ Hid (XS bq be xb w ls ms bytes n on ma mn mc ⟨16 * j, room, cls, 0, n⟩ wx) ∧ Hid (Chg Non wr wx))
  case first =>
    as_aux_lemma =>
      go_region_held3 (fun w' => w'.cell? ⟨b, off + j * 2 + 1, none⟩ = some (.int .i64 p.2) ∧ w'.cell? ⟨be, 0, none⟩ = some (.int .i64 n) ∧ w'.cell? ⟨be, 1, none⟩ = some (.bool on))
        (go_keep)
        (first
          | (go_at_call 18; (with_reducible refine (HEN.out _).mono ?_); rintro e w2 ⟨rfl, hch⟩; have hz1 : Chg Non wr w2 := (by exact Chg.of_drew hch); obtain ⟨d0, d1, d2⟩ := HZ.out _ hz1; have HC1 := Lib.hid hz1; clear hz1 hch)
          | (go_at_call 18; (with_reducible refine (HEN.out _).mono ?_); rintro e w2 ⟨rfl, hch⟩; have hz2 : Chg Non (wr.alloc (.cells #[.int .i64 0, .int .i64 0, .int .i64 0, .int .i64 0, .int .i64 0] 79)) w2 := (by exact Chg.of_drew hch); obtain ⟨d0, d1, d2⟩ := HZ.out _ (((Chg.refl Non _).alloc _).tr hz2); have hbx := (Blk.new wr #[.int .i64 0, .int .i64 0, .int .i64 0, .int .i64 0, .int .i64 0] 79).chg hz2 (fun h => h); have x0 := hbx.cell 0; have x1 := hbx.cell 1; have x2 := hbx.cell 2; have x3 := hbx.cell 3; have x4 := hbx.cell 4; have g0 := hbx.free 0; have g1 := hbx.free 1; have g2 := hbx.free 2; have g3 := hbx.free 3; have g4 := hbx.free 4; simp at x0 x1 x2 x3 x4; have HC2 := Lib.hid hz2; clear hbx hz2 hch))
      all_goals
        go_wp2_with fail
        go_meet
        have hwr : IntKind.i64.wrap (16 * (j : Int)) = 16 * j := IntWalk.i64_in _ (by omega)
        refine ⟨_, p.2 % 1024, bits .and .i64 (p.2 / 1024) 15, rfl, Int.emod_nonneg _ (by decide), by have := Int.emod_lt_of_pos p.2 (show (0 : Int) < 1024 by decide); omega, ?_, ?_⟩
        · first
            | exact xs_new HS.out HU.out HC1.out ⟨16 * j, p.2 % 1024, bits .and .i64 (p.2 / 1024) 15, 0, n⟩ _ (by rw [hwr, and1023]; rfl)
            | exact xs_old HS.out HU.out HC2.out ⟨16 * j, p.2 % 1024, bits .and .i64 (p.2 / 1024) 15, 0, n⟩ _ _ _ _ _ hwr (and1023 _) rfl rfl rfl
        · first
            | exact HC1.out.alloc _
            | exact ((((((((Chg.refl Non wr).alloc _).tr HC2.out).setCell (p := ⟨wr.heap.size, 0, none⟩) (.inr (Nat.le_refl _)) _).setCell (p := ⟨wr.heap.size, 1, none⟩) (.inr (Nat.le_refl _)) _).setCell (p := ⟨wr.heap.size, 2, none⟩) (.inr (Nat.le_refl _)) _).setCell (p := ⟨wr.heap.size, 3, none⟩) (.inr (Nat.le_refl _)) _).setCell (p := ⟨wr.heap.size, 4, none⟩) (.inr (Nat.le_refl _)) _)
  case rest =>
    as_aux_lemma =>
      obtain ⟨xb, room, cls, rfl, hr0, hr1, HX, HCX⟩ := hcut
      obtain ⟨wx, hwx⟩ : ∃ wx, wx = wc := ⟨_, rfl⟩
      subst hwx
      have hcx := HCX.out
      obtain ⟨d0, _, _⟩ := HZ.out _ hcx
      have hbx : Blk wx xb (It.cells ⟨16 * j, room, cls, 0, n⟩) 79 := by obtain ⟨_, h, _⟩ := HX.out; exact h.blkAt 3 rfl
      have x4 : wx.cell? ⟨xb, 4, none⟩ = some (.int .i64 n) := hbx.cell 4
      have xf4 := hbx.free 4
      clear hcx hbx e0 e1 z1
      go_upto_region 7 with fail
      go_cut [67] (fun v wy => ∃ bb : Bool, v = .bool bb ∧ (bb = true → 0 < n) ∧ wx = wy)
      case first =>
        as_aux_lemma =>
          go_wp2_with fail
          all_goals
            go_meet
            first
              | exact ⟨false, rfl, (fun h => (by cases h)), rfl⟩
              | exact ⟨decide (0 < n), rfl, (fun h => of_decide_eq_true h), rfl⟩
      case rest =>
        as_aux_lemma =>
          obtain ⟨bb, rfl, hbb, hwy⟩ := hcut
          subst hwy
          go_upto_if 67 with fail
          go_cut [] (fun wy => ∃ e1 : Int, 0 ≤ e1 ∧ e1 ≤ n ∧ Hid (XS bq be xb w ls ms bytes n on ma mn mc ⟨16 * j, room, cls, 0, e1⟩ wy))
          case first =>
            as_aux_lemma =>
              have hv := HV.out.n0
              have hv1 := HV.out.n1
              cases bb
              · go_wp2_with fail
                go_meet
                exact ⟨n, hv, Int.le_refl _, HX.out⟩
              · have hb0 := hbb rfl
                clear hbb
                go_wp2_with fail
                go_meet
                obtain ⟨F1, h1, u1⟩ := HX.out
                obtain ⟨F2, h2, u2⟩ := (blk_focus (h1.bring 3 rfl)).2.2 4 (.int .i64 (n - 1))
                exact ⟨n - 1, by omega, by omega, F2, h2.perm (List.perm_append_singleton (blk xb (It.cells ⟨16 * j, room, cls, 0, n - 1⟩) 79) [quarAt bq ls bytes, own 79 5 (.slice ma mn mc) mn (cellsI ms), blk be #[.int .i64 n, .bool on] 24]).symm, u1.trans u2⟩
          case rest =>
            as_aux_lemma =>
              obtain ⟨e1, he0, he1, HX1⟩ := hcut
              clear hbb HX d0 x4 xf4 HCX
              obtain ⟨wy, hwy⟩ : ∃ wy, wy = wc := ⟨_, rfl⟩
              subst hwy
              generalize hx : (⟨16 * j, room, cls, 0, e1⟩ : It) = x at *
              have hxe : x.ep = e1 := by rw [← hx]
              have hxr : x.room = room := by rw [← hx]
              have hxa : x.at_ % 16 = 0 := by rw [← hx]; show (16 * (j : Int)) % 16 = 0; omega
              have HXA := Lib.hid hxa
              have HXE := Lib.hid hxe
              have HXR := Lib.hid hxr
              clear hx hxe hxr hxa
              obtain ⟨F1, h1, u1⟩ := HX1.out
              have hbx := h1.blkAt 3 rfl
              have x4 : wy.cell? ⟨xb, 4, none⟩ = some (.int .i64 x.ep) := hbx.cell 4
              have HS1 := Lib.hid h1
              have HU1 := Lib.hid u1
              clear h1 u1 hbx HX1
              go_upto_region 9 with fail
              go_cut [11] (fun v wz => v = .bool (okM ms x) ∧ Hid (Chg Non wy wz))
              case first =>
                as_aux_lemma =>
                  obtain ⟨g1, ho⟩ := HS1.out.ownAt 1 rfl
                  have hmn := HMN.out
                  rcases Nat.eq_zero_or_pos mn with h0 | h0
                  · have HOK : Hid (okM ms x = true) := by
                      have hms : ms = [] := List.eq_nil_of_length_eq_zero (by rw [← hmn]; exact h0)
                      show _ = _
                      rw [hms]; rfl
                    subst h0
                    clear ho hmn
                    go_quiet (fail)
                    all_goals
                      go_wp2_with fail
                      go_meet
                      exact ⟨by rw [HOK.out], (Chg.refl _ _).drewN _⟩
                  · obtain ⟨k, rfl⟩ : ∃ k, mn = k + 1 := ⟨mn - 1, by omega⟩
                    obtain ⟨y, hy⟩ : ∃ y, ms[k]? = some y := ⟨_, List.getElem?_eq_getElem (by omega)⟩
                    have HOK : Hid (okM ms x = decide (y.ep ≤ x.ep)) := by
                      show _ = _
                      unfold okM
                      rw [List.getLast?_eq_getElem?, ← hmn, Nat.add_sub_cancel, hy]
                    obtain ⟨b1, o1, rfl, hc⟩ := (itms_own hmn.symm ho).2 k y hy
                    have y4 : wy.cell? ⟨b1, o1 + k * 5 + 4, none⟩ = some (.int .i64 y.ep) := hc 4 (by omega)
                    have hl := HV.out.len
                    have hk1 : k ≤ 60 := by omega
                    have hg0 : ((k : Int) + 1 == 0) = false := by simp; omega
                    have hw2 : (k : Int) < (k : Int) + 1 := by omega
                    have hw3 : (0 : Int) ≤ (k : Int) := by omega
                    have hw1 : IntKind.i64.wrap (k : Int) = k := IntWalk.i64_in _ (by omega)
                    clear ho hmn hy hc hl h0
                    go_quiet (fail)
                    all_goals
                      go_wp2_with fail
                      go_meet
                      exact ⟨by rw [HOK.out], (Chg.refl _ _).drewN _⟩
              case rest =>
                as_aux_lemma =>
                  obtain ⟨rfl, HCY⟩ := hcut
                  clear x4
                  obtain ⟨wz, hwz⟩ : ∃ wz, wz = wc := ⟨_, rfl⟩
                  subst hwz
                  have HS2 := Lib.hid (HS1.out.non HCY.out)
                  have HU2 := Lib.hid (HU1.out.chgNon HCY.out)
                  have hbx := HS2.out.blkAt 3 rfl
                  have x0 : wz.cell? ⟨xb, 0, none⟩ = some (.int .i64 x.at_) := hbx.cell 0
                  have x1 : wz.cell? ⟨xb, 1, none⟩ = some (.int .i64 x.room) := hbx.cell 1
                  have x2 : wz.cell? ⟨xb, 2, none⟩ = some (.int .i64 x.cls) := hbx.cell 2
                  have x3 : wz.cell? ⟨xb, 3, none⟩ = some (.int .i64 x.th) := hbx.cell 3
                  have x4 : wz.cell? ⟨xb, 4, none⟩ = some (.int .i64 x.ep) := hbx.cell 4
                  clear hbx HS1 HU1 HCY
                  have hxr := HXR.out
                  obtain ⟨Gq, hq, hK⟩ := HS2.out.foc
                  have HK := Lib.hid hK
                  cases hok : okM ms x
                  · have HP : Hid (Calls Try.prog 50 #[.pointer (some ⟨bq, 0, none⟩), .agg #[.int .i64 x.at_, .int .i64 x.room, .int .i64 x.cls, .int .i64 x.th, .int .i64 x.ep]] wz (PutNo wz)) := qPut_no bq ls ms bytes x n j Gq wz hq HV.out (by omega) hok
                    clear hq hK hok hxr
                    go_wp2_with fail
                    (with_reducible refine HP.out.mono ?_)
                    rintro e w1 ⟨rfl, hc⟩
                    have HC := Lib.hid hc
                    clear hc HP x0 x1 x2 x3 x4
                    go_wp2_with fail
                    obtain ⟨F3, h3, u3⟩ := (HS2.out.non HC.out |>.bring 3 rfl).drop
                    show K _ _
                    refine HQ.out _ _ _ _ _ _ _ _ _ _ _ _ _ _ _ _ _ _ _ _ _ _ _ _ _ _ _ _ _ _ _ _ _ _ _ _ _ _ _ _ _ _ _ _ _ _ _ _ _ _ _ _ _ _ _ _ _ _ _ _ _ _ _ _ _ _ _ _ _ _ _ _ _ _ _ _ _ _ _ _ _ _ _ _ _ _ _ _ _ _ _ _ _ _ _ _ _ _ _ _ _ _ _ _ _ _ _ _ _ _ _ _ _ _ _ _ _ _ _ _ _ _ _ _ _ _ _ _ _ _ _ _ _ _ _ _ _ _ _ _ _ _ _ _ _ _ _ _ _ _ _ _ _ _ _ _ _ _ _ _ _ _ _ _ _ _ _ _ _ _ _ _ _ _ _ _ _ _ _ _ _ _ _ _ _ _ _ _ _ _ _ _ _ _ _ _ _ _ _ _ _ _ _ _ _ _ _ _ _ _ _ _ _ _ _ _ _ _ _ _ _ _ _ _ _ _ _ _ ma mn mc _ ?_
                    exact ⟨ls, ms, bytes, n, on, F3, HV.out.more HV.out.n0 (by omega), HMN.out, h3, (HU2.out.chgNon HC.out).trans u3⟩
                  · have HP : Hid (Calls Try.prog 50 #[.pointer (some ⟨bq, 0, none⟩), .agg #[.int .i64 x.at_, .int .i64 x.room, .int .i64 x.cls, .int .i64 x.th, .int .i64 x.ep]] wz (PutOk bq ms bytes x n j Gq wz)) := qPut_yes bq ls ms bytes x n j Gq wz hq HV.out (by omega) (by omega) HXA.out hok
                    clear hq hK hok hxr
                    go_wp2_with fail
                    (with_reducible refine HP.out.mono ?_)
                    rintro e w1 ⟨rfl, ls', G', inv', hq', hu'⟩
                    obtain ⟨F3, h3, u3⟩ := HK.out _ _ _ hq' hu'
                    have HS3 := Lib.hid h3
                    have HU3 := Lib.hid (HU2.out.trans u3)
                    have HV' := Lib.hid inv'
                    clear hq' hu' h3 u3 inv' HP HS2 HU2 HK x0 x1 x2 x3 x4
                    have hbx := HS3.out.blkAt 3 rfl
                    have x0 : w1.cell? ⟨xb, 0, none⟩ = some (.int .i64 x.at_) := hbx.cell 0
                    have x1 : w1.cell? ⟨xb, 1, none⟩ = some (.int .i64 x.room) := hbx.cell 1
                    have x2 : w1.cell? ⟨xb, 2, none⟩ = some (.int .i64 x.cls) := hbx.cell 2
                    have x3 : w1.cell? ⟨xb, 3, none⟩ = some (.int .i64 x.th) := hbx.cell 3
                    have x4 : w1.cell? ⟨xb, 4, none⟩ = some (.int .i64 x.ep) := hbx.cell 4
                    clear hbx
                    go_upto_region 13 with fail
                    clear x0 x1 x2 x3 x4
                    refine Code.wp_mono (OnlyN.then (fun _ _ h => h)) (r13 bq xb mn mc ma ms x w1 _ HMN.out ?_ ?_ ?_ ?_)
                    · have := HV.out.len; rw [← HMN.out] at this; omega
                    · intro W hc
                      obtain ⟨g1, ho⟩ := (HS3.out.non hc).ownAt 1 rfl
                      exact own_srcI HMN.out ho
                    · exact HS3.out.blkAt 3 rfl
                    · intro v93 v94 v95 v96 v97 v98 a6 c6 g6 w' ho hc hg
                      have HO := Lib.hid ho
                      have HC := Lib.hid hc
                      have HG := Lib.hid hg
                      clear ho hc hg
                      go_wp2_with fail
                      show K _ _
                      refine HQ.out _ _ _ _ _ _ _ _ _ _ _ _ _ _ _ _ _ _ _ _ _ _ _ _ _ _ _ _ _ _ _ _ _ _ _ _ _ _ _ _ _ _ _ _ _ _ _ _ _ _ _ _ _ _ _ _ _ _ _ _ _ _ _ _ _ _ _ _ _ _ _ _ _ _ _ _ _ _ _ _ _ _ _ _ _ _ _ _ _ _ _ _ _ _ _ _ _ _ _ _ _ _ _ _ _ _ _ _ _ _ _ _ _ _ _ _ _ _ _ _ _ _ _ _ _ _ _ _ _ _ _ _ _ _ _ _ _ _ _ _ _ _ _ _ _ _ _ _ _ _ _ _ _ _ _ _ _ _ _ _ _ _ _ _ _ _ _ _ _ _ _ _ _ _ _ _ _ _ _ _ _ _ _ _ _ _ _ _ _ _ _ _ _ _ _ _ _ _ _ _ _ _ _ _ _ _ _ _ _ _ _ _ _ _ _ _ _ _ _ _ _ _ _ _ _ _ _ _ a6 (mn + 1) c6 w' ?_
                      exact put_end HS3.out HU3.out HV'.out HMN.out HO.out HC.out HG.out

end Go.Proofs.Ytabeolmfgmbfaaa
