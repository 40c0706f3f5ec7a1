/- QuarPlays: what is asked behind each thing. -/
import Derived.Test.YtabeolmfgmbfaaaP35a
import Derived.Deep.RegionHeld3
namespace Go.Proofs.Ytabeolmfgmbfaaa
open Go.RowKit
set_option linter.unusedVariables false
set_option linter.unusedSimpArgs false
attribute [local go_sem ↓] Go.wp_at_zero Go.wp_at_succ

noncomputable def codeChk : Code := (Try.f14.body.bind (seqAt 31)).getD .skip

/-- How many batches the first k are: a new one wherever the epoch is another. -/
def bcT (ms : List It) : Nat → Nat
  | 0 => 0
  | k + 1 => bcT ms k + (if k = 0 ∨ (ms[k]?.map It.ep) ≠ (ms[k - 1]?.map It.ep) then 1 else 0)
theorem bcT_le (ms : List It) : ∀ k, bcT ms k ≤ k
  | 0 => Nat.le_refl _
  | k + 1 => by
    have := bcT_le ms k
    unfold bcT
    split <;> omega
theorem bcT_append (a b : List It) : ∀ k, k ≤ a.length → bcT (a ++ b) k = bcT a k
  | 0, _ => rfl
  | k + 1, h => by
    unfold bcT
    rw [bcT_append a b k (by omega), List.getElem?_append_left (by omega)]
    by_cases h0 : k = 0
    · simp [h0]
    · rw [List.getElem?_append_left (by omega)]
/-- One batch more, at the end. -/
theorem bcT_batch (a l : List It) (hl : l ≠ []) (hu : ∀ y ∈ l, ∀ z ∈ l, y.ep = z.ep) (hd : ∀ y ∈ a, ∀ z ∈ l, y.ep < z.ep) : ∀ k, k < l.length → bcT (a ++ l) (a.length + (k + 1)) = bcT a a.length + 1
  | 0, hk => by
    have e : bcT (a ++ l) (a.length + 1) = bcT (a ++ l) a.length + (if a.length = 0 ∨ ((a ++ l)[a.length]?.map It.ep) ≠ ((a ++ l)[a.length - 1]?.map It.ep) then 1 else 0) := rfl
    show bcT (a ++ l) (a.length + 1) = _
    rw [e, bcT_append a l a.length (Nat.le_refl _), if_pos]
    by_cases h0 : a.length = 0
    · exact .inl h0
    · right
      obtain ⟨x, hx⟩ : ∃ x, a[a.length - 1]? = some x := ⟨_, List.getElem?_eq_getElem (by omega)⟩
      obtain ⟨z, hz⟩ : ∃ z, l[0]? = some z := ⟨_, List.getElem?_eq_getElem hk⟩
      rw [List.getElem?_append_right (Nat.le_refl _), Nat.sub_self, List.getElem?_append_left (by omega), hx, hz]
      have := hd x (List.mem_of_getElem? hx) z (List.mem_of_getElem? hz)
      simp
      omega
  | k + 1, hk => by
    have ih := bcT_batch a l hl hu hd k (by omega)
    show bcT (a ++ l) ((a.length + (k + 1)) + 1) = _
    rw [bcT, ih, if_neg]
    intro h
    rcases h with h | h
    · omega
    · apply h
      obtain ⟨y, hy⟩ : ∃ y, l[k + 1]? = some y := ⟨_, List.getElem?_eq_getElem hk⟩
      obtain ⟨z, hz⟩ : ∃ z, l[k]? = some z := ⟨_, List.getElem?_eq_getElem (by omega)⟩
      rw [List.getElem?_append_right (by omega), List.getElem?_append_right (by omega)]
      rw [show a.length + (k + 1) - a.length = k + 1 by omega, show a.length + (k + 1) - 1 - a.length = k by omega, hy, hz]
      simp [hu y (List.mem_of_getElem? hy) z (List.mem_of_getElem? hz)]
theorem bcT_all : ∀ (ls : List (List It)) (a : List It), (∀ l ∈ ls, l ≠ []) → (∀ l ∈ ls, ∀ y ∈ l, ∀ z ∈ l, y.ep = z.ep) → ls.Pairwise (fun a b => ∀ y ∈ a, ∀ z ∈ b, y.ep < z.ep) → (∀ l ∈ ls, ∀ y ∈ a, ∀ z ∈ l, y.ep < z.ep) →
    bcT (a ++ ls.flatten) (a.length + ls.flatten.length) = bcT a a.length + ls.length
  | [], a, _, _, _, _ => by simp
  | l :: ls, a, hn, hu, hp, ha => by
    have hp' := List.pairwise_cons.1 hp
    have ih := bcT_all ls (a ++ l) (fun k hk => hn k (List.mem_cons_of_mem _ hk)) (fun k hk => hu k (List.mem_cons_of_mem _ hk)) hp'.2 (fun k hk y hy z hz => by
      rcases List.mem_append.1 hy with hy | hy
      · exact ha k (List.mem_cons_of_mem _ hk) y hy z hz
      · exact hp'.1 k hk y hy z hz)
    have hl := hn l (by simp)
    have hpos : 0 < l.length := List.length_pos_iff.2 hl
    have hb := bcT_batch a l hl (hu l (by simp)) (ha l (by simp)) (l.length - 1) (by omega)
    rw [show l.length - 1 + 1 = l.length by omega] at hb
    rw [List.flatten_cons, ← List.append_assoc, List.length_append, ← Nat.add_assoc, ← List.length_append, ih, List.length_append, hb, List.length_cons]
    omega
theorem QInv.bc {ls : List (List It)} {ms : List It} {bytes n : Int} {i : Nat} (h : QInv ls ms bytes n i) : bcT ms ms.length = ls.length := by
  have := bcT_all ls [] h.ne h.uni h.inc (fun _ _ y hy => by cases hy)
  rw [h.flat] at this
  simpa [bcT] using this

/-- Does a new batch begin at place k? -/
def newB (ms : List It) : Nat → Bool
  | 0 => true
  | k + 1 => decide ((ms[k + 1]?.map It.ep) ≠ (ms[k]?.map It.ep))
theorem newB_succ (ms : List It) (k : Nat) : newB ms (k + 1) = decide ((ms[k + 1]?.map It.ep) ≠ (ms[k]?.map It.ep)) := rfl
theorem bcT_succ (ms : List It) (k : Nat) : bcT ms (k + 1) = bcT ms k + (if newB ms k = true then 1 else 0) := by
  cases k with
  | zero => simp [bcT, newB]
  | succ k =>
    rw [bcT]
    congr 1
    simp [newB]

theorem atB_mem {ms : List It} {y : It} (h : y ∈ ms) : atB ms y.at_ = true := by
  simp only [atB, List.any_eq_true]
  exact ⟨y, h, by simp⟩

set_option maxHeartbeats 20000000 in
set_option maxRecDepth 100000 in
theorem chk_piece {u1 u2 u7 u8 u9 u10 u11 u12 u13 u14 u15 u16 u17 u18 u19 u20 u21 u22 u23 u24 u25 u26 u27 u28 u29 u30 u31 u32 u33 u34 u35 u36 u37 u38 u39 u40 u41 u42 u43 u44 u45 u46 u47 u48 u49 u50 u51 u52 u53 u54 u55 u56 u57 u58 u59 u60 u61 u62 u63 u64 u65 u66 u67 u68 u69 u70 u71 u72 u73 u74 u75 u76 u77 u78 u79 u80 u81 u82 u83 u84 u85 u86 u87 u88 u89 u90 u91 u92 u93 u94 u95 u96 u97 u98 u99 u100 u101 u102 u103 u104 u105 u106 u107 u108 u109 u110 u111 u112 u113 u114 u115 u116 u117 u118 u119 u120 u121 u122 u123 u124 u125 u126 u127 u128 u129 u130 u131 u132 u133 u134 u135 u136 u137 u138 u139 u140 u141 u142 u143 u144 u145 u146 u147 u148 u149 u150 u151 u152 u153 u154 u155 u156 u157 u158 u159 u160 u161 u162 u163 u164 u165 u166 u167 u168 u169 u170 u171 u172 u173 u174 u175 u176 u177 u178 u179 u180 u181 u182 u183 u184 u185 u186 u187 u188 u189 u190 u191 u192 u193 u194 u195 u196 u197 u198 u199 u200 u201 u202 u203 u204 u205 u206 u207 u208 u209 u210 u211 u212 u213 u214 u215 u216 u217 u218 u219 u220 u221 u222 u223 u224 u225 u226 u227 u228 u229 u230 u231 u232 u233 u234 u235 u236 u237 u238 u239 u240 u241 u242 u243 u244 u245 u246 u247 u248 u249 u250 u251 u252 u253 u254 u255 u256 u257 u258 u259 u260 u261 u262 u263 u264 u265 u266 u267 u268 u269 u270 u271 u272 u273 u274 u275 u276 u277 u278 u279 u280 u281 u282 u283 u284 u285 u286 : Value} (b off len cap bq be j i mn mc : Nat) (ma : Option Addr) (w wi : World) (K : Act → World → Prop) (hi : i ≤ 100) (hR : LR bq be w i ma mn mc wi)
    (hQ : ∀ (v2 v12 v13 v14 v15 v21 v22 v23 v24 v25 v26 v27 v28 v29 v30 v31 v32 v33 v34 v35 v36 v37 v38 v39 v40 v41 v42 v43 v44 v45 v46 v47 v48 v49 v50 v51 v52 v53 v54 v55 v56 v57 v58 v59 v60 v61 v62 v63 v64 v65 v66 v67 v68 v69 v70 v71 v72 v73 v74 v75 v76 v77 v78 v79 v80 v81 v82 v83 v84 v85 v86 v87 v88 v89 v90 v91 v92 v93 v94 v95 v96 v97 v98 v99 v100 v101 v102 v103 v104 v105 v106 v107 v108 v109 v110 v111 v112 v113 v114 v115 v116 v117 v118 v119 v120 v121 v122 v123 v124 v125 v126 v127 v128 v129 v130 v131 v132 v133 v134 v135 v136 v137 v138 v139 v140 v141 v142 v143 v144 v145 v146 v147 v148 v149 v150 v151 v152 v153 v154 v155 v156 v157 v158 v159 v160 v161 v162 v163 v164 v165 v166 v167 v168 v169 v170 v171 v172 v173 v174 v175 v176 v177 v178 v179 v180 v181 v182 v183 v184 v185 v186 v187 v188 v189 v190 v191 v192 v193 v194 v195 v196 v197 v198 v199 v200 v201 v202 v203 v204 v205 v206 v207 v208 v209 v210 v211 v212 v213 v214 v215 v216 v217 v218 v219 v220 v221 v222 v223 v224 v225 v226 v227 v228 v229 v230 v231 v232 v233 v234 v235 v236 v237 v238 v239 v240 v241 v242 v243 v244 v245 v246 v247 : Value) (w' : World), LR bq be w i ma mn mc w' → K ⟨#[.slice (some ⟨b, off, none⟩) len cap, u1, v2, .pointer (some ⟨bq, 0, none⟩), .slice ma mn mc, .pointer (some ⟨be, 0, none⟩), .int .i64 j, u7, u8, u9, u10, u11, v12, v13, v14, v15, u16, u17, u18, u19, u20, v21, v22, v23, v24, v25, v26, v27, v28, v29, v30, v31, v32, v33, v34, v35, v36, v37, v38, v39, v40, v41, v42, v43, v44, v45, v46, v47, v48, v49, v50, v51, v52, v53, v54, v55, v56, v57, v58, v59, v60, v61, v62, v63, v64, v65, v66, v67, v68, v69, v70, v71, v72, v73, v74, v75, v76, v77, v78, v79, v80, v81, v82, v83, v84, v85, v86, v87, v88, v89, v90, v91, v92, v93, v94, v95, v96, v97, v98, v99, v100, v101, v102, v103, v104, v105, v106, v107, v108, v109, v110, v111, v112, v113, v114, v115, v116, v117, v118, v119, v120, v121, v122, v123, v124, v125, v126, v127, v128, v129, v130, v131, v132, v133, v134, v135, v136, v137, v138, v139, v140, v141, v142, v143, v144, v145, v146, v147, v148, v149, v150, v151, v152, v153, v154, v155, v156, v157, v158, v159, v160, v161, v162, v163, v164, v165, v166, v167, v168, v169, v170, v171, v172, v173, v174, v175, v176, v177, v178, v179, v180, v181, v182, v183, v184, v185, v186, v187, v188, v189, v190, v191, v192, v193, v194, v195, v196, v197, v198, v199, v200, v201, v202, v203, v204, v205, v206, v207, v208, v209, v210, v211, v212, v213, v214, v215, v216, v217, v218, v219, v220, v221, v222, v223, v224, v225, v226, v227, v228, v229, v230, v231, v232, v233, v234, v235, v236, v237, v238, v239, v240, v241, v242, v243, v244, v245, v246, v247, u248, u249, u250, u251, u252, u253, u254, u255, u256, u257, u258, u259, u260, u261, u262, u263, u264, u265, u266, u267, u268, u269, u270, u271, u272, u273, u274, u275, u276, u277, u278, u279, u280, u281, u282, u283, u284, u285, u286], []⟩ w') :
    Code.wp Try.prog codeChk (OnlyN K) ⟨#[.slice (some ⟨b, off, none⟩) len cap, u1, u2, .pointer (some ⟨bq, 0, none⟩), .slice ma mn mc, .pointer (some ⟨be, 0, none⟩), .int .i64 j, u7, u8, u9, u10, u11, u12, u13, u14, u15, u16, u17, u18, u19, u20, u21, u22, u23, u24, u25, u26, u27, u28, u29, u30, u31, u32, u33, u34, u35, u36, u37, u38, u39, u40, u41, u42, u43, u44, u45, u46, u47, u48, u49, u50, u51, u52, u53, u54, u55, u56, u57, u58, u59, u60, u61, u62, u63, u64, u65, u66, u67, u68, u69, u70, u71, u72, u73, u74, u75, u76, u77, u78, u79, u80, u81, u82, u83, u84, u85, u86, u87, u88, u89, u90, u91, u92, u93, u94, u95, u96, u97, u98, u99, u100, u101, u102, u103, u104, u105, u106, u107, u108, u109, u110, u111, u112, u113, u114, u115, u116, u117, u118, u119, u120, u121, u122, u123, u124, u125, u126, u127, u128, u129, u130, u131, u132, u133, u134, u135, u136, u137, u138, u139, u140, u141, u142, u143, u144, u145, u146, u147, u148, u149, u150, u151, u152, u153, u154, u155, u156, u157, u158, u159, u160, u161, u162, u163, u164, u165, u166, u167, u168, u169, u170, u171, u172, u173, u174, u175, u176, u177, u178, u179, u180, u181, u182, u183, u184, u185, u186, u187, u188, u189, u190, u191, u192, u193, u194, u195, u196, u197, u198, u199, u200, u201, u202, u203, u204, u205, u206, u207, u208, u209, u210, u211, u212, u213, u214, u215, u216, u217, u218, u219, u220, u221, u222, u223, u224, u225, u226, u227, u228, u229, u230, u231, u232, u233, u234, u235, u236, u237, u238, u239, u240, u241, u242, u243, u244, u245, u246, u247, u248, u249, u250, u251, u252, u253, u254, u255, u256, u257, u258, u259, u260, u261, u262, u263, u264, u265, u266, u267, u268, u269, u270, u271, u272, u273, u274, u275, u276, u277, u278, u279, u280, u281, u282, u283, u284, u285, u286], []⟩ wi := by
  obtain ⟨ls, ms, bytes, n, on, F, inv, hmn, hs, hu⟩ := hR
  dsimp only at hQ
  have HQ := Lib.hid hQ
  have HS := Lib.hid hs
  have HU := Lib.hid hu
  have HV := Lib.hid inv
  have HMN := Lib.hid hmn
  have HRD : Hid (∀ W, Chg Non wi W → _) := fun W hc => by
    obtain ⟨G, hq, _⟩ := (hs.non hc).head
    exact qReads bq ls ms bytes n i G W hq inv hi
  have hlen := inv.len
  rw [← hmn] at hlen
  clear hQ hs hu inv hmn
  unfold codeChk
  let hbp := bodyPost Try.prog Try.f14 (fun _ _ => True)
  conv => arg 2; whnf
  conv => arg 4; dsimp only
  go_wp2_with fail
  (with_reducible refine (HRD.out _ (Chg.refl _ _)).1.mono ?_)
  rintro e w1 ⟨v, g, rfl, ho, hc, hg⟩
  rw [← HMN.out] at ho
  obtain ⟨a14, c14, rfl, _, _⟩ := ho.slice
  have HO := Lib.hid ho
  have HC := Lib.hid hc
  clear ho hc hg
  go_wp2_with fail
  (with_reducible refine (HRD.out _ HC.out).2.1.mono ?_)
  rintro e w' ⟨rfl, rfl⟩
  rw [← HMN.out]
  go_wp2_with fail
  go_loopw [12, 13, 15] (fun v12 v13 v15 wx => ∃ k : Nat, v12 = .int .i64 (sumRoom (ms.take k)) ∧ v13 = .int .i64 (bcT ms k : Nat) ∧ v15 = .int .i64 k ∧ k ≤ mn ∧ Hid (Chg Non w1 wx)) (fun _ _ v15 _ => mn - (intOf v15).toNat)
  case atStart => exact ⟨0, rfl, rfl, rfl, by omega, Chg.refl _ _⟩
  case round =>
    obtain ⟨k, rfl, rfl, rfl, hk, HK⟩ := hrel
    by_cases hlt : k < mn
    · obtain ⟨y, hy⟩ : ∃ y, ms[k]? = some y := ⟨_, List.getElem?_eq_getElem (by rw [← HMN.out]; exact hlt)⟩
      have HCW : Hid (Chg Non wi wr) := HC.out.tr HK.out
      obtain ⟨g1, ho1⟩ := (HS.out.non HCW.out).ownAt 1 rfl
      obtain ⟨b1, o1, rfl, hc1⟩ := (itms_own HMN.out.symm ho1).2 k y hy
      obtain ⟨b2, o2, rfl, hc2⟩ := (itms_own HMN.out.symm (HO.out.chg HK.out (fun _ _ h => h))).2 k y hy
      have HZ : Hid (∀ W, Chg Non wr W → ∀ i, i < 5 → W.cell? ⟨b1, o1 + k * 5 + i, none⟩ = y.cells[i]? ∧ W.cell? ⟨b2, o2 + k * 5 + i, none⟩ = y.cells[i]?) := fun W hc i hi =>
        ⟨(World.cell?_of_block (a := ⟨b1, o1 + k * 5 + i, none⟩) (hc.block b1 (World.block_lt_of_cell? wr ⟨b1, o1 + k * 5 + 0, none⟩ (hc1 0 (by omega))) (fun h => h))).trans (hc1 i hi),
         (World.cell?_of_block (a := ⟨b2, o2 + k * 5 + i, none⟩) (hc.block b2 (World.block_lt_of_cell? wr ⟨b2, o2 + k * 5 + 0, none⟩ (hc2 0 (by omega))) (fun h => h))).trans (hc2 i hi)⟩
      have m1 : wr.cell? ⟨b1, o1 + k * 5 + 1, none⟩ = some (.int .i64 y.room) := hc1 1 (by omega)
      have m4 : wr.cell? ⟨b1, o1 + k * 5 + 4, none⟩ = some (.int .i64 y.ep) := hc1 4 (by omega)
      have hry := HV.out.room y (List.mem_of_getElem? hy)
      have hsl := sumRoom_take_le HV.out.room k
      rw [← HMN.out] at hsl
      have HY := Lib.hid hy
      have HSN := Lib.hid (sumRoom_snoc hy)
      obtain ⟨hr1, hr2⟩ := hry
      obtain ⟨hs1, hs2⟩ := hsl
      have hs3 : sumRoom (ms.take k) ≤ 1048576000000 := by omega
      have hbl := bcT_le ms k
      have HNB : Hid (∀ bb, newB ms k = bb → bcT ms (k + 1) = bcT ms k + (if bb = true then 1 else 0)) := fun bb h => by
        rw [bcT_succ, h]
      generalize hsg : sumRoom (ms.take k) = sr at *
      generalize hbg : bcT ms k = bc at *
      have HSG := Lib.hid hsg
      have HBG := Lib.hid hbg
      clear ho1 hc1 hc2 hy hs2 hsg hbg
      go_upto_region 38 with fail
      go_cut [216] (fun v wy => v = .bool (newB ms k) ∧ Hid (Chg Non wr wy))
      case first =>
        rcases Nat.eq_zero_or_pos k with h0 | h0
        · subst h0
          go_quiet (fail)
          all_goals
            go_wp2_with fail
            go_meet
            exact ⟨rfl, (Chg.refl _ _).drewN _⟩
        · obtain ⟨k', rfl⟩ : ∃ k', k = k' + 1 := ⟨k - 1, by omega⟩
          obtain ⟨z, hz⟩ : ∃ z, ms[k']? = some z := ⟨_, List.getElem?_eq_getElem (by rw [← HMN.out]; omega)⟩
          obtain ⟨g1, ho1⟩ := (HS.out.non HCW.out).ownAt 1 rfl
          obtain ⟨b3, o3, he, hc3⟩ := (itms_own HMN.out.symm ho1).2 k' z hz
          cases he
          have p4 : wr.cell? ⟨b1, o1 + k' * 5 + 4, none⟩ = some (.int .i64 z.ep) := hc3 4 (by omega)
          have HNV : Hid (newB ms (k' + 1) = (y.ep != z.ep)) := by
            show _ = _
            rw [newB_succ, HY.out, hz]
            by_cases e : y.ep = z.ep <;> simp [e]
          have hg0 : ((k' : Int) + 1 == 0) = false := by simp; omega
          have hw2 : (k' : Int) < (mn : Int) := by omega
          have hw4 : (k' : Int) + 1 < (mn : Int) := by omega
          have hw3 : (0 : Int) ≤ (k' : Int) := by omega
          have hw1 : IntKind.i64.wrap (k' : Int) = k' := IntWalk.i64_in _ (by omega)
          clear ho1 hc3 hz h0
          go_quiet (fail)
          all_goals
            go_wp2_with fail
            go_meet
            exact ⟨by rw [HNV.out], (Chg.refl _ _).drewN _⟩
      case rest =>
        obtain ⟨rfl, HW⟩ := hcut
        clear m1 m4
        obtain ⟨wy, hwy⟩ : ∃ wy, wy = wc := ⟨_, rfl⟩
        subst hwy
        have HCY : Hid (Chg Non wi wy) := HCW.out.tr HW.out
        have HKY : Hid (Chg Non w1 wy) := HK.out.tr HW.out
        have HHAS : Hid (∀ W, Chg Non wi W → Calls Try.prog 53 #[.pointer (some ⟨bq, 0, none⟩), .int .i64 y.at_] W fun e w' => e = .returned (.bool true) ∧ Chg Non W w') := fun W hc => by
          have h := (HRD.out W hc).2.2.2.2 y.at_
          rw [atB_mem (List.mem_of_getElem? HY.out)] at h
          exact h
        cases hnb : newB ms k
        all_goals
          have HBN := Lib.hid (HNB.out _ hnb)
          clear hnb HNB
          obtain ⟨p0, q0⟩ := HZ.out _ HW.out 0 (by omega)
          obtain ⟨p1, q1⟩ := HZ.out _ HW.out 1 (by omega)
          obtain ⟨p2, q2⟩ := HZ.out _ HW.out 2 (by omega)
          obtain ⟨p3, q3⟩ := HZ.out _ HW.out 3 (by omega)
          obtain ⟨p4, q4⟩ := HZ.out _ HW.out 4 (by omega)
          simp [It.cells] at p0 p1 p2 p3 p4 q0 q1 q2 q3 q4
          go_upto_region 40 with fail
          go_cut [237] (fun v wz => v = .bool false ∧ Hid (Chg Non wy wz))
          case first =>
            go_region_held3 (fun w' => w'.cell? ⟨b1, o1 + k * 5, none⟩ = some (.int .i64 y.at_) ∧ w'.cell? ⟨b1, o1 + k * 5 + 1, none⟩ = some (.int .i64 y.room) ∧ w'.cell? ⟨b1, o1 + k * 5 + 2, none⟩ = some (.int .i64 y.cls) ∧ w'.cell? ⟨b1, o1 + k * 5 + 3, none⟩ = some (.int .i64 y.th) ∧ w'.cell? ⟨b1, o1 + k * 5 + 4, none⟩ = some (.int .i64 y.ep) ∧ w'.cell? ⟨b2, o2 + k * 5, none⟩ = some (.int .i64 y.at_) ∧ w'.cell? ⟨b2, o2 + k * 5 + 1, none⟩ = some (.int .i64 y.room) ∧ w'.cell? ⟨b2, o2 + k * 5 + 2, none⟩ = some (.int .i64 y.cls) ∧ w'.cell? ⟨b2, o2 + k * 5 + 3, none⟩ = some (.int .i64 y.th) ∧ w'.cell? ⟨b2, o2 + k * 5 + 4, none⟩ = some (.int .i64 y.ep))
              (first | go_keep | exact ⟨p0, p1, p2, p3, p4, q0, q1, q2, q3, q4⟩)
              (first | (go_at_call 53; (with_reducible refine (HHAS.out _ ?_).mono ?_); exact HCY.out.drew; rintro e w2 ⟨rfl, hch⟩; have HCH := Lib.hid (Chg.of_drew hch); clear hch; obtain ⟨p0, q0⟩ := HZ.out _ (HW.out.tr HCH.out) 0 (by omega); obtain ⟨p1, q1⟩ := HZ.out _ (HW.out.tr HCH.out) 1 (by omega); obtain ⟨p2, q2⟩ := HZ.out _ (HW.out.tr HCH.out) 2 (by omega); obtain ⟨p3, q3⟩ := HZ.out _ (HW.out.tr HCH.out) 3 (by omega); obtain ⟨p4, q4⟩ := HZ.out _ (HW.out.tr HCH.out) 4 (by omega); simp [It.cells] at p0 p1 p2 p3 p4 q0 q1 q2 q3 q4))
            all_goals
              go_wp2_with fail
              go_meet
              exact ⟨rfl, HCH.out⟩
          case rest =>
            obtain ⟨rfl, HW2⟩ := hcut
            clear p0 p1 p2 p3 p4 q0 q1 q2 q3 q4
            go_wp2_with fail
            go_roundw
            case rel => exact ⟨k + 1, by rw [HSN.out], by rw [HBN.out]; go_num, by go_num, by omega, HKY.out.tr HW2.out⟩
            case measure => simp [intOf]; omega
    · obtain rfl : k = mn := by omega
      have e1 : ms.take k = ms := List.take_of_length_le (by rw [← HMN.out]; exact Nat.le_refl _)
      have e2 : bcT ms k = ls.length := by rw [HMN.out]; exact HV.out.bc
      rw [e1, e2, ← HV.out.sum]
      have HCW : Hid (Chg Non wi wr) := HC.out.tr HK.out
      have HBY : Hid (Calls Try.prog 54 #[.pointer (some ⟨bq, 0, none⟩)] wr fun e w' => e = .returned (.int .i64 bytes) ∧ wr = w') := (HRD.out wr HCW.out).2.2.1
      have HBT : Hid (Calls Try.prog 55 #[.pointer (some ⟨bq, 0, none⟩)] wr fun e w' => e = .returned (.int .i64 ls.length) ∧ wr = w') := (HRD.out wr HCW.out).2.2.2.1
      clear e1 e2
      go_wp2_with fail
      (with_reducible refine HBY.out.mono ?_)
      rintro e w' ⟨rfl, rfl⟩
      go_wp2_with fail
      (with_reducible refine HBT.out.mono ?_)
      rintro e w' ⟨rfl, rfl⟩
      go_wp2_with fail
      show K _ _
      refine HQ.out _ _ _ _ _ _ _ _ _ _ _ _ _ _ _ _ _ _ _ _ _ _ _ _ _ _ _ _ _ _ _ _ _ _ _ _ _ _ _ _ _ _ _ _ _ _ _ _ _ _ _ _ _ _ _ _ _ _ _ _ _ _ _ _ _ _ _ _ _ _ _ _ _ _ _ _ _ _ _ _ _ _ _ _ _ _ _ _ _ _ _ _ _ _ _ _ _ _ _ _ _ _ _ _ _ _ _ _ _ _ _ _ _ _ _ _ _ _ _ _ _ _ _ _ _ _ _ _ _ _ _ _ _ _ _ _ _ _ _ _ _ _ _ _ _ _ _ _ _ _ _ _ _ _ _ _ _ _ _ _ _ _ _ _ _ _ _ _ _ _ _ _ _ _ _ _ _ _ _ _ _ _ _ _ _ _ _ _ _ _ _ _ _ _ _ _ _ _ _ _ _ _ _ _ _ _ _ _ _ _ _ _ _ _ _ _ _ _ _ _ _ _ _ _ _ _ _ _ _ _ _ _ _ ?_
      exact ⟨ls, ms, bytes, n, on, F, HV.out, HMN.out, HS.out.non HCW.out, HU.out.chgNon HCW.out⟩

end Go.Proofs.Ytabeolmfgmbfaaa
