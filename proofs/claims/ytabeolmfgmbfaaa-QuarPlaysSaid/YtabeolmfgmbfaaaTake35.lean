/- QuarPlays: what can be known no more is taken. -/
import Derived.Test.YtabeolmfgmbfaaaP35a
import Derived.Deep.RegionHeld3
import Derived.Deep.RegionHeld
namespace Go.Proofs.Ytabeolmfgmbfaaa
open Go.RowKit
set_option linter.unusedVariables false
set_option linter.unusedSimpArgs false
attribute [local go_sem ↓] Go.wp_at_zero Go.wp_at_succ

noncomputable def codeTake : Code := (Try.f14.body.bind (seqAt 15)).getD .skip

/-- What is taken: l0; what waits on: ms1, in the batches lsR. -/
structure TakeP (ls : List (List It)) (ms l0 ms1 : List It) (lsR : List (List It)) (bytes bR n : Int) (on : Bool) (i : Nat) : Prop where
  ms_ : ms = l0 ++ ms1
  inv : QInv lsR ms1 bR n i
  kind : (l0 = [] ∧ lsR = ls ∧ bR = bytes ∧ ∀ y r, ms = y :: r → pastB n on y.ep = false) ∨
    (∃ y r, l0 = y :: r ∧ ls = l0 :: lsR ∧ bR = bytes - sumRoom l0 ∧ pastB n on y.ep = true ∧ (∀ z ∈ l0, z.ep = y.ep) ∧ ∀ z ∈ ms1, y.ep < z.ep)
theorem takeP (ls : List (List It)) (ms : List It) (bytes n : Int) (on : Bool) (i : Nat) (inv : QInv ls ms bytes n i) : ∃ l0 ms1 lsR bR, TakeP ls ms l0 ms1 lsR bytes bR n on i := by
  cases ms with
  | nil => exact ⟨[], [], ls, bytes, rfl, inv, .inl ⟨rfl, rfl, rfl, fun y r h => by cases h⟩⟩
  | cons y ms0 =>
    cases hp : pastB n on y.ep with
    | false => exact ⟨[], y :: ms0, ls, bytes, rfl, inv, .inl ⟨rfl, rfl, rfl, fun z r h => by cases h; exact hp⟩⟩
    | true =>
      obtain ⟨r, ls', rfl⟩ := inv.head
      obtain ⟨inv2, hms⟩ := inv.rest
      refine ⟨y :: r, ls'.flatten, ls', bytes - sumRoom (y :: r), hms, inv2, .inr ⟨y, r, rfl, rfl, rfl, hp, fun z hz => inv.uni _ (by simp) z hz y (by simp), fun z hz => ?_⟩⟩
      obtain ⟨l, hl, hzl⟩ := List.mem_flatten.1 hz
      exact (List.pairwise_cons.1 inv.inc).1 l hl y (by simp) z hzl

/-- In the loop: so many were counted off. -/
def TR (bq be : Nat) (w : World) (ls : List (List It)) (ms l0 : List It) (bytes n : Int) (on : Bool) (k : Nat) (wa : Option Addr) (wc : Nat) (ma : Option Addr) (mn mc : Nat) (wr : World) : Prop :=
  ∃ F, Sep [quarAt bq ls bytes, own 79 5 (.slice ma mn mc) mn (cellsI (ms.drop k)), blk be #[.int .i64 n, .bool on] 24, own 79 5 (.slice wa k wc) k (cellsI (l0.take k))] wr F ∧ Upd w wr Non F

theorem itms_head {W : World} {a : Option Addr} {n c : Nat} {l : List It} {z : It} {g : Option Nat} (hn : l.length = n) (h : Own W 79 5 (.slice a n c) n (cellsI l) g) (hz : l[0]? = some z) :
    ∃ mb mo, a = some ⟨mb, mo, none⟩ ∧ W.cell? ⟨mb, mo, none⟩ = some (.int .i64 z.at_) ∧ W.cell? ⟨mb, mo + 1, none⟩ = some (.int .i64 z.room) ∧ W.cell? ⟨mb, mo + 2, none⟩ = some (.int .i64 z.cls) ∧ W.cell? ⟨mb, mo + 3, none⟩ = some (.int .i64 z.th) ∧ W.cell? ⟨mb, mo + 4, none⟩ = some (.int .i64 z.ep) := by
  obtain ⟨b, off, ha, hc⟩ := (itms_own hn h).2 0 z hz
  have c0 := hc 0 (by omega)
  have c1 := hc 1 (by omega)
  have c2 := hc 2 (by omega)
  have c3 := hc 3 (by omega)
  have c4 := hc 4 (by omega)
  simp only [Nat.zero_mul, Nat.add_zero] at c0 c1 c2 c3 c4
  exact ⟨b, off, ha, c0, c1, c2, c3, c4⟩

theorem TR.non {bq be : Nat} {w : World} {ls : List (List It)} {ms l0 : List It} {bytes n : Int} {on : Bool} {k : Nat} {wa : Option Addr} {wc : Nat} {ma : Option Addr} {mn mc : Nat} {wr W : World} (h : TR bq be w ls ms l0 bytes n on k wa wc ma mn mc wr) (hc : Chg Non wr W) :
    TR bq be w ls ms l0 bytes n on k wa wc ma mn mc W := by
  obtain ⟨F, hs, hu⟩ := h
  exact ⟨F, hs.non hc, hu.chgNon hc⟩
theorem TR.e {bq be : Nat} {w : World} {ls : List (List It)} {ms l0 : List It} {bytes n : Int} {on : Bool} {k : Nat} {wa : Option Addr} {wc : Nat} {ma : Option Addr} {mn mc : Nat} {W : World} (h : TR bq be w ls ms l0 bytes n on k wa wc ma mn mc W) :
    W.cell? ⟨be, 0, none⟩ = some (.int .i64 n) ∧ W.cell? ⟨be, 1, none⟩ = some (.bool on) := by
  obtain ⟨F, hs, hu⟩ := h
  exact ⟨(hs.blkAt 2 rfl).cell 0, (hs.blkAt 2 rfl).cell 1⟩
theorem TR.m {bq be : Nat} {w : World} {ls : List (List It)} {ms l0 : List It} {bytes n : Int} {on : Bool} {k : Nat} {wa : Option Addr} {wc : Nat} {ma : Option Addr} {mn mc : Nat} {W : World} {z : It} (h : TR bq be w ls ms l0 bytes n on k wa wc ma mn mc W) (hn : mn + k = ms.length) (hz : ms[k]? = some z) :
    ∃ mb mo, ma = some ⟨mb, mo, none⟩ ∧ W.cell? ⟨mb, mo, none⟩ = some (.int .i64 z.at_) ∧ W.cell? ⟨mb, mo + 1, none⟩ = some (.int .i64 z.room) ∧ W.cell? ⟨mb, mo + 2, none⟩ = some (.int .i64 z.cls) ∧ W.cell? ⟨mb, mo + 3, none⟩ = some (.int .i64 z.th) ∧ W.cell? ⟨mb, mo + 4, none⟩ = some (.int .i64 z.ep) := by
  obtain ⟨F, hs, hu⟩ := h
  obtain ⟨g, ho⟩ := hs.ownAt 1 rfl
  exact itms_head (by rw [List.length_drop]; omega) ho (by rw [List.getElem?_drop]; exact hz)
theorem TR.w {bq be : Nat} {w : World} {ls : List (List It)} {ms l0 : List It} {bytes n : Int} {on : Bool} {k : Nat} {wa : Option Addr} {wc : Nat} {ma : Option Addr} {mn mc : Nat} {W : World} {y : It} (h : TR bq be w ls ms l0 bytes n on k wa wc ma mn mc W) (hk : k ≤ l0.length) (h0 : 0 < k) (hy : l0[0]? = some y) :
    ∃ wb wo, wa = some ⟨wb, wo, none⟩ ∧ W.cell? ⟨wb, wo + 4, none⟩ = some (.int .i64 y.ep) := by
  obtain ⟨F, hs, hu⟩ := h
  obtain ⟨g, ho⟩ := hs.ownAt 3 rfl
  obtain ⟨b, o, e, _, _, _, _, c⟩ := itms_head (z := y) (by rw [List.length_take]; omega) ho (by rw [List.getElem?_take, if_pos h0]; exact hy)
  exact ⟨b, o, e, c⟩

theorem tr_next {bq be : Nat} {w : World} {ls : List (List It)} {ms l0 ms1 : List It} {bytes n : Int} {on : Bool} {k n' mc' mb mo c2 : Nat} {a2 : Option Addr} {w' : World} {z : It} {F2 : Nat → Prop} (hms : ms = l0 ++ ms1) (hkl : k < l0.length) (hz : ms[k]? = some z) (hn : 1 ≤ n')
    (hs : Sep [own 79 5 (.slice a2 (k + 1) c2) (k + 1) (cellsI (l0.take k) ++ z.cells.toList), quarAt bq ls bytes, own 79 5 (.slice (some ⟨mb, mo, none⟩) n' mc') n' (cellsI (ms.drop k)), blk be #[.int .i64 n, .bool on] 24] w' F2) (hu : Upd w w' Non F2) :
    TR bq be w ls ms l0 bytes n on (k + 1) a2 c2 (some (if mc' = 1 then ⟨mb, mo, none⟩ else ⟨mb, mo + 5, none⟩)) (n' - 1) (mc' - 1) w' := by
  obtain ⟨g, ho, K⟩ := own_focus (hs.bring 2 rfl)
  have hd := ho.drop (k := 1) hn
  rw [show (1 : Nat) * 5 = 5 from rfl] at hd
  obtain ⟨F4, h4, u4⟩ := K _ _ _ _ _ hd (Chg.refl _ _) (fun k hk => .inl hk)
  have e1 : (cellsI (ms.drop k)).drop 5 = cellsI (ms.drop (k + 1)) := by
    have hlt : k < ms.length := (List.getElem?_eq_some_iff.1 hz).1
    rw [List.drop_eq_getElem_cons hlt]
    rfl
  have e2 : cellsI (l0.take k) ++ z.cells.toList = cellsI (l0.take (k + 1)) := by
    have hl : l0[k]? = some z := by rw [hms, List.getElem?_append_left hkl] at hz; exact hz
    rw [List.take_add_one, hl]
    simp [cellsI]
  rw [e1, e2] at h4
  exact ⟨F4, h4.perm ((((List.Perm.swap ..).cons _).trans (List.Perm.swap ..)).trans (((List.Perm.swap ..).cons _).cons _)), hu.trans u4⟩

/-- Behind Take. -/
def TakeU (bq be : Nat) (w : World) (lsR : List (List It)) (l0 ms1 : List It) (bR n : Int) (on : Bool) (wa : Option Addr) (wc : Nat) (ma : Option Addr) (mn mc : Nat) (a8 : Option Addr) (c8 : Nat) (w' : World) : Prop :=
  ∃ F, Sep [own 79 5 (.slice a8 l0.length c8) l0.length (cellsI l0), quarAt bq lsR bR, own 79 5 (.slice ma mn mc) mn (cellsI ms1), blk be #[.int .i64 n, .bool on] 24, own 79 5 (.slice wa l0.length wc) l0.length (cellsI l0)] w' F ∧ Upd w w' Non F
def TakeV (bq be : Nat) (w : World) (lsR : List (List It)) (l0 ms1 : List It) (bR n : Int) (on : Bool) (wa : Option Addr) (wc : Nat) (ma : Option Addr) (mn mc : Nat) (e : Ending) (w' : World) : Prop :=
  ∃ a8 c8, e = .returned (.slice a8 l0.length c8) ∧ TakeU bq be w lsR l0 ms1 bR n on wa wc ma mn mc a8 c8 w'

theorem takeU {bq be : Nat} {w : World} {ls lsR : List (List It)} {ms l0 ms1 : List It} {bytes bR n : Int} {on : Bool} {i : Nat} {wa : Option Addr} {wc : Nat} {ma : Option Addr} {mn mc : Nat} {wx : World} (h : TR bq be w ls ms l0 bytes n on l0.length wa wc ma mn mc wx) (tp : TakeP ls ms l0 ms1 lsR bytes bR n on i) (inv : QInv ls ms bytes n i) (hi : i ≤ 100) :
    Calls Try.prog 49 #[.pointer (some ⟨bq, 0, none⟩), .agg #[.int .i64 n, .bool on]] wx (TakeV bq be w lsR l0 ms1 bR n on wa wc ma mn mc) := by
  obtain ⟨F, hs, hu⟩ := h
  have ed : ms.drop l0.length = ms1 := by rw [tp.ms_]; exact List.drop_left
  have et : l0.take l0.length = l0 := List.take_length
  rw [ed, et] at hs
  obtain ⟨Gq, hq, K⟩ := hs.foc
  rcases tp.kind with ⟨h1, h2, h3, hno⟩ | ⟨y, r, h1, h2, h3, hp, _⟩
  · subst h1 h2 h3
    refine (qTake_no bq lsR ms bR n on i Gq wx hq inv hi hno).mono ?_
    rintro e w' ⟨rfl, hc⟩
    obtain ⟨F2, k2, u2⟩ := (hs.non hc).pushOwnAt (Chg.refl _ _) (Own.nil w' 79 5) (fun k hk => by cases hk)
    exact ⟨none, 0, rfl, F2, k2, (hu.chgNon hc).trans u2⟩
  · subst h2 h3
    refine (qTake_yes bq l0 lsR ms bytes n on i y r Gq wx hq inv hi h1 hp).mono ?_
    rintro e w' ⟨a, c, F', rfl, k3, u3⟩
    obtain ⟨F4, k4, u4⟩ := K w' (sep [own 79 5 (.slice a l0.length c) l0.length (cellsI l0), quarAt bq lsR (bytes - sumRoom l0)]) F' k3 u3
    exact ⟨a, c, rfl, F4, k4.flat, hu.trans u4⟩

theorem take_end {bq be : Nat} {w : World} {lsR : List (List It)} {ls : List (List It)} {ms l0 ms1 : List It} {bytes bR n : Int} {on : Bool} {i : Nat} {wa : Option Addr} {wc : Nat} {ma : Option Addr} {mn mc : Nat} {a8 : Option Addr} {c8 : Nat} {w1 w' : World} (h : TakeU bq be w lsR l0 ms1 bR n on wa wc ma mn mc a8 c8 w1) (hc : Chg Non w1 w') (tp : TakeP ls ms l0 ms1 lsR bytes bR n on i) (hn : mn = ms1.length) (hi : n ≤ i) : LR bq be w (i + 1) ma mn mc w' := by
  obtain ⟨F, hs, hu⟩ := h
  obtain ⟨F1, k1, u1⟩ := (hs.non hc).drop
  obtain ⟨F2, k2, u2⟩ := (k1.bring 3 rfl).drop
  exact ⟨lsR, ms1, bR, n, on, F2, tp.inv.more tp.inv.n0 (by omega), hn, k2, ((hu.chgNon hc).trans u1).trans u2⟩

set_option maxHeartbeats 20000000 in
set_option maxRecDepth 100000 in
theorem take_piece {u1 u2 u7 u8 u9 u10 u11 u12 u13 u14 u15 u16 u17 u18 u19 u20 u21 u22 u23 u24 u25 u26 u27 u28 u29 u30 u31 u32 u33 u34 u35 u36 u37 u38 u39 u40 u41 u42 u43 u44 u45 u46 u47 u48 u49 u50 u51 u52 u53 u54 u55 u56 u57 u58 u59 u60 u61 u62 u63 u64 u65 u66 u67 u68 u69 u70 u71 u72 u73 u74 u75 u76 u77 u78 u79 u80 u81 u82 u83 u84 u85 u86 u87 u88 u89 u90 u91 u92 u93 u94 u95 u96 u97 u98 u99 u100 u101 u102 u103 u104 u105 u106 u107 u108 u109 u110 u111 u112 u113 u114 u115 u116 u117 u118 u119 u120 u121 u122 u123 u124 u125 u126 u127 u128 u129 u130 u131 u132 u133 u134 u135 u136 u137 u138 u139 u140 u141 u142 u143 u144 u145 u146 u147 u148 u149 u150 u151 u152 u153 u154 u155 u156 u157 u158 u159 u160 u161 u162 u163 u164 u165 u166 u167 u168 u169 u170 u171 u172 u173 u174 u175 u176 u177 u178 u179 u180 u181 u182 u183 u184 u185 u186 u187 u188 u189 u190 u191 u192 u193 u194 u195 u196 u197 u198 u199 u200 u201 u202 u203 u204 u205 u206 u207 u208 u209 u210 u211 u212 u213 u214 u215 u216 u217 u218 u219 u220 u221 u222 u223 u224 u225 u226 u227 u228 u229 u230 u231 u232 u233 u234 u235 u236 u237 u238 u239 u240 u241 u242 u243 u244 u245 u246 u247 u248 u249 u250 u251 u252 u253 u254 u255 u256 u257 u258 u259 u260 u261 u262 u263 u264 u265 u266 u267 u268 u269 u270 u271 u272 u273 u274 u275 u276 u277 u278 u279 u280 u281 u282 u283 u284 u285 u286 : Value} (b off len cap bq be j i mn mc : Nat) (ma : Option Addr) (w wi : World) (K : Act → World → Prop) (hi : i ≤ 90) (hR : LR bq be w i ma mn mc wi)
    (hQ : ∀ (v2 v7 v8 v9 v21 v22 v23 v24 v25 v26 v27 v28 v29 v30 v31 v32 v33 v34 v35 v37 v38 v39 v40 v41 v42 v43 v44 v45 v46 v47 v48 v49 v50 v51 v52 v53 v54 v55 v56 v57 v58 v59 v60 v61 v62 v63 v64 v65 v66 v67 v68 v69 v70 v71 v72 v73 v74 v75 v76 v77 v78 v79 v80 v81 v82 v83 v84 v85 v86 v87 v88 v89 v90 v91 v92 v93 v94 v95 v96 v97 v98 v99 v100 v101 v102 v103 v104 v105 v106 v107 v108 v109 v110 v111 v112 v113 v114 v115 v116 v117 v118 v119 v120 v121 v122 v123 v124 v125 v126 v127 v128 v129 v130 v131 v132 v133 v134 v135 v136 v137 v138 v139 v140 v141 v142 v143 v144 v145 v146 v147 v148 v149 v150 v151 v152 v153 v154 v155 v156 v157 v158 v159 v160 v161 v162 v163 v164 v165 v166 v167 v168 v169 v170 v171 v172 v173 v174 v175 v176 v177 v178 v179 v180 v181 v182 v183 v184 v185 v186 v187 v188 v189 v190 v191 v192 v193 v194 v195 v196 v197 v198 v199 v200 v201 v202 v203 v204 v205 v206 v207 v208 v209 v210 v211 v212 v213 v214 v215 v216 v217 v218 v219 v220 v221 v222 v223 v224 v225 v226 v227 v228 v229 v230 v231 v232 v233 v234 v235 v236 v237 v238 v239 v240 v241 v242 v243 v244 v245 v246 v247 : Value) (a6 : Option Addr) (n6 c6 : Nat) (w' : World), LR bq be w (i + 1) a6 n6 c6 w' → K ⟨#[.slice (some ⟨b, off, none⟩) len cap, u1, v2, .pointer (some ⟨bq, 0, none⟩), .slice a6 n6 c6, .pointer (some ⟨be, 0, none⟩), .int .i64 j, v7, v8, v9, u10, u11, u12, u13, u14, u15, u16, u17, u18, u19, u20, v21, v22, v23, v24, v25, v26, v27, v28, v29, v30, v31, v32, v33, v34, v35, u36, v37, v38, v39, v40, v41, v42, v43, v44, v45, v46, v47, v48, v49, v50, v51, v52, v53, v54, v55, v56, v57, v58, v59, v60, v61, v62, v63, v64, v65, v66, v67, v68, v69, v70, v71, v72, v73, v74, v75, v76, v77, v78, v79, v80, v81, v82, v83, v84, v85, v86, v87, v88, v89, v90, v91, v92, v93, v94, v95, v96, v97, v98, v99, v100, v101, v102, v103, v104, v105, v106, v107, v108, v109, v110, v111, v112, v113, v114, v115, v116, v117, v118, v119, v120, v121, v122, v123, v124, v125, v126, v127, v128, v129, v130, v131, v132, v133, v134, v135, v136, v137, v138, v139, v140, v141, v142, v143, v144, v145, v146, v147, v148, v149, v150, v151, v152, v153, v154, v155, v156, v157, v158, v159, v160, v161, v162, v163, v164, v165, v166, v167, v168, v169, v170, v171, v172, v173, v174, v175, v176, v177, v178, v179, v180, v181, v182, v183, v184, v185, v186, v187, v188, v189, v190, v191, v192, v193, v194, v195, v196, v197, v198, v199, v200, v201, v202, v203, v204, v205, v206, v207, v208, v209, v210, v211, v212, v213, v214, v215, v216, v217, v218, v219, v220, v221, v222, v223, v224, v225, v226, v227, v228, v229, v230, v231, v232, v233, v234, v235, v236, v237, v238, v239, v240, v241, v242, v243, v244, v245, v246, v247, u248, u249, u250, u251, u252, u253, u254, u255, u256, u257, u258, u259, u260, u261, u262, u263, u264, u265, u266, u267, u268, u269, u270, u271, u272, u273, u274, u275, u276, u277, u278, u279, u280, u281, u282, u283, u284, u285, u286], []⟩ w') :
    Code.wp Try.prog codeTake (OnlyN K) ⟨#[.slice (some ⟨b, off, none⟩) len cap, u1, u2, .pointer (some ⟨bq, 0, none⟩), .slice ma mn mc, .pointer (some ⟨be, 0, none⟩), .int .i64 j, u7, u8, u9, u10, u11, u12, u13, u14, u15, u16, u17, u18, u19, u20, u21, u22, u23, u24, u25, u26, u27, u28, u29, u30, u31, u32, u33, u34, u35, u36, u37, u38, u39, u40, u41, u42, u43, u44, u45, u46, u47, u48, u49, u50, u51, u52, u53, u54, u55, u56, u57, u58, u59, u60, u61, u62, u63, u64, u65, u66, u67, u68, u69, u70, u71, u72, u73, u74, u75, u76, u77, u78, u79, u80, u81, u82, u83, u84, u85, u86, u87, u88, u89, u90, u91, u92, u93, u94, u95, u96, u97, u98, u99, u100, u101, u102, u103, u104, u105, u106, u107, u108, u109, u110, u111, u112, u113, u114, u115, u116, u117, u118, u119, u120, u121, u122, u123, u124, u125, u126, u127, u128, u129, u130, u131, u132, u133, u134, u135, u136, u137, u138, u139, u140, u141, u142, u143, u144, u145, u146, u147, u148, u149, u150, u151, u152, u153, u154, u155, u156, u157, u158, u159, u160, u161, u162, u163, u164, u165, u166, u167, u168, u169, u170, u171, u172, u173, u174, u175, u176, u177, u178, u179, u180, u181, u182, u183, u184, u185, u186, u187, u188, u189, u190, u191, u192, u193, u194, u195, u196, u197, u198, u199, u200, u201, u202, u203, u204, u205, u206, u207, u208, u209, u210, u211, u212, u213, u214, u215, u216, u217, u218, u219, u220, u221, u222, u223, u224, u225, u226, u227, u228, u229, u230, u231, u232, u233, u234, u235, u236, u237, u238, u239, u240, u241, u242, u243, u244, u245, u246, u247, u248, u249, u250, u251, u252, u253, u254, u255, u256, u257, u258, u259, u260, u261, u262, u263, u264, u265, u266, u267, u268, u269, u270, u271, u272, u273, u274, u275, u276, u277, u278, u279, u280, u281, u282, u283, u284, u285, u286], []⟩ wi := by
  obtain ⟨i0, hi0, hz0, hz1, hz2⟩ := info_parts Try.info_item
  obtain ⟨ls, ms, bytes, n, on, F, inv, hmn, hs, hu⟩ := hR
  obtain ⟨l0, ms1, lsR, bR, tp⟩ := takeP ls ms bytes n on i inv
  dsimp only at hQ
  have HQ := Lib.hid hQ
  have HV := Lib.hid inv
  have HMN := Lib.hid hmn
  have HTP := Lib.hid tp
  have H0 : Hid (TR bq be w ls ms l0 bytes n on 0 (some ⟨wi.heap.size, 0, none⟩) 0 ma mn mc (wi.alloc (.cells #[] 79))) := by
    obtain ⟨F2, h2, u2⟩ := hs.pushOwnAt ((Chg.refl Non wi).alloc (.cells #[] 79)) (own_empty (Blk.new wi #[] 79)) (fun k hk => by cases hk; exact Nat.le_refl _)
    exact ⟨F2, h2.perm (List.perm_append_singleton (own 79 5 (.slice (some ⟨wi.heap.size, 0, none⟩) 0 0) 0 []) [quarAt bq ls bytes, own 79 5 (.slice ma mn mc) mn (cellsI ms), blk be #[.int .i64 n, .bool on] 24]).symm, hu.trans u2⟩
  have hlen := inv.len
  rw [← hmn] at hlen
  have hL : l0.length ≤ mn := by rw [hmn, tp.ms_, List.length_append]; omega
  clear hQ hs hu inv hmn tp
  unfold codeTake
  let hbp := bodyPost Try.prog Try.f14 (fun _ _ => True)
  conv => arg 2; whnf
  conv => arg 4; dsimp only
  go_wp2_with fail
  go_loopw [4, 7] (fun v4 v7 wr => ∃ (k n' mc' wc : Nat) (ma' wa : Option Addr), v4 = .slice ma' n' mc' ∧ v7 = .slice wa k wc ∧ k ≤ l0.length ∧ n' + k = mn ∧ Hid (TR bq be w ls ms l0 bytes n on k wa wc ma' n' mc' wr)) (fun v4 _ _ => match v4 with | .slice _ m _ => m | _ => 0)
  case atStart => exact ⟨0, mn, mc, 0, ma, _, rfl, rfl, by omega, by omega, H0.out⟩
  case round =>
    obtain ⟨k, n', mc', wc', ma', wa, rfl, rfl, hk, hnk, HT⟩ := hrel
    clear H0
    have hnn : (n' : Int) ≤ 100 := by omega
    have hnm : n' + k = ms.length := by rw [hnk, HMN.out]
    have HPA : Hid (∀ (e : Int) W, Calls Try.prog 21 #[.agg #[.int .i64 n, .bool on], .int .i64 e] W fun en w' => en = .returned (.bool (pastB n on e)) ∧ Chg Non W w') := fun e W => epPast n on e W ⟨HV.out.n0, by have := HV.out.n1; omega⟩
    obtain ⟨e0, e1⟩ := HT.out.e
    have HEE : Hid (∀ W, Chg Non wr W → W.cell? ⟨be, 0, none⟩ = some (.int .i64 n) ∧ W.cell? ⟨be, 1, none⟩ = some (.bool on)) := fun W hc => (HT.out.non hc).e
    go_upto_region 16 with fail
    go_cut [128] (fun v wy => v = .bool (decide (k < l0.length)) ∧ Hid (Chg Non wr wy))
    case first =>
      rcases Nat.eq_zero_or_pos n' with h0 | h0
      · have HD : Hid (decide (k < l0.length) = false) := by
          show _ = _
          simp
          have := congrArg List.length HTP.out.ms_
          rw [List.length_append] at this
          omega
        subst h0
        go_quiet (fail)
        all_goals
          go_wp2_with fail
          go_meet
          exact ⟨by rw [HD.out], (Chg.refl _ _).drewN _⟩
      · obtain ⟨z, hz⟩ : ∃ z, ms[k]? = some z := ⟨_, List.getElem?_eq_getElem (by omega)⟩
        obtain ⟨mb, mo, rfl, _, _, _, _, m4⟩ := HT.out.m hnm hz
        have HM4 : Hid (∀ W, Chg Non wr W → W.cell? ⟨mb, mo + 4, none⟩ = some (.int .i64 z.ep)) := fun W hc => by
          obtain ⟨b', o', he, _, _, _, _, h⟩ := (HT.out.non hc).m hnm hz
          cases he
          exact h
        have hng : (0 : Int) < (n' : Int) := by omega
        cases hp : pastB n on z.ep
        · have HD : Hid (decide (k < l0.length) = false) := by
            show _ = _
            simp
            by_cases hkl : k < l0.length
            · exfalso
              rcases HTP.out.kind with ⟨hl0, _⟩ | ⟨y, r, hl0, _, _, hpy, hall, _⟩
              · rw [hl0] at hkl; simp at hkl
              · have hzm : z ∈ l0 := by
                  rw [HTP.out.ms_, List.getElem?_append_left hkl] at hz
                  exact List.mem_of_getElem? hz
                rw [hall z hzm, hpy] at hp
                cases hp
            · omega
          have HPZ : Hid (∀ W, Calls Try.prog 21 #[.agg #[.int .i64 n, .bool on], .int .i64 z.ep] W fun en w' => en = .returned (.bool false) ∧ Chg Non W w') := fun W => by
            have := HPA.out z.ep W
            rw [hp] at this
            exact this
          clear hp hz
          have q0 : ∀ i : Later wr, i.w.cell? ⟨mb, mo + 4, none⟩ = some (.int .i64 z.ep) := fun i => HM4.out _ i.chg
          have q1 : ∀ i : Later wr, i.w.cell? ⟨be, 0, none⟩ = some (.int .i64 n) := fun i => (HEE.out _ i.chg).1
          have q2 : ∀ i : Later wr, i.w.cell? ⟨be, 1, none⟩ = some (.bool on) := fun i => (HEE.out _ i.chg).2
          refine wp_region_later (by kernel_rfl) (by kernel_rfl) ?_
          repeat (go_big_quiet_step ((go_at_call 21; exact Calls.later (HPZ.out _))))
          refine wpQuiet_nil ?_
          rintro _ ⟨iq, rfl⟩
          go_wp2_with fail
          go_meet
          exact ⟨by rw [HD.out], iq.chg⟩
        · have HPZ : Hid (∀ W, Calls Try.prog 21 #[.agg #[.int .i64 n, .bool on], .int .i64 z.ep] W fun en w' => en = .returned (.bool true) ∧ Chg Non W w') := fun W => by
            have := HPA.out z.ep W
            rw [hp] at this
            exact this
          have q0 : ∀ i : Later wr, i.w.cell? ⟨mb, mo + 4, none⟩ = some (.int .i64 z.ep) := fun i => HM4.out _ i.chg
          have q1 : ∀ i : Later wr, i.w.cell? ⟨be, 0, none⟩ = some (.int .i64 n) := fun i => (HEE.out _ i.chg).1
          have q2 : ∀ i : Later wr, i.w.cell? ⟨be, 1, none⟩ = some (.bool on) := fun i => (HEE.out _ i.chg).2
          rcases Nat.eq_zero_or_pos k with hk0 | hk0
          · have HD : Hid (decide (k < l0.length) = true) := by
              show _ = _
              simp
              rcases HTP.out.kind with ⟨hl0, _, _, hno⟩ | ⟨y, r, hl0, _⟩
              · exfalso
                subst hk0
                cases hmc : ms with
                | nil => rw [hmc] at hz; simp at hz
                | cons u v =>
                  have h := hno u v hmc
                  rw [hmc] at hz
                  simp at hz
                  subst hz
                  rw [hp] at h
                  cases h
              · rw [hl0]; simp; omega
            subst hk0
            clear hp hz
            refine wp_region_later (by kernel_rfl) (by kernel_rfl) ?_
            repeat (go_big_quiet_step ((go_at_call 21; exact Calls.later (HPZ.out _))))
            refine wpQuiet_nil ?_
            rintro _ ⟨iq, rfl⟩
            go_wp2_with fail
            go_meet
            exact ⟨by rw [HD.out], iq.chg⟩
          · obtain ⟨y, hy⟩ : ∃ y, l0[0]? = some y := ⟨_, List.getElem?_eq_getElem (by omega)⟩
            obtain ⟨wb, wo, rfl, _⟩ := HT.out.w hk hk0 hy
            have q3 : ∀ i : Later wr, i.w.cell? ⟨wb, wo + 4, none⟩ = some (.int .i64 y.ep) := fun i => by
              obtain ⟨b', o', he, h⟩ := (HT.out.non i.chg).w hk hk0 hy
              cases he
              exact h
            have HD : Hid (decide (k < l0.length) = (y.ep == z.ep)) := by
              show _ = _
              rcases HTP.out.kind with ⟨hl0, _⟩ | ⟨x, r, hl0, _, _, _, hall, hlt⟩
              · rw [hl0] at hk; simp at hk; omega
              · have hxy : y = x := by rw [hl0] at hy; simp at hy; exact hy.symm
                subst hxy
                by_cases hkl : k < l0.length
                · have hzm : z ∈ l0 := by
                    rw [HTP.out.ms_, List.getElem?_append_left hkl] at hz
                    exact List.mem_of_getElem? hz
                  rw [hall z hzm]
                  simp [hkl]
                · have hzm : z ∈ ms1 := by
                    rw [HTP.out.ms_, List.getElem?_append_right (by omega)] at hz
                    exact List.mem_of_getElem? hz
                  have := hlt z hzm
                  have hne : (y.ep == z.ep) = false := by simp; omega
                  rw [hne]
                  simp [hkl]
            have hk1 : ((k : Int) == 0) = false := by simp; omega
            have hk2 : (0 : Int) < (k : Int) := by omega
            clear hp hz hy
            refine wp_region_later (by kernel_rfl) (by kernel_rfl) ?_
            repeat (go_big_quiet_step ((go_at_call 21; exact Calls.later (HPZ.out _))))
            refine wpQuiet_nil ?_
            rintro _ ⟨iq, rfl⟩
            go_wp2_with fail
            go_meet
            exact ⟨by rw [HD.out], iq.chg⟩
    case rest =>
      obtain ⟨rfl, HW⟩ := hcut
      clear e0 e1
      obtain ⟨wx, hwx⟩ : ∃ wx, wx = wc := ⟨_, rfl⟩
      subst hwx
      have HTX := Lib.hid (HT.out.non HW.out)
      clear HT HEE HW HPA
      by_cases hkl : k < l0.length
      · have hd : decide (k < l0.length) = true := by simp; exact hkl
        rw [hd]
        obtain ⟨z, hz⟩ : ∃ z, ms[k]? = some z := ⟨_, List.getElem?_eq_getElem (by omega)⟩
        obtain ⟨mb, mo, rfl, m0, m1, m2, m3, m4⟩ := HTX.out.m hnm hz
        have HZ := Lib.hid hz
        obtain ⟨F1, hs1, hu1⟩ := HTX.out
        obtain ⟨gm, hom⟩ := hs1.ownAt 1 rfl
        obtain ⟨_, _, hmv, hmcap, _⟩ := hom.slice
        cases hmv
        have hca : Chg Non wx (wx.alloc (.cells z.cells 79)) := (Chg.refl _ _).alloc _
        obtain ⟨gw, how, hkw⟩ := own_focus ((hs1.non hca).bring 3 rfl)
        have HOW := Lib.hid how
        have HKW := Lib.hid hkw
        have HU1 := Lib.hid (hu1.chgNon hca)
        have hsrc : Src (wx.alloc (.cells z.cells 79)) 5 (.slice (some ⟨wx.heap.size, 0, none⟩) 1 1) 1 z.cells.toList := src_item (Blk.new _ _ _)
        have HSRC := Lib.hid hsrc
        have hb1 : k + 1 ≤ maxLen := by unfold maxLen; omega
        have hb2 : (k + 1) * 40 ≤ 140737488355328 := by omega
        have hn1 : 1 ≤ n' := by omega
        have hn2 : (1 : Int) ≤ (n' : Int) := by omega
        clear hz hs1 hu1 hom how hkw hca hsrc hd
        by_cases hc1 : mc' = 1
        all_goals
          go_wp2_with (at_builtin; refine wpList_append_Own _ rfl _ _ 75 rfl 79 i0 _ 5 40 Try.underlying75 hi0 hz0 hz1 hz2 rfl (by decide) _ k _ gw rfl HOW.out _ 1 _ rfl HSRC.out hb1 hb2 ?_; intro v' w' g' hown hchg hg'; obtain ⟨a2, c2, rfl, hc2, hm2⟩ := hown.slice; obtain ⟨F2, hs2, hu2⟩ := HKW.out _ _ _ _ _ hown hchg hg'; have HS2 := Lib.hid hs2; have HU2 := Lib.hid (HU1.out.trans hu2); clear hown hchg hg' hs2 hu2)
          have HN := Lib.hid (tr_next HTP.out.ms_ hkl HZ.out hn1 HS2.out HU2.out)
          go_roundw
          case rel =>
            refine ⟨k + 1, n' - 1, _, c2, _, a2, rfl, rfl, by omega, by omega, ?_⟩
            have h := HN.out
            first
              | (rw [if_pos hc1, hc1] at h; exact h)
              | (rw [if_neg hc1] at h; exact h)
          case measure => simp only []; omega
      · have hd : decide (k < l0.length) = false := by simp; omega
        rw [hd]
        obtain rfl : k = l0.length := by omega
        obtain ⟨e0, e1⟩ := HTX.out.e
        have HTK := Lib.hid (takeU HTX.out HTP.out HV.out (by omega))
        have HN1 : Hid (n' = ms1.length) := by
          have := congrArg List.length HTP.out.ms_
          rw [List.length_append] at this
          show _ = _
          omega
        generalize hLL : l0.length = L at *
        have HLL := Lib.hid hLL
        clear hLL
        go_wp2_with fail
        (with_reducible refine HTK.out.mono ?_)
        rintro e w1 ⟨a8, c8, rfl, hU⟩
        have HUU := Lib.hid hU
        clear hU e0 e1 HTK HTX
        rw [HLL.out]
        go_wp2_with fail
        go_loopw [9] (fun v9 wr => ∃ k : Nat, v9 = .int .i64 k ∧ k ≤ L ∧ Hid (Chg Non w1 wr)) (fun v9 _ => L - (intOf v9).toNat)
        case atStart => exact ⟨0, rfl, by omega, Chg.refl _ _⟩
        case round =>
          obtain ⟨k, rfl, hk2, HC⟩ := hrel
          by_cases hlt : k < L
          · obtain ⟨y, hy⟩ : ∃ y, l0[k]? = some y := ⟨_, List.getElem?_eq_getElem (by rw [HLL.out]; exact hlt)⟩
            obtain ⟨F3, hs3, hu3⟩ := HUU.out
            rw [HLL.out] at hs3
            obtain ⟨g1, ho1⟩ := (hs3.non HC.out).ownAt 0 rfl
            obtain ⟨g2, ho2⟩ := (hs3.non HC.out).ownAt 4 rfl
            obtain ⟨b1, o1, rfl, hc1⟩ := (itms_own HLL.out ho1).2 k y hy
            obtain ⟨b2, o2, rfl, hc2⟩ := (itms_own HLL.out ho2).2 k y hy
            have p0 := hc1 0 (by omega); have p1 := hc1 1 (by omega); have p2 := hc1 2 (by omega); have p3 := hc1 3 (by omega); have p4 := hc1 4 (by omega)
            have q0 := hc2 0 (by omega); have q1 := hc2 1 (by omega); have q2 := hc2 2 (by omega); have q3 := hc2 3 (by omega); have q4 := hc2 4 (by omega)
            simp [It.cells] at p0 p1 p2 p3 p4 q0 q1 q2 q3 q4
            clear hs3 hu3 ho1 ho2 hc1 hc2 hy
            go_wp2_with fail
            go_quiet (fail)
            go_wp2_with fail
            go_roundw
            case rel => exact ⟨k + 1, by go_num, by omega, HC.out.drewN _⟩
            case measure => simp [intOf]; omega
          · go_wp2_with fail
            show K _ _
            refine HQ.out _ _ _ _ _ _ _ _ _ _ _ _ _ _ _ _ _ _ _ _ _ _ _ _ _ _ _ _ _ _ _ _ _ _ _ _ _ _ _ _ _ _ _ _ _ _ _ _ _ _ _ _ _ _ _ _ _ _ _ _ _ _ _ _ _ _ _ _ _ _ _ _ _ _ _ _ _ _ _ _ _ _ _ _ _ _ _ _ _ _ _ _ _ _ _ _ _ _ _ _ _ _ _ _ _ _ _ _ _ _ _ _ _ _ _ _ _ _ _ _ _ _ _ _ _ _ _ _ _ _ _ _ _ _ _ _ _ _ _ _ _ _ _ _ _ _ _ _ _ _ _ _ _ _ _ _ _ _ _ _ _ _ _ _ _ _ _ _ _ _ _ _ _ _ _ _ _ _ _ _ _ _ _ _ _ _ _ _ _ _ _ _ _ _ _ _ _ _ _ _ _ _ _ _ _ _ _ _ _ _ _ _ _ _ _ _ _ _ _ _ _ _ _ _ _ _ _ _ _ _ _ _ _ _ ?_
            exact take_end HUU.out HC.out HTP.out HN1.out HV.out.n1

end Go.Proofs.Ytabeolmfgmbfaaa
