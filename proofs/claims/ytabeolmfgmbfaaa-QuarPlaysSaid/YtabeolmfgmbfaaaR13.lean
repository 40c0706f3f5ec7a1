/- QuarPlays: region 13. -/
import Derived.Test.YtabeolmfgmbfaaaP35a
namespace Go.Proofs.Ytabeolmfgmbfaaa
open Go.RowKit
set_option linter.unusedVariables false
set_option linter.unusedSimpArgs false
attribute [local go_sem ↓] Go.wp_at_zero Go.wp_at_succ

theorem r13_end {w1 W w' W' w2 : World} {K : Nat} {g' g2 : Option Nat} (hcn : Chg Non w1 w') (h5 : ∀ k, g' = some k → some K = some k ∨ W.heap.size ≤ k) (hK : w1.heap.size ≤ K) (hW : w1.heap.size ≤ W.heap.size)
    (hc6 : Chg (Opt g') W' w2) (hg6 : ∀ k, g2 = some k → g' = some k ∨ W'.heap.size ≤ k) (hww : Chg Non w' W') : Chg Non w1 w2 ∧ ∀ k, g2 = some k → w1.heap.size ≤ k := by
  have hg : ∀ k, g' = some k → w1.heap.size ≤ k := fun k hk => by
    rcases h5 k hk with h | h
    · cases h; exact hK
    · omega
  have h1 : Chg Non w1 W' := hcn.tr hww
  refine ⟨h1.trans hc6 (fun _ _ h => h) (fun i hi h => by have := hg i h; omega), fun k hk => ?_⟩
  rcases hg6 k hk with h | h
  · exact hg k h
  · have := h1.size; omega

noncomputable def code13 : Code := (Try.f14.body.bind (regOf 13)).getD .skip

set_option maxHeartbeats 4000000 in
set_option maxRecDepth 100000 in
theorem r13 {u0 u1 u2 u5 u6 u7 u8 u9 u11 u12 u13 u14 u15 u16 u17 u18 u19 u20 u21 u22 u23 u24 u25 u26 u27 u28 u29 u30 u31 u32 u33 u34 u35 u36 u37 u38 u39 u40 u41 u42 u43 u44 u45 u46 u47 u48 u49 u50 u51 u52 u53 u54 u55 u56 u57 u58 u59 u60 u61 u62 u63 u64 u65 u66 u67 u68 u69 u70 u71 u72 u73 u74 u75 u76 u77 u78 u79 u80 u81 u82 u83 u84 u85 u86 u87 u88 u89 u90 u91 u92 u93 u94 u95 u96 u97 u98 u99 u100 u101 u102 u103 u104 u105 u106 u107 u108 u109 u110 u111 u112 u113 u114 u115 u116 u117 u118 u119 u120 u121 u122 u123 u124 u125 u126 u127 u128 u129 u130 u131 u132 u133 u134 u135 u136 u137 u138 u139 u140 u141 u142 u143 u144 u145 u146 u147 u148 u149 u150 u151 u152 u153 u154 u155 u156 u157 u158 u159 u160 u161 u162 u163 u164 u165 u166 u167 u168 u169 u170 u171 u172 u173 u174 u175 u176 u177 u178 u179 u180 u181 u182 u183 u184 u185 u186 u187 u188 u189 u190 u191 u192 u193 u194 u195 u196 u197 u198 u199 u200 u201 u202 u203 u204 u205 u206 u207 u208 u209 u210 u211 u212 u213 u214 u215 u216 u217 u218 u219 u220 u221 u222 u223 u224 u225 u226 u227 u228 u229 u230 u231 u232 u233 u234 u235 u236 u237 u238 u239 u240 u241 u242 u243 u244 u245 u246 u247 u248 u249 u250 u251 u252 u253 u254 u255 u256 u257 u258 u259 u260 u261 u262 u263 u264 u265 u266 u267 u268 u269 u270 u271 u272 u273 u274 u275 u276 u277 u278 u279 u280 u281 u282 u283 u284 u285 u286 : Value} (bq xb mn mc : Nat) (ma : Option Addr) (ms : List It) (x : It) (w1 : World) (K : Act → World → Prop) (hmn : mn = ms.length) (hm60 : mn ≤ 60)
    (hM : ∀ W, Chg Non w1 W → Src W 5 (.slice ma mn mc) mn (cellsI ms)) (hB : Blk w1 xb x.cells 79)
    (hQ : ∀ (v93 v94 v95 v96 v97 v98 : Value) (a6 : Option Addr) (c6 : Nat) (g6 : Option Nat) (w' : World), Own w' 79 5 (.slice a6 (mn + 1) c6) (mn + 1) (cellsI (ms ++ [x])) g6 → Chg Non w1 w' → (∀ k, g6 = some k → w1.heap.size ≤ k) → K ⟨#[u0, u1, u2, .pointer (some ⟨bq, 0, none⟩), .slice a6 (mn + 1) c6, u5, u6, u7, u8, u9, .pointer (some ⟨xb, 0, none⟩), u11, u12, u13, u14, u15, u16, u17, u18, u19, u20, u21, u22, u23, u24, u25, u26, u27, u28, u29, u30, u31, u32, u33, u34, u35, u36, u37, u38, u39, u40, u41, u42, u43, u44, u45, u46, u47, u48, u49, u50, u51, u52, u53, u54, u55, u56, u57, u58, u59, u60, u61, u62, u63, u64, u65, u66, u67, u68, u69, u70, u71, u72, u73, u74, u75, u76, u77, u78, u79, u80, u81, u82, u83, u84, u85, u86, u87, u88, u89, u90, u91, u92, v93, v94, v95, v96, v97, v98, u99, u100, u101, u102, u103, u104, u105, u106, u107, u108, u109, u110, u111, u112, u113, u114, u115, u116, u117, u118, u119, u120, u121, u122, u123, u124, u125, u126, u127, u128, u129, u130, u131, u132, u133, u134, u135, u136, u137, u138, u139, u140, u141, u142, u143, u144, u145, u146, u147, u148, u149, u150, u151, u152, u153, u154, u155, u156, u157, u158, u159, u160, u161, u162, u163, u164, u165, u166, u167, u168, u169, u170, u171, u172, u173, u174, u175, u176, u177, u178, u179, u180, u181, u182, u183, u184, u185, u186, u187, u188, u189, u190, u191, u192, u193, u194, u195, u196, u197, u198, u199, u200, u201, u202, u203, u204, u205, u206, u207, u208, u209, u210, u211, u212, u213, u214, u215, u216, u217, u218, u219, u220, u221, u222, u223, u224, u225, u226, u227, u228, u229, u230, u231, u232, u233, u234, u235, u236, u237, u238, u239, u240, u241, u242, u243, u244, u245, u246, u247, u248, u249, u250, u251, u252, u253, u254, u255, u256, u257, u258, u259, u260, u261, u262, u263, u264, u265, u266, u267, u268, u269, u270, u271, u272, u273, u274, u275, u276, u277, u278, u279, u280, u281, u282, u283, u284, u285, u286], []⟩ w') :
    Code.wp Try.prog code13 (OnlyN K) ⟨#[u0, u1, u2, .pointer (some ⟨bq, 0, none⟩), .slice ma mn mc, u5, u6, u7, u8, u9, .pointer (some ⟨xb, 0, none⟩), u11, u12, u13, u14, u15, u16, u17, u18, u19, u20, u21, u22, u23, u24, u25, u26, u27, u28, u29, u30, u31, u32, u33, u34, u35, u36, u37, u38, u39, u40, u41, u42, u43, u44, u45, u46, u47, u48, u49, u50, u51, u52, u53, u54, u55, u56, u57, u58, u59, u60, u61, u62, u63, u64, u65, u66, u67, u68, u69, u70, u71, u72, u73, u74, u75, u76, u77, u78, u79, u80, u81, u82, u83, u84, u85, u86, u87, u88, u89, u90, u91, u92, u93, u94, u95, u96, u97, u98, u99, u100, u101, u102, u103, u104, u105, u106, u107, u108, u109, u110, u111, u112, u113, u114, u115, u116, u117, u118, u119, u120, u121, u122, u123, u124, u125, u126, u127, u128, u129, u130, u131, u132, u133, u134, u135, u136, u137, u138, u139, u140, u141, u142, u143, u144, u145, u146, u147, u148, u149, u150, u151, u152, u153, u154, u155, u156, u157, u158, u159, u160, u161, u162, u163, u164, u165, u166, u167, u168, u169, u170, u171, u172, u173, u174, u175, u176, u177, u178, u179, u180, u181, u182, u183, u184, u185, u186, u187, u188, u189, u190, u191, u192, u193, u194, u195, u196, u197, u198, u199, u200, u201, u202, u203, u204, u205, u206, u207, u208, u209, u210, u211, u212, u213, u214, u215, u216, u217, u218, u219, u220, u221, u222, u223, u224, u225, u226, u227, u228, u229, u230, u231, u232, u233, u234, u235, u236, u237, u238, u239, u240, u241, u242, u243, u244, u245, u246, u247, u248, u249, u250, u251, u252, u253, u254, u255, u256, u257, u258, u259, u260, u261, u262, u263, u264, u265, u266, u267, u268, u269, u270, u271, u272, u273, u274, u275, u276, u277, u278, u279, u280, u281, u282, u283, u284, u285, u286], []⟩ w1 := by
  obtain ⟨i0, hi, hz0, hz1, hz2⟩ := info_parts Try.info_item
  have hb1 : 0 + mn ≤ maxLen := by unfold maxLen; omega
  have hb2 : (0 + mn) * 40 ≤ 140737488355328 := by omega
  have hb3 : mn + 1 ≤ maxLen := by unfold maxLen; omega
  have hb4 : (mn + 1) * 40 ≤ 140737488355328 := by omega
  have HM := Lib.hid hM
  have HQ := Lib.hid hQ
  have HB := Lib.hid hB
  have x0 : w1.cell? ⟨xb, 0, none⟩ = some (.int .i64 x.at_) := hB.cell 0
  have x1 : w1.cell? ⟨xb, 1, none⟩ = some (.int .i64 x.room) := hB.cell 1
  have x2 : w1.cell? ⟨xb, 2, none⟩ = some (.int .i64 x.cls) := hB.cell 2
  have x3 : w1.cell? ⟨xb, 3, none⟩ = some (.int .i64 x.th) := hB.cell 3
  have x4 : w1.cell? ⟨xb, 4, none⟩ = some (.int .i64 x.ep) := hB.cell 4
  have hxl : xb < w1.heap.size := hB.lt
  have hne1 : xb ≠ w1.heap.size := Nat.ne_of_lt hxl
  have hne2 : xb ≠ w1.heap.size + 1 := by omega
  have HMN := Lib.hid hmn
  clear hM hQ hB hmn
  unfold code13
  conv => arg 2; whnf
  go_region_law ((first | (refine step_append_Own (o := ⟨some 98, _, _, _, _, _⟩) rfl _ _ 75 rfl 79 i0 _ 5 40 Try.underlying75 hi hz0 hz1 hz2 rfl (by decide) _ mn _ g' rfl (by first | exact HO5.out | exact HO5.out.chg ((Chg.refl Non _).alloc _) (fun _ _ h => h)) _ 1 x.cells.toList rfl (src_item (by first | exact Blk.atPush rfl (by simp) | exact blk_keep HC5.out (by simp [Opt]) (Blk.atPush rfl (by simp)) | exact blk_keep HC5.out (by simp [Opt]) (Blk.atPush2 rfl (by simp)))) hb3 hb4 ?_; intro v2 w2 g2 hown2 hchg2 hg2; obtain ⟨a6, c6, rfl, hc6, hm6⟩ := hown2.slice; have HO6 := Lib.hid hown2; have HC6 := Lib.hid hchg2; have HG6 := Lib.hid hg2; clear hown2 hchg2 hg2) | refine step_append_Own (o := ⟨some 95, _, _, _, _, _⟩) rfl _ _ 75 rfl 79 i0 _ 5 40 Try.underlying75 hi hz0 hz1 hz2 rfl (by decide) _ 0 [] _ rfl (own_empty (by first | exact Blk.atPush rfl (by simp) | exact Blk.atPush2 rfl (by simp))) _ mn _ rfl (HM.out _ (by first | exact ((Chg.refl _ _).drew.alloc _) | exact (((Chg.refl _ _).drew.alloc _).alloc _))) hb1 hb2 ?_; intro v' w' g' hown hchg hg'; simp only [Nat.zero_add, List.nil_append] at hown; obtain ⟨a5, c5, rfl, hc5, hm5⟩ := hown.slice; have HO5 := Lib.hid hown; have HC5 := Lib.hid hchg; have HG5 := Lib.hid hg'; have hcn : Chg Non w1 w' := (chg_own (by first | exact ((Chg.refl _ _).drew.alloc _) | exact (((Chg.refl _ _).drew.alloc _).alloc _)) hchg (by simp)); have hbx := HB.out.chg hcn (fun h => h); clear x0 x1 x2 x3 x4 hown hchg hg'; have x0 : w'.cell? ⟨xb, 0, none⟩ = some (.int .i64 x.at_) := hbx.cell 0; have x1 : w'.cell? ⟨xb, 1, none⟩ = some (.int .i64 x.room) := hbx.cell 1; have x2 : w'.cell? ⟨xb, 2, none⟩ = some (.int .i64 x.cls) := hbx.cell 2; have x3 : w'.cell? ⟨xb, 3, none⟩ = some (.int .i64 x.th) := hbx.cell 3; have x4 : w'.cell? ⟨xb, 4, none⟩ = some (.int .i64 x.ep) := hbx.cell 4; have HCN := Lib.hid hcn; clear hbx hcn))
  all_goals
    obtain ⟨e1, e2⟩ := r13_end HCN.out HG5.out (by first | exact Nat.le_refl _ | exact Nat.le_succ _ | (simp; done) | (simp; omega)) (by first | (simp; done) | (simp; omega)) HC6.out HG6.out (by first | exact Chg.refl _ _ | exact (Chg.refl _ _).alloc _)
    refine HQ.out _ _ _ _ _ _ a6 c6 g2 w2 ?_ e1 e2
    have e : cellsI (ms ++ [x]) = cellsI ms ++ x.cells.toList := by simp [cellsI]
    rw [e]
    exact HO6.out

end Go.Proofs.Ytabeolmfgmbfaaa
