/- TraceBytes: what is done, as bytes: the walk. -/
import Derived.Test.YtabeolmfgmbfaaaLaw54
import Derived.Laws.MakeOwn
import Derived.Deep.DrawnRows
import Derived.Deep.RegionHeld
namespace Go.Proofs.Ytabeolmfgmbfaaa
open Go.RowKit
set_option linter.unusedVariables false
set_option linter.unusedSimpArgs false

theorem bytesOf_empty (l : List OpV) : (bytesOf l).length = 0 ↔ mayB l = false := by
  unfold bytesOf
  cases mayB l
  · simp
  · simp
theorem len_zero (l : List OpV) : (((bytesOf l).length : Int) == 0) = !mayB l := by
  rw [Bool.eq_iff_iff]
  simp only [beq_iff_eq, Bool.not_eq_true']
  rw [← bytesOf_empty]
  omega
theorem str_same (s : ByteArray) : (s.toList == s.toList) = true := by simp

attribute [local go_sem ↓] Go.wp_at_zero Go.wp_at_succ
def zop : OpV := ⟨0, 0, 0, 0, 0, 0, 0, none, 0, 0, []⟩

theorem zop_ok (w : World) : zop.ok w := ⟨by decide, bys_nil w, (fun x hx => by cases hx), Nat.le_refl _, by decide⟩
theorem made_at (j i : Nat) (hj : j < 501) (hi : i < 8) : (madeCells zop.cells 4008)[j * 8 + i]? = zop.cells[i]? := by
  have h8 : zop.cells.size = 8 := rfl
  have e : (madeCells zop.cells 4008)[j * 8 + i]? = some (zop.cells[(j * 8 + i) % 8]!) := by
    unfold madeCells
    rw [Array.getElem?_map, Array.getElem?_eq_getElem (by rw [Array.size_range]; omega), Array.getElem_range, Option.map_some, h8]
  rw [e, show (j * 8 + i) % 8 = i by omega]
  have : i = 0 ∨ i = 1 ∨ i = 2 ∨ i = 3 ∨ i = 4 ∨ i = 5 ∨ i = 6 ∨ i = 7 := by omega
  rcases this with rfl | rfl | rfl | rfl | rfl | rfl | rfl | rfl <;> rfl
theorem opl_made (w : World) : Opl (w.alloc (.cells (madeCells zop.cells 4008) 61)) (some ⟨w.heap.size, 0, none⟩) 501 (List.replicate 501 zop) := by
  refine ⟨List.length_replicate, fun e => (by cases e), fun o ho => ?_, fun x hx j o ho i hi => ?_⟩
  · rw [List.eq_of_mem_replicate ho]; exact zop_ok _
  · cases hx
    have hj := (List.getElem?_eq_some_iff.1 ho).1
    rw [List.length_replicate] at hj
    have : o = zop := by
      have h := List.mem_of_getElem? ho
      exact List.eq_of_mem_replicate h
    subst this
    rw [Addr.add_lit, (Blk.new w (madeCells zop.cells 4008) 61).cell, Nat.zero_add, made_at j i hj hi]
theorem bytes501 : bytesOf (List.replicate 501 zop) = [] := by
  unfold bytesOf
  rw [if_neg]
  intro h
  have h2 : (List.replicate 501 zop).length ≤ 500 := by
    simp only [mayB, Bool.and_eq_true, decide_eq_true_eq] at h
    exact h.1
  rw [List.length_replicate] at h2
  omega
theorem make501 (w : World) : (Instr.makeSlice 58 (.int .i64 501) (.int .i64 501)).run Try.prog w = .ok (.slice (some ⟨w.heap.size, 0, none⟩) 501 501) (w.alloc (.cells (madeCells zop.cells 4008) 61)) := by
  obtain ⟨i0, hi, hz0, hz1, hz2⟩ := info_parts Try.info_opT
  have h := run_make (P := Try.prog) w 58 61 i0 _ Try.underlying58 hi hz0 .i64 .i64 501 501 (by decide) (by decide) (by rw [hz2]; decide) (by decide)
  rw [hz1] at h
  exact h

set_option maxHeartbeats 20000000 in
set_option maxRecDepth 100000 in
theorem traceBytes_walk (a : Option Addr) (n c : Nat) (l : List OpV) (o : OpV) (w : World) (hl : Opl w a n l) (ho : o.ok w) (hn : n ≤ 1759218604390) :
    Calls Try.prog 11 #[.slice a n c, .agg o.cells] w fun e w' => e = .returned (.bool true) ∧ Below w.heap.size w w' := by
  have HL := Lib.hid hl
  have HO := Lib.hid ho
  have hc0 : Chg Non w (w.alloc (.cells o.cells 61)) := (Chg.refl _ _).alloc _
  have HB0 : Hid (Blk (w.alloc (.cells o.cells 61)) w.heap.size o.cells 61) := Blk.new _ _ _
  have HC0 := Lib.hid hc0
  clear hl ho hc0
  have HOC : Hid (o.cells = #[.int .i64 o.k, .int .i64 o.th, .int .i64 o.a, .int .i64 o.b, .int .i64 o.v, .int .i64 o.n, .int .i64 o.m, .slice o.da o.dn o.dc]) := rfl
  go_enter Try.func11, Try.ntmps11
  go_wp2_with fail
  refine (awake54_any _).mono ?_
  rintro e w1 ⟨rfl, hc⟩
  have HC1 := Lib.hid (HC0.out.tr hc)
  have HB1 := Lib.hid (HB0.out.chg hc (fun h => h))
  have HL1 := Lib.hid (HL.out.chg HC1.out (fun _ _ h => h))
  have HO1 := Lib.hid (HO.out.chg HC1.out (fun _ _ h => h))
  clear hc HL HO HB0 HC0
  go_wp2_with fail
  refine (bytes_any a n c l _ HL1.out).mono ?_
  rintro e w2 ⟨a2, c2, g2, rfl, ho, hg, hch⟩
  simp only [Nat.zero_add, List.nil_append] at ho ⊢
  have hch2 : Chg Non w1 w2 := hch.mono (fun _ _ h => by cases h)
  have HC2 := Lib.hid (HC1.out.tr hch2)
  have HL2 := Lib.hid (HL1.out.chg hch2 (fun _ _ h => h))
  have HO2 := Lib.hid (HO1.out.chg hch2 (fun _ _ h => h))
  have HB2 := Lib.hid (HB1.out.chg hch2 (fun h => h))
  have HY2 := Lib.hid (bys_own rfl ho)
  clear ho hg hch hch2 HL1 HC1 HB1 HO1
  have hem := bytesOf_empty l
  have hss := str_same (strOfNums (bytesOf l))
  have hso := str_same (strOfNums o.bytes)
  have HBL := Lib.hid (bytesOf_length HL2.out.ok)
  have HLG : Hid (∀ wz, Chg Non w2 wz → Opl wz a n l) := fun wz h => HL2.out.chg h (fun _ _ h => h)
  have HOG : Hid (∀ wz, Chg Non w2 wz → o.ok wz) := fun wz h => HO2.out.chg h (fun _ _ h => h)
  have HZG : Hid (∀ wz, Chg Non w2 wz → Blk wz w.heap.size o.cells 61) := fun wz h => HB2.out.chg h (fun h => h)
  have HYG : Hid (∀ wz, Chg Non w2 wz → Bys wz a2 (bytesOf l).length (bytesOf l)) := fun wz h => HY2.out.chg h (fun _ _ h => h)
  clear HL2 HO2 HB2 HY2
  have hcvA := conv_str (c := c2) (HYG.out _ (Chg.refl Non w2).drew)
  have HCX : Hid (Chg Non w2 w2.drew) := (Chg.refl Non w2).drew
  have hlz := len_zero l
  generalize hm : mayB l = mb at *
  have HMM : Hid (mayB l = mb) := hm
  clear hm hem
  generalize hbs : bytesOf l = bs at *
  have HBS := Lib.hid hbs
  clear hbs
  have z0 := (HZG.out _ HCX.out).cell 0; have z1 := (HZG.out _ HCX.out).cell 1; have z2 := (HZG.out _ HCX.out).cell 2; have z3 := (HZG.out _ HCX.out).cell 3; have z4 := (HZG.out _ HCX.out).cell 4; have z5 := (HZG.out _ HCX.out).cell 5; have z6 := (HZG.out _ HCX.out).cell 6; have z7 := (HZG.out _ HCX.out).cell 7
  simp [OpV.cells] at z0 z1 z2 z3 z4 z5 z6 z7
  have hop : ∀ wz, Chg Non w2 wz → Calls Try.prog 44 #[.agg o.cells] wz (BytesPost wz 0 [] none o.bytes) := fun wz h => one_bytes o wz (HOG.out _ h)
  have hoq : ∀ wz, Chg Non w2 wz → Calls Try.prog 45 #[.agg o.cells] wz (BytesPost wz 0 [] none o.bytes) := fun wz h => one_ref o wz (HOG.out _ h)
  unfold OpV.cells at hop hoq
  have HOP := Lib.hid hop
  have HOQ := Lib.hid hoq
  clear hop hoq
  go_wp2_with fail
  go_region_held (fun w' => w'.cell? ⟨w.heap.size, 0, none⟩ = some (.int .i64 o.k) ∧ w'.cell? ⟨w.heap.size, 1, none⟩ = some (.int .i64 o.th) ∧ w'.cell? ⟨w.heap.size, 2, none⟩ = some (.int .i64 o.a) ∧ w'.cell? ⟨w.heap.size, 3, none⟩ = some (.int .i64 o.b) ∧ w'.cell? ⟨w.heap.size, 4, none⟩ = some (.int .i64 o.v) ∧ w'.cell? ⟨w.heap.size, 5, none⟩ = some (.int .i64 o.n) ∧ w'.cell? ⟨w.heap.size, 6, none⟩ = some (.int .i64 o.m) ∧ w'.cell? ⟨w.heap.size, 7, none⟩ = some (.slice o.da o.dn o.dc) ∧ (convert 59 9 (.slice a2 bs.length c2)).run Try.prog w' = .ok (.string (strOfNums bs)) w') (go_keep) (first
    | (go_at_call 42; (with_reducible refine (bytes_ref a n c l _ (HLG.out _ HCX.out)).mono ?_); rintro e w4 ⟨a5, c5, g5, rfl, ho, hg, hc4⟩; (rw [HBS.out] at ho); (rw [HBS.out]); have hc5 := HCX.out.tr (hc4.mono (G := Non) (fun _ _ h => by cases h)); clear HCX hcvA z0 z1 z2 z3 z4 z5 z6 z7; have HCX := Lib.hid hc5; (simp only [Nat.zero_add, List.nil_append] at ho); (simp only [Nat.zero_add]); have hcvB := conv_str (c := c5) (bys_own rfl ho); have z0 := (HZG.out _ HCX.out).cell 0; have z1 := (HZG.out _ HCX.out).cell 1; have z2 := (HZG.out _ HCX.out).cell 2; have z3 := (HZG.out _ HCX.out).cell 3; have z4 := (HZG.out _ HCX.out).cell 4; have z5 := (HZG.out _ HCX.out).cell 5; have z6 := (HZG.out _ HCX.out).cell 6; have z7 := (HZG.out _ HCX.out).cell 7; simp [OpV.cells] at z0 z1 z2 z3 z4 z5 z6 z7; have hcvA := conv_str (c := c2) (HYG.out _ HCX.out); clear ho hg hc4 hc5)
    | (go_at_call 43; (with_reducible refine (may_any a n c l _ (HLG.out _ HCX.out)).mono ?_); rintro e w5 ⟨rfl, rfl⟩; rw [HMM.out])
    | (go_at_call 44; (with_reducible refine (HOP.out _ HCX.out).mono ?_); rintro e w6 ⟨a7, c7, g7, rfl, ho, hg, hc4⟩; have hc5 := HCX.out.tr (hc4.mono (G := Non) (fun _ _ h => by cases h)); (simp only [Nat.zero_add, List.nil_append] at ho); (simp only [Nat.zero_add]); have hcvC := conv_str (c := c7) (bys_own rfl ho); have HYC := Lib.hid (bys_own rfl ho); clear HCX hcvA z0 z1 z2 z3 z4 z5 z6 z7; have HCX := Lib.hid hc5; have z0 := (HZG.out _ HCX.out).cell 0; have z1 := (HZG.out _ HCX.out).cell 1; have z2 := (HZG.out _ HCX.out).cell 2; have z3 := (HZG.out _ HCX.out).cell 3; have z4 := (HZG.out _ HCX.out).cell 4; have z5 := (HZG.out _ HCX.out).cell 5; have z6 := (HZG.out _ HCX.out).cell 6; have z7 := (HZG.out _ HCX.out).cell 7; simp [OpV.cells] at z0 z1 z2 z3 z4 z5 z6 z7; have hcvA := conv_str (c := c2) (HYG.out _ HCX.out); clear ho hg hc4 hc5)
    | (go_at_call 45; (with_reducible refine (HOQ.out _ HCX.out).mono ?_); rintro e w7 ⟨a8, c8, g8, rfl, ho, hg, hc4⟩; have hc5 := HCX.out.tr (hc4.mono (G := Non) (fun _ _ h => by cases h)); (simp only [Nat.zero_add, List.nil_append] at ho); (simp only [Nat.zero_add]); have hcvC2 := conv_str (c := c7) (HYC.out.chg (hc4.mono (G := Non) (fun _ _ h => by cases h)) (fun _ _ h => h)); have hcvD := conv_str (c := c8) (bys_own rfl ho); have hmk := make501 w7; clear HCX hcvA z0 z1 z2 z3 z4 z5 z6 z7; have HCX := Lib.hid hc5; have z0 := (HZG.out _ HCX.out).cell 0; have z1 := (HZG.out _ HCX.out).cell 1; have z2 := (HZG.out _ HCX.out).cell 2; have z3 := (HZG.out _ HCX.out).cell 3; have z4 := (HZG.out _ HCX.out).cell 4; have z5 := (HZG.out _ HCX.out).cell 5; have z6 := (HZG.out _ HCX.out).cell 6; have z7 := (HZG.out _ HCX.out).cell 7; simp [OpV.cells] at z0 z1 z2 z3 z4 z5 z6 z7; have hcvA := conv_str (c := c2) (HYG.out _ HCX.out); have HCM := Lib.hid (hc5.alloc (.cells (madeCells zop.cells 4008) 61)); have z0m := (HZG.out _ HCM.out).cell 0; have z1m := (HZG.out _ HCM.out).cell 1; have z2m := (HZG.out _ HCM.out).cell 2; have z3m := (HZG.out _ HCM.out).cell 3; have z4m := (HZG.out _ HCM.out).cell 4; have z5m := (HZG.out _ HCM.out).cell 5; have z6m := (HZG.out _ HCM.out).cell 6; have z7m := (HZG.out _ HCM.out).cell 7; simp [OpV.cells] at z0m z1m z2m z3m z4m z5m z6m z7m; have hcvAm := conv_str (c := c2) (HYG.out _ HCM.out); clear ho hg hc4 hc5)
    | (go_at_call 41; (with_reducible refine (bytes_any (some ⟨_, 0, none⟩) 501 501 (List.replicate 501 zop) _ (opl_made _)).mono ?_); rintro e w8 ⟨a9, c9, g9, rfl, ho, hg, hc8⟩; rw [bytes501]; have HC8 := Lib.hid ((HCX.out.alloc _).tr (hc8.mono (G := Non) (fun _ _ h => by cases h))); clear hcvA z0 z1 z2 z3 z4 z5 z6 z7; have z0 := (HZG.out _ HC8.out).cell 0; have z1 := (HZG.out _ HC8.out).cell 1; have z2 := (HZG.out _ HC8.out).cell 2; have z3 := (HZG.out _ HC8.out).cell 3; have z4 := (HZG.out _ HC8.out).cell 4; have z5 := (HZG.out _ HC8.out).cell 5; have z6 := (HZG.out _ HC8.out).cell 6; have z7 := (HZG.out _ HC8.out).cell 7; simp [OpV.cells] at z0 z1 z2 z3 z4 z5 z6 z7; have hcvA := conv_str (c := c2) (HYG.out _ HC8.out); clear ho hg hc8))
  all_goals
    go_wp2_with fail
    go_ret
    exact ⟨rfl, (HC2.out.tr HC8.out).below⟩

end Go.Proofs.Ytabeolmfgmbfaaa
