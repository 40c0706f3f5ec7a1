/- The reference's take: the number that bytes begin with. -/
import Derived.Test.YtabeolmfgmbfaaaReads
namespace Go.Proofs.Ytabeolmfgmbfaaa
open Go.RowKit
set_option linter.unusedVariables false
set_option linter.unusedSimpArgs false

def TakePost (l : List Int) (w : World) (e : Ending) (w' : World) : Prop := e = .returned (.tuple #[.int .i64 (takeR l).1, .int .i64 ((takeR l).2 : Nat)]) ∧ Chg Non w w'

/-- A round's end: the number, turned back, has as many bytes as were read, or not. -/
theorem take_end {l : List Int} {U k : Nat} (hb : Byte l) (h : readR 0 0 l = some (U, k)) {z len : Nat} (hz : len = (numOf (unzig U)).length) : takeR l = if len = k then (unzig U, k) else (0, 0) := by
  rw [takeR_some hb h, hz]
theorem half_even (U : Nat) (h : U % 2 = 0) : ((U / 2 : Nat) : Int) = unzig U := by unfold unzig; rw [if_pos h]
theorem half_odd (U : Nat) (h : ¬ U % 2 = 0) : -((U / 2 : Nat) : Int) - 1 = unzig U := by unfold unzig; rw [if_neg h]

set_option maxHeartbeats 4000000 in
set_option maxRecDepth 100000 in
theorem take_any (a : Option Addr) (n c : Nat) (l : List Int) (w : World) (hl : Bys w a n l) (hb : Byte l) (hn : n ≤ 140737488351232) :
    Calls Try.prog 70 #[.slice a n c] w (TakePost l w) := by
  have HL := Lib.hid hl
  have HB := Lib.hid hb
  have hln := hl.1
  clear hl hb
  go_enter Try.func70, Try.ntmps70
  go_wp2_with fail
  go_loop [4, 5] (fun u i => ∃ (j v : Nat), u = .int .u64 v ∧ i = .int .i64 j ∧ j ≤ n ∧ j ≤ 9 ∧ Hid (v < 2 ^ (7 * j) ∧ readR 0 0 l = readR j v (l.drop j))) (fun _ i => n - (intOf i).toNat)
  case atStart => exact ⟨0, 0, rfl, rfl, by omega, by omega, by decide, rfl⟩
  case round =>
    obtain ⟨j, v, rfl, rfl, hj, hj9, HV⟩ := hrel
    by_cases hlt : j < n
    · obtain ⟨b, off, rfl, hcell⟩ := HL.out.at hlt
      have hd : l.drop j = l.getD j 0 :: l.drop (j + 1) := by
        rw [List.drop_eq_getElem_cons (by omega)]
        simp [List.getD_eq_getElem?_getD, show j < l.length by omega]
      have hx := HB.out (l.getD j 0) (by
        rw [List.getD_eq_getElem?_getD, List.getElem?_eq_getElem (by omega)]
        exact List.getElem_mem _)
      have HV2 : Hid (v < 2 ^ (7 * j) ∧ readR 0 0 l = readR j v (l.getD j 0 :: l.drop (j + 1))) := by rw [← hd]; exact HV.out
      clear hd HV
      generalize l.getD j 0 = x at *
      have hjj : j = 0 ∨ j = 1 ∨ j = 2 ∨ j = 3 ∨ j = 4 ∨ j = 5 ∨ j = 6 ∨ j = 7 ∨ j = 8 ∨ j = 9 := by omega
      rcases hjj with rfl | rfl | rfl | rfl | rfl | rfl | rfl | rfl | rfl | rfl
      · have hv : v < 1 := Nat.lt_of_lt_of_eq HV2.out.1 (by decide)
        rw [Nat.add_zero] at hcell
        have hU : v + (x.toNat % 128) * 1 < 18446744073709551616 := by omega
        have hUx : (v : Int) + x % 128 = ((v + (x.toNat % 128) * 1 : Nat) : Int) := by omega
        have HUX := Lib.hid hUx
        clear hUx
        by_cases h1 : x < 128
        · skip
          have HRD : Hid (readR 0 0 l = some (v + (x.toNat % 128) * 1, 0 + 1)) := by
            show readR 0 0 l = _
            rw [HV2.out.2, readR, if_neg (by omega), if_neg (by omega), if_pos h1]
          go_upto_region 9 with fail
          rw [HUX.out]
          clear HUX HV2
          generalize v + (x.toNat % 128) * 1 = U at *
          have HUR := Lib.hid (unzig_range U hU)
          by_cases hodd : U % 2 = 0
          · have hmod : ((U : Int) % 2 == 1) = false := by simp; omega
            go_wp2_with fail
            rw [show ((U : Int) / 2) = unzig U from by have := half_even U hodd; omega]
            have HTR : Hid (∀ len, len = (numOf (unzig U)).length → takeR l = if len = 0 + 1 then (unzig U, 0 + 1) else (0, 0)) := fun len h => take_end HB.out HRD.out h (z := 0)
            clear HRD hodd hmod
            generalize unzig U = z at *
            refine (num_any z w HUR.out).mono ?_
            rintro e w2 ⟨a3, c3, g3, rfl, ho3, hg3, hc3⟩
            have HC3 := Lib.hid hc3
            have hnl := numOf_length z
            have HTR2 := Lib.hid (HTR.out _ rfl)
            simp only [Nat.zero_add]
            clear ho3 hg3 hc3 HTR
            generalize (numOf z).length = len at *
            by_cases hk : len = 0 + 1
            · have HT3 : Hid (takeR l = (z, 0 + 1)) := by show _ = _; rw [HTR2.out, if_pos hk]
              subst hk
              clear HTR2
              go_wp2_with fail
              go_ret2
              unfold TakePost
              rw [HT3.out]
              exact ⟨rfl, HC3.out.mono (fun _ _ h => by cases h)⟩
            · have HT3 : Hid (takeR l = (0, 0)) := by show _ = _; rw [HTR2.out, if_neg hk]
              clear HTR2
              have hk1 : ((len : Int) == 1) = false := by simp; omega
              have hk2 : ((len : Int) != 1) = true := by simp; omega
              go_wp2_with fail
              go_ret2
              unfold TakePost
              rw [HT3.out]
              exact ⟨rfl, HC3.out.mono (fun _ _ h => by cases h)⟩
          · have hmod : ((U : Int) % 2 == 1) = true := by simp; omega
            go_wp2_with fail
            rw [show -((U : Int) / 2) - 1 = unzig U from by have := half_odd U hodd; omega]
            have HTR : Hid (∀ len, len = (numOf (unzig U)).length → takeR l = if len = 0 + 1 then (unzig U, 0 + 1) else (0, 0)) := fun len h => take_end HB.out HRD.out h (z := 0)
            clear HRD hodd hmod
            generalize unzig U = z at *
            refine (num_any z w HUR.out).mono ?_
            rintro e w2 ⟨a3, c3, g3, rfl, ho3, hg3, hc3⟩
            have HC3 := Lib.hid hc3
            have hnl := numOf_length z
            have HTR2 := Lib.hid (HTR.out _ rfl)
            simp only [Nat.zero_add]
            clear ho3 hg3 hc3 HTR
            generalize (numOf z).length = len at *
            by_cases hk : len = 0 + 1
            · have HT3 : Hid (takeR l = (z, 0 + 1)) := by show _ = _; rw [HTR2.out, if_pos hk]
              subst hk
              clear HTR2
              go_wp2_with fail
              go_ret2
              unfold TakePost
              rw [HT3.out]
              exact ⟨rfl, HC3.out.mono (fun _ _ h => by cases h)⟩
            · have HT3 : Hid (takeR l = (0, 0)) := by show _ = _; rw [HTR2.out, if_neg hk]
              clear HTR2
              have hk1 : ((len : Int) == 1) = false := by simp; omega
              have hk2 : ((len : Int) != 1) = true := by simp; omega
              go_wp2_with fail
              go_ret2
              unfold TakePost
              rw [HT3.out]
              exact ⟨rfl, HC3.out.mono (fun _ _ h => by cases h)⟩
        · have HRD : Hid (v + (x.toNat % 128) * 1 < 2 ^ (7 * (0 + 1)) ∧ readR 0 0 l = readR (0 + 1) (v + (x.toNat % 128) * 1) (l.drop (0 + 1))) := by
            refine ⟨Nat.lt_of_lt_of_eq (m := 128) (by omega) (by decide), ?_⟩
            rw [HV2.out.2, readR, if_neg (by omega), if_neg (by omega), if_neg h1]
          go_upto_region 7 with fail
          rw [HUX.out]
          clear HUX HV2
          generalize v + (x.toNat % 128) * 1 = U at *
          go_wp2_with fail
          go_round
          case rel => exact ⟨0 + 1, U, rfl, by go_num, by omega, by omega, HRD⟩
          case measure => simp [intOf]; omega
      · have hv : v < 128 := Nat.lt_of_lt_of_eq HV2.out.1 (by decide)
        have hU : v + (x.toNat % 128) * 128 < 18446744073709551616 := by omega
        have hUx : (v : Int) + x % 128 * 128 = ((v + (x.toNat % 128) * 128 : Nat) : Int) := by omega
        have HUX := Lib.hid hUx
        clear hUx
        by_cases h1 : x < 128
        · skip
          have HRD : Hid (readR 0 0 l = some (v + (x.toNat % 128) * 128, 1 + 1)) := by
            show readR 0 0 l = _
            rw [HV2.out.2, readR, if_neg (by omega), if_neg (by omega), if_pos h1]
          go_upto_region 9 with fail
          rw [HUX.out]
          clear HUX HV2
          generalize v + (x.toNat % 128) * 128 = U at *
          have HUR := Lib.hid (unzig_range U hU)
          by_cases hodd : U % 2 = 0
          · have hmod : ((U : Int) % 2 == 1) = false := by simp; omega
            go_wp2_with fail
            rw [show ((U : Int) / 2) = unzig U from by have := half_even U hodd; omega]
            have HTR : Hid (∀ len, len = (numOf (unzig U)).length → takeR l = if len = 1 + 1 then (unzig U, 1 + 1) else (0, 0)) := fun len h => take_end HB.out HRD.out h (z := 0)
            clear HRD hodd hmod
            generalize unzig U = z at *
            refine (num_any z w HUR.out).mono ?_
            rintro e w2 ⟨a3, c3, g3, rfl, ho3, hg3, hc3⟩
            have HC3 := Lib.hid hc3
            have hnl := numOf_length z
            have HTR2 := Lib.hid (HTR.out _ rfl)
            simp only [Nat.zero_add]
            clear ho3 hg3 hc3 HTR
            generalize (numOf z).length = len at *
            by_cases hk : len = 1 + 1
            · have HT3 : Hid (takeR l = (z, 1 + 1)) := by show _ = _; rw [HTR2.out, if_pos hk]
              subst hk
              clear HTR2
              go_wp2_with fail
              go_ret2
              unfold TakePost
              rw [HT3.out]
              exact ⟨rfl, HC3.out.mono (fun _ _ h => by cases h)⟩
            · have HT3 : Hid (takeR l = (0, 0)) := by show _ = _; rw [HTR2.out, if_neg hk]
              clear HTR2
              have hk1 : ((len : Int) == 2) = false := by simp; omega
              have hk2 : ((len : Int) != 2) = true := by simp; omega
              go_wp2_with fail
              go_ret2
              unfold TakePost
              rw [HT3.out]
              exact ⟨rfl, HC3.out.mono (fun _ _ h => by cases h)⟩
          · have hmod : ((U : Int) % 2 == 1) = true := by simp; omega
            go_wp2_with fail
            rw [show -((U : Int) / 2) - 1 = unzig U from by have := half_odd U hodd; omega]
            have HTR : Hid (∀ len, len = (numOf (unzig U)).length → takeR l = if len = 1 + 1 then (unzig U, 1 + 1) else (0, 0)) := fun len h => take_end HB.out HRD.out h (z := 0)
            clear HRD hodd hmod
            generalize unzig U = z at *
            refine (num_any z w HUR.out).mono ?_
            rintro e w2 ⟨a3, c3, g3, rfl, ho3, hg3, hc3⟩
            have HC3 := Lib.hid hc3
            have hnl := numOf_length z
            have HTR2 := Lib.hid (HTR.out _ rfl)
            simp only [Nat.zero_add]
            clear ho3 hg3 hc3 HTR
            generalize (numOf z).length = len at *
            by_cases hk : len = 1 + 1
            · have HT3 : Hid (takeR l = (z, 1 + 1)) := by show _ = _; rw [HTR2.out, if_pos hk]
              subst hk
              clear HTR2
              go_wp2_with fail
              go_ret2
              unfold TakePost
              rw [HT3.out]
              exact ⟨rfl, HC3.out.mono (fun _ _ h => by cases h)⟩
            · have HT3 : Hid (takeR l = (0, 0)) := by show _ = _; rw [HTR2.out, if_neg hk]
              clear HTR2
              have hk1 : ((len : Int) == 2) = false := by simp; omega
              have hk2 : ((len : Int) != 2) = true := by simp; omega
              go_wp2_with fail
              go_ret2
              unfold TakePost
              rw [HT3.out]
              exact ⟨rfl, HC3.out.mono (fun _ _ h => by cases h)⟩
        · have HRD : Hid (v + (x.toNat % 128) * 128 < 2 ^ (7 * (1 + 1)) ∧ readR 0 0 l = readR (1 + 1) (v + (x.toNat % 128) * 128) (l.drop (1 + 1))) := by
            refine ⟨Nat.lt_of_lt_of_eq (m := 16384) (by omega) (by decide), ?_⟩
            rw [HV2.out.2, readR, if_neg (by omega), if_neg (by omega), if_neg h1]
          go_upto_region 7 with fail
          rw [HUX.out]
          clear HUX HV2
          generalize v + (x.toNat % 128) * 128 = U at *
          go_wp2_with fail
          go_round
          case rel => exact ⟨1 + 1, U, rfl, by go_num, by omega, by omega, HRD⟩
          case measure => simp [intOf]; omega
      · have hv : v < 16384 := Nat.lt_of_lt_of_eq HV2.out.1 (by decide)
        have hU : v + (x.toNat % 128) * 16384 < 18446744073709551616 := by omega
        have hUx : (v : Int) + x % 128 * 16384 = ((v + (x.toNat % 128) * 16384 : Nat) : Int) := by omega
        have HUX := Lib.hid hUx
        clear hUx
        by_cases h1 : x < 128
        · skip
          have HRD : Hid (readR 0 0 l = some (v + (x.toNat % 128) * 16384, 2 + 1)) := by
            show readR 0 0 l = _
            rw [HV2.out.2, readR, if_neg (by omega), if_neg (by omega), if_pos h1]
          go_upto_region 9 with fail
          rw [HUX.out]
          clear HUX HV2
          generalize v + (x.toNat % 128) * 16384 = U at *
          have HUR := Lib.hid (unzig_range U hU)
          by_cases hodd : U % 2 = 0
          · have hmod : ((U : Int) % 2 == 1) = false := by simp; omega
            go_wp2_with fail
            rw [show ((U : Int) / 2) = unzig U from by have := half_even U hodd; omega]
            have HTR : Hid (∀ len, len = (numOf (unzig U)).length → takeR l = if len = 2 + 1 then (unzig U, 2 + 1) else (0, 0)) := fun len h => take_end HB.out HRD.out h (z := 0)
            clear HRD hodd hmod
            generalize unzig U = z at *
            refine (num_any z w HUR.out).mono ?_
            rintro e w2 ⟨a3, c3, g3, rfl, ho3, hg3, hc3⟩
            have HC3 := Lib.hid hc3
            have hnl := numOf_length z
            have HTR2 := Lib.hid (HTR.out _ rfl)
            simp only [Nat.zero_add]
            clear ho3 hg3 hc3 HTR
            generalize (numOf z).length = len at *
            by_cases hk : len = 2 + 1
            · have HT3 : Hid (takeR l = (z, 2 + 1)) := by show _ = _; rw [HTR2.out, if_pos hk]
              subst hk
              clear HTR2
              go_wp2_with fail
              go_ret2
              unfold TakePost
              rw [HT3.out]
              exact ⟨rfl, HC3.out.mono (fun _ _ h => by cases h)⟩
            · have HT3 : Hid (takeR l = (0, 0)) := by show _ = _; rw [HTR2.out, if_neg hk]
              clear HTR2
              have hk1 : ((len : Int) == 3) = false := by simp; omega
              have hk2 : ((len : Int) != 3) = true := by simp; omega
              go_wp2_with fail
              go_ret2
              unfold TakePost
              rw [HT3.out]
              exact ⟨rfl, HC3.out.mono (fun _ _ h => by cases h)⟩
          · have hmod : ((U : Int) % 2 == 1) = true := by simp; omega
            go_wp2_with fail
            rw [show -((U : Int) / 2) - 1 = unzig U from by have := half_odd U hodd; omega]
            have HTR : Hid (∀ len, len = (numOf (unzig U)).length → takeR l = if len = 2 + 1 then (unzig U, 2 + 1) else (0, 0)) := fun len h => take_end HB.out HRD.out h (z := 0)
            clear HRD hodd hmod
            generalize unzig U = z at *
            refine (num_any z w HUR.out).mono ?_
            rintro e w2 ⟨a3, c3, g3, rfl, ho3, hg3, hc3⟩
            have HC3 := Lib.hid hc3
            have hnl := numOf_length z
            have HTR2 := Lib.hid (HTR.out _ rfl)
            simp only [Nat.zero_add]
            clear ho3 hg3 hc3 HTR
            generalize (numOf z).length = len at *
            by_cases hk : len = 2 + 1
            · have HT3 : Hid (takeR l = (z, 2 + 1)) := by show _ = _; rw [HTR2.out, if_pos hk]
              subst hk
              clear HTR2
              go_wp2_with fail
              go_ret2
              unfold TakePost
              rw [HT3.out]
              exact ⟨rfl, HC3.out.mono (fun _ _ h => by cases h)⟩
            · have HT3 : Hid (takeR l = (0, 0)) := by show _ = _; rw [HTR2.out, if_neg hk]
              clear HTR2
              have hk1 : ((len : Int) == 3) = false := by simp; omega
              have hk2 : ((len : Int) != 3) = true := by simp; omega
              go_wp2_with fail
              go_ret2
              unfold TakePost
              rw [HT3.out]
              exact ⟨rfl, HC3.out.mono (fun _ _ h => by cases h)⟩
        · have HRD : Hid (v + (x.toNat % 128) * 16384 < 2 ^ (7 * (2 + 1)) ∧ readR 0 0 l = readR (2 + 1) (v + (x.toNat % 128) * 16384) (l.drop (2 + 1))) := by
            refine ⟨Nat.lt_of_lt_of_eq (m := 2097152) (by omega) (by decide), ?_⟩
            rw [HV2.out.2, readR, if_neg (by omega), if_neg (by omega), if_neg h1]
          go_upto_region 7 with fail
          rw [HUX.out]
          clear HUX HV2
          generalize v + (x.toNat % 128) * 16384 = U at *
          go_wp2_with fail
          go_round
          case rel => exact ⟨2 + 1, U, rfl, by go_num, by omega, by omega, HRD⟩
          case measure => simp [intOf]; omega
      · have hv : v < 2097152 := Nat.lt_of_lt_of_eq HV2.out.1 (by decide)
        have hU : v + (x.toNat % 128) * 2097152 < 18446744073709551616 := by omega
        have hUx : (v : Int) + x % 128 * 2097152 = ((v + (x.toNat % 128) * 2097152 : Nat) : Int) := by omega
        have HUX := Lib.hid hUx
        clear hUx
        by_cases h1 : x < 128
        · skip
          have HRD : Hid (readR 0 0 l = some (v + (x.toNat % 128) * 2097152, 3 + 1)) := by
            show readR 0 0 l = _
            rw [HV2.out.2, readR, if_neg (by omega), if_neg (by omega), if_pos h1]
          go_upto_region 9 with fail
          rw [HUX.out]
          clear HUX HV2
          generalize v + (x.toNat % 128) * 2097152 = U at *
          have HUR := Lib.hid (unzig_range U hU)
          by_cases hodd : U % 2 = 0
          · have hmod : ((U : Int) % 2 == 1) = false := by simp; omega
            go_wp2_with fail
            rw [show ((U : Int) / 2) = unzig U from by have := half_even U hodd; omega]
            have HTR : Hid (∀ len, len = (numOf (unzig U)).length → takeR l = if len = 3 + 1 then (unzig U, 3 + 1) else (0, 0)) := fun len h => take_end HB.out HRD.out h (z := 0)
            clear HRD hodd hmod
            generalize unzig U = z at *
            refine (num_any z w HUR.out).mono ?_
            rintro e w2 ⟨a3, c3, g3, rfl, ho3, hg3, hc3⟩
            have HC3 := Lib.hid hc3
            have hnl := numOf_length z
            have HTR2 := Lib.hid (HTR.out _ rfl)
            simp only [Nat.zero_add]
            clear ho3 hg3 hc3 HTR
            generalize (numOf z).length = len at *
            by_cases hk : len = 3 + 1
            · have HT3 : Hid (takeR l = (z, 3 + 1)) := by show _ = _; rw [HTR2.out, if_pos hk]
              subst hk
              clear HTR2
              go_wp2_with fail
              go_ret2
              unfold TakePost
              rw [HT3.out]
              exact ⟨rfl, HC3.out.mono (fun _ _ h => by cases h)⟩
            · have HT3 : Hid (takeR l = (0, 0)) := by show _ = _; rw [HTR2.out, if_neg hk]
              clear HTR2
              have hk1 : ((len : Int) == 4) = false := by simp; omega
              have hk2 : ((len : Int) != 4) = true := by simp; omega
              go_wp2_with fail
              go_ret2
              unfold TakePost
              rw [HT3.out]
              exact ⟨rfl, HC3.out.mono (fun _ _ h => by cases h)⟩
          · have hmod : ((U : Int) % 2 == 1) = true := by simp; omega
            go_wp2_with fail
            rw [show -((U : Int) / 2) - 1 = unzig U from by have := half_odd U hodd; omega]
            have HTR : Hid (∀ len, len = (numOf (unzig U)).length → takeR l = if len = 3 + 1 then (unzig U, 3 + 1) else (0, 0)) := fun len h => take_end HB.out HRD.out h (z := 0)
            clear HRD hodd hmod
            generalize unzig U = z at *
            refine (num_any z w HUR.out).mono ?_
            rintro e w2 ⟨a3, c3, g3, rfl, ho3, hg3, hc3⟩
            have HC3 := Lib.hid hc3
            have hnl := numOf_length z
            have HTR2 := Lib.hid (HTR.out _ rfl)
            simp only [Nat.zero_add]
            clear ho3 hg3 hc3 HTR
            generalize (numOf z).length = len at *
            by_cases hk : len = 3 + 1
            · have HT3 : Hid (takeR l = (z, 3 + 1)) := by show _ = _; rw [HTR2.out, if_pos hk]
              subst hk
              clear HTR2
              go_wp2_with fail
              go_ret2
              unfold TakePost
              rw [HT3.out]
              exact ⟨rfl, HC3.out.mono (fun _ _ h => by cases h)⟩
            · have HT3 : Hid (takeR l = (0, 0)) := by show _ = _; rw [HTR2.out, if_neg hk]
              clear HTR2
              have hk1 : ((len : Int) == 4) = false := by simp; omega
              have hk2 : ((len : Int) != 4) = true := by simp; omega
              go_wp2_with fail
              go_ret2
              unfold TakePost
              rw [HT3.out]
              exact ⟨rfl, HC3.out.mono (fun _ _ h => by cases h)⟩
        · have HRD : Hid (v + (x.toNat % 128) * 2097152 < 2 ^ (7 * (3 + 1)) ∧ readR 0 0 l = readR (3 + 1) (v + (x.toNat % 128) * 2097152) (l.drop (3 + 1))) := by
            refine ⟨Nat.lt_of_lt_of_eq (m := 268435456) (by omega) (by decide), ?_⟩
            rw [HV2.out.2, readR, if_neg (by omega), if_neg (by omega), if_neg h1]
          go_upto_region 7 with fail
          rw [HUX.out]
          clear HUX HV2
          generalize v + (x.toNat % 128) * 2097152 = U at *
          go_wp2_with fail
          go_round
          case rel => exact ⟨3 + 1, U, rfl, by go_num, by omega, by omega, HRD⟩
          case measure => simp [intOf]; omega
      · have hv : v < 268435456 := Nat.lt_of_lt_of_eq HV2.out.1 (by decide)
        have hU : v + (x.toNat % 128) * 268435456 < 18446744073709551616 := by omega
        have hUx : (v : Int) + x % 128 * 268435456 = ((v + (x.toNat % 128) * 268435456 : Nat) : Int) := by omega
        have HUX := Lib.hid hUx
        clear hUx
        by_cases h1 : x < 128
        · skip
          have HRD : Hid (readR 0 0 l = some (v + (x.toNat % 128) * 268435456, 4 + 1)) := by
            show readR 0 0 l = _
            rw [HV2.out.2, readR, if_neg (by omega), if_neg (by omega), if_pos h1]
          go_upto_region 9 with fail
          rw [HUX.out]
          clear HUX HV2
          generalize v + (x.toNat % 128) * 268435456 = U at *
          have HUR := Lib.hid (unzig_range U hU)
          by_cases hodd : U % 2 = 0
          · have hmod : ((U : Int) % 2 == 1) = false := by simp; omega
            go_wp2_with fail
            rw [show ((U : Int) / 2) = unzig U from by have := half_even U hodd; omega]
            have HTR : Hid (∀ len, len = (numOf (unzig U)).length → takeR l = if len = 4 + 1 then (unzig U, 4 + 1) else (0, 0)) := fun len h => take_end HB.out HRD.out h (z := 0)
            clear HRD hodd hmod
            generalize unzig U = z at *
            refine (num_any z w HUR.out).mono ?_
            rintro e w2 ⟨a3, c3, g3, rfl, ho3, hg3, hc3⟩
            have HC3 := Lib.hid hc3
            have hnl := numOf_length z
            have HTR2 := Lib.hid (HTR.out _ rfl)
            simp only [Nat.zero_add]
            clear ho3 hg3 hc3 HTR
            generalize (numOf z).length = len at *
            by_cases hk : len = 4 + 1
            · have HT3 : Hid (takeR l = (z, 4 + 1)) := by show _ = _; rw [HTR2.out, if_pos hk]
              subst hk
              clear HTR2
              go_wp2_with fail
              go_ret2
              unfold TakePost
              rw [HT3.out]
              exact ⟨rfl, HC3.out.mono (fun _ _ h => by cases h)⟩
            · have HT3 : Hid (takeR l = (0, 0)) := by show _ = _; rw [HTR2.out, if_neg hk]
              clear HTR2
              have hk1 : ((len : Int) == 5) = false := by simp; omega
              have hk2 : ((len : Int) != 5) = true := by simp; omega
              go_wp2_with fail
              go_ret2
              unfold TakePost
              rw [HT3.out]
              exact ⟨rfl, HC3.out.mono (fun _ _ h => by cases h)⟩
          · have hmod : ((U : Int) % 2 == 1) = true := by simp; omega
            go_wp2_with fail
            rw [show -((U : Int) / 2) - 1 = unzig U from by have := half_odd U hodd; omega]
            have HTR : Hid (∀ len, len = (numOf (unzig U)).length → takeR l = if len = 4 + 1 then (unzig U, 4 + 1) else (0, 0)) := fun len h => take_end HB.out HRD.out h (z := 0)
            clear HRD hodd hmod
            generalize unzig U = z at *
            refine (num_any z w HUR.out).mono ?_
            rintro e w2 ⟨a3, c3, g3, rfl, ho3, hg3, hc3⟩
            have HC3 := Lib.hid hc3
            have hnl := numOf_length z
            have HTR2 := Lib.hid (HTR.out _ rfl)
            simp only [Nat.zero_add]
            clear ho3 hg3 hc3 HTR
            generalize (numOf z).length = len at *
            by_cases hk : len = 4 + 1
            · have HT3 : Hid (takeR l = (z, 4 + 1)) := by show _ = _; rw [HTR2.out, if_pos hk]
              subst hk
              clear HTR2
              go_wp2_with fail
              go_ret2
              unfold TakePost
              rw [HT3.out]
              exact ⟨rfl, HC3.out.mono (fun _ _ h => by cases h)⟩
            · have HT3 : Hid (takeR l = (0, 0)) := by show _ = _; rw [HTR2.out, if_neg hk]
              clear HTR2
              have hk1 : ((len : Int) == 5) = false := by simp; omega
              have hk2 : ((len : Int) != 5) = true := by simp; omega
              go_wp2_with fail
              go_ret2
              unfold TakePost
              rw [HT3.out]
              exact ⟨rfl, HC3.out.mono (fun _ _ h => by cases h)⟩
        · have HRD : Hid (v + (x.toNat % 128) * 268435456 < 2 ^ (7 * (4 + 1)) ∧ readR 0 0 l = readR (4 + 1) (v + (x.toNat % 128) * 268435456) (l.drop (4 + 1))) := by
            refine ⟨Nat.lt_of_lt_of_eq (m := 34359738368) (by omega) (by decide), ?_⟩
            rw [HV2.out.2, readR, if_neg (by omega), if_neg (by omega), if_neg h1]
          go_upto_region 7 with fail
          rw [HUX.out]
          clear HUX HV2
          generalize v + (x.toNat % 128) * 268435456 = U at *
          go_wp2_with fail
          go_round
          case rel => exact ⟨4 + 1, U, rfl, by go_num, by omega, by omega, HRD⟩
          case measure => simp [intOf]; omega
      · have hv : v < 34359738368 := Nat.lt_of_lt_of_eq HV2.out.1 (by decide)
        have hU : v + (x.toNat % 128) * 34359738368 < 18446744073709551616 := by omega
        have hUx : (v : Int) + x % 128 * 34359738368 = ((v + (x.toNat % 128) * 34359738368 : Nat) : Int) := by omega
        have HUX := Lib.hid hUx
        clear hUx
        by_cases h1 : x < 128
        · skip
          have HRD : Hid (readR 0 0 l = some (v + (x.toNat % 128) * 34359738368, 5 + 1)) := by
            show readR 0 0 l = _
            rw [HV2.out.2, readR, if_neg (by omega), if_neg (by omega), if_pos h1]
          go_upto_region 9 with fail
          rw [HUX.out]
          clear HUX HV2
          generalize v + (x.toNat % 128) * 34359738368 = U at *
          have HUR := Lib.hid (unzig_range U hU)
          by_cases hodd : U % 2 = 0
          · have hmod : ((U : Int) % 2 == 1) = false := by simp; omega
            go_wp2_with fail
            rw [show ((U : Int) / 2) = unzig U from by have := half_even U hodd; omega]
            have HTR : Hid (∀ len, len = (numOf (unzig U)).length → takeR l = if len = 5 + 1 then (unzig U, 5 + 1) else (0, 0)) := fun len h => take_end HB.out HRD.out h (z := 0)
            clear HRD hodd hmod
            generalize unzig U = z at *
            refine (num_any z w HUR.out).mono ?_
            rintro e w2 ⟨a3, c3, g3, rfl, ho3, hg3, hc3⟩
            have HC3 := Lib.hid hc3
            have hnl := numOf_length z
            have HTR2 := Lib.hid (HTR.out _ rfl)
            simp only [Nat.zero_add]
            clear ho3 hg3 hc3 HTR
            generalize (numOf z).length = len at *
            by_cases hk : len = 5 + 1
            · have HT3 : Hid (takeR l = (z, 5 + 1)) := by show _ = _; rw [HTR2.out, if_pos hk]
              subst hk
              clear HTR2
              go_wp2_with fail
              go_ret2
              unfold TakePost
              rw [HT3.out]
              exact ⟨rfl, HC3.out.mono (fun _ _ h => by cases h)⟩
            · have HT3 : Hid (takeR l = (0, 0)) := by show _ = _; rw [HTR2.out, if_neg hk]
              clear HTR2
              have hk1 : ((len : Int) == 6) = false := by simp; omega
              have hk2 : ((len : Int) != 6) = true := by simp; omega
              go_wp2_with fail
              go_ret2
              unfold TakePost
              rw [HT3.out]
              exact ⟨rfl, HC3.out.mono (fun _ _ h => by cases h)⟩
          · have hmod : ((U : Int) % 2 == 1) = true := by simp; omega
            go_wp2_with fail
            rw [show -((U : Int) / 2) - 1 = unzig U from by have := half_odd U hodd; omega]
            have HTR : Hid (∀ len, len = (numOf (unzig U)).length → takeR l = if len = 5 + 1 then (unzig U, 5 + 1) else (0, 0)) := fun len h => take_end HB.out HRD.out h (z := 0)
            clear HRD hodd hmod
            generalize unzig U = z at *
            refine (num_any z w HUR.out).mono ?_
            rintro e w2 ⟨a3, c3, g3, rfl, ho3, hg3, hc3⟩
            have HC3 := Lib.hid hc3
            have hnl := numOf_length z
            have HTR2 := Lib.hid (HTR.out _ rfl)
            simp only [Nat.zero_add]
            clear ho3 hg3 hc3 HTR
            generalize (numOf z).length = len at *
            by_cases hk : len = 5 + 1
            · have HT3 : Hid (takeR l = (z, 5 + 1)) := by show _ = _; rw [HTR2.out, if_pos hk]
              subst hk
              clear HTR2
              go_wp2_with fail
              go_ret2
              unfold TakePost
              rw [HT3.out]
              exact ⟨rfl, HC3.out.mono (fun _ _ h => by cases h)⟩
            · have HT3 : Hid (takeR l = (0, 0)) := by show _ = _; rw [HTR2.out, if_neg hk]
              clear HTR2
              have hk1 : ((len : Int) == 6) = false := by simp; omega
              have hk2 : ((len : Int) != 6) = true := by simp; omega
              go_wp2_with fail
              go_ret2
              unfold TakePost
              rw [HT3.out]
              exact ⟨rfl, HC3.out.mono (fun _ _ h => by cases h)⟩
        · have HRD : Hid (v + (x.toNat % 128) * 34359738368 < 2 ^ (7 * (5 + 1)) ∧ readR 0 0 l = readR (5 + 1) (v + (x.toNat % 128) * 34359738368) (l.drop (5 + 1))) := by
            refine ⟨Nat.lt_of_lt_of_eq (m := 4398046511104) (by omega) (by decide), ?_⟩
            rw [HV2.out.2, readR, if_neg (by omega), if_neg (by omega), if_neg h1]
          go_upto_region 7 with fail
          rw [HUX.out]
          clear HUX HV2
          generalize v + (x.toNat % 128) * 34359738368 = U at *
          go_wp2_with fail
          go_round
          case rel => exact ⟨5 + 1, U, rfl, by go_num, by omega, by omega, HRD⟩
          case measure => simp [intOf]; omega
      · have hv : v < 4398046511104 := Nat.lt_of_lt_of_eq HV2.out.1 (by decide)
        have hU : v + (x.toNat % 128) * 4398046511104 < 18446744073709551616 := by omega
        have hUx : (v : Int) + x % 128 * 4398046511104 = ((v + (x.toNat % 128) * 4398046511104 : Nat) : Int) := by omega
        have HUX := Lib.hid hUx
        clear hUx
        by_cases h1 : x < 128
        · skip
          have HRD : Hid (readR 0 0 l = some (v + (x.toNat % 128) * 4398046511104, 6 + 1)) := by
            show readR 0 0 l = _
            rw [HV2.out.2, readR, if_neg (by omega), if_neg (by omega), if_pos h1]
          go_upto_region 9 with fail
          rw [HUX.out]
          clear HUX HV2
          generalize v + (x.toNat % 128) * 4398046511104 = U at *
          have HUR := Lib.hid (unzig_range U hU)
          by_cases hodd : U % 2 = 0
          · have hmod : ((U : Int) % 2 == 1) = false := by simp; omega
            go_wp2_with fail
            rw [show ((U : Int) / 2) = unzig U from by have := half_even U hodd; omega]
            have HTR : Hid (∀ len, len = (numOf (unzig U)).length → takeR l = if len = 6 + 1 then (unzig U, 6 + 1) else (0, 0)) := fun len h => take_end HB.out HRD.out h (z := 0)
            clear HRD hodd hmod
            generalize unzig U = z at *
            refine (num_any z w HUR.out).mono ?_
            rintro e w2 ⟨a3, c3, g3, rfl, ho3, hg3, hc3⟩
            have HC3 := Lib.hid hc3
            have hnl := numOf_length z
            have HTR2 := Lib.hid (HTR.out _ rfl)
            simp only [Nat.zero_add]
            clear ho3 hg3 hc3 HTR
            generalize (numOf z).length = len at *
            by_cases hk : len = 6 + 1
            · have HT3 : Hid (takeR l = (z, 6 + 1)) := by show _ = _; rw [HTR2.out, if_pos hk]
              subst hk
              clear HTR2
              go_wp2_with fail
              go_ret2
              unfold TakePost
              rw [HT3.out]
              exact ⟨rfl, HC3.out.mono (fun _ _ h => by cases h)⟩
            · have HT3 : Hid (takeR l = (0, 0)) := by show _ = _; rw [HTR2.out, if_neg hk]
              clear HTR2
              have hk1 : ((len : Int) == 7) = false := by simp; omega
              have hk2 : ((len : Int) != 7) = true := by simp; omega
              go_wp2_with fail
              go_ret2
              unfold TakePost
              rw [HT3.out]
              exact ⟨rfl, HC3.out.mono (fun _ _ h => by cases h)⟩
          · have hmod : ((U : Int) % 2 == 1) = true := by simp; omega
            go_wp2_with fail
            rw [show -((U : Int) / 2) - 1 = unzig U from by have := half_odd U hodd; omega]
            have HTR : Hid (∀ len, len = (numOf (unzig U)).length → takeR l = if len = 6 + 1 then (unzig U, 6 + 1) else (0, 0)) := fun len h => take_end HB.out HRD.out h (z := 0)
            clear HRD hodd hmod
            generalize unzig U = z at *
            refine (num_any z w HUR.out).mono ?_
            rintro e w2 ⟨a3, c3, g3, rfl, ho3, hg3, hc3⟩
            have HC3 := Lib.hid hc3
            have hnl := numOf_length z
            have HTR2 := Lib.hid (HTR.out _ rfl)
            simp only [Nat.zero_add]
            clear ho3 hg3 hc3 HTR
            generalize (numOf z).length = len at *
            by_cases hk : len = 6 + 1
            · have HT3 : Hid (takeR l = (z, 6 + 1)) := by show _ = _; rw [HTR2.out, if_pos hk]
              subst hk
              clear HTR2
              go_wp2_with fail
              go_ret2
              unfold TakePost
              rw [HT3.out]
              exact ⟨rfl, HC3.out.mono (fun _ _ h => by cases h)⟩
            · have HT3 : Hid (takeR l = (0, 0)) := by show _ = _; rw [HTR2.out, if_neg hk]
              clear HTR2
              have hk1 : ((len : Int) == 7) = false := by simp; omega
              have hk2 : ((len : Int) != 7) = true := by simp; omega
              go_wp2_with fail
              go_ret2
              unfold TakePost
              rw [HT3.out]
              exact ⟨rfl, HC3.out.mono (fun _ _ h => by cases h)⟩
        · have HRD : Hid (v + (x.toNat % 128) * 4398046511104 < 2 ^ (7 * (6 + 1)) ∧ readR 0 0 l = readR (6 + 1) (v + (x.toNat % 128) * 4398046511104) (l.drop (6 + 1))) := by
            refine ⟨Nat.lt_of_lt_of_eq (m := 562949953421312) (by omega) (by decide), ?_⟩
            rw [HV2.out.2, readR, if_neg (by omega), if_neg (by omega), if_neg h1]
          go_upto_region 7 with fail
          rw [HUX.out]
          clear HUX HV2
          generalize v + (x.toNat % 128) * 4398046511104 = U at *
          go_wp2_with fail
          go_round
          case rel => exact ⟨6 + 1, U, rfl, by go_num, by omega, by omega, HRD⟩
          case measure => simp [intOf]; omega
      · have hv : v < 562949953421312 := Nat.lt_of_lt_of_eq HV2.out.1 (by decide)
        have hU : v + (x.toNat % 128) * 562949953421312 < 18446744073709551616 := by omega
        have hUx : (v : Int) + x % 128 * 562949953421312 = ((v + (x.toNat % 128) * 562949953421312 : Nat) : Int) := by omega
        have HUX := Lib.hid hUx
        clear hUx
        by_cases h1 : x < 128
        · skip
          have HRD : Hid (readR 0 0 l = some (v + (x.toNat % 128) * 562949953421312, 7 + 1)) := by
            show readR 0 0 l = _
            rw [HV2.out.2, readR, if_neg (by omega), if_neg (by omega), if_pos h1]
          go_upto_region 9 with fail
          rw [HUX.out]
          clear HUX HV2
          generalize v + (x.toNat % 128) * 562949953421312 = U at *
          have HUR := Lib.hid (unzig_range U hU)
          by_cases hodd : U % 2 = 0
          · have hmod : ((U : Int) % 2 == 1) = false := by simp; omega
            go_wp2_with fail
            rw [show ((U : Int) / 2) = unzig U from by have := half_even U hodd; omega]
            have HTR : Hid (∀ len, len = (numOf (unzig U)).length → takeR l = if len = 7 + 1 then (unzig U, 7 + 1) else (0, 0)) := fun len h => take_end HB.out HRD.out h (z := 0)
            clear HRD hodd hmod
            generalize unzig U = z at *
            refine (num_any z w HUR.out).mono ?_
            rintro e w2 ⟨a3, c3, g3, rfl, ho3, hg3, hc3⟩
            have HC3 := Lib.hid hc3
            have hnl := numOf_length z
            have HTR2 := Lib.hid (HTR.out _ rfl)
            simp only [Nat.zero_add]
            clear ho3 hg3 hc3 HTR
            generalize (numOf z).length = len at *
            by_cases hk : len = 7 + 1
            · have HT3 : Hid (takeR l = (z, 7 + 1)) := by show _ = _; rw [HTR2.out, if_pos hk]
              subst hk
              clear HTR2
              go_wp2_with fail
              go_ret2
              unfold TakePost
              rw [HT3.out]
              exact ⟨rfl, HC3.out.mono (fun _ _ h => by cases h)⟩
            · have HT3 : Hid (takeR l = (0, 0)) := by show _ = _; rw [HTR2.out, if_neg hk]
              clear HTR2
              have hk1 : ((len : Int) == 8) = false := by simp; omega
              have hk2 : ((len : Int) != 8) = true := by simp; omega
              go_wp2_with fail
              go_ret2
              unfold TakePost
              rw [HT3.out]
              exact ⟨rfl, HC3.out.mono (fun _ _ h => by cases h)⟩
          · have hmod : ((U : Int) % 2 == 1) = true := by simp; omega
            go_wp2_with fail
            rw [show -((U : Int) / 2) - 1 = unzig U from by have := half_odd U hodd; omega]
            have HTR : Hid (∀ len, len = (numOf (unzig U)).length → takeR l = if len = 7 + 1 then (unzig U, 7 + 1) else (0, 0)) := fun len h => take_end HB.out HRD.out h (z := 0)
            clear HRD hodd hmod
            generalize unzig U = z at *
            refine (num_any z w HUR.out).mono ?_
            rintro e w2 ⟨a3, c3, g3, rfl, ho3, hg3, hc3⟩
            have HC3 := Lib.hid hc3
            have hnl := numOf_length z
            have HTR2 := Lib.hid (HTR.out _ rfl)
            simp only [Nat.zero_add]
            clear ho3 hg3 hc3 HTR
            generalize (numOf z).length = len at *
            by_cases hk : len = 7 + 1
            · have HT3 : Hid (takeR l = (z, 7 + 1)) := by show _ = _; rw [HTR2.out, if_pos hk]
              subst hk
              clear HTR2
              go_wp2_with fail
              go_ret2
              unfold TakePost
              rw [HT3.out]
              exact ⟨rfl, HC3.out.mono (fun _ _ h => by cases h)⟩
            · have HT3 : Hid (takeR l = (0, 0)) := by show _ = _; rw [HTR2.out, if_neg hk]
              clear HTR2
              have hk1 : ((len : Int) == 8) = false := by simp; omega
              have hk2 : ((len : Int) != 8) = true := by simp; omega
              go_wp2_with fail
              go_ret2
              unfold TakePost
              rw [HT3.out]
              exact ⟨rfl, HC3.out.mono (fun _ _ h => by cases h)⟩
        · have HRD : Hid (v + (x.toNat % 128) * 562949953421312 < 2 ^ (7 * (7 + 1)) ∧ readR 0 0 l = readR (7 + 1) (v + (x.toNat % 128) * 562949953421312) (l.drop (7 + 1))) := by
            refine ⟨Nat.lt_of_lt_of_eq (m := 72057594037927936) (by omega) (by decide), ?_⟩
            rw [HV2.out.2, readR, if_neg (by omega), if_neg (by omega), if_neg h1]
          go_upto_region 7 with fail
          rw [HUX.out]
          clear HUX HV2
          generalize v + (x.toNat % 128) * 562949953421312 = U at *
          go_wp2_with fail
          go_round
          case rel => exact ⟨7 + 1, U, rfl, by go_num, by omega, by omega, HRD⟩
          case measure => simp [intOf]; omega
      · have hv : v < 72057594037927936 := Nat.lt_of_lt_of_eq HV2.out.1 (by decide)
        have hU : v + (x.toNat % 128) * 72057594037927936 < 18446744073709551616 := by omega
        have hUx : (v : Int) + x % 128 * 72057594037927936 = ((v + (x.toNat % 128) * 72057594037927936 : Nat) : Int) := by omega
        have HUX := Lib.hid hUx
        clear hUx
        by_cases h1 : x < 128
        · skip
          have HRD : Hid (readR 0 0 l = some (v + (x.toNat % 128) * 72057594037927936, 8 + 1)) := by
            show readR 0 0 l = _
            rw [HV2.out.2, readR, if_neg (by omega), if_neg (by omega), if_pos h1]
          go_upto_region 9 with fail
          rw [HUX.out]
          clear HUX HV2
          generalize v + (x.toNat % 128) * 72057594037927936 = U at *
          have HUR := Lib.hid (unzig_range U hU)
          by_cases hodd : U % 2 = 0
          · have hmod : ((U : Int) % 2 == 1) = false := by simp; omega
            go_wp2_with fail
            rw [show ((U : Int) / 2) = unzig U from by have := half_even U hodd; omega]
            have HTR : Hid (∀ len, len = (numOf (unzig U)).length → takeR l = if len = 8 + 1 then (unzig U, 8 + 1) else (0, 0)) := fun len h => take_end HB.out HRD.out h (z := 0)
            clear HRD hodd hmod
            generalize unzig U = z at *
            refine (num_any z w HUR.out).mono ?_
            rintro e w2 ⟨a3, c3, g3, rfl, ho3, hg3, hc3⟩
            have HC3 := Lib.hid hc3
            have hnl := numOf_length z
            have HTR2 := Lib.hid (HTR.out _ rfl)
            simp only [Nat.zero_add]
            clear ho3 hg3 hc3 HTR
            generalize (numOf z).length = len at *
            by_cases hk : len = 8 + 1
            · have HT3 : Hid (takeR l = (z, 8 + 1)) := by show _ = _; rw [HTR2.out, if_pos hk]
              subst hk
              clear HTR2
              go_wp2_with fail
              go_ret2
              unfold TakePost
              rw [HT3.out]
              exact ⟨rfl, HC3.out.mono (fun _ _ h => by cases h)⟩
            · have HT3 : Hid (takeR l = (0, 0)) := by show _ = _; rw [HTR2.out, if_neg hk]
              clear HTR2
              have hk1 : ((len : Int) == 9) = false := by simp; omega
              have hk2 : ((len : Int) != 9) = true := by simp; omega
              go_wp2_with fail
              go_ret2
              unfold TakePost
              rw [HT3.out]
              exact ⟨rfl, HC3.out.mono (fun _ _ h => by cases h)⟩
          · have hmod : ((U : Int) % 2 == 1) = true := by simp; omega
            go_wp2_with fail
            rw [show -((U : Int) / 2) - 1 = unzig U from by have := half_odd U hodd; omega]
            have HTR : Hid (∀ len, len = (numOf (unzig U)).length → takeR l = if len = 8 + 1 then (unzig U, 8 + 1) else (0, 0)) := fun len h => take_end HB.out HRD.out h (z := 0)
            clear HRD hodd hmod
            generalize unzig U = z at *
            refine (num_any z w HUR.out).mono ?_
            rintro e w2 ⟨a3, c3, g3, rfl, ho3, hg3, hc3⟩
            have HC3 := Lib.hid hc3
            have hnl := numOf_length z
            have HTR2 := Lib.hid (HTR.out _ rfl)
            simp only [Nat.zero_add]
            clear ho3 hg3 hc3 HTR
            generalize (numOf z).length = len at *
            by_cases hk : len = 8 + 1
            · have HT3 : Hid (takeR l = (z, 8 + 1)) := by show _ = _; rw [HTR2.out, if_pos hk]
              subst hk
              clear HTR2
              go_wp2_with fail
              go_ret2
              unfold TakePost
              rw [HT3.out]
              exact ⟨rfl, HC3.out.mono (fun _ _ h => by cases h)⟩
            · have HT3 : Hid (takeR l = (0, 0)) := by show _ = _; rw [HTR2.out, if_neg hk]
              clear HTR2
              have hk1 : ((len : Int) == 9) = false := by simp; omega
              have hk2 : ((len : Int) != 9) = true := by simp; omega
              go_wp2_with fail
              go_ret2
              unfold TakePost
              rw [HT3.out]
              exact ⟨rfl, HC3.out.mono (fun _ _ h => by cases h)⟩
        · have HRD : Hid (v + (x.toNat % 128) * 72057594037927936 < 2 ^ (7 * (8 + 1)) ∧ readR 0 0 l = readR (8 + 1) (v + (x.toNat % 128) * 72057594037927936) (l.drop (8 + 1))) := by
            refine ⟨Nat.lt_of_lt_of_eq (m := 9223372036854775808) (by omega) (by decide), ?_⟩
            rw [HV2.out.2, readR, if_neg (by omega), if_neg (by omega), if_neg h1]
          go_upto_region 7 with fail
          rw [HUX.out]
          clear HUX HV2
          generalize v + (x.toNat % 128) * 72057594037927936 = U at *
          go_wp2_with fail
          go_round
          case rel => exact ⟨8 + 1, U, rfl, by go_num, by omega, by omega, HRD⟩
          case measure => simp [intOf]; omega
      · have hv : v < 9223372036854775808 := Nat.lt_of_lt_of_eq HV2.out.1 (by decide)
        by_cases h2 : 1 < x
        · have HT3 : Hid (takeR l = (0, 0)) := by
            show _ = _
            refine takeR_none ?_
            rw [HV2.out.2, readR, if_neg (by omega), if_pos ⟨rfl, h2⟩]
          clear HV2
          go_wp2_with fail
          go_ret2
          unfold TakePost
          rw [HT3.out]
          exact ⟨rfl, Chg.refl _ _⟩
        · have h1 : x < 128 := by omega
          have hU : v + (x.toNat % 128) * 9223372036854775808 < 18446744073709551616 := by omega
          have hUx : (v : Int) + x % 128 * 9223372036854775808 = ((v + (x.toNat % 128) * 9223372036854775808 : Nat) : Int) := by omega
          have HUX := Lib.hid hUx
          clear hUx
          have HRD : Hid (readR 0 0 l = some (v + (x.toNat % 128) * 9223372036854775808, 9 + 1)) := by
            show readR 0 0 l = _
            rw [HV2.out.2, readR, if_neg (by omega), if_neg (by omega), if_pos h1]
          go_upto_region 9 with fail
          rw [HUX.out]
          clear HUX HV2
          generalize v + (x.toNat % 128) * 9223372036854775808 = U at *
          have HUR := Lib.hid (unzig_range U hU)
          by_cases hodd : U % 2 = 0
          · have hmod : ((U : Int) % 2 == 1) = false := by simp; omega
            go_wp2_with fail
            rw [show ((U : Int) / 2) = unzig U from by have := half_even U hodd; omega]
            have HTR : Hid (∀ len, len = (numOf (unzig U)).length → takeR l = if len = 9 + 1 then (unzig U, 9 + 1) else (0, 0)) := fun len h => take_end HB.out HRD.out h (z := 0)
            clear HRD hodd hmod
            generalize unzig U = z at *
            refine (num_any z w HUR.out).mono ?_
            rintro e w2 ⟨a3, c3, g3, rfl, ho3, hg3, hc3⟩
            have HC3 := Lib.hid hc3
            have hnl := numOf_length z
            have HTR2 := Lib.hid (HTR.out _ rfl)
            simp only [Nat.zero_add]
            clear ho3 hg3 hc3 HTR
            generalize (numOf z).length = len at *
            by_cases hk : len = 9 + 1
            · have HT3 : Hid (takeR l = (z, 9 + 1)) := by show _ = _; rw [HTR2.out, if_pos hk]
              subst hk
              clear HTR2
              go_wp2_with fail
              go_ret2
              unfold TakePost
              rw [HT3.out]
              exact ⟨rfl, HC3.out.mono (fun _ _ h => by cases h)⟩
            · have HT3 : Hid (takeR l = (0, 0)) := by show _ = _; rw [HTR2.out, if_neg hk]
              clear HTR2
              have hk1 : ((len : Int) == 10) = false := by simp; omega
              have hk2 : ((len : Int) != 10) = true := by simp; omega
              go_wp2_with fail
              go_ret2
              unfold TakePost
              rw [HT3.out]
              exact ⟨rfl, HC3.out.mono (fun _ _ h => by cases h)⟩
          · have hmod : ((U : Int) % 2 == 1) = true := by simp; omega
            go_wp2_with fail
            rw [show -((U : Int) / 2) - 1 = unzig U from by have := half_odd U hodd; omega]
            have HTR : Hid (∀ len, len = (numOf (unzig U)).length → takeR l = if len = 9 + 1 then (unzig U, 9 + 1) else (0, 0)) := fun len h => take_end HB.out HRD.out h (z := 0)
            clear HRD hodd hmod
            generalize unzig U = z at *
            refine (num_any z w HUR.out).mono ?_
            rintro e w2 ⟨a3, c3, g3, rfl, ho3, hg3, hc3⟩
            have HC3 := Lib.hid hc3
            have hnl := numOf_length z
            have HTR2 := Lib.hid (HTR.out _ rfl)
            simp only [Nat.zero_add]
            clear ho3 hg3 hc3 HTR
            generalize (numOf z).length = len at *
            by_cases hk : len = 9 + 1
            · have HT3 : Hid (takeR l = (z, 9 + 1)) := by show _ = _; rw [HTR2.out, if_pos hk]
              subst hk
              clear HTR2
              go_wp2_with fail
              go_ret2
              unfold TakePost
              rw [HT3.out]
              exact ⟨rfl, HC3.out.mono (fun _ _ h => by cases h)⟩
            · have HT3 : Hid (takeR l = (0, 0)) := by show _ = _; rw [HTR2.out, if_neg hk]
              clear HTR2
              have hk1 : ((len : Int) == 10) = false := by simp; omega
              have hk2 : ((len : Int) != 10) = true := by simp; omega
              go_wp2_with fail
              go_ret2
              unfold TakePost
              rw [HT3.out]
              exact ⟨rfl, HC3.out.mono (fun _ _ h => by cases h)⟩
    · obtain rfl : j = n := by omega
      have hlt' : ¬ (j : Int) < j := by omega
      have HT3 : Hid (takeR l = (0, 0)) := by
        show _ = _
        refine takeR_none ?_
        rw [HV.out.2, List.drop_of_length_le (by omega)]
        cases j <;> rfl
      clear HV
      go_wp2_with fail
      go_ret2
      unfold TakePost
      rw [HT3.out]
      exact ⟨rfl, Chg.refl _ _⟩

end Go.Proofs.Ytabeolmfgmbfaaa
