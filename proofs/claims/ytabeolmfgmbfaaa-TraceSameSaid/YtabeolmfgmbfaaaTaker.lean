/- taker.num: a number is taken. -/
import Derived.Test.YtabeolmfgmbfaaaBits
import Derived.Test.YtabeolmfgmbfaaaTrBytes
namespace Go.Proofs.Ytabeolmfgmbfaaa
open Go.RowKit
set_option linter.unusedVariables false
set_option linter.unusedSimpArgs false

/-- Bytes from one of them on. -/
theorem Bys.at {w : World} {a : Option Addr} {n : Nat} {l : List Int} (h : Bys w a n l) {j : Nat} (hj : j < n) : ∃ b off, a = some ⟨b, off, none⟩ ∧ w.cell? ⟨b, off + j, none⟩ = some (.int .u8 (l.getD j 0)) := by
  cases ha : a with
  | none => have := h.2.1 ha; omega
  | some x =>
    have hl := h.1
    have hsp : x.spot = none := by
      have h0 := h.2.2 x ha 0 (by omega)
      have e : x.add 0 = x := by simp [Addr.add]
      rw [e] at h0
      simpa using World.cell?_spot h0
    have hc := h.2.2 x ha j (by omega)
    obtain ⟨b, off, sp⟩ := x
    obtain rfl : sp = none := hsp
    rw [Addr.add_lit] at hc
    exact ⟨b, off, rfl, hc⟩

theorem Bys.chgAt {F : Nat → Prop} {w w' : World} {a : Option Addr} {n : Nat} {l : List Int} (h : Bys w a n l) (k : Chg F w w') (hF : ∀ x, a = some x → ¬ F x.block) : Bys w' a n l := by
  refine ⟨h.1, h.2.1, fun x hx j hj => ?_⟩
  have hc := h.2.2 x hx j hj
  have hb := World.block_lt_of_cell? w (x.add j) hc
  have he : (x.add j).block = x.block := by unfold Addr.add; split <;> rfl
  rw [World.cell?_of_block (k.block _ hb (by rw [he]; exact hF x hx))]
  exact hc
theorem Bys.drop {w : World} {b off n : Nat} {l : List Int} (h : Bys w (some ⟨b, off, none⟩) n l) (k : Nat) (hk : k ≤ n) : Bys w (some ⟨b, off + k, none⟩) (n - k) (l.drop k) := by
  refine ⟨by rw [List.length_drop, h.1], fun e => (by cases e), fun x hx j hj => ?_⟩
  cases hx
  rw [List.length_drop, h.1] at hj
  have hc := h.2.2 _ rfl (k + j) (by rw [h.1]; omega)
  rw [Addr.add_lit] at hc ⊢
  rw [Nat.add_assoc, hc]
  simp [List.getD_eq_getElem?_getD]
theorem bys_none {w : World} (x : Addr) : Bys w (some x) 0 [] := ⟨rfl, fun _ => rfl, fun _ _ j hj => by simp at hj⟩

/-- What num answers, and what is left. -/
def NumPost (bt : Nat) (a : Option Addr) (n : Nat) (l : List Int) (ok : Bool) (w : World) (e : Ending) (w' : World) : Prop :=
  match readN 0 0 l with
  | some (v, k) => e = .returned (.int .i64 (unzig v)) ∧ ∃ (b' o' c' : Nat), (∀ x, a = some x → x.block = b') ∧ Blk w' bt #[.slice (some ⟨b', o', none⟩) (n - k) c', .bool ok] 112 ∧ Bys w' (some ⟨b', o', none⟩) (n - k) (l.drop k) ∧ n - k ≤ c' ∧ Chg (One bt) w w'
  | none => e = .returned (.int .i64 0) ∧ Blk w' bt #[.slice none 0 0, .bool false] 112 ∧ Chg (One bt) w w'

set_option maxHeartbeats 4000000 in
set_option maxRecDepth 100000 in
theorem num_take (bt : Nat) (a : Option Addr) (n c : Nat) (l : List Int) (ok : Bool) (w : World) (hb : Blk w bt #[.slice a n c, .bool ok] 112) (hl : Bys w a n l) (hr : ∀ x ∈ l, 0 ≤ x ∧ x ≤ 255) (hc : n ≤ c) (hab : 0 < n → ∀ x, a = some x → x.block ≠ bt) :
    Calls Try.prog 68 #[.pointer (some ⟨bt, 0, none⟩)] w (NumPost bt a n l ok w) := by
  have t0 : w.cell? ⟨bt, 0, none⟩ = some (.slice a n c) := hb.cell 0
  have f0 := hb.free 0
  have f1 := hb.free 1
  have t1 : w.cell? ⟨bt, 1, none⟩ = some (.bool ok) := hb.cell 1
  have HB := Lib.hid hb
  have HL := Lib.hid hl
  have HR := Lib.hid hr
  have hln := hl.1
  clear hb hl hr
  go_enter Try.func68, Try.ntmps68
  go_wp2_with fail
  go_loop [3, 4] (fun u i => ∃ (j v : Nat), u = .int .u64 v ∧ i = .int .i64 j ∧ j ≤ n ∧ j ≤ 9 ∧ Hid (v < 2 ^ (7 * j) ∧ readN 0 0 l = readN j v (l.drop j))) (fun _ i => n - (intOf i).toNat)
  case atStart => exact ⟨0, 0, rfl, rfl, by omega, by omega, by decide, rfl⟩
  case round =>
    obtain ⟨j, v, rfl, rfl, hj, hj9, HV⟩ := hrel
    by_cases hlt : j < n
    · obtain ⟨b, off, rfl, hcell⟩ := HL.out.at hlt
      have hd : l.drop j = l.getD j 0 :: l.drop (j + 1) := by
        rw [List.drop_eq_getElem_cons (by omega)]
        simp [List.getD_eq_getElem?_getD, show j < l.length by omega]
      have hx := HR.out (l.getD j 0) (by
        rw [List.getD_eq_getElem?_getD, List.getElem?_eq_getElem (by omega)]
        exact List.getElem_mem _)
      have HV2 : Hid (v < 2 ^ (7 * j) ∧ readN 0 0 l = readN j v (l.getD j 0 :: l.drop (j + 1))) := by rw [← hd]; exact HV.out
      clear hd HV
      generalize l.getD j 0 = x at *
      have hand := and127_u8 x hx
      have hjj : j = 0 ∨ j = 1 ∨ j = 2 ∨ j = 3 ∨ j = 4 ∨ j = 5 ∨ j = 6 ∨ j = 7 ∨ j = 8 ∨ j = 9 := by omega
      rcases hjj with rfl | rfl | rfl | rfl | rfl | rfl | rfl | rfl | rfl | rfl
      · rw [Nat.add_zero] at hcell
        have hv : v < 1 := Nat.lt_of_lt_of_eq HV2.out.1 (by decide)
        have hU : v + (x.toNat % 128) * 1 < 18446744073709551616 := by omega
        have hor := or_at v x 0 1 (by decide) HV2.out.1 hx hU
        rw [show ((1 : Nat) : Int) = 1 from rfl, Int.mul_one] at hor
        have HOR := Lib.hid hor
        clear hor
        by_cases h1 : x < 128
        · have HRD : Hid (readN 0 0 l = some (v + (x.toNat % 128) * 1, 0 + 1)) := by
            show readN 0 0 l = _
            rw [HV2.out.2, readN, if_neg (by omega), if_neg (by omega), if_pos h1, Nat.mod_eq_of_lt (show x.toNat < 128 by omega)]
          go_upto_region 9 with fail
          rw [HOR.out]
          clear HOR HV2 hand
          generalize v + (x.toNat % 128) * 1 = U at *
          have hun := unzig_bits U hU
          have h1u := and1_u64 U hU
          have HUN := Lib.hid hun
          clear hun
          by_cases hcj : c = 1
          · go_wp2_with fail
            go_ret
            unfold NumPost
            rw [HRD.out]
            refine ⟨ret1_int HUN.out, _, _, _, (fun x hx => by cases hx; rfl), HB.out.set 0 _, ?_, Nat.le_of_eq (by omega), Chg.set1 _ _ _ _⟩
            rw [show n - (0 + 1) = 0 from by omega, List.drop_of_length_le (by omega)]
            exact bys_none _
          · go_wp2_with fail
            go_ret
            unfold NumPost
            rw [HRD.out]
            exact ⟨ret1_int HUN.out, _, _, _, (fun x hx => by cases hx; rfl), HB.out.set 0 _, (HL.out.drop (0 + 1) (by omega)).chgAt (Chg.set1 w bt 0 _) (fun y hy e => by cases hy; exact hab (by omega) _ rfl e), by omega, Chg.set1 _ _ _ _⟩
        · have HRD : Hid (v + (x.toNat % 128) * 1 < 2 ^ (7 * (0 + 1)) ∧ readN 0 0 l = readN (0 + 1) (v + (x.toNat % 128) * 1) (l.drop (0 + 1))) := by
            refine ⟨Nat.lt_of_lt_of_eq (m := 128) (by omega) (by decide), ?_⟩
            rw [HV2.out.2, readN, if_neg (by omega), if_neg (by omega), if_neg h1]
          go_upto_region 4 with fail
          rw [HOR.out]
          clear HOR HV2 hand
          generalize v + (x.toNat % 128) * 1 = U at *
          go_wp2_with fail
          go_round
          case rel => exact ⟨0 + 1, U, rfl, by go_num, by omega, by omega, HRD⟩
          case measure => simp [intOf]; omega
      · by_cases h0 : x = 0
        · subst h0
          go_wp2_with fail
          go_ret
          have h := HV2.out.2
          rw [show readN 1 v (0 :: l.drop (1 + 1)) = none from by simp [readN]] at h
          unfold NumPost
          rw [h]
          exact ⟨rfl, (HB.out.set 1 _).set 0 _, ((Chg.refl (One bt) w).setCell (p := ⟨bt, 1, none⟩) (.inl rfl) _).setCell (p := ⟨bt, 0, none⟩) (.inl rfl) _⟩
        · have hx0 : (x == 0) = false := by simp [h0]
          have hv : v < 128 := Nat.lt_of_lt_of_eq HV2.out.1 (by decide)
          have hU : v + (x.toNat % 128) * 128 < 18446744073709551616 := by omega
          have hor := or_at v x 1 128 (by decide) HV2.out.1 hx hU
          rw [show ((128 : Nat) : Int) = 128 from rfl] at hor
          have HOR := Lib.hid hor
          clear hor
          by_cases h1 : x < 128
          · have HRD : Hid (readN 0 0 l = some (v + (x.toNat % 128) * 128, 1 + 1)) := by
              show readN 0 0 l = _
              rw [HV2.out.2, readN, if_neg (by omega), if_neg (by omega), if_pos h1, Nat.mod_eq_of_lt (show x.toNat < 128 by omega)]
            go_upto_region 9 with fail
            rw [HOR.out]
            clear HOR HV2 hand
            generalize v + (x.toNat % 128) * 128 = U at *
            have hun := unzig_bits U hU
            have h1u := and1_u64 U hU
            have HUN := Lib.hid hun
            clear hun
            by_cases hcj : c = 2
            · go_wp2_with fail
              go_ret
              unfold NumPost
              rw [HRD.out]
              refine ⟨ret1_int HUN.out, _, _, _, (fun x hx => by cases hx; rfl), HB.out.set 0 _, ?_, Nat.le_of_eq (by omega), Chg.set1 _ _ _ _⟩
              rw [show n - (1 + 1) = 0 from by omega, List.drop_of_length_le (by omega)]
              exact bys_none _
            · go_wp2_with fail
              go_ret
              unfold NumPost
              rw [HRD.out]
              exact ⟨ret1_int HUN.out, _, _, _, (fun x hx => by cases hx; rfl), HB.out.set 0 _, (HL.out.drop (1 + 1) (by omega)).chgAt (Chg.set1 w bt 0 _) (fun y hy e => by cases hy; exact hab (by omega) _ rfl e), by omega, Chg.set1 _ _ _ _⟩
          · have HRD : Hid (v + (x.toNat % 128) * 128 < 2 ^ (7 * (1 + 1)) ∧ readN 0 0 l = readN (1 + 1) (v + (x.toNat % 128) * 128) (l.drop (1 + 1))) := by
              refine ⟨Nat.lt_of_lt_of_eq (m := 16384) (by omega) (by decide), ?_⟩
              rw [HV2.out.2, readN, if_neg (by omega), if_neg (by omega), if_neg h1]
            go_upto_region 4 with fail
            rw [HOR.out]
            clear HOR HV2 hand
            generalize v + (x.toNat % 128) * 128 = U at *
            go_wp2_with fail
            go_round
            case rel => exact ⟨1 + 1, U, rfl, by go_num, by omega, by omega, HRD⟩
            case measure => simp [intOf]; omega
      · by_cases h0 : x = 0
        · subst h0
          go_wp2_with fail
          go_ret
          have h := HV2.out.2
          rw [show readN 2 v (0 :: l.drop (2 + 1)) = none from by simp [readN]] at h
          unfold NumPost
          rw [h]
          exact ⟨rfl, (HB.out.set 1 _).set 0 _, ((Chg.refl (One bt) w).setCell (p := ⟨bt, 1, none⟩) (.inl rfl) _).setCell (p := ⟨bt, 0, none⟩) (.inl rfl) _⟩
        · have hx0 : (x == 0) = false := by simp [h0]
          have hv : v < 16384 := Nat.lt_of_lt_of_eq HV2.out.1 (by decide)
          have hU : v + (x.toNat % 128) * 16384 < 18446744073709551616 := by omega
          have hor := or_at v x 2 16384 (by decide) HV2.out.1 hx hU
          rw [show ((16384 : Nat) : Int) = 16384 from rfl] at hor
          have HOR := Lib.hid hor
          clear hor
          by_cases h1 : x < 128
          · have HRD : Hid (readN 0 0 l = some (v + (x.toNat % 128) * 16384, 2 + 1)) := by
              show readN 0 0 l = _
              rw [HV2.out.2, readN, if_neg (by omega), if_neg (by omega), if_pos h1, Nat.mod_eq_of_lt (show x.toNat < 128 by omega)]
            go_upto_region 9 with fail
            rw [HOR.out]
            clear HOR HV2 hand
            generalize v + (x.toNat % 128) * 16384 = U at *
            have hun := unzig_bits U hU
            have h1u := and1_u64 U hU
            have HUN := Lib.hid hun
            clear hun
            by_cases hcj : c = 3
            · go_wp2_with fail
              go_ret
              unfold NumPost
              rw [HRD.out]
              refine ⟨ret1_int HUN.out, _, _, _, (fun x hx => by cases hx; rfl), HB.out.set 0 _, ?_, Nat.le_of_eq (by omega), Chg.set1 _ _ _ _⟩
              rw [show n - (2 + 1) = 0 from by omega, List.drop_of_length_le (by omega)]
              exact bys_none _
            · go_wp2_with fail
              go_ret
              unfold NumPost
              rw [HRD.out]
              exact ⟨ret1_int HUN.out, _, _, _, (fun x hx => by cases hx; rfl), HB.out.set 0 _, (HL.out.drop (2 + 1) (by omega)).chgAt (Chg.set1 w bt 0 _) (fun y hy e => by cases hy; exact hab (by omega) _ rfl e), by omega, Chg.set1 _ _ _ _⟩
          · have HRD : Hid (v + (x.toNat % 128) * 16384 < 2 ^ (7 * (2 + 1)) ∧ readN 0 0 l = readN (2 + 1) (v + (x.toNat % 128) * 16384) (l.drop (2 + 1))) := by
              refine ⟨Nat.lt_of_lt_of_eq (m := 2097152) (by omega) (by decide), ?_⟩
              rw [HV2.out.2, readN, if_neg (by omega), if_neg (by omega), if_neg h1]
            go_upto_region 4 with fail
            rw [HOR.out]
            clear HOR HV2 hand
            generalize v + (x.toNat % 128) * 16384 = U at *
            go_wp2_with fail
            go_round
            case rel => exact ⟨2 + 1, U, rfl, by go_num, by omega, by omega, HRD⟩
            case measure => simp [intOf]; omega
      · by_cases h0 : x = 0
        · subst h0
          go_wp2_with fail
          go_ret
          have h := HV2.out.2
          rw [show readN 3 v (0 :: l.drop (3 + 1)) = none from by simp [readN]] at h
          unfold NumPost
          rw [h]
          exact ⟨rfl, (HB.out.set 1 _).set 0 _, ((Chg.refl (One bt) w).setCell (p := ⟨bt, 1, none⟩) (.inl rfl) _).setCell (p := ⟨bt, 0, none⟩) (.inl rfl) _⟩
        · have hx0 : (x == 0) = false := by simp [h0]
          have hv : v < 2097152 := Nat.lt_of_lt_of_eq HV2.out.1 (by decide)
          have hU : v + (x.toNat % 128) * 2097152 < 18446744073709551616 := by omega
          have hor := or_at v x 3 2097152 (by decide) HV2.out.1 hx hU
          rw [show ((2097152 : Nat) : Int) = 2097152 from rfl] at hor
          have HOR := Lib.hid hor
          clear hor
          by_cases h1 : x < 128
          · have HRD : Hid (readN 0 0 l = some (v + (x.toNat % 128) * 2097152, 3 + 1)) := by
              show readN 0 0 l = _
              rw [HV2.out.2, readN, if_neg (by omega), if_neg (by omega), if_pos h1, Nat.mod_eq_of_lt (show x.toNat < 128 by omega)]
            go_upto_region 9 with fail
            rw [HOR.out]
            clear HOR HV2 hand
            generalize v + (x.toNat % 128) * 2097152 = U at *
            have hun := unzig_bits U hU
            have h1u := and1_u64 U hU
            have HUN := Lib.hid hun
            clear hun
            by_cases hcj : c = 4
            · go_wp2_with fail
              go_ret
              unfold NumPost
              rw [HRD.out]
              refine ⟨ret1_int HUN.out, _, _, _, (fun x hx => by cases hx; rfl), HB.out.set 0 _, ?_, Nat.le_of_eq (by omega), Chg.set1 _ _ _ _⟩
              rw [show n - (3 + 1) = 0 from by omega, List.drop_of_length_le (by omega)]
              exact bys_none _
            · go_wp2_with fail
              go_ret
              unfold NumPost
              rw [HRD.out]
              exact ⟨ret1_int HUN.out, _, _, _, (fun x hx => by cases hx; rfl), HB.out.set 0 _, (HL.out.drop (3 + 1) (by omega)).chgAt (Chg.set1 w bt 0 _) (fun y hy e => by cases hy; exact hab (by omega) _ rfl e), by omega, Chg.set1 _ _ _ _⟩
          · have HRD : Hid (v + (x.toNat % 128) * 2097152 < 2 ^ (7 * (3 + 1)) ∧ readN 0 0 l = readN (3 + 1) (v + (x.toNat % 128) * 2097152) (l.drop (3 + 1))) := by
              refine ⟨Nat.lt_of_lt_of_eq (m := 268435456) (by omega) (by decide), ?_⟩
              rw [HV2.out.2, readN, if_neg (by omega), if_neg (by omega), if_neg h1]
            go_upto_region 4 with fail
            rw [HOR.out]
            clear HOR HV2 hand
            generalize v + (x.toNat % 128) * 2097152 = U at *
            go_wp2_with fail
            go_round
            case rel => exact ⟨3 + 1, U, rfl, by go_num, by omega, by omega, HRD⟩
            case measure => simp [intOf]; omega
      · by_cases h0 : x = 0
        · subst h0
          go_wp2_with fail
          go_ret
          have h := HV2.out.2
          rw [show readN 4 v (0 :: l.drop (4 + 1)) = none from by simp [readN]] at h
          unfold NumPost
          rw [h]
          exact ⟨rfl, (HB.out.set 1 _).set 0 _, ((Chg.refl (One bt) w).setCell (p := ⟨bt, 1, none⟩) (.inl rfl) _).setCell (p := ⟨bt, 0, none⟩) (.inl rfl) _⟩
        · have hx0 : (x == 0) = false := by simp [h0]
          have hv : v < 268435456 := Nat.lt_of_lt_of_eq HV2.out.1 (by decide)
          have hU : v + (x.toNat % 128) * 268435456 < 18446744073709551616 := by omega
          have hor := or_at v x 4 268435456 (by decide) HV2.out.1 hx hU
          rw [show ((268435456 : Nat) : Int) = 268435456 from rfl] at hor
          have HOR := Lib.hid hor
          clear hor
          by_cases h1 : x < 128
          · have HRD : Hid (readN 0 0 l = some (v + (x.toNat % 128) * 268435456, 4 + 1)) := by
              show readN 0 0 l = _
              rw [HV2.out.2, readN, if_neg (by omega), if_neg (by omega), if_pos h1, Nat.mod_eq_of_lt (show x.toNat < 128 by omega)]
            go_upto_region 9 with fail
            rw [HOR.out]
            clear HOR HV2 hand
            generalize v + (x.toNat % 128) * 268435456 = U at *
            have hun := unzig_bits U hU
            have h1u := and1_u64 U hU
            have HUN := Lib.hid hun
            clear hun
            by_cases hcj : c = 5
            · go_wp2_with fail
              go_ret
              unfold NumPost
              rw [HRD.out]
              refine ⟨ret1_int HUN.out, _, _, _, (fun x hx => by cases hx; rfl), HB.out.set 0 _, ?_, Nat.le_of_eq (by omega), Chg.set1 _ _ _ _⟩
              rw [show n - (4 + 1) = 0 from by omega, List.drop_of_length_le (by omega)]
              exact bys_none _
            · go_wp2_with fail
              go_ret
              unfold NumPost
              rw [HRD.out]
              exact ⟨ret1_int HUN.out, _, _, _, (fun x hx => by cases hx; rfl), HB.out.set 0 _, (HL.out.drop (4 + 1) (by omega)).chgAt (Chg.set1 w bt 0 _) (fun y hy e => by cases hy; exact hab (by omega) _ rfl e), by omega, Chg.set1 _ _ _ _⟩
          · have HRD : Hid (v + (x.toNat % 128) * 268435456 < 2 ^ (7 * (4 + 1)) ∧ readN 0 0 l = readN (4 + 1) (v + (x.toNat % 128) * 268435456) (l.drop (4 + 1))) := by
              refine ⟨Nat.lt_of_lt_of_eq (m := 34359738368) (by omega) (by decide), ?_⟩
              rw [HV2.out.2, readN, if_neg (by omega), if_neg (by omega), if_neg h1]
            go_upto_region 4 with fail
            rw [HOR.out]
            clear HOR HV2 hand
            generalize v + (x.toNat % 128) * 268435456 = U at *
            go_wp2_with fail
            go_round
            case rel => exact ⟨4 + 1, U, rfl, by go_num, by omega, by omega, HRD⟩
            case measure => simp [intOf]; omega
      · by_cases h0 : x = 0
        · subst h0
          go_wp2_with fail
          go_ret
          have h := HV2.out.2
          rw [show readN 5 v (0 :: l.drop (5 + 1)) = none from by simp [readN]] at h
          unfold NumPost
          rw [h]
          exact ⟨rfl, (HB.out.set 1 _).set 0 _, ((Chg.refl (One bt) w).setCell (p := ⟨bt, 1, none⟩) (.inl rfl) _).setCell (p := ⟨bt, 0, none⟩) (.inl rfl) _⟩
        · have hx0 : (x == 0) = false := by simp [h0]
          have hv : v < 34359738368 := Nat.lt_of_lt_of_eq HV2.out.1 (by decide)
          have hU : v + (x.toNat % 128) * 34359738368 < 18446744073709551616 := by omega
          have hor := or_at v x 5 34359738368 (by decide) HV2.out.1 hx hU
          rw [show ((34359738368 : Nat) : Int) = 34359738368 from rfl] at hor
          have HOR := Lib.hid hor
          clear hor
          by_cases h1 : x < 128
          · have HRD : Hid (readN 0 0 l = some (v + (x.toNat % 128) * 34359738368, 5 + 1)) := by
              show readN 0 0 l = _
              rw [HV2.out.2, readN, if_neg (by omega), if_neg (by omega), if_pos h1, Nat.mod_eq_of_lt (show x.toNat < 128 by omega)]
            go_upto_region 9 with fail
            rw [HOR.out]
            clear HOR HV2 hand
            generalize v + (x.toNat % 128) * 34359738368 = U at *
            have hun := unzig_bits U hU
            have h1u := and1_u64 U hU
            have HUN := Lib.hid hun
            clear hun
            by_cases hcj : c = 6
            · go_wp2_with fail
              go_ret
              unfold NumPost
              rw [HRD.out]
              refine ⟨ret1_int HUN.out, _, _, _, (fun x hx => by cases hx; rfl), HB.out.set 0 _, ?_, Nat.le_of_eq (by omega), Chg.set1 _ _ _ _⟩
              rw [show n - (5 + 1) = 0 from by omega, List.drop_of_length_le (by omega)]
              exact bys_none _
            · go_wp2_with fail
              go_ret
              unfold NumPost
              rw [HRD.out]
              exact ⟨ret1_int HUN.out, _, _, _, (fun x hx => by cases hx; rfl), HB.out.set 0 _, (HL.out.drop (5 + 1) (by omega)).chgAt (Chg.set1 w bt 0 _) (fun y hy e => by cases hy; exact hab (by omega) _ rfl e), by omega, Chg.set1 _ _ _ _⟩
          · have HRD : Hid (v + (x.toNat % 128) * 34359738368 < 2 ^ (7 * (5 + 1)) ∧ readN 0 0 l = readN (5 + 1) (v + (x.toNat % 128) * 34359738368) (l.drop (5 + 1))) := by
              refine ⟨Nat.lt_of_lt_of_eq (m := 4398046511104) (by omega) (by decide), ?_⟩
              rw [HV2.out.2, readN, if_neg (by omega), if_neg (by omega), if_neg h1]
            go_upto_region 4 with fail
            rw [HOR.out]
            clear HOR HV2 hand
            generalize v + (x.toNat % 128) * 34359738368 = U at *
            go_wp2_with fail
            go_round
            case rel => exact ⟨5 + 1, U, rfl, by go_num, by omega, by omega, HRD⟩
            case measure => simp [intOf]; omega
      · by_cases h0 : x = 0
        · subst h0
          go_wp2_with fail
          go_ret
          have h := HV2.out.2
          rw [show readN 6 v (0 :: l.drop (6 + 1)) = none from by simp [readN]] at h
          unfold NumPost
          rw [h]
          exact ⟨rfl, (HB.out.set 1 _).set 0 _, ((Chg.refl (One bt) w).setCell (p := ⟨bt, 1, none⟩) (.inl rfl) _).setCell (p := ⟨bt, 0, none⟩) (.inl rfl) _⟩
        · have hx0 : (x == 0) = false := by simp [h0]
          have hv : v < 4398046511104 := Nat.lt_of_lt_of_eq HV2.out.1 (by decide)
          have hU : v + (x.toNat % 128) * 4398046511104 < 18446744073709551616 := by omega
          have hor := or_at v x 6 4398046511104 (by decide) HV2.out.1 hx hU
          rw [show ((4398046511104 : Nat) : Int) = 4398046511104 from rfl] at hor
          have HOR := Lib.hid hor
          clear hor
          by_cases h1 : x < 128
          · have HRD : Hid (readN 0 0 l = some (v + (x.toNat % 128) * 4398046511104, 6 + 1)) := by
              show readN 0 0 l = _
              rw [HV2.out.2, readN, if_neg (by omega), if_neg (by omega), if_pos h1, Nat.mod_eq_of_lt (show x.toNat < 128 by omega)]
            go_upto_region 9 with fail
            rw [HOR.out]
            clear HOR HV2 hand
            generalize v + (x.toNat % 128) * 4398046511104 = U at *
            have hun := unzig_bits U hU
            have h1u := and1_u64 U hU
            have HUN := Lib.hid hun
            clear hun
            by_cases hcj : c = 7
            · go_wp2_with fail
              go_ret
              unfold NumPost
              rw [HRD.out]
              refine ⟨ret1_int HUN.out, _, _, _, (fun x hx => by cases hx; rfl), HB.out.set 0 _, ?_, Nat.le_of_eq (by omega), Chg.set1 _ _ _ _⟩
              rw [show n - (6 + 1) = 0 from by omega, List.drop_of_length_le (by omega)]
              exact bys_none _
            · go_wp2_with fail
              go_ret
              unfold NumPost
              rw [HRD.out]
              exact ⟨ret1_int HUN.out, _, _, _, (fun x hx => by cases hx; rfl), HB.out.set 0 _, (HL.out.drop (6 + 1) (by omega)).chgAt (Chg.set1 w bt 0 _) (fun y hy e => by cases hy; exact hab (by omega) _ rfl e), by omega, Chg.set1 _ _ _ _⟩
          · have HRD : Hid (v + (x.toNat % 128) * 4398046511104 < 2 ^ (7 * (6 + 1)) ∧ readN 0 0 l = readN (6 + 1) (v + (x.toNat % 128) * 4398046511104) (l.drop (6 + 1))) := by
              refine ⟨Nat.lt_of_lt_of_eq (m := 562949953421312) (by omega) (by decide), ?_⟩
              rw [HV2.out.2, readN, if_neg (by omega), if_neg (by omega), if_neg h1]
            go_upto_region 4 with fail
            rw [HOR.out]
            clear HOR HV2 hand
            generalize v + (x.toNat % 128) * 4398046511104 = U at *
            go_wp2_with fail
            go_round
            case rel => exact ⟨6 + 1, U, rfl, by go_num, by omega, by omega, HRD⟩
            case measure => simp [intOf]; omega
      · by_cases h0 : x = 0
        · subst h0
          go_wp2_with fail
          go_ret
          have h := HV2.out.2
          rw [show readN 7 v (0 :: l.drop (7 + 1)) = none from by simp [readN]] at h
          unfold NumPost
          rw [h]
          exact ⟨rfl, (HB.out.set 1 _).set 0 _, ((Chg.refl (One bt) w).setCell (p := ⟨bt, 1, none⟩) (.inl rfl) _).setCell (p := ⟨bt, 0, none⟩) (.inl rfl) _⟩
        · have hx0 : (x == 0) = false := by simp [h0]
          have hv : v < 562949953421312 := Nat.lt_of_lt_of_eq HV2.out.1 (by decide)
          have hU : v + (x.toNat % 128) * 562949953421312 < 18446744073709551616 := by omega
          have hor := or_at v x 7 562949953421312 (by decide) HV2.out.1 hx hU
          rw [show ((562949953421312 : Nat) : Int) = 562949953421312 from rfl] at hor
          have HOR := Lib.hid hor
          clear hor
          by_cases h1 : x < 128
          · have HRD : Hid (readN 0 0 l = some (v + (x.toNat % 128) * 562949953421312, 7 + 1)) := by
              show readN 0 0 l = _
              rw [HV2.out.2, readN, if_neg (by omega), if_neg (by omega), if_pos h1, Nat.mod_eq_of_lt (show x.toNat < 128 by omega)]
            go_upto_region 9 with fail
            rw [HOR.out]
            clear HOR HV2 hand
            generalize v + (x.toNat % 128) * 562949953421312 = U at *
            have hun := unzig_bits U hU
            have h1u := and1_u64 U hU
            have HUN := Lib.hid hun
            clear hun
            by_cases hcj : c = 8
            · go_wp2_with fail
              go_ret
              unfold NumPost
              rw [HRD.out]
              refine ⟨ret1_int HUN.out, _, _, _, (fun x hx => by cases hx; rfl), HB.out.set 0 _, ?_, Nat.le_of_eq (by omega), Chg.set1 _ _ _ _⟩
              rw [show n - (7 + 1) = 0 from by omega, List.drop_of_length_le (by omega)]
              exact bys_none _
            · go_wp2_with fail
              go_ret
              unfold NumPost
              rw [HRD.out]
              exact ⟨ret1_int HUN.out, _, _, _, (fun x hx => by cases hx; rfl), HB.out.set 0 _, (HL.out.drop (7 + 1) (by omega)).chgAt (Chg.set1 w bt 0 _) (fun y hy e => by cases hy; exact hab (by omega) _ rfl e), by omega, Chg.set1 _ _ _ _⟩
          · have HRD : Hid (v + (x.toNat % 128) * 562949953421312 < 2 ^ (7 * (7 + 1)) ∧ readN 0 0 l = readN (7 + 1) (v + (x.toNat % 128) * 562949953421312) (l.drop (7 + 1))) := by
              refine ⟨Nat.lt_of_lt_of_eq (m := 72057594037927936) (by omega) (by decide), ?_⟩
              rw [HV2.out.2, readN, if_neg (by omega), if_neg (by omega), if_neg h1]
            go_upto_region 4 with fail
            rw [HOR.out]
            clear HOR HV2 hand
            generalize v + (x.toNat % 128) * 562949953421312 = U at *
            go_wp2_with fail
            go_round
            case rel => exact ⟨7 + 1, U, rfl, by go_num, by omega, by omega, HRD⟩
            case measure => simp [intOf]; omega
      · by_cases h0 : x = 0
        · subst h0
          go_wp2_with fail
          go_ret
          have h := HV2.out.2
          rw [show readN 8 v (0 :: l.drop (8 + 1)) = none from by simp [readN]] at h
          unfold NumPost
          rw [h]
          exact ⟨rfl, (HB.out.set 1 _).set 0 _, ((Chg.refl (One bt) w).setCell (p := ⟨bt, 1, none⟩) (.inl rfl) _).setCell (p := ⟨bt, 0, none⟩) (.inl rfl) _⟩
        · have hx0 : (x == 0) = false := by simp [h0]
          have hv : v < 72057594037927936 := Nat.lt_of_lt_of_eq HV2.out.1 (by decide)
          have hU : v + (x.toNat % 128) * 72057594037927936 < 18446744073709551616 := by omega
          have hor := or_at v x 8 72057594037927936 (by decide) HV2.out.1 hx hU
          rw [show ((72057594037927936 : Nat) : Int) = 72057594037927936 from rfl] at hor
          have HOR := Lib.hid hor
          clear hor
          by_cases h1 : x < 128
          · have HRD : Hid (readN 0 0 l = some (v + (x.toNat % 128) * 72057594037927936, 8 + 1)) := by
              show readN 0 0 l = _
              rw [HV2.out.2, readN, if_neg (by omega), if_neg (by omega), if_pos h1, Nat.mod_eq_of_lt (show x.toNat < 128 by omega)]
            go_upto_region 9 with fail
            rw [HOR.out]
            clear HOR HV2 hand
            generalize v + (x.toNat % 128) * 72057594037927936 = U at *
            have hun := unzig_bits U hU
            have h1u := and1_u64 U hU
            have HUN := Lib.hid hun
            clear hun
            by_cases hcj : c = 9
            · go_wp2_with fail
              go_ret
              unfold NumPost
              rw [HRD.out]
              refine ⟨ret1_int HUN.out, _, _, _, (fun x hx => by cases hx; rfl), HB.out.set 0 _, ?_, Nat.le_of_eq (by omega), Chg.set1 _ _ _ _⟩
              rw [show n - (8 + 1) = 0 from by omega, List.drop_of_length_le (by omega)]
              exact bys_none _
            · go_wp2_with fail
              go_ret
              unfold NumPost
              rw [HRD.out]
              exact ⟨ret1_int HUN.out, _, _, _, (fun x hx => by cases hx; rfl), HB.out.set 0 _, (HL.out.drop (8 + 1) (by omega)).chgAt (Chg.set1 w bt 0 _) (fun y hy e => by cases hy; exact hab (by omega) _ rfl e), by omega, Chg.set1 _ _ _ _⟩
          · have HRD : Hid (v + (x.toNat % 128) * 72057594037927936 < 2 ^ (7 * (8 + 1)) ∧ readN 0 0 l = readN (8 + 1) (v + (x.toNat % 128) * 72057594037927936) (l.drop (8 + 1))) := by
              refine ⟨Nat.lt_of_lt_of_eq (m := 9223372036854775808) (by omega) (by decide), ?_⟩
              rw [HV2.out.2, readN, if_neg (by omega), if_neg (by omega), if_neg h1]
            go_upto_region 4 with fail
            rw [HOR.out]
            clear HOR HV2 hand
            generalize v + (x.toNat % 128) * 72057594037927936 = U at *
            go_wp2_with fail
            go_round
            case rel => exact ⟨8 + 1, U, rfl, by go_num, by omega, by omega, HRD⟩
            case measure => simp [intOf]; omega
      · by_cases h2 : 1 < x
        · go_wp2_with fail
          go_ret
          have h := HV2.out.2
          rw [show readN 9 v (x :: l.drop (9 + 1)) = none from by simp [readN, h2]] at h
          unfold NumPost
          rw [h]
          exact ⟨rfl, (HB.out.set 1 _).set 0 _, ((Chg.refl (One bt) w).setCell (p := ⟨bt, 1, none⟩) (.inl rfl) _).setCell (p := ⟨bt, 0, none⟩) (.inl rfl) _⟩
        · by_cases h0 : x = 0
          · subst h0
            go_wp2_with fail
            go_ret
            have h := HV2.out.2
            rw [show readN 9 v (0 :: l.drop (9 + 1)) = none from by simp [readN]] at h
            unfold NumPost
            rw [h]
            exact ⟨rfl, (HB.out.set 1 _).set 0 _, ((Chg.refl (One bt) w).setCell (p := ⟨bt, 1, none⟩) (.inl rfl) _).setCell (p := ⟨bt, 0, none⟩) (.inl rfl) _⟩
          · obtain rfl : x = 1 := by omega
            have hv : v < 9223372036854775808 := Nat.lt_of_lt_of_eq HV2.out.1 (by decide)
            have hU : v + 9223372036854775808 < 18446744073709551616 := by omega
            have hor : bits .or .u64 (v : Int) 9223372036854775808 = ((v + 9223372036854775808 : Nat) : Int) := by
              have h := or_add_u64 v 1 63 HV2.out.1 (by omega)
              simpa using h
            have HOR := Lib.hid hor
            clear hor
            have HRD : Hid (readN 0 0 l = some (v + 9223372036854775808, 9 + 1)) := by
              show readN 0 0 l = _
              rw [HV2.out.2, readN, if_neg (by omega), if_neg (by omega), if_pos (by omega)]
              rfl
            go_upto_region 9 with fail
            rw [HOR.out]
            clear HOR HV2 hand
            generalize v + 9223372036854775808 = U at *
            have hun := unzig_bits U hU
            have h1u := and1_u64 U hU
            have HUN := Lib.hid hun
            clear hun
            by_cases hcj : c = 10
            · go_wp2_with fail
              go_ret
              unfold NumPost
              rw [HRD.out]
              refine ⟨ret1_int HUN.out, _, _, _, (fun x hx => by cases hx; rfl), HB.out.set 0 _, ?_, Nat.le_of_eq (by omega), Chg.set1 _ _ _ _⟩
              rw [show n - (9 + 1) = 0 from by omega, List.drop_of_length_le (by omega)]
              exact bys_none _
            · go_wp2_with fail
              go_ret
              unfold NumPost
              rw [HRD.out]
              exact ⟨ret1_int HUN.out, _, _, _, (fun x hx => by cases hx; rfl), HB.out.set 0 _, (HL.out.drop (9 + 1) (by omega)).chgAt (Chg.set1 w bt 0 _) (fun y hy e => by cases hy; exact hab (by omega) _ rfl e), by omega, Chg.set1 _ _ _ _⟩
    · obtain rfl : j = n := by omega
      have hlt' : ¬ (j : Int) < j := by omega
      go_wp2_with fail
      go_ret
      have h := HV.out.2
      rw [List.drop_of_length_le (by omega)] at h
      unfold NumPost
      rw [h]
      exact ⟨rfl, (HB.out.set 1 _).set 0 _, ((Chg.refl (One bt) w).setCell (p := ⟨bt, 1, none⟩) (.inl rfl) _).setCell (p := ⟨bt, 0, none⟩) (.inl rfl) _⟩

end Go.Proofs.Ytabeolmfgmbfaaa
