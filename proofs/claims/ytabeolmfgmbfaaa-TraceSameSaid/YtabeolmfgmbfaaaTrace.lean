/- Package trace, and its reference: one number's bytes. -/
import Derived.Test.YtabeolmfgmbfaaaMark
namespace Go.Proofs.Ytabeolmfgmbfaaa
open Go.RowKit
set_option linter.unusedVariables false
set_option linter.unusedSimpArgs false

/-- What is answered by what appends bytes: the row, and these behind it. -/
def BytesPost (w : World) (n : Nat) (xs : List Value) (g : Option Nat) (l : List Int) (e : Ending) (w' : World) : Prop :=
  ∃ (a : Option Addr) (cap : Nat) (g' : Option Nat), e = .returned (.slice a (n + l.length) cap) ∧ Own w' 5 1 (.slice a (n + l.length) cap) (n + l.length) (xs ++ bytesV l) g' ∧ (∀ k, g' = some k → g = some k ∨ w.heap.size ≤ k) ∧ Chg (Opt g) w w'

/-- One byte in a new block. -/
theorem src_byte (w : World) (x : Int) (cap : Nat) : Src (w.alloc (.cells #[.int .u8 x] 5)) 1 (.slice (some ⟨w.heap.size, 0, none⟩) 1 cap) 1 [.int .u8 x] := src_one (Blk.new _ _ _) rfl rfl

set_option maxHeartbeats 1000000 in
set_option maxRecDepth 100000 in
theorem put_any (a : Option Addr) (n cap : Nat) (xs : List Value) (g : Option Nat) (k : Int) (w : World) (hk : -9223372036854775808 ≤ k ∧ k ≤ 9223372036854775807) (ho : OwnM w 5 1 (.slice a n cap) n xs g) (hn : n ≤ 140737488351232) :
    Calls Try.prog 65 #[.slice a n cap, .int .i64 k] w (BytesPost w n xs g (numOf k)) := by
  obtain ⟨i0, hi, hz0, hz1, hz2⟩ := info_parts Try.info_byte
  have hz := zig_lt k hk
  have HO := Lib.hid ho
  have HL := Lib.hid (numOf_length k)
  clear ho
  have hzig : bits .xor .u64 (IntKind.u64.wrap (IntKind.u64.wrap k * 2)) (IntKind.u64.wrap (k / 9223372036854775808)) = (zig k : Int) := by
    have e : ∀ y : Int, IntKind.u64.wrap y = y % 18446744073709551616 := fun _ => rfl
    by_cases h : 0 ≤ k
    · have e1 : IntKind.u64.wrap (k / 9223372036854775808) = 0 := by rw [e]; omega
      rw [e1, xor0_u64 _ (by rw [e]; omega), e, e]
      unfold zig
      rw [if_pos h]
      omega
    · have e1 : IntKind.u64.wrap (k / 9223372036854775808) = 18446744073709551615 := by rw [e]; omega
      rw [e1, xor1_u64 _ (by rw [e]; omega), e, e]
      unfold zig
      rw [if_neg h]
      omega
  have e : ∀ y : Int, IntKind.u64.wrap y = y % 18446744073709551616 := fun _ => rfl
  go_enter Try.func65, Try.ntmps65
  have HE := Lib.hid e
  have HZ := Lib.hid hzig
  clear e hzig
  go_upto_region 1 with fail
  go_cut [5] (fun x wx => x = .int .u64 (zig k) ∧ wx = w)
  case first =>
    by_cases h0 : 0 ≤ k
    · go_wp2_with fail
      go_meet
      have h := HZ.out
      rw [HE.out k, HE.out (k / _), HE.out] at h
      exact ⟨congrArg (Value.int .u64) (by rw [← h]; congr 1 <;> omega), rfl⟩
    · go_wp2_with fail
      go_meet
      exact ⟨congrArg (Value.int .u64) HZ.out, rfl⟩
  case rest =>
    obtain ⟨rfl, rfl⟩ := hcut
    have HF : Hid (numOf k = [] ++ vint 9 (zig k)) := rfl
    clear HZ HE
    generalize hzk : zig k = z0 at *
    clear hzk
    go_wp2_with fail
    go_loopw [0, 5] (fun x y wr => ∃ (a2 : Option Addr) (c2 : Nat) (f u : Nat) (done : List Int), x = .slice a2 (n + done.length) c2 ∧ y = .int .u64 u ∧ u < 18446744073709551616 ∧ Hid (u < 128 ^ (f + 1) ∧ numOf k = done ++ vint f u) ∧ Hid (∃ g2, OwnM wr 5 1 (.slice a2 (n + done.length) c2) (n + done.length) (xs ++ bytesV done) g2 ∧ (∀ i, g2 = some i → g = some i ∨ wc.heap.size ≤ i)) ∧ Hid (Chg (Opt g) wc wr)) (fun _ y _ => (intOf y).toNat)
    case atStart => exact ⟨a, cap, 9, z0, [], rfl, rfl, hz, ⟨Nat.lt_of_lt_of_le hz (by decide), HF.out⟩, ⟨g, by simpa [bytesV] using HO.out, fun i hi => .inl hi⟩, Chg.refl _ _⟩
    case round =>
      obtain ⟨a2, c2, f, u, done, rfl, rfl, hu, HU, HO2, HC⟩ := hrel
      have hdl : done.length ≤ 10 := by
        have h1 := HL.out.2
        rw [HU.out.2] at h1
        simp at h1
        omega
      have hal := and127_u64 u hu
      obtain ⟨g2, ho2, hg2⟩ := HO2.out
      have HOa := Lib.hid ho2
      have HG2 := Lib.hid hg2
      clear ho2 hg2 HO2
      by_cases h128 : 128 ≤ u
      · have hor : bits .or .u8 ((u : Int) % 128) 128 = (u : Int) % 128 + 128 := by
          have h := or128_u8 (u % 128) (by omega)
          rw [show (u : Int) % 128 = ((u % 128 : Nat) : Int) from by omega]
          exact h.trans (by omega)
        have HOR := Lib.hid hor
        clear hor
        have hu8 : IntKind.u8.wrap ((u % 128 : Nat) : Int) = ((u % 128 : Nat) : Int) := by
          show ((u % 128 : Nat) : Int) % 256 = _
          omega
        go_wp2_with (at_builtin; refine wpList_append_OwnM _ rfl _ _ 59 rfl 5 i0 (.int .u8 0) 1 1 Try.underlying59 hi hz0 hz1 hz2 rfl (by decide) _ (n + done.length) _ g2 rfl (HOa.out.chg ((Chg.refl Non _).alloc _) (fun _ _ h => h)) _ 1 _ rfl (src_byte _ _ _) (by decide) (by unfold maxLen; omega) (by omega) ?_; intro v' w' g' hown hchg hg'; obtain ⟨a3, c3, rfl, hc3, hm3⟩ := hown.slice; have HO3 := Lib.hid hown; have HC3 := Lib.hid hchg; have HG3 := Lib.hid hg'; clear hown hchg hg')
        obtain ⟨hu1, hu2⟩ := HU.out
        cases f with
        | zero => omega
        | succ f =>
          rw [vint_step f u h128] at hu2
          have HU2 : Hid (u / 128 < 128 ^ (f + 1) ∧ numOf k = (done ++ [((u % 128 + 128 : Nat) : Int)]) ++ vint f (u / 128)) := ⟨by rw [Nat.pow_succ] at hu1; omega, by rw [hu2, List.append_assoc]; rfl⟩
          clear hu1 hu2
          go_roundw
          case rel =>
            refine ⟨a3, c3, f, u / 128, done ++ [((u % 128 + 128 : Nat) : Int)], by simp [Nat.add_assoc], congrArg (Value.int .u64) (by omega), by omega, HU2, ⟨g', ?_, fun i hi => ?_⟩, ?_⟩
            · have h := HO3.out
              refine .inl ?_
              simpa [bytesV, Nat.add_assoc, List.append_assoc, HOR.out] using h
            · rcases HG3.out i hi with h | h
              · exact HG2.out i h
              · simp at h
                have := HC.out.size
                exact .inr (by omega)
            · exact (HC.out.alloc _).trans HC3.out (fun _ _ h => h) (fun i hi h => by
                rcases HG2.out i h with h | h
                · exact h
                · omega)
          case measure => simp [intOf]; omega
      · have hu8 : IntKind.u8.wrap ((u : Nat) : Int) = (u : Int) := by
          show ((u : Nat) : Int) % 256 = _
          omega
        go_wp2_with (at_builtin; refine wpList_append_OwnM _ rfl _ _ 59 rfl 5 i0 (.int .u8 0) 1 1 Try.underlying59 hi hz0 hz1 hz2 rfl (by decide) _ (n + done.length) _ g2 rfl (HOa.out.chg ((Chg.refl Non _).alloc _) (fun _ _ h => h)) _ 1 _ rfl (src_byte _ _ _) (by decide) (by unfold maxLen; omega) (by omega) ?_; intro v' w' g' hown hchg hg'; obtain ⟨a3, c3, rfl, hc3, hm3⟩ := hown.slice; have HO3 := Lib.hid hown; have HC3 := Lib.hid hchg; have HG3 := Lib.hid hg'; clear hown hchg hg')
        go_ret
        have hu2 := HU.out.2
        rw [vint_last f u (by omega)] at hu2
        have hz3 := HC.out.size
        refine ⟨a3, c3, g', ?_, ?_, fun i hi => ?_, (HC.out.alloc _).trans HC3.out (fun _ _ h => h) (fun i hi h => ?_)⟩
        · rw [hu2]; simp [Nat.add_assoc]
        · have h := HO3.out
          rw [hu2]
          simpa [bytesV, Nat.add_assoc, List.append_assoc] using h
        · rcases HG3.out i hi with h | h
          · exact HG2.out i h
          · simp at h
            exact .inr (by omega)
        · rcases HG2.out i h with h | h
          · exact h
          · omega

set_option maxHeartbeats 1000000 in
set_option maxRecDepth 100000 in
/-- The reference's. -/
theorem num_any (k : Int) (w : World) (hk : -9223372036854775808 ≤ k ∧ k ≤ 9223372036854775807) :
    Calls Try.prog 66 #[.int .i64 k] w (BytesPost w 0 [] none (numOf k)) := by
  obtain ⟨i0, hi, hz0, hz1, hz2⟩ := info_parts Try.info_byte
  have hz := zig_lt k hk
  have HL := Lib.hid (numOf_length k)
  have HO : Hid (Own (w.alloc (.cells #[] 5)) 5 1 (.slice (some ⟨w.heap.size, 0, none⟩) 0 0) 0 [] (some w.heap.size)) := ⟨by simp, .inr ⟨_, 0, 0, _, rfl, rfl, Blk.new w _ _, Nat.le_refl _, Nat.zero_le _, by simp, by simp⟩⟩
  have HC0 : Hid (Chg Non w (w.alloc (.cells #[] 5))) := (Chg.refl _ _).alloc _
  go_enter Try.func66, Try.ntmps66
  by_cases h0 : 0 ≤ k
  case' pos => have hzk : (zig k : Int) = k * 2 := by unfold zig; rw [if_pos h0]; omega
  case' neg => have hzk : (zig k : Int) = -(k + 1) * 2 + 1 := by unfold zig; rw [if_neg h0]; omega
  all_goals
    have HZ := Lib.hid hzk
    clear hzk
    go_upto_region 4 with fail
    rw [← HZ.out]
    have HF : Hid (numOf k = [] ++ vint 9 (zig k)) := rfl
    clear HZ
    generalize hzk : zig k = z0 at *
    clear hzk
    go_wp2_with fail
    go_loopw [4, 3] (fun x y wr => ∃ (a2 : Option Addr) (c2 : Nat) (f u : Nat) (done : List Int), x = .slice a2 done.length c2 ∧ y = .int .u64 u ∧ u < 18446744073709551616 ∧ Hid (u < 128 ^ (f + 1) ∧ numOf k = done ++ vint f u) ∧ Hid (∃ g2, Own wr 5 1 (.slice a2 done.length c2) done.length (bytesV done) g2 ∧ (∀ i, g2 = some i → w.heap.size ≤ i)) ∧ Hid (Chg Non w wr)) (fun _ y _ => (intOf y).toNat)
    case atStart => exact ⟨_, _, 9, z0, [], rfl, rfl, hz, ⟨Nat.lt_of_lt_of_le hz (by decide), HF.out⟩, ⟨_, HO.out, fun i hi => by cases hi; exact Nat.le_refl _⟩, HC0⟩
    case round =>
      obtain ⟨a2, c2, f, u, done, rfl, rfl, hu, HU, HO2, HC⟩ := hrel
      have hdl : done.length ≤ 10 := by
        have h1 := HL.out.2
        rw [HU.out.2] at h1
        simp at h1
        omega
      obtain ⟨g2, ho2, hg2⟩ := HO2.out
      have HOa := Lib.hid ho2
      have HG2 := Lib.hid hg2
      clear ho2 hg2 HO2
      by_cases h128 : 128 ≤ u
      · go_wp2_with (at_builtin; refine wpList_append_Own _ rfl _ _ 59 rfl 5 i0 (.int .u8 0) 1 1 Try.underlying59 hi hz0 hz1 hz2 rfl (by decide) _ done.length _ g2 rfl (HOa.out.chg ((Chg.refl Non _).alloc _) (fun _ _ h => h)) _ 1 _ rfl (src_byte _ _ _) (by unfold maxLen; omega) (by omega) ?_; intro v' w' g' hown hchg hg'; obtain ⟨a3, c3, rfl, hc3, hm3⟩ := hown.slice; have HO3 := Lib.hid hown; have HC3 := Lib.hid hchg; have HG3 := Lib.hid hg'; clear hown hchg hg')
        obtain ⟨hu1, hu2⟩ := HU.out
        cases f with
        | zero => omega
        | succ f =>
          rw [vint_step f u h128] at hu2
          have HU2 : Hid (u / 128 < 128 ^ (f + 1) ∧ numOf k = (done ++ [((u % 128 + 128 : Nat) : Int)]) ++ vint f (u / 128)) := ⟨by rw [Nat.pow_succ] at hu1; omega, by rw [hu2, List.append_assoc]; rfl⟩
          clear hu1 hu2
          go_roundw
          case rel =>
            refine ⟨a3, c3, f, u / 128, done ++ [((u % 128 + 128 : Nat) : Int)], by simp, congrArg (Value.int .u64) (by omega), by omega, HU2, ⟨g', ?_, fun i hi => ?_⟩, ?_⟩
            · have h := HO3.out
              simpa [bytesV] using h
            · rcases HG3.out i hi with h | h
              · exact HG2.out i h
              · simp at h
                have := HC.out.size
                omega
            · exact (HC.out.alloc _).trans HC3.out (fun _ _ h => h) (fun i hi h => by
                have := HG2.out i h
                omega)
          case measure => simp [intOf]; omega
      · go_wp2_with (at_builtin; refine wpList_append_Own _ rfl _ _ 59 rfl 5 i0 (.int .u8 0) 1 1 Try.underlying59 hi hz0 hz1 hz2 rfl (by decide) _ done.length _ g2 rfl (HOa.out.chg ((Chg.refl Non _).alloc _) (fun _ _ h => h)) _ 1 _ rfl (src_byte _ _ _) (by unfold maxLen; omega) (by omega) ?_; intro v' w' g' hown hchg hg'; obtain ⟨a3, c3, rfl, hc3, hm3⟩ := hown.slice; have HO3 := Lib.hid hown; have HC3 := Lib.hid hchg; have HG3 := Lib.hid hg'; clear hown hchg hg')
        go_ret
        have hu2 := HU.out.2
        rw [vint_last f u (by omega)] at hu2
        have hz3 := HC.out.size
        refine ⟨a3, c3, g', ?_, ?_, fun i hi => ?_, ((HC.out.alloc _).trans HC3.out (fun _ _ h => h) (fun i hi h => ?_)).mono (fun _ _ h => False.elim h)⟩
        · rw [hu2]; simp
        · have h := HO3.out
          rw [hu2]
          simpa [bytesV] using h
        · rcases HG3.out i hi with h | h
          · exact .inr (HG2.out i h)
          · simp at h
            exact .inr (by omega)
        · have := HG2.out i h
          omega

end Go.Proofs.Ytabeolmfgmbfaaa
