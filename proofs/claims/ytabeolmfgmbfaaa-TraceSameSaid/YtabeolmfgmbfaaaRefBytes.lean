/- The reference's Bytes. -/
import Derived.Test.YtabeolmfgmbfaaaOpl
namespace Go.Proofs.Ytabeolmfgmbfaaa
open Go.RowKit
set_option linter.unusedVariables false
set_option linter.unusedSimpArgs false

/-- The bytes of all. -/
def flatB (l : List OpV) : List Int := l.flatMap OpV.bytes
def bytesOf (l : List OpV) : List Int := if mayB l = true then [67, 84, 49] ++ numOf l.length ++ flatB l else []
theorem flatB_take {l : List OpV} {j : Nat} {o : OpV} (h : l[j]? = some o) : flatB (l.take (j + 1)) = flatB (l.take j) ++ o.bytes := by
  unfold flatB
  rw [List.take_add_one, List.flatMap_append, h]
  simp
theorem flatB_length (l : List OpV) (h : ∀ o ∈ l, o.d.length ≤ 4096) : (flatB l).length ≤ 4176 * l.length := by
  unfold flatB
  induction l with
  | nil => simp
  | cons o l ih =>
    have h1 := ih (fun o ho => h o (List.mem_cons_of_mem _ ho))
    have h2 := h o (List.mem_cons_self ..)
    have h3 := flat_length o.nums
    have h4 : o.nums.length = 8 := rfl
    simp only [List.flatMap_cons, List.length_append, List.length_cons, OpV.bytes]
    omega
theorem own_empty (w : World) : Own (w.alloc (.cells #[] 5)) 5 1 (.slice (some ⟨w.heap.size, 0, none⟩) 0 0) 0 [] (some w.heap.size) :=
  ⟨by simp, .inr ⟨_, 0, 0, _, rfl, rfl, Blk.new w _ _, Nat.le_refl _, Nat.zero_le _, by simp, by simp⟩⟩

set_option maxHeartbeats 1000000 in
set_option maxRecDepth 100000 in
theorem bytes_ref (a : Option Addr) (n c : Nat) (l : List OpV) (w : World) (hl : Opl w a n l) :
    Calls Try.prog 42 #[.slice a n c] w (BytesPost w 0 [] none (bytesOf l)) := by
  obtain ⟨i0, hi, hz0, hz1, hz2⟩ := info_parts Try.info_byte
  have HL := Lib.hid hl
  have hlen := hl.len
  clear hl
  go_enter Try.func42, Try.ntmps42
  go_wp2_with fail
  refine (may_any a n c l _ HL.out).mono ?_
  rintro e w1 ⟨rfl, rfl⟩
  cases hm : mayB l
  · have HB : Hid (bytesOf l = []) := by show bytesOf l = []; simp [bytesOf, hm]
    clear hm
    go_wp2_with fail
    go_ret
    refine ⟨some ⟨w.heap.size, 0, none⟩, 0, some w.heap.size, ?_, ?_, fun i hi => .inr ?_, (Chg.refl _ _).alloc _⟩
    · rw [HB.out]; rfl
    · rw [HB.out]
      exact own_empty w
    · cases hi; exact Nat.le_refl _
  · have HB : Hid (bytesOf l = [67, 84, 49] ++ numOf l.length ++ flatB l) := by show bytesOf l = _; simp only [bytesOf, hm, if_true]
    have hmm : l.length ≤ 500 ∧ ∀ o ∈ l, o.dn ≤ 4096 := by simpa [mayB] using hm
    have HMM : Hid (∀ o ∈ l, o.dn ≤ 4096) := hmm.2
    have h500 : n ≤ 500 := by omega
    clear hmm hm
    have HK0 := Lib.hid (own_mark w (3, 4))
    have hcv := conv_mark w
    go_wp2_with fail
    clear hcv
    refine (num_any n _ (by omega)).mono ?_
    rintro e w2 ⟨a3, c3, g3, rfl, ho3, hg3, hc3⟩
    simp only [Nat.zero_add, List.nil_append] at ho3
    simp only [Nat.zero_add]
    have hnl := numOf_length n
    have HS := Lib.hid ((bys_own rfl ho3).srcAll c3)
    have HK := Lib.hid (HK0.out.chg hc3 (fun _ _ h => by cases h))
    have HC3 : Hid (Chg Non w w2) := ((Chg.refl Non w).alloc _).tr (hc3.mono (fun _ _ h => by cases h))
    have hs3 := hc3.size
    simp only [World.size_alloc] at hs3
    clear ho3 hg3 hc3 HK0
    go_wp2_with (at_builtin; refine wpList_append_OwnM _ rfl _ _ 59 rfl 5 i0 (.int .u8 0) 1 1 Try.underlying59 hi hz0 hz1 hz2 rfl (by decide) _ 3 _ _ rfl HK.out _ (numOf n).length _ rfl HS.out (by omega) (by unfold maxLen; omega) (by omega) ?_; intro v' w' g' hown hchg hg'; obtain ⟨a5, c5, rfl, hc5, hm5⟩ := hown.slice; have HO5 := Lib.hid hown; have HC5r := Lib.hid hchg; have HG5r := Lib.hid hg'; clear hown hchg hg')
    have HC5 : Hid (Chg Non w w') := HC3.out.trans HC5r.out (fun _ _ h => h) (fun i hi h => by cases h)
    have HG5 : Hid (∀ k, g' = some k → w.heap.size ≤ k) := by
      intro k hk
      rcases HG5r.out k hk with h | h
      · cases h
      · omega
    have HO6 : Hid (Own w' 5 1 (.slice a5 (3 + (numOf n).length) c5) (3 + (numOf n).length) (bytesV ([67, 84, 49] ++ numOf n)) g') := by
      have h := HO5.out
      rw [bytesV_append]
      exact h
    clear HC5r HG5r HO5 HK HS HC3
    have HM : Hid (([67, 84, 49] ++ numOf n : List Int).length = 3 + (numOf n).length) := by show _ = _; simp; omega
    have hbl : ([67, 84, 49] ++ numOf n : List Int).length ≤ 13 := by have := HM.out; omega
    have hml := HM.out
    simp only [← hml] at HO6 ⊢
    clear hml
    have HB2 : Hid (bytesOf l = ([67, 84, 49] ++ numOf n) ++ flatB l) := by
      show bytesOf l = _
      rw [HB.out, hlen]
    clear HM HB hnl
    generalize ([67, 84, 49] ++ numOf n : List Int) = B0 at *
    go_loopw [3, 4] (fun x i wr => ∃ (a2 : Option Addr) (c2 j : Nat), x = .slice a2 (B0.length + (flatB (l.take j)).length) c2 ∧ i = .int .i64 j ∧ j ≤ n ∧ Hid (∃ g2, Own wr 5 1 (.slice a2 (B0.length + (flatB (l.take j)).length) c2) (B0.length + (flatB (l.take j)).length) (bytesV (B0 ++ flatB (l.take j))) g2 ∧ (∀ i, g2 = some i → w.heap.size ≤ i)) ∧ Hid (Chg Non w wr)) (fun _ i _ => n - (intOf i).toNat)
    case atStart => exact ⟨_, _, 0, rfl, rfl, by omega, ⟨_, by simpa [flatB] using HO6.out, HG5.out⟩, HC5⟩
    case round =>
      obtain ⟨a2, c2, j, rfl, rfl, hj, HO2, HC⟩ := hrel
      have hfl : (flatB (l.take j)).length ≤ 4176 * 500 := by
        have h1 := flatB_length (l.take j) (fun o ho => by
          have h := HMM.out o (List.mem_of_mem_take ho)
          have h2 := (HL.out.ok o (List.mem_of_mem_take ho)).bys.1
          omega)
        have h2 : (l.take j).length ≤ 500 := by rw [List.length_take]; omega
        omega
      obtain ⟨g2, ho2, hg2⟩ := HO2.out
      have HOa := Lib.hid ho2
      have HG2 := Lib.hid hg2
      have hs2 := HC.out.size
      clear ho2 hg2 HO2
      by_cases hlt : j < n
      · have hlr := HL.out.chg HC.out (fun _ _ h => h)
        obtain ⟨o, b, off, ho, hok, rfl, z0, z1, z2, z3, z4, z5, z6, z7⟩ := hlr.at hlt
        have hsm := HMM.out o (List.mem_of_getElem? ho)
        have hol : o.bytes.length ≤ 4176 := by
          have h3 := flat_length o.nums
          have h4 : o.nums.length = 8 := rfl
          have h5 := hok.bys.1
          simp only [OpV.bytes, List.length_append]
          omega
        have HT := Lib.hid (flatB_take ho)
        have hco := one_ref o wr hok
        have HCO := Lib.hid hco
        unfold OpV.cells at HCO
        clear ho hok hlr hco
        generalize flatB (l.take j) = done at *
        go_wp2_with fail
        refine HCO.out.mono ?_
        clear z0 z1 z2 z3 z4 z5 z6 z7 HCO
        rintro e w2 ⟨a3, c3, g3, rfl, ho3, hg3, hc3⟩
        simp only [Nat.zero_add, List.nil_append] at ho3
        simp only [Nat.zero_add]
        have HS := Lib.hid ((bys_own rfl ho3).srcAll c3)
        have HC3 := Lib.hid hc3
        have HO4 := Lib.hid (HOa.out.chg hc3 (fun _ _ h => by cases h))
        have hs3 := hc3.size
        clear ho3 hg3 hc3
        go_wp2_with (at_builtin; refine wpList_append_Own _ rfl _ _ 59 rfl 5 i0 (.int .u8 0) 1 1 Try.underlying59 hi hz0 hz1 hz2 rfl (by decide) _ (B0.length + done.length) _ g2 rfl HO4.out _ o.bytes.length _ rfl HS.out (by unfold maxLen; omega) (by omega) ?_; intro v' w' g' hown hchg hg'; obtain ⟨a5, c5, rfl, hc5, hm5⟩ := hown.slice; have HO5 := Lib.hid hown; have HC5 := Lib.hid hchg; have HG5 := Lib.hid hg'; clear hown hchg hg')
        go_roundw
        case rel =>
          refine ⟨a5, c5, j + 1, by rw [HT.out]; simp [Nat.add_assoc], by go_num, by omega, ⟨g', ?_, fun i hi => ?_⟩, (HC.out.tr (HC3.out.mono (fun _ _ h => by cases h))).trans HC5.out (fun _ _ h => h) (fun i hi h => ?_)⟩
          · rw [HT.out]
            have h := HO5.out
            simpa [bytesV_append, Nat.add_assoc, List.append_assoc] using h
          · rcases HG5.out i hi with h | h
            · exact HG2.out i h
            · omega
          · have := HG2.out i h
            omega
        case measure => simp [intOf]; omega
      · obtain rfl : j = n := by omega
        have e8 : l.take j = l := List.take_of_length_le (by omega)
        generalize hnf : flatB (l.take j) = done at *
        rw [e8] at hnf
        have HNF := Lib.hid hnf
        clear hnf e8
        go_wp2_with fail
        go_ret
        refine ⟨a2, c2, g2, ?_, ?_, fun i hi => .inr (HG2.out i hi), HC.out.mono (fun _ _ h => False.elim h)⟩
        · rw [HB2.out, HNF.out]; simp
        · have h := HOa.out
          rw [HB2.out, HNF.out]
          simpa using h

end Go.Proofs.Ytabeolmfgmbfaaa
