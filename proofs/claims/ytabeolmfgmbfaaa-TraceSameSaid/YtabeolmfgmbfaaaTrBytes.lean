/- trace.Bytes. -/
import Derived.Test.YtabeolmfgmbfaaaRefBytes
namespace Go.Proofs.Ytabeolmfgmbfaaa
open Go.RowKit
set_option linter.unusedVariables false
set_option linter.unusedSimpArgs false

set_option maxHeartbeats 400000 in
theorem big_any (o : OpV) (w : World) :
    Calls Try.prog 64 #[.agg o.cells] w fun e w' => e = .returned (.bool (decide ((4096 : Int) < o.dn))) ∧ Chg Non w w' := by
  unfold OpV.cells
  go_enter Try.func64, Try.ntmps64
  go_wp2_with fail
  go_ret
  exact ⟨rfl, (Chg.refl _ _).alloc _⟩

/-- Has one of them too many bytes? -/
def bigB (l : List OpV) : Bool := l.any fun o => decide (4096 < o.dn)
def IdxPost (l : List OpV) (w : World) (e : Ending) (w' : World) : Prop := ∃ i : Int, e = .returned (.int .i64 i) ∧ decide (0 ≤ i) = bigB l ∧ Chg Non w w'

set_option maxHeartbeats 1000000 in
set_option maxRecDepth 100000 in
theorem index_any (a : Option Addr) (n c : Nat) (l : List OpV) (w : World) (hl : Opl w a n l) (hn : n ≤ 1000000) :
    Calls Try.prog 82 #[.slice a n c, .func (.func 64) #[] #[]] w (IdxPost l w) := by
  have hlen := hl.len
  have HL := Lib.hid hl
  clear hl
  go_enter Try.func82, Try.ntmps82
  go_wp2_with fail
  go_loopw [8] (fun i wr => ∃ j : Nat, i = .int .i64 j ∧ j ≤ n ∧ Hid (∀ k o, k < j → l[k]? = some o → o.dn ≤ 4096) ∧ Hid (Chg Non w wr)) (fun i _ => n - (intOf i).toNat)
  case atStart => exact ⟨0, rfl, by omega, fun k o hk => by omega, Chg.refl _ _⟩
  case round =>
    obtain ⟨j, rfl, hj, HS, HC⟩ := hrel
    by_cases hlt : j < n
    · obtain ⟨o, b, off, ho, hok, rfl, z0, z1, z2, z3, z4, z5, z6, z7⟩ := (HL.out.chg HC.out (fun _ _ h => h)).at hlt
      have HO := Lib.hid ho
      have HB : Hid (Calls Try.prog 64 #[.agg #[.int .i64 o.k, .int .i64 o.th, .int .i64 o.a, .int .i64 o.b, .int .i64 o.v, .int .i64 o.n, .int .i64 o.m, .slice o.da o.dn o.dc]] wr fun e w' => e = .returned (.bool (decide ((4096 : Int) < o.dn))) ∧ Chg Non wr w') := big_any o wr
      clear ho hok
      go_wp2_with fail
      refine HB.out.mono ?_
      clear z0 z1 z2 z3 z4 z5 z6 z7 HB
      rintro e w2 ⟨rfl, hc2⟩
      have HC2 := Lib.hid (HC.out.tr hc2)
      clear hc2
      by_cases h4 : o.dn ≤ 4096
      · have hd : decide ((4096 : Int) < o.dn) = false := by simp; omega
        rw [hd]
        go_wp2_with fail
        go_roundw
        case rel =>
          refine ⟨j + 1, by go_num, by omega, fun k p hk hp => ?_, HC2⟩
          by_cases e : k = j
          · subst e
            rw [HO.out] at hp
            cases hp
            exact h4
          · exact HS.out k p (by omega) hp
        case measure => simp [intOf]; omega
      · have hd : decide ((4096 : Int) < o.dn) = true := by simp; omega
        rw [hd]
        go_wp2_with fail
        go_ret
        refine ⟨_, rfl, ?_, HC2.out⟩
        have hm : bigB l = true := by
          simp only [bigB, List.any_eq_true, decide_eq_true_eq]
          exact ⟨o, List.mem_of_getElem? HO.out, by omega⟩
        rw [hm]
        simp
    · go_wp2_with fail
      go_ret
      refine ⟨_, rfl, ?_, HC.out⟩
      have hm : bigB l = false := by
        rw [Bool.eq_false_iff]
        intro h
        simp only [bigB, List.any_eq_true, decide_eq_true_eq] at h
        obtain ⟨o, ho, h4⟩ := h
        obtain ⟨k, hk, he⟩ := List.getElem_of_mem ho
        have := HS.out k o (by omega) (by rw [← he]; exact List.getElem?_eq_getElem hk)
        omega
      rw [hm]
      decide

set_option maxHeartbeats 1000000 in
theorem contains_any (a : Option Addr) (n c : Nat) (l : List OpV) (w : World) (hl : Opl w a n l) (hn : n ≤ 1000000) :
    Calls Try.prog 63 #[.slice a n c, .func (.func 64) #[] #[]] w fun e w' => e = .returned (.bool (bigB l)) ∧ Chg Non w w' := by
  have HX := Lib.hid (index_any a n c l w hl hn)
  clear hl
  go_enter Try.func63, Try.ntmps63
  go_wp2_with fail
  refine HX.out.mono ?_
  rintro e w1 ⟨i, rfl, hb, hc⟩
  have HB := Lib.hid hb
  have HC := Lib.hid hc
  clear hb hc
  go_wp2_with fail
  go_ret
  exact ⟨congrArg (fun b => Ending.returned (.bool b)) HB.out, HC.out⟩


theorem mayB_of (l : List OpV) : mayB l = (!decide (500 < l.length) && !bigB l) := by
  have h1 : (l.all fun o => decide (o.dn ≤ 4096)) = !bigB l := by
    unfold bigB
    induction l with
    | nil => rfl
    | cons o l ih =>
      rw [List.all_cons, List.any_cons, ih, Bool.not_or]
      congr 1
      rw [← decide_not]
      congr 1
      simp
  rw [mayB, h1, ← decide_not]
  congr 2
  simp

set_option maxHeartbeats 1000000 in
set_option maxRecDepth 100000 in
theorem bytes_any (a : Option Addr) (n c : Nat) (l : List OpV) (w : World) (hl : Opl w a n l) :
    Calls Try.prog 41 #[.slice a n c] w (BytesPost w 0 [] none (bytesOf l)) := by
  obtain ⟨i0, hi, hz0, hz1, hz2⟩ := info_parts Try.info_byte
  have HL := Lib.hid hl
  have hlen := hl.len
  have hmay := mayB_of l
  rw [hlen] at hmay
  have HMAY := Lib.hid hmay
  clear hl hmay
  by_cases h5 : 500 < n
  · have HB : Hid (bytesOf l = []) := by
      have h := HMAY.out
      show bytesOf l = []
      simp [h5] at h
      simp [bytesOf, h]
    go_enter Try.func41, Try.ntmps41
    go_wp2_with fail
    go_ret
    refine ⟨none, 0, none, ?_, ?_, fun i hi => (by cases hi), Chg.refl _ _⟩
    · rw [HB.out]; rfl
    · rw [HB.out]
      exact Own.nil _ _ _
  · have HCN := Lib.hid (contains_any a n c l w HL.out (by omega))
    have h500 : n ≤ 500 := by omega
    go_enter Try.func41, Try.ntmps41
    go_wp2_with fail
    refine HCN.out.mono ?_
    rintro e w1 ⟨rfl, hc⟩
    have HC1 := Lib.hid hc
    have HL1 := Lib.hid (HL.out.chg hc (fun _ _ h => h))
    have hs1 := hc.size
    clear hc HCN
    cases hb : bigB l
    · have hm : mayB l = true := by rw [HMAY.out, hb]; simp [h5]
      have HB : Hid (bytesOf l = [67, 84, 49] ++ numOf l.length ++ flatB l) := by show bytesOf l = _; simp only [bytesOf, hm, if_true]
      have hmm : l.length ≤ 500 ∧ ∀ o ∈ l, o.dn ≤ 4096 := by simpa [mayB] using hm
      have HMM : Hid (∀ o ∈ l, o.dn ≤ 4096) := hmm.2
      clear hmm hm hb HMAY
      have HK0 := Lib.hid (own_mark w1 (3, 4))
      have hcv := conv_mark w1
      go_wp2_with fail
      clear hcv
      refine (put_any _ 3 3 (bytesV [67, 84, 49]) none n _ (by omega) HK0.out (by omega)).mono ?_
      rintro e w' ⟨a5, c5, g', rfl, ho5, hg5, hc5⟩
      have hnl := numOf_length n
      have HO6 : Hid (Own w' 5 1 (.slice a5 (3 + (numOf n).length) c5) (3 + (numOf n).length) (bytesV ([67, 84, 49] ++ numOf n)) g') := by
        rw [bytesV_append]
        exact ho5
      have HC5 : Hid (Chg Non w w') := (HC1.out.alloc _).tr (hc5.mono (fun _ _ h => by cases h))
      have HG5 : Hid (∀ k, g' = some k → w.heap.size ≤ k) := by
        intro k hk
        rcases hg5 k hk with h | h
        · cases h
        · simp at h
          omega
      clear ho5 hg5 hc5 HK0 HC1 HL1
      have HM : Hid (([67, 84, 49] ++ numOf n : List Int).length = 3 + (numOf n).length) := by show _ = _; simp; omega
      have hbl : ([67, 84, 49] ++ numOf n : List Int).length ≤ 13 := by have := HM.out; omega
      have hml := HM.out
      simp only [← hml] at HO6 ⊢
      clear hml
      have HB2 : Hid (bytesOf l = ([67, 84, 49] ++ numOf n) ++ flatB l) := by
        show bytesOf l = _
        rw [HB.out, hlen]
      clear HM HB hnl
      generalize ([67, 84, 49] ++ numOf n : List Int) = B0 at *
      go_wp2_with fail
      go_loopw [3, 20] (fun x i wr => ∃ (a2 : Option Addr) (c2 j : Nat), x = .slice a2 (B0.length + (flatB (l.take j)).length) c2 ∧ i = .int .i64 j ∧ j ≤ n ∧ Hid (∃ g2, Own wr 5 1 (.slice a2 (B0.length + (flatB (l.take j)).length) c2) (B0.length + (flatB (l.take j)).length) (bytesV (B0 ++ flatB (l.take j))) g2 ∧ (∀ i, g2 = some i → w.heap.size ≤ i)) ∧ Hid (Chg Non w wr)) (fun _ i _ => n - (intOf i).toNat)
      case atStart => exact ⟨_, _, 0, rfl, rfl, by omega, ⟨_, by simpa [flatB] using HO6.out, HG5.out⟩, HC5⟩
      case round =>
        obtain ⟨a2, c2, j, rfl, rfl, hj, HO2, HC⟩ := hrel
        have hfl : (flatB (l.take j)).length ≤ 4176 * 500 := by
          have h1 := flatB_length (l.take j) (fun o ho => by
            have h := HMM.out o (List.mem_of_mem_take ho)
            have h2 := (HL.out.ok o (List.mem_of_mem_take ho)).bys.1
            omega)
          have h2 : (l.take j).length ≤ 500 := by rw [List.length_take]; omega
          omega
        obtain ⟨g2, ho2, hg2⟩ := HO2.out
        have HOa := Lib.hid ho2
        have HG2 := Lib.hid hg2
        have hs2 := HC.out.size
        clear ho2 hg2 HO2
        by_cases hlt : j < n
        · have hlr := HL.out.chg HC.out (fun _ _ h => h)
          obtain ⟨o, b, off, ho, hok, rfl, z0, z1, z2, z3, z4, z5, z6, z7⟩ := hlr.at hlt
          have hsm := HMM.out o (List.mem_of_getElem? ho)
          have hol : o.bytes.length ≤ 4176 := by
            have h3 := flat_length o.nums
            have h4 : o.nums.length = 8 := rfl
            have h5 := hok.bys.1
            simp only [OpV.bytes, List.length_append]
            omega
          have HT := Lib.hid (flatB_take ho)
          have hco : ∀ wx, Chg Non wr wx → Calls Try.prog 44 #[.agg o.cells] wx (BytesPost wx 0 [] none o.bytes) := fun wx hx => one_bytes o wx (hok.chg hx (fun _ _ h => h))
          have HCO := Lib.hid hco
          unfold OpV.cells at HCO
          clear ho hok hlr hco
          generalize flatB (l.take j) = done at *
          go_wp2_with fail
          refine (HCO.out _ ?_).mono ?_
          · exact (Chg.refl _ _).alloc _
          clear z0 z1 z2 z3 z4 z5 z6 z7 HCO
          rintro e w2 ⟨a3, c3, g3, rfl, ho3, hg3, hc3⟩
          simp only [Nat.zero_add, List.nil_append] at ho3
          simp only [Nat.zero_add]
          have HS := Lib.hid ((bys_own rfl ho3).srcAll c3)
          have HC3 := Lib.hid hc3
          have HC3a : Hid (Chg Non wr w2) := ((Chg.refl _ _).alloc _).tr (hc3.mono (fun _ _ h => by cases h))
          have HO4 := Lib.hid (HOa.out.chg HC3a.out (fun _ _ h => h))
          have hs3 := HC3a.out.size
          clear ho3 hg3 hc3
          go_wp2_with (at_builtin; refine wpList_append_Own _ rfl _ _ 59 rfl 5 i0 (.int .u8 0) 1 1 Try.underlying59 hi hz0 hz1 hz2 rfl (by decide) _ (B0.length + done.length) _ g2 rfl HO4.out _ o.bytes.length _ rfl HS.out (by unfold maxLen; omega) (by omega) ?_; intro v' w' g' hown hchg hg'; obtain ⟨a5, c5, rfl, hc5, hm5⟩ := hown.slice; have HO5 := Lib.hid hown; have HC5 := Lib.hid hchg; have HG5 := Lib.hid hg'; clear hown hchg hg')
          go_roundw
          case rel =>
            refine ⟨a5, c5, j + 1, by rw [HT.out]; simp [Nat.add_assoc], by go_num, by omega, ⟨g', ?_, fun i hi => ?_⟩, (HC.out.tr HC3a.out).trans HC5.out (fun _ _ h => h) (fun i hi h => ?_)⟩
            · rw [HT.out]
              have h := HO5.out
              simpa [bytesV_append, Nat.add_assoc, List.append_assoc] using h
            · rcases HG5.out i hi with h | h
              · exact HG2.out i h
              · omega
            · have := HG2.out i h
              omega
          case measure => simp [intOf]; omega
        · obtain rfl : j = n := by omega
          have e8 : l.take j = l := List.take_of_length_le (by omega)
          generalize hnf : flatB (l.take j) = done at *
          rw [e8] at hnf
          have HNF := Lib.hid hnf
          clear hnf e8
          go_wp2_with fail
          go_ret
          refine ⟨a2, c2, g2, ?_, ?_, fun i hi => .inr (HG2.out i hi), HC.out.mono (fun _ _ h => False.elim h)⟩
          · rw [HB2.out, HNF.out]; simp
          · have h := HOa.out
            rw [HB2.out, HNF.out]
            simpa using h

    · have HB : Hid (bytesOf l = []) := by
        have h := HMAY.out
        show bytesOf l = []
        rw [hb] at h
        simp at h
        simp [bytesOf, h]
      clear hb
      go_wp2_with fail
      go_ret
      refine ⟨none, 0, none, ?_, ?_, fun i hi => (by cases hi), HC1.out.mono (fun _ _ h => False.elim h)⟩
      · rw [HB.out]; rfl
      · rw [HB.out]
        exact Own.nil _ _ _

end Go.Proofs.Ytabeolmfgmbfaaa
