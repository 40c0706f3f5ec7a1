/- Things that are done, read from bytes: plain laws; no program in sight. -/
import Derived.Test.YtabeolmfgmbfaaaBits
namespace Go.Proofs.Ytabeolmfgmbfaaa
set_option linter.unusedVariables false
set_option linter.unusedSimpArgs false

/-! ### the reference's way to take a number -/
def readR : Nat → Nat → List Int → Option (Nat × Nat)
  | _, _, [] => none
  | i, u, c :: r =>
    if 10 ≤ i then none
    else if i = 9 ∧ 1 < c then none
    else if c < 128 then some (u + (c.toNat % 128) * 128 ^ i, i + 1)
    else readR (i + 1) (u + (c.toNat % 128) * 128 ^ i) r

theorem readR_of_readN : ∀ (l : List Int) (i u : Nat) {v k}, readN i u l = some (v, k) → readR i u l = some (v, k) := by
  intro l
  induction l with
  | nil => intro i u v k h; simp [readN] at h
  | cons c r ih =>
    intro i u v k h
    rw [readN] at h
    rw [readR]
    split at h
    · cases h
    · rename_i h10
      rw [if_neg h10]
      split at h
      · cases h
      · rename_i hn
        rw [if_neg (fun x => hn (.inl x))]
        split at h
        · rename_i h8
          rw [if_pos h8, Nat.mod_eq_of_lt (show c.toNat < 128 by omega)]
          exact h
        · rename_i h8
          rw [if_neg h8]
          exact ih _ _ h

theorem readR_long : ∀ (l : List Int) (i u : Nat) {v k}, (∀ x ∈ l, 0 ≤ x ∧ x ≤ 255) → u < 128 ^ i → readN i u l = none → readR i u l = some (v, k) → v < 128 ^ (k - 1) ∧ 2 ≤ k ∧ i < k := by
  intro l
  induction l with
  | nil => intro i u v k hb hu hn h; simp [readR] at h
  | cons c r ih =>
    intro i u v k hb hu hn h
    have hc := hb c (List.mem_cons_self ..)
    rw [readN] at hn
    rw [readR] at h
    split at h
    · cases h
    · rename_i h10
      rw [if_neg h10] at hn
      split at h
      · cases h
      · rename_i h9
        split at h
        · rename_i h8
          simp only [Option.some.injEq, Prod.mk.injEq] at h
          obtain ⟨rfl, rfl⟩ := h
          split at hn
          · rename_i hz
            rcases hz with hz | ⟨hz, rfl⟩
            · exact absurd hz h9
            · refine ⟨by simpa using hu, by omega, by omega⟩
          · cases hn
        · rename_i h8
          have e : (c.toNat % 128) * 128 ^ i ≤ 127 * 128 ^ i := Nat.mul_le_mul_right _ (by omega)
          have h' := ih (i + 1) _ (fun x hx => hb x (List.mem_cons_of_mem _ hx)) (by rw [Nat.pow_succ]; omega) (by
            split at hn
            · rename_i hz
              rcases hz with hz | ⟨_, rfl⟩
              · exact absurd hz h9
              · omega
            · exact hn) h
          exact ⟨h'.1, h'.2.1, by omega⟩

theorem vint_length_low (f : Nat) : ∀ u, 2 ≤ (vint f u).length → 128 ^ ((vint f u).length - 1) ≤ u := by
  induction f with
  | zero => intro u h; simp [vint] at h
  | succ f ih =>
    intro u h
    by_cases h1 : 128 ≤ u
    · rw [vint_step f u h1] at h ⊢
      simp only [List.length_cons, Nat.add_sub_cancel] at h ⊢
      by_cases h2 : 2 ≤ (vint f (u / 128)).length
      · have := ih _ h2
        have e : (vint f (u / 128)).length = ((vint f (u / 128)).length - 1) + 1 := by omega
        rw [e, Nat.pow_succ]
        omega
      · have e : (vint f (u / 128)).length = 1 := by omega
        rw [e]
        omega
    · rw [vint_last (f + 1) u (by omega)] at h
      simp at h

/-- The number that bytes begin with, and how many bytes it has; 0: they begin with none. -/
def takeR (l : List Int) : Int × Nat := match readN 0 0 l with | some (v, k) => (unzig v, k) | none => (0, 0)

theorem readN_len {l : List Int} (hb : ∀ x ∈ l, 0 ≤ x ∧ x ≤ 255) {v k : Nat} (h : readN 0 0 l = some (v, k)) : (vint 9 v).length = k ∧ 0 < k ∧ k ≤ l.length ∧ k ≤ 10 ∧ v < 18446744073709551616 ∧ vint 9 v = l.take k := by
  obtain ⟨z, hv, h1, h2, h3, h4, h5, h6⟩ := readN_back l 0 0 hb (by decide) (by decide) h
  have e : v = z := by simpa using hv
  subst e
  simp only [Nat.sub_zero] at h4
  refine ⟨?_, h1, by simpa using h2, h3, h6, h4⟩
  rw [h4, List.length_take]
  omega
theorem takeR_some {l : List Int} {v k : Nat} (hb : ∀ x ∈ l, 0 ≤ x ∧ x ≤ 255) (h : readR 0 0 l = some (v, k)) : takeR l = if (numOf (unzig v)).length = k then (unzig v, k) else (0, 0) := by
  have e : (numOf (unzig v)).length = (vint 9 v).length := by unfold numOf; rw [zig_unzig]
  rw [e]
  unfold takeR
  cases hn : readN 0 0 l with
  | none =>
    obtain ⟨h1, h2, h3⟩ := readR_long l 0 0 hb (by decide) hn h
    rw [if_neg]
    intro hk
    have := vint_length_low 9 v (by omega)
    rw [hk] at this
    omega
  | some p =>
    obtain ⟨v', k'⟩ := p
    have h' := readR_of_readN l 0 0 hn
    rw [h] at h'
    obtain ⟨rfl, rfl⟩ := Prod.mk.inj (Option.some.inj h')
    rw [if_pos (readN_len hb hn).1]
theorem takeR_none {l : List Int} (h : readR 0 0 l = none) : takeR l = (0, 0) := by
  unfold takeR
  cases hn : readN 0 0 l with
  | none => rfl
  | some p =>
    have h' := readR_of_readN l 0 0 (v := p.1) (k := p.2) hn
    rw [h] at h'
    cases h'

/-! ### things that are done -/

/-- So many numbers. -/
def takeK : Nat → List Int → Option (List Int × List Int)
  | 0, l => some ([], l)
  | k + 1, l => match readN 0 0 l with
    | none => none
    | some (v, j) => match takeK k (l.drop j) with
      | none => none
      | some (xs, r) => some (unzig v :: xs, r)

/-- One thing: its seven numbers, and its bytes. -/
def takeOp (l : List Int) : Option ((List Int × List Int) × List Int) := match takeK 8 l with
  | none => none
  | some (xs, r) => if xs.getD 7 0 < 0 ∨ 4096 < xs.getD 7 0 ∨ (r.length : Int) < xs.getD 7 0 then none else some ((xs.take 7, r.take (xs.getD 7 0).toNat), r.drop (xs.getD 7 0).toNat)

def takeOps : Nat → List Int → Option (List (List Int × List Int) × List Int)
  | 0, l => some ([], l)
  | k + 1, l => match takeOp l with
    | none => none
    | some (o, r) => match takeOps k r with
      | none => none
      | some (os, r) => some (o :: os, r)

/-- What bytes are. -/
def parse (b : List Int) : Option (List (List Int × List Int)) :=
  if b.take 3 = [67, 84, 49] then match readN 0 0 (b.drop 3) with
    | none => none
    | some (v, k) => if unzig v < 0 ∨ 500 < unzig v then none else match takeOps (unzig v).toNat ((b.drop 3).drop k) with
      | some (os, []) => some os
      | _ => none
  else none

def I64 (x : Int) : Prop := -9223372036854775808 ≤ x ∧ x ≤ 9223372036854775807
def Byte (l : List Int) : Prop := ∀ x ∈ l, 0 ≤ x ∧ x ≤ 255
theorem Byte.drop {l : List Int} (h : Byte l) (k : Nat) : Byte (l.drop k) := fun x hx => h x (List.mem_of_mem_drop hx)
theorem Byte.take {l : List Int} (h : Byte l) (k : Nat) : Byte (l.take k) := fun x hx => h x (List.mem_of_mem_take hx)

theorem takeK_write : ∀ (xs : List Int) (rest : List Int), (∀ x ∈ xs, I64 x) → takeK xs.length (xs.flatMap numOf ++ rest) = some (xs, rest) := by
  intro xs
  induction xs with
  | nil => intro rest _; rfl
  | cons x xs ih =>
    intro rest h
    rw [List.flatMap_cons, List.append_assoc, List.length_cons, takeK, readN_num x (h x (List.mem_cons_self ..))]
    simp only [List.drop_left, unzig_zig]
    rw [ih rest (fun y hy => h y (List.mem_cons_of_mem _ hy))]

theorem takeK_read : ∀ (k : Nat) (l xs r : List Int), Byte l → takeK k l = some (xs, r) → l = xs.flatMap numOf ++ r ∧ xs.length = k ∧ (∀ x ∈ xs, I64 x) := by
  intro k
  induction k with
  | zero => intro l xs r _ h; simp [takeK] at h; obtain ⟨rfl, rfl⟩ := h; simp
  | succ k ih =>
    intro l xs r hb h
    rw [takeK] at h
    cases hn : readN 0 0 l with
    | none => rw [hn] at h; cases h
    | some p =>
      obtain ⟨v, j⟩ := p
      rw [hn] at h
      simp only at h
      cases ht : takeK k (l.drop j) with
      | none => rw [ht] at h; cases h
      | some q =>
        obtain ⟨ys, r'⟩ := q
        rw [ht] at h
        simp only [Option.some.injEq, Prod.mk.injEq] at h
        obtain ⟨rfl, rfl⟩ := h
        obtain ⟨h1, h2, h3⟩ := ih _ _ _ (hb.drop j) ht
        obtain ⟨g1, g2, g3, g4, g5, g6⟩ := readN_len hb hn
        refine ⟨?_, by simp [h2], ?_⟩
        · rw [List.flatMap_cons, List.append_assoc, ← h1]
          unfold numOf
          rw [zig_unzig, g6, List.take_append_drop]
        · intro x hx
          rcases List.mem_cons.1 hx with rfl | hx
          · exact unzig_range v g5
          · exact h3 x hx

theorem takeOp_write (ns d rest : List Int) (h7 : ns.length = 7) (hr : ∀ x ∈ ns, I64 x) (hd : d.length ≤ 4096) : takeOp ((ns ++ [(d.length : Int)]).flatMap numOf ++ (d ++ rest)) = some ((ns, d), rest) := by
  have h := takeK_write (ns ++ [(d.length : Int)]) (d ++ rest) (fun x hx => by
    rcases List.mem_append.1 hx with hx | hx
    · exact hr x hx
    · simp at hx; subst hx; unfold I64; omega)
  have hl : (ns ++ [(d.length : Int)]).length = 8 := by simp [h7]
  rw [hl] at h
  unfold takeOp
  rw [h]
  have e : (ns ++ [(d.length : Int)]).getD 7 0 = (d.length : Int) := by
    rw [List.getD_eq_getElem?_getD, List.getElem?_append_right (by omega), h7]
    simp
  simp only [e]
  rw [if_neg (by simp only [List.length_append]; omega)]
  have e7 : (ns ++ [(d.length : Int)]).take 7 = ns := by rw [← h7]; exact List.take_left
  simp [e7]

theorem takeOp_read {l ns d r : List Int} (hb : Byte l) (h : takeOp l = some ((ns, d), r)) : l = (ns ++ [(d.length : Int)]).flatMap numOf ++ (d ++ r) ∧ ns.length = 7 ∧ (∀ x ∈ ns, I64 x) ∧ d.length ≤ 4096 ∧ Byte d ∧ Byte r := by
  unfold takeOp at h
  cases hk : takeK 8 l with
  | none => rw [hk] at h; cases h
  | some p =>
    obtain ⟨xs, r0⟩ := p
    rw [hk] at h
    simp only at h
    split at h
    · cases h
    · rename_i hn
      simp only [Option.some.injEq, Prod.mk.injEq] at h
      obtain ⟨⟨rfl, rfl⟩, rfl⟩ := h
      obtain ⟨h1, h2, h3⟩ := takeK_read 8 l xs r0 hb hk
      have hr0 : Byte r0 := fun x hx => hb x (by rw [h1]; exact List.mem_append_right _ hx)
      have hlen : ((r0.take (xs.getD 7 0).toNat).length : Int) = xs.getD 7 0 := by
        rw [List.length_take]; omega
      have hx : xs.take 7 ++ [xs.getD 7 0] = xs := by
        have e : xs.drop 7 = [xs.getD 7 0] := by
          rw [List.drop_eq_getElem_cons (by omega)]
          simp [List.getD_eq_getElem?_getD, h2, List.drop_eq_nil_of_le]
        rw [← e, List.take_append_drop]
      refine ⟨?_, by simp [h2], fun x hx => h3 x (List.mem_of_mem_take hx), by omega, hr0.take _, hr0.drop _⟩
      rw [hlen, hx, List.take_append_drop]
      exact h1

/-- A thing's bytes. -/
def opB (o : List Int × List Int) : List Int := (o.1 ++ [(o.2.length : Int)]).flatMap numOf ++ o.2
def OpOk (o : List Int × List Int) : Prop := o.1.length = 7 ∧ (∀ x ∈ o.1, I64 x) ∧ o.2.length ≤ 4096
theorem takeOps_write : ∀ (os : List (List Int × List Int)) (rest : List Int), (∀ o ∈ os, OpOk o) → takeOps os.length (os.flatMap opB ++ rest) = some (os, rest) := by
  intro os
  induction os with
  | nil => intro rest _; rfl
  | cons o os ih =>
    intro rest h
    obtain ⟨h7, hr, hd⟩ := h o (List.mem_cons_self ..)
    rw [List.flatMap_cons, List.append_assoc, List.length_cons, takeOps]
    have := takeOp_write o.1 o.2 (os.flatMap opB ++ rest) h7 hr hd
    rw [show opB o ++ (os.flatMap opB ++ rest) = (o.1 ++ [(o.2.length : Int)]).flatMap numOf ++ (o.2 ++ (os.flatMap opB ++ rest)) from by unfold opB; simp only [List.append_assoc]]
    rw [this]
    simp only
    rw [ih rest (fun y hy => h y (List.mem_cons_of_mem _ hy))]
theorem takeOps_read : ∀ (k : Nat) (l r : List Int) (os : List (List Int × List Int)), Byte l → takeOps k l = some (os, r) → l = os.flatMap opB ++ r ∧ os.length = k ∧ (∀ o ∈ os, OpOk o ∧ Byte o.2) ∧ Byte r := by
  intro k
  induction k with
  | zero => intro l r os hb h; simp [takeOps] at h; obtain ⟨rfl, rfl⟩ := h; simp [hb]
  | succ k ih =>
    intro l r os hb h
    rw [takeOps] at h
    cases ho : takeOp l with
    | none => rw [ho] at h; cases h
    | some p =>
      obtain ⟨⟨ns, d⟩, r1⟩ := p
      rw [ho] at h
      simp only at h
      obtain ⟨h1, h2, h3, h4, h5, h6⟩ := takeOp_read hb ho
      cases ht : takeOps k r1 with
      | none => rw [ht] at h; cases h
      | some q =>
        obtain ⟨os', r'⟩ := q
        rw [ht] at h
        simp only [Option.some.injEq, Prod.mk.injEq] at h
        obtain ⟨rfl, rfl⟩ := h
        obtain ⟨g1, g2, g3, g4⟩ := ih _ _ _ h6 ht
        refine ⟨?_, by simp [g2], ?_, g4⟩
        · rw [List.flatMap_cons, h1, g1]
          unfold opB
          simp only [List.append_assoc]
        · intro o ho
          rcases List.mem_cons.1 ho with rfl | ho
          · exact ⟨⟨h2, h3, h4⟩, h5⟩
          · exact g3 o ho

theorem parse_write (os : List (List Int × List Int)) (h : ∀ o ∈ os, OpOk o) (h5 : os.length ≤ 500) : parse ([67, 84, 49] ++ numOf os.length ++ os.flatMap opB) = some os := by
  unfold parse
  rw [if_pos (by simp)]
  have e : ([67, 84, 49] ++ numOf (os.length : Int) ++ os.flatMap opB).drop 3 = numOf (os.length : Int) ++ os.flatMap opB := by simp
  rw [e, readN_num _ (by omega)]
  simp only [unzig_zig, List.drop_left]
  rw [if_neg (by omega), Int.toNat_natCast]
  have := takeOps_write os [] h
  rw [List.append_nil] at this
  rw [this]
theorem parse_read {b : List Int} {os : List (List Int × List Int)} (hb : Byte b) (h : parse b = some os) : b = [67, 84, 49] ++ numOf os.length ++ os.flatMap opB ∧ (∀ o ∈ os, OpOk o ∧ Byte o.2) ∧ os.length ≤ 500 := by
  unfold parse at h
  split at h
  · rename_i h3
    cases hn : readN 0 0 (b.drop 3) with
    | none => rw [hn] at h; cases h
    | some p =>
      obtain ⟨v, k⟩ := p
      rw [hn] at h
      simp only at h
      split at h
      · cases h
      · rename_i hr
        obtain ⟨g1, g2, g3, g4, g5, g6⟩ := readN_len (hb.drop 3) hn
        cases ht : takeOps (unzig v).toNat ((b.drop 3).drop k) with
        | none => rw [ht] at h; cases h
        | some q =>
          obtain ⟨os', r'⟩ := q
          rw [ht] at h
          cases r' with
          | cons c r => cases h
          | nil =>
            simp only [Option.some.injEq] at h
            subst h
            obtain ⟨q1, q2, q3, q4⟩ := takeOps_read _ _ _ _ ((hb.drop 3).drop k) ht
            refine ⟨?_, q3, by omega⟩
            have e : ((os'.length : Nat) : Int) = unzig v := by omega
            rw [e]
            unfold numOf
            rw [zig_unzig, g6, ← h3]
            rw [List.append_nil] at q1
            rw [← q1, List.append_assoc, List.take_append_drop, List.take_append_drop]
  · cases h

end Go.Proofs.Ytabeolmfgmbfaaa
