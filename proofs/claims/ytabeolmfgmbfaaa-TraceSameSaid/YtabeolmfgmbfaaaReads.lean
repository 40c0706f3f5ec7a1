/- Things read one by one: the plain law of what the taker gives; what reads as a list of things. -/
import Derived.Test.YtabeolmfgmbfaaaCut
namespace Go.Proofs.Ytabeolmfgmbfaaa
open Go.RowKit
set_option linter.unusedVariables false
set_option linter.unusedSimpArgs false

theorem numS_false (l : List Int) : (numS l false).2.2 = false := by
  unfold numS
  cases readN 0 0 l with
  | none => rfl
  | some p => rfl
theorem dataS_false (l : List Int) : (dataS l false).2.2 = false := by
  unfold dataS
  simp only [numS_false]
  simp
theorem opS_false (l : List Int) (ok : Bool) (h : ok = false) : (opS l ok).2.2 = false := by
  subst h
  unfold opS
  simp only [numS_false, dataS_false]
theorem numS_some {l : List Int} {v k : Nat} (ok : Bool) (h : readN 0 0 l = some (v, k)) : numS l ok = (unzig v, l.drop k, ok) := by unfold numS; rw [h]
theorem numS_none {l : List Int} (ok : Bool) (h : readN 0 0 l = none) : numS l ok = (0, [], false) := by unfold numS; rw [h]

/-- So many numbers are taken. -/
def numsS : Nat → List Int → Bool → List Int × List Int × Bool
  | 0, l, ok => ([], l, ok)
  | k + 1, l, ok => ((numS l ok).1 :: (numsS k (numS l ok).2.1 (numS l ok).2.2).1, (numsS k (numS l ok).2.1 (numS l ok).2.2).2)
theorem numsS_false (k : Nat) : ∀ l, (numsS k l false).2.2 = false := by
  induction k with
  | zero => intro l; rfl
  | succ k ih => intro l; simp only [numsS]; rw [numS_false]; exact ih _
theorem numsS_take (k : Nat) : ∀ l, match takeK k l with
    | some (xs, r) => numsS k l true = (xs, r, true)
    | none => (numsS k l true).2.2 = false := by
  induction k with
  | zero => intro l; rfl
  | succ k ih =>
    intro l
    cases hn : readN 0 0 l with
    | none =>
      have e : takeK (k + 1) l = none := by rw [takeK, hn]
      rw [e]
      show (numsS (k + 1) l true).2.2 = false
      simp only [numsS, numS_none true hn]
      exact numsS_false k _
    | some p =>
      obtain ⟨v, j⟩ := p
      have h := ih (l.drop j)
      cases ht : takeK k (l.drop j) with
      | none =>
        have e : takeK (k + 1) l = none := by rw [takeK, hn]; simp only [ht]
        rw [ht] at h
        rw [e]
        show (numsS (k + 1) l true).2.2 = false
        simp only [numsS, numS_some true hn]
        exact h
      | some q =>
        obtain ⟨xs, r⟩ := q
        have e : takeK (k + 1) l = some (unzig v :: xs, r) := by rw [takeK, hn]; simp only [ht]
        rw [ht] at h
        rw [e]
        show numsS (k + 1) l true = _
        simp only [numsS, numS_some true hn]
        rw [show numsS k (List.drop j l) true = (xs, r, true) from h]
theorem opS_nums (l : List Int) (ok : Bool) : opS l ok = (((numsS 8 l ok).1.take 7, (dataS (numsS 7 l ok).2.1 (numsS 7 l ok).2.2).1), (dataS (numsS 7 l ok).2.1 (numsS 7 l ok).2.2).2) := by
  unfold opS
  simp only [numsS, List.take]
theorem numsS_last (k : Nat) : ∀ l ok, numsS (k + 1) l ok = ((numsS k l ok).1 ++ [(numS (numsS k l ok).2.1 (numsS k l ok).2.2).1], (numS (numsS k l ok).2.1 (numsS k l ok).2.2).2) := by
  induction k with
  | zero => intro l ok; rfl
  | succ k ih =>
    intro l ok
    rw [numsS, ih]
    simp only [numsS, List.cons_append]
theorem numsS_length (k : Nat) : ∀ l ok, (numsS k l ok).1.length = k := by
  induction k with
  | zero => intro l ok; rfl
  | succ k ih => intro l ok; simp only [numsS, List.length_cons, ih]

/-- One thing is taken, or the taker is no longer well. -/
theorem opS_take (l : List Int) : match takeOp l with
    | some (o, r) => opS l true = (o, r, true)
    | none => (opS l true).2.2 = false := by
  have h := numsS_take 8 l
  have h8 := numsS_last 7 l true
  have hl := numsS_length 7 l true
  cases ht : takeK 8 l with
  | none =>
    rw [ht] at h
    have e : takeOp l = none := by unfold takeOp; rw [ht]
    rw [e]
    show (opS l true).2.2 = false
    rw [opS_nums]
    show (dataS _ _).2.2 = false
    have h' : (numsS 8 l true).2.2 = false := h
    rw [h8] at h'
    unfold dataS
    simp only
    rw [if_neg (by rw [h']; simp)]
  | some q =>
    obtain ⟨xs, r⟩ := q
    rw [ht] at h
    have h' : numsS 8 l true = (xs, r, true) := h
    rw [h8] at h'
    have e1 : (numS (numsS 7 l true).2.1 (numsS 7 l true).2.2).2 = (r, true) := (Prod.mk.inj h').2
    have e2 : (numsS 7 l true).1 ++ [(numS (numsS 7 l true).2.1 (numsS 7 l true).2.2).1] = xs := (Prod.mk.inj h').1
    have e3 : xs.getD 7 0 = (numS (numsS 7 l true).2.1 (numsS 7 l true).2.2).1 := by
      rw [← e2, List.getD_eq_getElem?_getD, List.getElem?_append_right (by omega), hl]
      simp
    have e4 : (numsS 8 l true).1 = xs := by rw [h8]; exact e2
    generalize hx : (numS (numsS 7 l true).2.1 (numsS 7 l true).2.2).1 = x at *
    have hd : dataS (numsS 7 l true).2.1 (numsS 7 l true).2.2 = if 0 ≤ x ∧ x ≤ r.length ∧ x ≤ 4096 then (r.take x.toNat, r.drop x.toNat, true) else ([], r, false) := by
      unfold dataS
      simp only [hx, e1]
      by_cases hc : 0 ≤ x ∧ x ≤ r.length ∧ x ≤ 4096
      · rw [if_pos hc, if_pos ⟨trivial, hc⟩]
      · rw [if_neg hc, if_neg (fun h => hc h.2)]
    unfold takeOp
    rw [ht]
    simp only [e3]
    by_cases hc : 0 ≤ x ∧ x ≤ r.length ∧ x ≤ 4096
    · rw [if_neg (by omega)]
      show opS l true = _
      rw [opS_nums, hd, if_pos hc, e4]
    · rw [if_pos (by omega)]
      show (opS l true).2.2 = false
      rw [opS_nums, hd, if_neg hc]

/-- So many things are taken. -/
def readsS : Nat → List Int → Bool → List (List Int × List Int) × List Int × Bool
  | 0, l, ok => ([], l, ok)
  | k + 1, l, ok => ((readsS k l ok).1 ++ [(opS (readsS k l ok).2.1 (readsS k l ok).2.2).1], (opS (readsS k l ok).2.1 (readsS k l ok).2.2).2)
theorem takeOps_last (k : Nat) : ∀ l, takeOps (k + 1) l = match takeOps k l with
    | none => none
    | some (os, r) => match takeOp r with
      | none => none
      | some (o, r) => some (os ++ [o], r) := by
  induction k with
  | zero =>
    intro l
    simp only [takeOps]
    cases takeOp l with
    | none => rfl
    | some p => rfl
  | succ k ih =>
    intro l
    cases ho : takeOp l with
    | none => rw [takeOps, takeOps, ho]
    | some p =>
      obtain ⟨o, r⟩ := p
      have e1 : takeOps (k + 1 + 1) l = match takeOps (k + 1) r with | none => none | some (os, r) => some (o :: os, r) := by rw [takeOps, ho]; rfl
      have e2 : takeOps (k + 1) l = match takeOps k r with | none => none | some (os, r) => some (o :: os, r) := by rw [takeOps, ho]; rfl
      rw [e1, e2, ih r]
      cases takeOps k r with
      | none => rfl
      | some q =>
        obtain ⟨os, r2⟩ := q
        simp only
        cases takeOp r2 with
        | none => rfl
        | some q => rfl
theorem readsS_take (k : Nat) : ∀ l, match takeOps k l with
    | some (os, r) => readsS k l true = (os, r, true)
    | none => (readsS k l true).2.2 = false := by
  induction k with
  | zero => intro l; rfl
  | succ k ih =>
    intro l
    have h := ih l
    rw [takeOps_last]
    cases ht : takeOps k l with
    | none =>
      rw [ht] at h
      show (readsS (k + 1) l true).2.2 = false
      simp only [readsS]
      exact opS_false _ _ h
    | some q =>
      obtain ⟨os, r⟩ := q
      rw [ht] at h
      have h' : readsS k l true = (os, r, true) := h
      have ho := opS_take r
      simp only
      cases hp : takeOp r with
      | none =>
        rw [hp] at ho
        show (readsS (k + 1) l true).2.2 = false
        simp only [readsS, h']
        exact ho
      | some p =>
        obtain ⟨o, r2⟩ := p
        rw [hp] at ho
        show readsS (k + 1) l true = _
        simp only [readsS, h']
        rw [show opS r true = (o, r2, true) from ho]
theorem readsS_stuck {j n : Nat} {l : List Int} (hj : j ≤ n) (h : (readsS j l true).2.2 = false) : takeOps n l = none := by
  have h2 : ∀ d, (readsS (j + d) l true).2.2 = false := by
    intro d
    induction d with
    | zero => exact h
    | succ d ih => rw [← Nat.add_assoc]; simp only [readsS]; exact opS_false _ _ ih
  have h3 := h2 (n - j)
  rw [show j + (n - j) = n from by omega] at h3
  have h4 := readsS_take n l
  cases ht : takeOps n l with
  | none => rfl
  | some q =>
    obtain ⟨os, r⟩ := q
    rw [ht] at h4
    rw [show readsS n l true = (os, r, true) from h4] at h3
    cases h3

/-! ### lists of things, as values -/
def OpV.plain (o : OpV) : List Int × List Int := (o.nums.take 7, o.d)
theorem src_cellsT {w : World} {b : Nat} {c : Array Value} {t : TypeId} {size m cap : Nat} (h : Blk w b c t) (hs : c.size = m * size) (h1 : ∀ u ∈ c.toList, u.oneCell' = true) : Src w size (.slice (some ⟨b, 0, none⟩) m cap) m c.toList := by
  refine ⟨by simp [hs], h1, .inr ⟨_, _, rfl, fun j u hu => ?_⟩⟩
  rw [Addr.add_lit, h.cell]
  simpa using hu
theorem Try.info_opT : (Try.prog.info? 61).map (fun i => (i.zero, i.size, i.bytes)) = some (some (.agg #[.int .i64 0, .int .i64 0, .int .i64 0, .int .i64 0, .int .i64 0, .int .i64 0, .int .i64 0, .slice none 0 0]), 8, 80) := by kernel_rfl

/-- The cells of things, one behind the other. -/
def cellsOf (os : List OpV) : List Value := os.flatMap fun o => o.cells.toList
theorem cellsOf_length (os : List OpV) : (cellsOf os).length = os.length * 8 := by
  unfold cellsOf
  induction os with
  | nil => rfl
  | cons o os ih => simp only [List.flatMap_cons, List.length_append, ih, List.length_cons]; show 8 + _ = _; omega
theorem cellsOf_at : ∀ (os : List OpV) (j : Nat) (o : OpV), os[j]? = some o → ∀ i, i < 8 → (cellsOf os)[j * 8 + i]? = o.cells[i]? := by
  intro os
  induction os with
  | nil => intro j o h; simp at h
  | cons p os ih =>
    intro j o h i hi
    unfold cellsOf
    rw [List.flatMap_cons]
    cases j with
    | zero =>
      simp at h
      subst h
      rw [List.getElem?_append_left (by show 0 * 8 + i < 8; omega)]
      simp
    | succ j =>
      simp only [List.getElem?_cons_succ] at h
      rw [List.getElem?_append_right (by show 8 ≤ (j + 1) * 8 + i; omega)]
      have := ih j o h i hi
      unfold cellsOf at this
      rw [← this]
      congr 1
      show (j + 1) * 8 + i - 8 = j * 8 + i
      omega
theorem opl_own {w : World} {a : Option Addr} {n c : Nat} {os : List OpV} {g : Option Nat} (hn : os.length = n) (hok : ∀ o ∈ os, o.ok w) (h : Own w 61 8 (.slice a n c) n (cellsOf os) g) : Opl w a n os := by
  refine ⟨hn, fun e => ?_, hok, fun x hx j o ho i hi => ?_⟩
  · subst e
    cases n with
    | zero => rfl
    | succ n =>
      obtain ⟨b, off, hb, _⟩ := h.at (j := 0) (by omega)
      cases hb
  · subst hx
    have hj : j < os.length := (List.getElem?_eq_some_iff.1 ho).1
    obtain ⟨b, off, hb, _, hcell, _⟩ := h.at (j := j * 8 + i) (by omega)
    cases hb
    rw [Addr.add_lit, hcell, cellsOf_at os j o ho i hi]

/-- A thing that is known to be such as the world has. -/
theorem op_ok {w : World} {o : OpV} (h : OpOk o.plain) (hb : Byte o.d) (hl : Bys w o.da o.dn o.d) (hc : o.dn ≤ o.dc) : o.ok w := by
  obtain ⟨h7, hr, hd⟩ := h
  have hdl := hl.1
  have hd' : o.d.length ≤ 4096 := hd
  refine ⟨fun x hx => ?_, hl, hb, hc, by omega⟩
  have e : o.nums = o.nums.take 7 ++ [(o.dn : Int)] := rfl
  rw [e] at hx
  rcases List.mem_append.1 hx with hx | hx
  · exact hr x hx
  · simp at hx
    omega

/-- What Read answers. -/
def ReadPost (l : List Int) (w : World) (e : Ending) (w' : World) : Prop :=
  (parse l = none → e = .returned (.tuple #[.slice none 0 0, .bool false]) ∧ Chg Non w w') ∧
  (∀ os, parse l = some os → ∃ (a : Option Addr) (c : Nat) (vs : List OpV), e = .returned (.tuple #[.slice a os.length c, .bool true]) ∧ Opl w' a os.length vs ∧ vs.map OpV.plain = os ∧ Chg Non w w')

end Go.Proofs.Ytabeolmfgmbfaaa
