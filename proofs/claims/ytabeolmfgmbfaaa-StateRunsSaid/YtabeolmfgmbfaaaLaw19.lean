/- The laws of package state: the walks of StateNext and StateRuns. Every number, every list. -/
import Derived.Test.YtabeolmfgmbfaaaState
namespace Go.Proofs.Ytabeolmfgmbfaaa
open Go.RowKit
set_option linter.unusedVariables false
set_option linter.unusedSimpArgs false

theorem ints_blk {w : World} {b off n : Nat} {c : Array Value} {t : TypeId} {l : List Int} (h : Blk w b c t) (hc : ∀ j, j < l.length → c[off + j]? = some (.int .i64 (l.getD j 0))) (hn : n = l.length) : Ints w (some ⟨b, off, none⟩) n l := by
  refine ⟨hn.symm, fun e => (by cases e), fun x hx j hj => ?_⟩
  cases hx
  rw [Addr.add_lit, h.cell, hc j hj]

/-- An owned slice of ints, read. -/
theorem ints_own {w : World} {e : TypeId} {a : Option Addr} {n c : Nat} {l : List Int} {g : Option Nat} (hn : l.length = n) (h : Own w e 1 (.slice a n c) n (l.map (Value.int .i64)) g) : Ints w a n l := by
  refine ⟨hn, fun e => ?_, fun x hx j hj => ?_⟩
  · subst e
    cases n with
    | zero => rfl
    | succ n =>
      obtain ⟨b, off, hb, _⟩ := h.at (j := 0) (by simp)
      cases hb
  · subst hx
    obtain ⟨b, off, hb, _, hcell, _⟩ := h.at (j := j) (by omega)
    cases hb
    rw [Addr.add_lit, hcell]
    simp [List.getD_eq_getElem?_getD, hj]

set_option maxRecDepth 100000 in
theorem awake19 (w : World) : Calls Try.prog 32 #[] w fun e w' => e = .returned (.bool true) ∧ Chg Non w w' := by
  have e1 : runOf 1 [1, 2, 3, 1] = (2, 4) := by decide
  have e2 : nameOf 2 = ⟨#[108, 105, 118, 101]⟩ := rfl
  have e3 : canB 1 2 = false := by decide
  go_enter Try.func32, Try.ntmps32
  go_wp2_with fail
  refine (run_any 1 _ 4 [1, 2, 3, 1] _ (ints_blk (Blk.new _ _ _) ?_ rfl) (by decide)).mono ?_
  · intro j hj
    match j, hj with
    | 0, _ => rfl
    | 1, _ => rfl
    | 2, _ => rfl
    | 3, _ => rfl
  rintro e w1 ⟨rfl, hc⟩
  have HC : Hid (Chg Non w w1) := ((Chg.refl _ _).alloc _).tr hc
  clear hc
  go_wp2_with fail
  refine (name_any 2 _).mono ?_
  rintro e w2 ⟨rfl, rfl⟩
  go_wp2_with fail
  refine (can_any 1 2 _).mono ?_
  rintro e w3 ⟨rfl, hc3⟩
  have HC3 := Lib.hid (HC.out.tr hc3)
  clear hc3
  go_wp2_with fail
  go_ret
  exact ⟨rfl, HC3.out⟩

/-- 'a | 8' is none of 1 to 3. -/
theorem or8 (a : Int) : bits .or .i64 a 8 < 0 ∨ 8 ≤ bits .or .i64 a 8 := by
  have h1 : (BitVec.ofInt 64 (8 : Int)).toNat = 8 := by decide
  have h2 : 8 ≤ (BitVec.ofInt 64 a ||| BitVec.ofInt 64 8).toNat := by
    rw [BitVec.toNat_or, h1]
    exact Nat.right_le_or
  have h3 : (BitVec.ofInt 64 a ||| BitVec.ofInt 64 8).toNat < 2 ^ 64 := BitVec.isLt _
  have e : bits .or .i64 a 8 = IntKind.i64.wrap (((BitVec.ofInt 64 a ||| BitVec.ofInt 64 8).toNat : Nat) : Int) := rfl
  rw [e, IntKind.wrap_i64]
  generalize (BitVec.ofInt 64 a ||| BitVec.ofInt 64 8).toNat = n at h2 h3
  have h3' : n < 18446744073709551616 := h3
  omega
theorem next_or8 (a b : Int) : nextOf (bits .or .i64 a 8) b = 0 := by
  have h := or8 a
  unfold nextOf
  rw [if_neg (by omega), if_neg (by omega), if_neg (by omega)]

set_option maxHeartbeats 1000000 in
set_option maxRecDepth 100000 in
theorem stateNext_walk (a b : Int) (w : World) : Calls Try.prog 7 #[.int .i64 a, .int .i64 b] w fun e w' => e = .returned (.bool true) ∧ Below w.heap.size w w' := by
  have ha := and7 a
  have hb := and7 b
  have n8 := next_or8 a b
  have s8 : stErr (bits .or .i64 a 8) b = 12 := stErr_no (by omega)
  have ha0 : 0 ≤ a % 8 := by omega
  have ha8 : a % 8 < 8 := by omega
  have hb0 : 0 ≤ b % 8 := by omega
  have hb8 : b % 8 < 8 := by omega
  generalize a % 8 = m at *
  generalize b % 8 = n at *
  have hcase : (m = 2 ∧ n = 2) ∨ (m = 3 ∧ n = 3) ∨ (m = 4 ∧ n = 4) ∨ (m = 2 ∧ n ≠ 2) ∨ (m = 3 ∧ n ≠ 3) ∨ (m = 4 ∧ n ≠ 4) ∨ m = 0 ∨ m = 1 ∨ m = 5 ∨ m = 6 ∨ m = 7 := by omega
  rcases hcase with ⟨rfl, rfl⟩ | ⟨rfl, rfl⟩ | ⟨rfl, rfl⟩ | ⟨rfl, hn⟩ | ⟨rfl, hn⟩ | ⟨rfl, hn⟩ | rfl | rfl | rfl | rfl | rfl
  · have q1 : nextOf 1 1 = 2 := by decide
    have q2 : stErr 1 1 = 0 := by decide
    have q3 : canB 1 1 = true := by decide
    have q4 : nameOf 1 = ⟨#[102, 114, 101, 101]⟩ := by decide
    go_enter Try.func7, Try.ntmps7
    go_wp2_with fail
    refine (stateNext_any _ _ _).mono ?_
    rintro e w1 ⟨rfl, hc1⟩
    have HC1 := Lib.hid hc1
    clear hc1
    go_wp2_with fail
    refine (stateNext_any _ _ _).mono ?_
    rintro e w2 ⟨rfl, hc2⟩
    have HC2 := Lib.hid (HC1.out.tr hc2)
    clear hc2 HC1
    go_wp2_with fail
    refine (name_any _ _).mono ?_
    rintro e w3 ⟨rfl, rfl⟩
    go_wp2_with fail
    refine (awake19 _).mono ?_
    rintro e w3 ⟨rfl, hc3⟩
    have HC3 : Hid (Below w.heap.size w w3) := ((HC2.out.alloc _).tr hc3).below
    have hk0 := Lib.hid ((Blk.new w2 #[.string ⟨#[102, 114, 101, 101]⟩, .string ⟨#[108, 105, 118, 101]⟩, .string ⟨#[104, 101, 108, 100]⟩] 9).chg hc3 (fun h => h))
    clear hc3
    go_wp2_with fail
    refine (can_any _ _ _).mono ?_
    rintro e w4 ⟨rfl, hc4⟩
    have hk := (hk0.out.chg hc4 (fun h => h)).cell 0
    simp at hk
    have HC4 : Hid (Below w.heap.size w w4) := HC3.out.trans (hc4.belowAt HC3.out.size fun _ h => h.elim)
    clear hc4
    go_wp2_with fail
    go_ret
    exact ⟨rfl, HC4.out⟩
  · have q1 : nextOf 2 2 = 3 := by decide
    have q2 : stErr 2 2 = 0 := by decide
    have q3 : canB 2 2 = true := by decide
    have q4 : nameOf 2 = ⟨#[108, 105, 118, 101]⟩ := by decide
    go_enter Try.func7, Try.ntmps7
    go_wp2_with fail
    refine (stateNext_any _ _ _).mono ?_
    rintro e w1 ⟨rfl, hc1⟩
    have HC1 := Lib.hid hc1
    clear hc1
    go_wp2_with fail
    refine (stateNext_any _ _ _).mono ?_
    rintro e w2 ⟨rfl, hc2⟩
    have HC2 := Lib.hid (HC1.out.tr hc2)
    clear hc2 HC1
    go_wp2_with fail
    refine (name_any _ _).mono ?_
    rintro e w3 ⟨rfl, rfl⟩
    go_wp2_with fail
    refine (awake19 _).mono ?_
    rintro e w3 ⟨rfl, hc3⟩
    have HC3 : Hid (Below w.heap.size w w3) := ((HC2.out.alloc _).tr hc3).below
    have hk0 := Lib.hid ((Blk.new w2 #[.string ⟨#[102, 114, 101, 101]⟩, .string ⟨#[108, 105, 118, 101]⟩, .string ⟨#[104, 101, 108, 100]⟩] 9).chg hc3 (fun h => h))
    clear hc3
    go_wp2_with fail
    refine (can_any _ _ _).mono ?_
    rintro e w4 ⟨rfl, hc4⟩
    have hk := (hk0.out.chg hc4 (fun h => h)).cell 1
    simp at hk
    have HC4 : Hid (Below w.heap.size w w4) := HC3.out.trans (hc4.belowAt HC3.out.size fun _ h => h.elim)
    clear hc4
    go_wp2_with fail
    go_ret
    exact ⟨rfl, HC4.out⟩
  · have q1 : nextOf 3 3 = 1 := by decide
    have q2 : stErr 3 3 = 0 := by decide
    have q3 : canB 3 3 = true := by decide
    have q4 : nameOf 3 = ⟨#[104, 101, 108, 100]⟩ := by decide
    go_enter Try.func7, Try.ntmps7
    go_wp2_with fail
    refine (stateNext_any _ _ _).mono ?_
    rintro e w1 ⟨rfl, hc1⟩
    have HC1 := Lib.hid hc1
    clear hc1
    go_wp2_with fail
    refine (stateNext_any _ _ _).mono ?_
    rintro e w2 ⟨rfl, hc2⟩
    have HC2 := Lib.hid (HC1.out.tr hc2)
    clear hc2 HC1
    go_wp2_with fail
    refine (name_any _ _).mono ?_
    rintro e w3 ⟨rfl, rfl⟩
    go_wp2_with fail
    refine (awake19 _).mono ?_
    rintro e w3 ⟨rfl, hc3⟩
    have HC3 : Hid (Below w.heap.size w w3) := ((HC2.out.alloc _).tr hc3).below
    have hk0 := Lib.hid ((Blk.new w2 #[.string ⟨#[102, 114, 101, 101]⟩, .string ⟨#[108, 105, 118, 101]⟩, .string ⟨#[104, 101, 108, 100]⟩] 9).chg hc3 (fun h => h))
    clear hc3
    go_wp2_with fail
    refine (can_any _ _ _).mono ?_
    rintro e w4 ⟨rfl, hc4⟩
    have hk := (hk0.out.chg hc4 (fun h => h)).cell 2
    simp at hk
    have HC4 : Hid (Below w.heap.size w w4) := HC3.out.trans (hc4.belowAt HC3.out.size fun _ h => h.elim)
    clear hc4
    go_wp2_with fail
    go_ret
    exact ⟨rfl, HC4.out⟩
  · have q1 : nextOf 1 (n - 1) = 0 := by unfold nextOf; simp; omega
    have q2 : stErr 1 (n - 1) = 12 := stErr_no (by omega)
    have q3 : canB 1 (n - 1) = false := by simp [canB, q1]
    have q4 : nameOf 1 = ⟨#[102, 114, 101, 101]⟩ := by decide
    have q5 : (n - 1 == 1) = false := by simp; omega
    go_enter Try.func7, Try.ntmps7
    go_wp2_with fail
    refine (stateNext_any _ _ _).mono ?_
    rintro e w1 ⟨rfl, hc1⟩
    have HC1 := Lib.hid hc1
    clear hc1
    go_wp2_with fail
    refine (stateNext_any _ _ _).mono ?_
    rintro e w2 ⟨rfl, hc2⟩
    have HC2 := Lib.hid (HC1.out.tr hc2)
    clear hc2 HC1
    go_wp2_with fail
    refine (name_any _ _).mono ?_
    rintro e w3 ⟨rfl, rfl⟩
    go_wp2_with fail
    refine (awake19 _).mono ?_
    rintro e w3 ⟨rfl, hc3⟩
    have HC3 : Hid (Below w.heap.size w w3) := ((HC2.out.alloc _).tr hc3).below
    have hk0 := Lib.hid ((Blk.new w2 #[.string ⟨#[102, 114, 101, 101]⟩, .string ⟨#[108, 105, 118, 101]⟩, .string ⟨#[104, 101, 108, 100]⟩] 9).chg hc3 (fun h => h))
    clear hc3
    go_wp2_with fail
    refine (can_any _ _ _).mono ?_
    rintro e w4 ⟨rfl, hc4⟩
    have hk := (hk0.out.chg hc4 (fun h => h)).cell 0
    simp at hk
    have HC4 : Hid (Below w.heap.size w w4) := HC3.out.trans (hc4.belowAt HC3.out.size fun _ h => h.elim)
    clear hc4
    go_wp2_with fail
    go_ret
    exact ⟨rfl, HC4.out⟩
  · have q1 : nextOf 2 (n - 1) = 0 := by unfold nextOf; simp; omega
    have q2 : stErr 2 (n - 1) = 12 := stErr_no (by omega)
    have q3 : canB 2 (n - 1) = false := by simp [canB, q1]
    have q4 : nameOf 2 = ⟨#[108, 105, 118, 101]⟩ := by decide
    have q5 : (n - 1 == 2) = false := by simp; omega
    go_enter Try.func7, Try.ntmps7
    go_wp2_with fail
    refine (stateNext_any _ _ _).mono ?_
    rintro e w1 ⟨rfl, hc1⟩
    have HC1 := Lib.hid hc1
    clear hc1
    go_wp2_with fail
    refine (stateNext_any _ _ _).mono ?_
    rintro e w2 ⟨rfl, hc2⟩
    have HC2 := Lib.hid (HC1.out.tr hc2)
    clear hc2 HC1
    go_wp2_with fail
    refine (name_any _ _).mono ?_
    rintro e w3 ⟨rfl, rfl⟩
    go_wp2_with fail
    refine (awake19 _).mono ?_
    rintro e w3 ⟨rfl, hc3⟩
    have HC3 : Hid (Below w.heap.size w w3) := ((HC2.out.alloc _).tr hc3).below
    have hk0 := Lib.hid ((Blk.new w2 #[.string ⟨#[102, 114, 101, 101]⟩, .string ⟨#[108, 105, 118, 101]⟩, .string ⟨#[104, 101, 108, 100]⟩] 9).chg hc3 (fun h => h))
    clear hc3
    go_wp2_with fail
    refine (can_any _ _ _).mono ?_
    rintro e w4 ⟨rfl, hc4⟩
    have hk := (hk0.out.chg hc4 (fun h => h)).cell 1
    simp at hk
    have HC4 : Hid (Below w.heap.size w w4) := HC3.out.trans (hc4.belowAt HC3.out.size fun _ h => h.elim)
    clear hc4
    go_wp2_with fail
    go_ret
    exact ⟨rfl, HC4.out⟩
  · have q1 : nextOf 3 (n - 1) = 0 := by unfold nextOf; simp; omega
    have q2 : stErr 3 (n - 1) = 12 := stErr_no (by omega)
    have q3 : canB 3 (n - 1) = false := by simp [canB, q1]
    have q4 : nameOf 3 = ⟨#[104, 101, 108, 100]⟩ := by decide
    have q5 : (n - 1 == 3) = false := by simp; omega
    go_enter Try.func7, Try.ntmps7
    go_wp2_with fail
    refine (stateNext_any _ _ _).mono ?_
    rintro e w1 ⟨rfl, hc1⟩
    have HC1 := Lib.hid hc1
    clear hc1
    go_wp2_with fail
    refine (stateNext_any _ _ _).mono ?_
    rintro e w2 ⟨rfl, hc2⟩
    have HC2 := Lib.hid (HC1.out.tr hc2)
    clear hc2 HC1
    go_wp2_with fail
    refine (name_any _ _).mono ?_
    rintro e w3 ⟨rfl, rfl⟩
    go_wp2_with fail
    refine (awake19 _).mono ?_
    rintro e w3 ⟨rfl, hc3⟩
    have HC3 : Hid (Below w.heap.size w w3) := ((HC2.out.alloc _).tr hc3).below
    have hk0 := Lib.hid ((Blk.new w2 #[.string ⟨#[102, 114, 101, 101]⟩, .string ⟨#[108, 105, 118, 101]⟩, .string ⟨#[104, 101, 108, 100]⟩] 9).chg hc3 (fun h => h))
    clear hc3
    go_wp2_with fail
    refine (can_any _ _ _).mono ?_
    rintro e w4 ⟨rfl, hc4⟩
    have hk := (hk0.out.chg hc4 (fun h => h)).cell 2
    simp at hk
    have HC4 : Hid (Below w.heap.size w w4) := HC3.out.trans (hc4.belowAt HC3.out.size fun _ h => h.elim)
    clear hc4
    go_wp2_with fail
    go_ret
    exact ⟨rfl, HC4.out⟩
  · have q1 : nextOf (-1) (n - 1) = 0 := by unfold nextOf; simp
    have q2 : stErr (-1) (n - 1) = 12 := stErr_no (by omega)
    have q3 : canB (-1) (n - 1) = false := by simp [canB, q1]
    have q4 : nameOf (-1) = ⟨#[]⟩ := by decide
    go_enter Try.func7, Try.ntmps7
    go_wp2_with fail
    refine (stateNext_any _ _ _).mono ?_
    rintro e w1 ⟨rfl, hc1⟩
    have HC1 := Lib.hid hc1
    clear hc1
    go_wp2_with fail
    refine (stateNext_any _ _ _).mono ?_
    rintro e w2 ⟨rfl, hc2⟩
    have HC2 := Lib.hid (HC1.out.tr hc2)
    clear hc2 HC1
    go_wp2_with fail
    refine (name_any _ _).mono ?_
    rintro e w3 ⟨rfl, rfl⟩
    go_wp2_with fail
    refine (awake19 _).mono ?_
    rintro e w3 ⟨rfl, hc3⟩
    have HC3 : Hid (Below w.heap.size w w3) := ((HC2.out.alloc _).tr hc3).below
    clear hc3
    go_wp2_with fail
    refine (can_any _ _ _).mono ?_
    rintro e w4 ⟨rfl, hc4⟩
    have HC4 : Hid (Below w.heap.size w w4) := HC3.out.trans (hc4.belowAt HC3.out.size fun _ h => h.elim)
    clear hc4
    go_wp2_with fail
    go_ret
    exact ⟨rfl, HC4.out⟩
  · have q1 : nextOf (0) (n - 1) = 0 := by unfold nextOf; simp
    have q2 : stErr (0) (n - 1) = 12 := stErr_no (by omega)
    have q3 : canB (0) (n - 1) = false := by simp [canB, q1]
    have q4 : nameOf (0) = ⟨#[]⟩ := by decide
    go_enter Try.func7, Try.ntmps7
    go_wp2_with fail
    refine (stateNext_any _ _ _).mono ?_
    rintro e w1 ⟨rfl, hc1⟩
    have HC1 := Lib.hid hc1
    clear hc1
    go_wp2_with fail
    refine (stateNext_any _ _ _).mono ?_
    rintro e w2 ⟨rfl, hc2⟩
    have HC2 := Lib.hid (HC1.out.tr hc2)
    clear hc2 HC1
    go_wp2_with fail
    refine (name_any _ _).mono ?_
    rintro e w3 ⟨rfl, rfl⟩
    go_wp2_with fail
    refine (awake19 _).mono ?_
    rintro e w3 ⟨rfl, hc3⟩
    have HC3 : Hid (Below w.heap.size w w3) := ((HC2.out.alloc _).tr hc3).below
    clear hc3
    go_wp2_with fail
    refine (can_any _ _ _).mono ?_
    rintro e w4 ⟨rfl, hc4⟩
    have HC4 : Hid (Below w.heap.size w w4) := HC3.out.trans (hc4.belowAt HC3.out.size fun _ h => h.elim)
    clear hc4
    go_wp2_with fail
    go_ret
    exact ⟨rfl, HC4.out⟩
  · have q1 : nextOf (4) (n - 1) = 0 := by unfold nextOf; simp
    have q2 : stErr (4) (n - 1) = 12 := stErr_no (by omega)
    have q3 : canB (4) (n - 1) = false := by simp [canB, q1]
    have q4 : nameOf (4) = ⟨#[]⟩ := by decide
    go_enter Try.func7, Try.ntmps7
    go_wp2_with fail
    refine (stateNext_any _ _ _).mono ?_
    rintro e w1 ⟨rfl, hc1⟩
    have HC1 := Lib.hid hc1
    clear hc1
    go_wp2_with fail
    refine (stateNext_any _ _ _).mono ?_
    rintro e w2 ⟨rfl, hc2⟩
    have HC2 := Lib.hid (HC1.out.tr hc2)
    clear hc2 HC1
    go_wp2_with fail
    refine (name_any _ _).mono ?_
    rintro e w3 ⟨rfl, rfl⟩
    go_wp2_with fail
    refine (awake19 _).mono ?_
    rintro e w3 ⟨rfl, hc3⟩
    have HC3 : Hid (Below w.heap.size w w3) := ((HC2.out.alloc _).tr hc3).below
    clear hc3
    go_wp2_with fail
    refine (can_any _ _ _).mono ?_
    rintro e w4 ⟨rfl, hc4⟩
    have HC4 : Hid (Below w.heap.size w w4) := HC3.out.trans (hc4.belowAt HC3.out.size fun _ h => h.elim)
    clear hc4
    go_wp2_with fail
    go_ret
    exact ⟨rfl, HC4.out⟩
  · have q1 : nextOf (5) (n - 1) = 0 := by unfold nextOf; simp
    have q2 : stErr (5) (n - 1) = 12 := stErr_no (by omega)
    have q3 : canB (5) (n - 1) = false := by simp [canB, q1]
    have q4 : nameOf (5) = ⟨#[]⟩ := by decide
    go_enter Try.func7, Try.ntmps7
    go_wp2_with fail
    refine (stateNext_any _ _ _).mono ?_
    rintro e w1 ⟨rfl, hc1⟩
    have HC1 := Lib.hid hc1
    clear hc1
    go_wp2_with fail
    refine (stateNext_any _ _ _).mono ?_
    rintro e w2 ⟨rfl, hc2⟩
    have HC2 := Lib.hid (HC1.out.tr hc2)
    clear hc2 HC1
    go_wp2_with fail
    refine (name_any _ _).mono ?_
    rintro e w3 ⟨rfl, rfl⟩
    go_wp2_with fail
    refine (awake19 _).mono ?_
    rintro e w3 ⟨rfl, hc3⟩
    have HC3 : Hid (Below w.heap.size w w3) := ((HC2.out.alloc _).tr hc3).below
    clear hc3
    go_wp2_with fail
    refine (can_any _ _ _).mono ?_
    rintro e w4 ⟨rfl, hc4⟩
    have HC4 : Hid (Below w.heap.size w w4) := HC3.out.trans (hc4.belowAt HC3.out.size fun _ h => h.elim)
    clear hc4
    go_wp2_with fail
    go_ret
    exact ⟨rfl, HC4.out⟩
  · have q1 : nextOf (6) (n - 1) = 0 := by unfold nextOf; simp
    have q2 : stErr (6) (n - 1) = 12 := stErr_no (by omega)
    have q3 : canB (6) (n - 1) = false := by simp [canB, q1]
    have q4 : nameOf (6) = ⟨#[]⟩ := by decide
    go_enter Try.func7, Try.ntmps7
    go_wp2_with fail
    refine (stateNext_any _ _ _).mono ?_
    rintro e w1 ⟨rfl, hc1⟩
    have HC1 := Lib.hid hc1
    clear hc1
    go_wp2_with fail
    refine (stateNext_any _ _ _).mono ?_
    rintro e w2 ⟨rfl, hc2⟩
    have HC2 := Lib.hid (HC1.out.tr hc2)
    clear hc2 HC1
    go_wp2_with fail
    refine (name_any _ _).mono ?_
    rintro e w3 ⟨rfl, rfl⟩
    go_wp2_with fail
    refine (awake19 _).mono ?_
    rintro e w3 ⟨rfl, hc3⟩
    have HC3 : Hid (Below w.heap.size w w3) := ((HC2.out.alloc _).tr hc3).below
    clear hc3
    go_wp2_with fail
    refine (can_any _ _ _).mono ?_
    rintro e w4 ⟨rfl, hc4⟩
    have HC4 : Hid (Below w.heap.size w w4) := HC3.out.trans (hc4.belowAt HC3.out.size fun _ h => h.elim)
    clear hc4
    go_wp2_with fail
    go_ret
    exact ⟨rfl, HC4.out⟩

/-- The states go round. -/
theorem nextOf_round (s x : Int) (h1 : 1 ≤ s) (h4 : s ≤ 4) : nextOf s x = if s ≤ 3 ∧ x = s then s % 3 + 1 else 0 := by
  unfold nextOf
  have : s = 1 ∨ s = 2 ∨ s = 3 ∨ s = 4 := by omega
  rcases this with rfl | rfl | rfl | rfl <;> simp
theorem runOf_bounds : ∀ (l : List Int) (s : Int), 1 ≤ s → s ≤ 4 → 1 ≤ (runOf s l).1 ∧ (runOf s l).1 ≤ 4
  | [], s, h1, h4 => ⟨h1, h4⟩
  | x :: r, s, h1, h4 => by
    have hn := nextOf_round s x h1 h4
    by_cases h : 0 < nextOf s x
    · simp only [runOf, if_pos h]
      refine runOf_bounds r _ (by omega) ?_
      rw [hn]
      split <;> omega
    · simp only [runOf, if_neg h]
      exact ⟨h1, h4⟩

set_option maxHeartbeats 2000000 in
set_option maxRecDepth 100000 in
theorem stateRuns_walk (f : Int) (a : Option Addr) (len cap : Nat) (l : List Int) (w : World) (hl : Ints w a len l) (hlen : len ≤ 17592186044415) :
    Calls Try.prog 8 #[.int .i64 f, .slice a len cap] w fun e w' => e = .returned (.bool true) ∧ Below w.heap.size w w' := by
  obtain ⟨i0, hi, hz0, hz1, hz2⟩ := info_parts (show (Try.prog.info? 3).map (fun i => (i.zero, i.size, i.bytes)) = some (some (.int .i64 0), 1, 8) by kernel_rfl)
  have hf := and3 f
  have hf0 : 0 ≤ f % 4 := by omega
  have hf4 : f % 4 < 4 := by omega
  generalize f % 4 = m at *
  have HL := Lib.hid hl
  clear hl
  have HO : Hid (Own (w.alloc (.cells #[] 3)) 3 1 (.slice (some ⟨w.heap.size, 0, none⟩) 0 0) 0 [] (some w.heap.size)) := ⟨by simp, .inr ⟨_, 0, 0, _, rfl, rfl, Blk.new _ _ _, Nat.le_refl _, Nat.zero_le _, by simp, by simp⟩⟩
  go_enter Try.func8, Try.ntmps8
  go_wp2_with fail
  go_loopw [6, 7] (fun x i wr => ∃ (j : Nat) (b : Option Addr) (c : Nat), x = .slice b j c ∧ i = .int .i64 j ∧ j ≤ 20 ∧ j ≤ len ∧ Hid (∃ g, Own wr 3 1 (.slice b j c) j (((l.take j).map (· % 4)).map (Value.int .i64)) g ∧ ∀ k, g = some k → w.heap.size ≤ k) ∧ Hid (Below w.heap.size w wr)) (fun _ i _ => 20 - (intOf i).toNat)
  case atStart => exact ⟨0, _, _, rfl, rfl, by omega, by omega, ⟨_, HO.out, fun k hk => by cases hk; exact Nat.le_refl _⟩, ((Chg.refl Non w).alloc _).below⟩
  case round =>
    obtain ⟨j, b, c, rfl, rfl, hj20, hjl, hown, hB⟩ := hrel
    by_cases hlt : j < len ∧ j < 20
    · obtain ⟨hlt1, hlt2⟩ := hlt
      obtain ⟨y, rfl⟩ : ∃ y, a = some y := by
        cases a with
        | none => have := HL.out.2.1 rfl; omega
        | some y => exact ⟨y, rfl⟩
      obtain ⟨X, hX⟩ : ∃ X, l.getD j 0 = X := ⟨_, rfl⟩
      have hcell0 := HL.out.2.2 y rfl j (by rw [HL.out.1]; exact hlt1)
      rw [hX] at hcell0
      have hcell : wr.cell? (y.add j) = some (.int .i64 X) := (hB.out.cell (World.block_lt_of_cell? w _ hcell0)).trans hcell0
      have hand := and3 X
      have htake : Hid ((l.take (j + 1)).map (· % 4) = (l.take j).map (· % 4) ++ [X % 4]) := by
        show (l.take (j + 1)).map (· % 4) = _
        rw [List.take_succ_eq_append_getElem (by rw [HL.out.1]; exact hlt1), ← hX]
        rw [List.map_append]
        simp [List.getD_eq_getElem?_getD, show j < l.length by rw [HL.out.1]; exact hlt1]
      obtain ⟨g, ho, hg⟩ := hown.out
      have HO2 := Lib.hid (ho.chg ((Chg.refl Non wr).alloc (.cells #[.int .i64 (X % 4)] 3)) (fun _ _ h => h))
      have HG := Lib.hid hg
      have hgl := Lib.hid ho.lt
      have HS : Hid (Src (wr.alloc (.cells #[.int .i64 (X % 4)] 3)) 1 (.slice (some ⟨wr.heap.size, 0, none⟩) 1 1) 1 [.int .i64 (X % 4)]) := ⟨rfl, by simp [Value.oneCell'], .inr ⟨_, _, rfl, fun i u hu => by
        match i, hu with
        | 0, hu => simpa [Addr.add, go_sem] using hu⟩⟩
      have hM : j + 1 ≤ maxLen := by unfold maxLen; omega
      clear ho hg hown hX hcell0
      go_wp2_with (at_builtin; refine wpList_append_Own _ rfl _ _ 22 rfl 3 i0 (.int .i64 0) 1 8 Try.underlying22 hi hz0 hz1 hz2 rfl (by decide) _ j _ g rfl HO2.out _ 1 _ rfl HS.out hM (by omega) ?_; intro v' w' g' hown hchg hg'; obtain ⟨a2, c2, rfl, hc2, hm2⟩ := hown.slice; have HO3 := Lib.hid hown; have HC3 := Lib.hid hchg; have HG3 := Lib.hid hg'; clear hown hchg hg')
      go_roundw
      case rel =>
        refine ⟨j + 1, a2, c2, rfl, by go_num, by omega, by omega, ⟨g', ?_, fun k hk => ?_⟩, ?_⟩
        · rw [htake.out, List.map_append]; exact HO3.out
        · have := hB.out.size
          rcases HG3.out k hk with h | h
          · exact HG.out k h
          · simp at h; omega
        · exact (hB.out.alloc hB.out.size _).trans (HC3.out.belowAt (by have := hB.out.size; simp; omega) (fun i hi => HG.out i hi))
      case measure => simp [intOf]; omega
    · have hXl : ((l.take j).map (· % 4)).length = j := by rw [List.length_map, List.length_take, HL.out.1]; omega
      obtain ⟨g, ho, hg⟩ := hown.out
      obtain ⟨hc, hcm⟩ : j ≤ c ∧ c ≤ maxLen := by
        obtain ⟨a', c', e, h1, h2⟩ := ho.slice
        cases e
        exact ⟨h1, h2⟩
      clear hown
      generalize (l.take j).map (· % 4) = X at *
      have HX := Lib.hid hXl
      have HO2 := Lib.hid ho
      clear ho hXl hg
      have hcase : (j < len ∧ ¬ j < 20) ∨ ¬ j < len := by omega
      clear hlt
      rcases hcase with ⟨hx1, hx2⟩ | hx1
      all_goals
        go_wp2_with fail
        go_loop [8, 9] (fun v i => ∃ k : Nat, k ≤ j ∧ i = .int .i64 k ∧ v = .int .i64 (runOf (m + 1) (X.take k)).1 ∧ Hid ((runOf (m + 1) (X.take k)).2 = k)) (fun _ i => j - (intOf i).toNat)
        case atStart => exact ⟨0, Nat.zero_le _, rfl, rfl, rfl⟩
        case round =>
          obtain ⟨k, hk, rfl, rfl, h2⟩ := hrel
          obtain ⟨hb1, hb4⟩ := runOf_bounds (X.take k) (m + 1) (by omega) (by omega)
          have hstop : Hid ((k < j → nextOf (runOf (m + 1) (X.take k)).1 (X.getD k 0) = 0) → runOf (m + 1) X = runOf (m + 1) (X.take k)) := by
            intro hno
            have h3 := runOf_stop (X.take k) (X.drop k) (m + 1) (by rw [h2.out, List.length_take, HX.out]; omega) (fun x hx => by
              rw [List.head?_drop] at hx
              have hkl := (List.getElem?_eq_some_iff.1 hx).1
              have : x = X.getD k 0 := by rw [List.getD_eq_getElem?_getD, hx]; rfl
              rw [this, hno (by rw [HX.out] at hkl; exact hkl)]
              decide)
            rwa [List.take_append_drop] at h3
          have hnr := fun x => nextOf_round (runOf (m + 1) (X.take k)).1 x hb1 hb4
          have HNR := Lib.hid hnr
          clear hnr
          have hfin : Hid (runOf (m + 1) X = runOf (m + 1) (X.take k) → Calls Try.prog 34 #[.int .i64 (m + 1), .slice b j c] wr fun e w' => e = .returned (.tuple #[.int .i64 (runOf (m + 1) (X.take k)).1, .int .i64 k]) ∧ Chg Non wr w') := by
            intro he
            have h := run_any (m + 1) b c X wr (by rw [HX.out]; exact ints_own HX.out HO2.out) (by rw [HX.out]; omega)
            rw [HX.out, he, h2.out] at h
            exact h
          have hsn : Hid (k < j → 0 < nextOf (runOf (m + 1) (X.take k)).1 (X.getD k 0) → runOf (m + 1) (X.take (k + 1)) = (nextOf (runOf (m + 1) (X.take k)).1 (X.getD k 0), k + 1)) := by
            intro hkj hp
            have hXk : k < X.length := by rw [HX.out]; exact hkj
            have htk : X.take (k + 1) = X.take k ++ [X.getD k 0] := by
              rw [List.take_succ_eq_append_getElem hXk]
              simp [List.getD_eq_getElem?_getD, hXk]
            have hlk : (X.take k).length = k := by rw [List.length_take]; omega
            rw [htk, runOf_snoc _ _ _ (by rw [h2.out, hlk]), if_pos hp, hlk]
          generalize hV : (runOf (m + 1) (X.take k)).1 = V at *
          have HV := Lib.hid hV
          clear hV
          by_cases hkj : k < j
          · obtain ⟨b', off, rfl, hgb, hcell, _⟩ := HO2.out.at (j := k) (by omega)
            have hXk : k < X.length := by rw [HX.out]; exact hkj
            have hcell2 : wr.cell? ⟨b', off + k, none⟩ = some (.int .i64 (X.getD k 0)) := by
              rw [hcell]
              simp [List.getD_eq_getElem?_getD, hXk]
            clear hcell hgb
            generalize X.getD k 0 = x at *
            by_cases hv3 : V ≤ 3
            · by_cases hxv : x = V
              · have hp : 0 < nextOf V x := by rw [HNR.out, if_pos ⟨hv3, hxv⟩]; omega
                have hr := hsn.out hkj hp
                have hnv : nextOf V x = V % 3 + 1 := by rw [HNR.out, if_pos ⟨hv3, hxv⟩]
                rw [hnv] at hr
                have HR := Lib.hid hr
                clear hr hnv hp
                go_wp2_with fail
                go_round
                case rel => exact ⟨k + 1, by omega, by go_num, by rw [HR.out], by rw [HR.out]; rfl⟩
                case measure => simp [intOf]; omega
              · have hxv' : (x == V) = false := by simpa using hxv
                have hn0 : Hid (nextOf V x = 0) := by show nextOf V x = 0; rw [HNR.out, if_neg (fun h => hxv h.2)]
                go_wp2_with fail
                refine (hfin.out (hstop.out fun _ => hn0.out)).mono ?_
                rintro e w1 ⟨rfl, hc1⟩
                have HB1 : Hid (Below w.heap.size w w1) := hB.out.trans (hc1.belowAt hB.out.size fun _ h => h.elim)
                clear hc1
                go_wp2_with fail
                refine (awake19 _).mono ?_
                rintro e w2 ⟨rfl, hc2⟩
                have HB2 : Hid (Below w.heap.size w w2) := HB1.out.trans (hc2.belowAt HB1.out.size fun _ h => h.elim)
                clear hc2
                go_wp2_with fail
                go_ret
                exact ⟨rfl, HB2.out⟩
            · have hn0 : Hid (nextOf V x = 0) := by show nextOf V x = 0; rw [HNR.out, if_neg (fun h => hv3 h.1)]
              have hv4 : 3 < V := by omega
              go_wp2_with fail
              refine (hfin.out (hstop.out fun _ => hn0.out)).mono ?_
              rintro e w1 ⟨rfl, hc1⟩
              have HB1 : Hid (Below w.heap.size w w1) := hB.out.trans (hc1.belowAt hB.out.size fun _ h => h.elim)
              clear hc1
              go_wp2_with fail
              refine (awake19 _).mono ?_
              rintro e w2 ⟨rfl, hc2⟩
              have HB2 : Hid (Below w.heap.size w w2) := HB1.out.trans (hc2.belowAt HB1.out.size fun _ h => h.elim)
              clear hc2
              go_wp2_with fail
              go_ret
              exact ⟨rfl, HB2.out⟩
          · have hkj2 : ¬ (k : Int) < (j : Int) := by omega
            go_wp2_with fail
            refine (hfin.out (hstop.out fun h => absurd h hkj)).mono ?_
            rintro e w1 ⟨rfl, hc1⟩
            have HB1 : Hid (Below w.heap.size w w1) := hB.out.trans (hc1.belowAt hB.out.size fun _ h => h.elim)
            clear hc1
            go_wp2_with fail
            refine (awake19 _).mono ?_
            rintro e w2 ⟨rfl, hc2⟩
            have HB2 : Hid (Below w.heap.size w w2) := HB1.out.trans (hc2.belowAt HB1.out.size fun _ h => h.elim)
            clear hc2
            go_wp2_with fail
            go_ret
            exact ⟨rfl, HB2.out⟩

end Go.Proofs.Ytabeolmfgmbfaaa
