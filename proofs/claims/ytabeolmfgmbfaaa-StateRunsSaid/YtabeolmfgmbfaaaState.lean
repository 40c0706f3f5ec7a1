/- Package state: what Next, Can, Run and Name answer; the laws StateNext and StateRuns. Every number, every list. -/
import Derived.Test.YtabeolmfgmbfaaaBase
import Derived.Laws.StructEq
namespace Go.Proofs.Ytabeolmfgmbfaaa
open Go.RowKit
set_option linter.unusedVariables false
set_option linter.unusedSimpArgs false

theorem check_change (e : Bool) (a b : Int) (w : World) : (Instr.checkKey e 10000 93 (.agg #[.int .i64 a, .int .i64 b])).run Try.prog w = .ok () w := by kernel_rfl

theorem eq_change (a b c d : Int) (w : World) : (Op.equal 93 (.agg #[.int .i64 a, .int .i64 b]) (.agg #[.int .i64 c, .int .i64 d])).run Try.prog w = .ok (a == c && (b == d && true)) w := by
  simp only [Op.equal, Op.maxDepth]
  exact struct_eq Try.underlying93 (by kernel_rfl) (fields_cons (a := .int .i64 a) (b := .int .i64 c) (by decide) (by kernel_rfl) (by kernel_rfl) (by kernel_rfl) (fields_cons (a := .int .i64 b) (b := .int .i64 d) (by decide) (by kernel_rfl) (by kernel_rfl) (by kernel_rfl) fields_nil))

/-- A map's entry: from a state, what happens, the state behind it. -/
def ent (a b v : Int) (born : Nat) : MapEntry := ⟨.agg #[.int .i64 a, .int .i64 b], .int .i64 v, born⟩

/-- What is found under a key. -/
def lookIn (a b : Int) : List (Int × Int × Int × Nat) → Nat → Option (Nat × Value)
  | [], _ => none
  | (x, y, v, _) :: r, i => if a == x && (b == y && true) then some (i, .int .i64 v) else lookIn a b r (i + 1)

theorem find_state (a b : Int) (w : World) : ∀ (l : List (Int × Int × Int × Nat)) (i : Nat),
    (Instr.findAsking 93 (.agg #[.int .i64 a, .int .i64 b]) (l.map fun p => ent p.1 p.2.1 p.2.2.1 p.2.2.2) i).run Try.prog w = .ok (lookIn a b l i) w
  | [], i => rfl
  | (x, y, v, n) :: r, i => by
    simp only [List.map_cons, Instr.findAsking, ent, Sem.run_bind, eq_change, Result.andThen_ok, lookIn, Sem.run_ite]
    split
    · rfl
    · exact find_state a b w r (i + 1)

theorem findKey_state (a b : Int) (w : World) (l : List (Int × Int × Int × Nat)) :
    (Instr.findKey 93 (.agg #[.int .i64 a, .int .i64 b]) (l.map fun p => ent p.1 p.2.1 p.2.2.1 p.2.2.2)).run Try.prog w = .ok (lookIn a b l 0) w := by
  cases l with
  | nil =>
    simp only [Instr.findKey, Sem.run_bind, run_underlying Try.underlying93, Result.andThen_ok, List.map_nil, Instr.findNow]
    rfl
  | cons p r =>
    have h : Instr.findNow (.struct (Try.prog.fieldsOf 93)) (.agg #[.int .i64 a, .int .i64 b]) ((p :: r).map fun p => ent p.1 p.2.1 p.2.2.1 p.2.2.2) 0 = none := by
      simp [Instr.findNow, ent, Instr.sameNow]
    have hu : Try.prog.underlying 93 = some (.struct (Try.prog.fieldsOf 93)) := by simp [Program.fieldsOf, Try.underlying93]
    simp only [Instr.findKey, Sem.run_bind, run_underlying hu, Result.andThen_ok, h]
    exact find_state a b w (p :: r) 0

theorem look_state (a b : Int) (w : World) (g c : Nat) (l : List (Int × Int × Int × Nat)) (hg : w.heap[g]? = some (.map (l.map fun p => ent p.1 p.2.1 p.2.2.1 p.2.2.2).toArray c)) :
    (Instr.lookup 90 (.map (some g)) (.agg #[.int .i64 a, .int .i64 b]) true).run Try.prog w = .ok (.tuple (match lookIn a b l 0 with | some (_, v) => #[v, .bool true] | none => #[.int .i64 0, .bool false])) w := by
  have hz : (zeroValue 3).run Try.prog w = .ok (.int .i64 0) w := by kernel_rfl
  simp only [Instr.lookup, Sem.run_bind, run_underlying Try.underlying90, Result.andThen_ok, getObj, Sem.run, Sem.run_pure, hg, check_change, List.toList_toArray]
  rw [findKey_state]
  cases lookIn a b l 0 with
  | none => simp [hz]
  | some q => simp

theorem run_setObj_top (P : Program) (w : World) (es : Array MapEntry) (c : Nat) (o' : Obj) : (setObj w.heap.size o').run P (w.alloc (.map es c)).drew = .ok () (w.alloc o').drew := by
  have hg : (w.alloc (.map es c)).drew.heap[w.heap.size]? = some (.map es c) := heap_alloc_new w _
  have hp : (w.heap.push (.map es c)).setIfInBounds w.heap.size o' = w.heap.push o' := by
    apply Array.toList_inj.1
    simp
  simp only [setObj, Sem.run, hg]
  show Result.ok () ({ (w.alloc (.map es c)).drew with heap := (w.heap.push (.map es c)).setIfInBounds w.heap.size o' } : World) = _
  rw [hp]
  rfl

theorem upd_state (w : World) (l : List (Int × Int × Int × Nat)) (c : Nat) (a b v : Int) (hn : lookIn a b l 0 = none) :
    (Instr.mapUpdate 90 (.map (some w.heap.size)) (.agg #[.int .i64 a, .int .i64 b]) (.int .i64 v)).run Try.prog (w.alloc (.map (l.map fun p => ent p.1 p.2.1 p.2.2.1 p.2.2.2).toArray c)).drew =
      .ok () (w.alloc (.map ((l ++ [(a, b, v, c)]).map fun p => ent p.1 p.2.1 p.2.2.1 p.2.2.2).toArray (c + 1))).drew := by
  have hg : (w.alloc (.map (l.map fun p => ent p.1 p.2.1 p.2.2.1 p.2.2.2).toArray c)).drew.heap[w.heap.size]? = some (.map (l.map fun p => ent p.1 p.2.1 p.2.2.1 p.2.2.2).toArray c) := heap_alloc_new w _
  simp only [Instr.mapUpdate, Sem.run_bind, run_underlying Try.underlying90, Result.andThen_ok, getObj, Sem.run, hg, check_change]
  rw [findKey_state, hn]
  have e : ((l.map fun p => ent p.1 p.2.1 p.2.2.1 p.2.2.2).toArray.push { key := .agg #[.int .i64 a, .int .i64 b], val := .int .i64 v, born := c }) = ((l ++ [(a, b, v, c)]).map fun p => ent p.1 p.2.1 p.2.2.1 p.2.2.2).toArray := by
    simp [ent]
  simp only [Result.andThen_ok]
  rw [e]
  exact run_setObj_top _ w _ _ _

/-- The state behind what happens; 0: it can't. -/
def nextOf (a b : Int) : Int := if a = 1 ∧ b = 1 then 2 else if a = 2 ∧ b = 2 then 3 else if a = 3 ∧ b = 3 then 1 else 0
/-- Block g of world w is the map of all changes. -/
def ChangesAt (w : World) (g : Nat) : Prop := ∃ l c, w.heap[g]? = some (.map (l.map fun p => ent p.1 p.2.1 p.2.2.1 p.2.2.2).toArray c) ∧
  ∀ a b, (match lookIn a b l 0 with | some (_, v) => #[v, .bool true] | none => #[.int .i64 0, .bool false]) = #[.int .i64 (nextOf a b), .bool (decide (0 < nextOf a b))]

theorem changes_look (w : World) (g : Nat) (h : ChangesAt w g) (a b : Int) : (Instr.lookup 90 (.map (some g)) (.agg #[.int .i64 a, .int .i64 b]) true).run Try.prog w = .ok (.tuple #[.int .i64 (nextOf a b), .bool (decide (0 < nextOf a b))]) w := by
  obtain ⟨l, c, hg, hl⟩ := h
  rw [look_state a b w g c l hg, hl]

set_option maxHeartbeats 1000000 in
theorem changes_any (w : World) :
    Calls Try.prog 58 #[] w fun e w' => ∃ g, e = .returned (.map (some g)) ∧ ChangesAt w' g ∧ Chg Non w w' := by
  have hmm := @run_makeMap Try.prog
  have u_1 := upd_state w [] 0 1 1 2 (by decide)
  have u_2 := upd_state w [] 0 2 2 3 (by decide)
  have u_3 := upd_state w [] 0 3 3 1 (by decide)
  have u1_2 := upd_state w [(1, 1, 2, 0)] 1 2 2 3 (by decide)
  have u1_3 := upd_state w [(1, 1, 2, 0)] 1 3 3 1 (by decide)
  have u2_1 := upd_state w [(2, 2, 3, 0)] 1 1 1 2 (by decide)
  have u2_3 := upd_state w [(2, 2, 3, 0)] 1 3 3 1 (by decide)
  have u3_1 := upd_state w [(3, 3, 1, 0)] 1 1 1 2 (by decide)
  have u3_2 := upd_state w [(3, 3, 1, 0)] 1 2 2 3 (by decide)
  have u12_3 := upd_state w [(1, 1, 2, 0), (2, 2, 3, 1)] 2 3 3 1 (by decide)
  have u13_2 := upd_state w [(1, 1, 2, 0), (3, 3, 1, 1)] 2 2 2 3 (by decide)
  have u21_3 := upd_state w [(2, 2, 3, 0), (1, 1, 2, 1)] 2 3 3 1 (by decide)
  have u23_1 := upd_state w [(2, 2, 3, 0), (3, 3, 1, 1)] 2 1 1 2 (by decide)
  have u31_2 := upd_state w [(3, 3, 1, 0), (1, 1, 2, 1)] 2 2 2 3 (by decide)
  have u32_1 := upd_state w [(3, 3, 1, 0), (2, 2, 3, 1)] 2 1 1 2 (by decide)
  simp only [List.map_nil, List.map_cons, List.nil_append, List.cons_append, Nat.zero_add, Nat.reduceAdd, ent] at u_1 u_2 u_3 u1_2 u1_3 u2_1 u2_3 u3_1 u3_2 u12_3 u13_2 u21_3 u23_1 u31_2 u32_1

  go_enter Try.func58, Try.ntmps58
  go_wp2
  go_region
  all_goals
    go_wp2
    go_ret
    refine ⟨w.heap.size, rfl, ?_, ((Chg.refl _ _).alloc _).drew⟩
    first
    | (refine ⟨[(1, 1, 2, 0), (2, 2, 3, 1), (3, 3, 1, 2)], 3, heap_alloc_new w _, fun a b => ?_⟩; by_cases h1 : a = 1 <;> by_cases h2 : a = 2 <;> by_cases h3 : a = 3 <;> by_cases k1 : b = 1 <;> by_cases k2 : b = 2 <;> by_cases k3 : b = 3 <;> simp_all [lookIn, nextOf])
    | (refine ⟨[(1, 1, 2, 0), (3, 3, 1, 1), (2, 2, 3, 2)], 3, heap_alloc_new w _, fun a b => ?_⟩; by_cases h1 : a = 1 <;> by_cases h2 : a = 2 <;> by_cases h3 : a = 3 <;> by_cases k1 : b = 1 <;> by_cases k2 : b = 2 <;> by_cases k3 : b = 3 <;> simp_all [lookIn, nextOf])
    | (refine ⟨[(2, 2, 3, 0), (1, 1, 2, 1), (3, 3, 1, 2)], 3, heap_alloc_new w _, fun a b => ?_⟩; by_cases h1 : a = 1 <;> by_cases h2 : a = 2 <;> by_cases h3 : a = 3 <;> by_cases k1 : b = 1 <;> by_cases k2 : b = 2 <;> by_cases k3 : b = 3 <;> simp_all [lookIn, nextOf])
    | (refine ⟨[(2, 2, 3, 0), (3, 3, 1, 1), (1, 1, 2, 2)], 3, heap_alloc_new w _, fun a b => ?_⟩; by_cases h1 : a = 1 <;> by_cases h2 : a = 2 <;> by_cases h3 : a = 3 <;> by_cases k1 : b = 1 <;> by_cases k2 : b = 2 <;> by_cases k3 : b = 3 <;> simp_all [lookIn, nextOf])
    | (refine ⟨[(3, 3, 1, 0), (1, 1, 2, 1), (2, 2, 3, 2)], 3, heap_alloc_new w _, fun a b => ?_⟩; by_cases h1 : a = 1 <;> by_cases h2 : a = 2 <;> by_cases h3 : a = 3 <;> by_cases k1 : b = 1 <;> by_cases k2 : b = 2 <;> by_cases k3 : b = 3 <;> simp_all [lookIn, nextOf])
    | (refine ⟨[(3, 3, 1, 0), (2, 2, 3, 1), (1, 1, 2, 2)], 3, heap_alloc_new w _, fun a b => ?_⟩; by_cases h1 : a = 1 <;> by_cases h2 : a = 2 <;> by_cases h3 : a = 3 <;> by_cases k1 : b = 1 <;> by_cases k2 : b = 2 <;> by_cases k3 : b = 3 <;> simp_all [lookIn, nextOf])

theorem nextOf_range (a b : Int) : 0 ≤ nextOf a b ∧ nextOf a b ≤ 3 := by unfold nextOf; split <;> (try split) <;> (try split) <;> omega

/-- OK, or ErrState. -/
def stErr (a b : Int) : Int := if 0 < nextOf a b then 0 else 12
theorem stErr_ok {a b : Int} (h : 0 < nextOf a b) : stErr a b = 0 := by simp [stErr, h]
theorem stErr_no {a b : Int} (h : ¬ 0 < nextOf a b) : stErr a b = 12 := by simp [stErr, h]

set_option maxRecDepth 100000 in
/-- Next: the state behind, or that it can't. -/
theorem stateNext_any (a b : Int) (w : World) :
    Calls Try.prog 30 #[.int .i64 a, .int .i64 b] w fun e w' => e = .returned (.tuple #[.int .i64 (nextOf a b), .int .i64 (stErr a b)]) ∧ Chg Non w w' := by
  have hr := nextOf_range a b
  by_cases hp : 0 < nextOf a b
  · have he := stErr_ok hp
    go_enter Try.func30, Try.ntmps30
    go_wp2_with fail
    refine (changes_any _).mono ?_
    rintro e w1 ⟨g, rfl, hg, hc⟩
    have hlk := changes_look w1 g hg a b
    have HC := Lib.hid hc
    clear hg hc
    go_wp2
    go_ret2
    exact ⟨ret2_int rfl he.symm, HC.out⟩
  · have he := stErr_no hp
    have hz : nextOf a b = 0 := by omega
    go_enter Try.func30, Try.ntmps30
    go_wp2_with fail
    refine (changes_any _).mono ?_
    rintro e w1 ⟨g, rfl, hg, hc⟩
    have hlk := changes_look w1 g hg a b
    rw [hz] at hlk
    have HC := Lib.hid hc
    clear hg hc
    go_wp2
    go_ret2
    exact ⟨ret2_int hz.symm he.symm, HC.out⟩

/-- Can something happen? -/
def canB (a b : Int) : Bool := decide (0 < nextOf a b)
theorem can_any (a b : Int) (w : World) :
    Calls Try.prog 33 #[.int .i64 a, .int .i64 b] w fun e w' => e = .returned (.bool (canB a b)) ∧ Chg Non w w' := by
  have hq : (stErr a b == 0) = canB a b := by
    unfold stErr canB
    split <;> simp [*]
  go_enter Try.func33, Try.ntmps33
  go_wp2_with fail
  refine (stateNext_any a b _).mono ?_
  rintro e w1 ⟨rfl, hc⟩
  have HC := Lib.hid hc
  clear hc
  go_wp2
  go_ret
  exact ⟨rfl, HC.out⟩

/-- A state's name, as bytes. -/
def nameOf (s : Int) : ByteArray := if s = 1 then ⟨#[102, 114, 101, 101]⟩ else if s = 2 then ⟨#[108, 105, 118, 101]⟩ else if s = 3 then ⟨#[104, 101, 108, 100]⟩ else ⟨#[]⟩

theorem name_any (s : Int) (w : World) :
    Calls Try.prog 31 #[.int .i64 s] w fun e w' => e = .returned (.string (nameOf s)) ∧ w = w' := by
  by_cases h1 : s = 1
  · subst h1
    go_enter Try.func31, Try.ntmps31
    go_wp2
    go_ret
    exact ⟨rfl, rfl⟩
  · by_cases h2 : s = 2
    · subst h2
      go_enter Try.func31, Try.ntmps31
      go_wp2
      go_ret
      exact ⟨rfl, rfl⟩
    · by_cases h3 : s = 3
      · subst h3
        go_enter Try.func31, Try.ntmps31
        go_wp2
        go_ret
        exact ⟨rfl, rfl⟩
      · have b1 : (s == 1) = false := by simpa using h1
        have b2 : (s == 2) = false := by simpa using h2
        have b3 : (s == 3) = false := by simpa using h3
        go_enter Try.func31, Try.ntmps31
        go_wp2
        go_ret
        exact ⟨by simp [nameOf, h1, h2, h3], rfl⟩

/-- What Run does: up to what can't. -/
def runOf : Int → List Int → Int × Nat
  | s, [] => (s, 0)
  | s, x :: r => if 0 < nextOf s x then ((runOf (nextOf s x) r).1, (runOf (nextOf s x) r).2 + 1) else (s, 0)

theorem runOf_snoc : ∀ (l : List Int) (s : Int) (x : Int), (runOf s l).2 = l.length → runOf s (l ++ [x]) = if 0 < nextOf (runOf s l).1 x then (nextOf (runOf s l).1 x, l.length + 1) else ((runOf s l).1, l.length)
  | [], s, x, _ => by simp [runOf]
  | y :: r, s, x, h => by
    by_cases hy : 0 < nextOf s y
    · have h2 : (runOf (nextOf s y) r).2 = r.length := by simpa [runOf, hy] using h
      have ih := runOf_snoc r (nextOf s y) x h2
      simp only [List.cons_append, runOf, if_pos hy, ih]
      split <;> simp
    · simp [runOf, hy] at h
theorem runOf_stop : ∀ (l r : List Int) (s : Int), (runOf s l).2 = l.length → (∀ x, r.head? = some x → ¬ 0 < nextOf (runOf s l).1 x) → runOf s (l ++ r) = runOf s l
  | [], [], s, _, _ => rfl
  | [], x :: r, s, _, h => by
    have := h x rfl
    simp [runOf] at this ⊢
    omega
  | y :: l, r, s, h, hr => by
    by_cases hy : 0 < nextOf s y
    · have h2 : (runOf (nextOf s y) l).2 = l.length := by simpa [runOf, hy] using h
      simp only [runOf, if_pos hy] at hr
      have ih := runOf_stop l r (nextOf s y) h2 hr
      simp only [List.cons_append, runOf, if_pos hy, ih]
    · simp [runOf, hy] at h

set_option maxHeartbeats 1000000 in
set_option maxRecDepth 100000 in
/-- Run, of a list that is read. -/
theorem run_any (s : Int) (a : Option Addr) (cap : Nat) (l : List Int) (w : World) (hl : Ints w a l.length l) (hc : l.length ≤ 9223372036854775807) :
    Calls Try.prog 34 #[.int .i64 s, .slice a l.length cap] w fun e w' => e = .returned (.tuple #[.int .i64 (runOf s l).1, .int .i64 (runOf s l).2]) ∧ Chg Non w w' := by
  have HL := Lib.hid hl
  clear hl
  go_enter Try.func34, Try.ntmps34
  go_wp2_with fail
  go_loopw [0, 12] (fun s' i wr => ∃ k : Nat, k ≤ l.length ∧ i = .int .i64 k ∧ s' = .int .i64 (runOf s (l.take k)).1 ∧ Hid ((runOf s (l.take k)).2 = k) ∧ Hid (Chg Non w wr)) (fun _ i _ => l.length - (intOf i).toNat)
  case atStart => exact ⟨0, Nat.zero_le _, rfl, rfl, rfl, Chg.refl _ _⟩
  case round =>
    obtain ⟨k, hk, rfl, rfl, h2, hch⟩ := hrel
    by_cases hlt : k < l.length
    · obtain ⟨y, rfl⟩ : ∃ y, a = some y := by
        cases a with
        | none => have := HL.out.2.1 rfl; omega
        | some y => exact ⟨y, rfl⟩
      obtain ⟨X, hX⟩ : ∃ X, l.getD k 0 = X := ⟨_, rfl⟩
      have hcell0 := HL.out.2.2 y rfl k hlt
      rw [hX] at hcell0
      have hcell : wr.cell? (y.add k) = some (.int .i64 X) := (World.cell?_of_block (hch.out.block _ (World.block_lt_of_cell? w _ hcell0) (fun h => h))).trans hcell0
      have htake : l.take (k + 1) = l.take k ++ [X] := by
        rw [List.take_succ_eq_append_getElem hlt, ← hX]
        simp [List.getD_eq_getElem?_getD, hlt]
      have hlen : (l.take k).length = k := by rw [List.length_take]; omega
      have HS : Hid (runOf s (l.take (k + 1)) = if 0 < nextOf (runOf s (l.take k)).1 X then (nextOf (runOf s (l.take k)).1 X, k + 1) else ((runOf s (l.take k)).1, k)) := by
        show runOf s (l.take (k + 1)) = _
        rw [htake, runOf_snoc _ _ _ (by rw [h2.out, hlen]), hlen]
      have HF : Hid (¬ 0 < nextOf (runOf s (l.take k)).1 X → runOf s l = runOf s (l.take k)) := by
        intro hno
        have h3 := runOf_stop (l.take k) (l.drop k) s (by rw [h2.out, hlen]) (fun x hx => by
          rw [List.head?_drop] at hx
          have : x = X := by rw [← hX, List.getD_eq_getElem?_getD, hx]; rfl
          rw [this]; exact hno)
        rwa [List.take_append_drop] at h3
      have hk2 : ((runOf s (l.take k)).2 : Int) = (k : Int) := by rw [h2.out]
      have HK2 := Lib.hid hk2
      clear hX htake hlen hcell0 hk2
      generalize runOf s (l.take k) = R at *
      by_cases hp : 0 < nextOf R.1 X
      · have he := stErr_ok hp
        go_wp2_with fail
        refine (stateNext_any R.1 X _).mono ?_
        rintro e w1 ⟨rfl, hc1⟩
        have HC := Lib.hid (hch.out.tr hc1)
        clear hc1
        go_wp2_with fail
        go_roundw
        case rel =>
          have h4 := HS.out
          rw [if_pos hp] at h4
          exact ⟨k + 1, by omega, by go_num, by rw [h4], by rw [h4]; rfl, HC⟩
        case measure => simp [intOf]; omega
      · have he := stErr_no hp
        go_wp2_with fail
        refine (stateNext_any R.1 X _).mono ?_
        rintro e w1 ⟨rfl, hc1⟩
        have HC := Lib.hid (hch.out.tr hc1)
        clear hc1
        go_wp2_with fail
        go_ret2
        exact ⟨ret2_int (by rw [HF.out hp]) (by rw [HF.out hp]; exact HK2.out.symm), HC.out⟩
    · obtain rfl : k = l.length := by omega
      rw [List.take_length] at *
      have hk2 : ((runOf s l).2 : Int) = (l.length : Int) := by rw [h2.out]
      have HK2 := Lib.hid hk2
      clear hk2
      go_wp2_with fail
      go_ret2
      exact ⟨ret2_int rfl HK2.out.symm, hch.out⟩

end Go.Proofs.Ytabeolmfgmbfaaa
