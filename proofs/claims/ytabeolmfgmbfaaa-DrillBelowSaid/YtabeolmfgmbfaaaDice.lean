/- Package drill's dice: New, Below, one, size and Conf; package conf's Check, Ample, Small, Large. Every seed; a bound of 64 bits. -/
import Derived.Test.YtabeolmfgmbfaaaBase
import Derived.ChangeAlike
import Derived.Deep.RegionHeld3
namespace Go.Proofs.Ytabeolmfgmbfaaa
open Go.RowKit
set_option linter.unusedVariables false
set_option linter.unusedSimpArgs false

/-- The dice: block b holds the number. -/
def DiceAt (w : World) (b : Nat) (t : Int) : Prop := Blk w b #[.int .u64 t] 102
def diceStep (t : Int) : Int := IntKind.u64.wrap (IntKind.u64.wrap (t * 2862933555777941757) + 3037000493)
/-- What is drawn, and what stands then. -/
def diceOf (t n : Int) : Int × Int := if n < 1 then (0, t) else (wrap64 ((diceStep t / 8589934592).tmod n), diceStep t)

theorem u64_wrap' (x : Int) : IntKind.u64.wrap x = x % 18446744073709551616 := by
  simp [IntKind.wrap, IntKind.bits, IntKind.signed]
theorem diceStep_range (t : Int) : 0 ≤ diceStep t ∧ diceStep t < 18446744073709551616 := by unfold diceStep; rw [u64_wrap']; omega
theorem diceOf_range (t n : Int) (h : 1 ≤ n) (h2 : n ≤ 9223372036854775807) : 0 ≤ (diceOf t n).1 ∧ (diceOf t n).1 < n := by
  unfold diceOf
  rw [if_neg (by omega)]
  have hs := diceStep_range t
  have h0 : 0 ≤ diceStep t / 8589934592 := by omega
  generalize diceStep t / 8589934592 = x at h0
  simp only []
  rw [Int.tmod_eq_emod_of_nonneg h0]
  have h1 := Int.emod_nonneg x (show n ≠ 0 by omega)
  have h2 := Int.emod_lt_of_pos x (show 0 < n by omega)
  unfold wrap64
  omega

set_option maxHeartbeats 400000 in
theorem diceNew_any (t : Int) (w : World) :
    Calls Try.prog 38 #[.int .u64 t] w fun e w' => e = .returned (.pointer (some ⟨w.heap.size, 0, none⟩)) ∧ w.alloc (.cells #[.int .u64 t] 102) = w' := by
  go_enter Try.func38, Try.ntmps38
  go_wp2
  go_ret
  exact ⟨rfl, rfl⟩

set_option maxHeartbeats 400000 in
theorem below_low (b : Nat) (n : Int) (w : World) (h : n < 1) :
    Calls Try.prog 39 #[.pointer (some ⟨b, 0, none⟩), .int .i64 n] w fun e w' => e = .returned (.int .i64 0) ∧ w = w' := by
  go_enter Try.func39, Try.ntmps39
  go_wp2
  go_ret
  exact ⟨rfl, rfl⟩

set_option maxHeartbeats 400000 in
theorem below_hi (b : Nat) (t n : Int) (w : World) (h : 1 ≤ n) (h2 : n ≤ 9223372036854775807) (h0 : w.cell? ⟨b, 0, none⟩ = some (.int .u64 t)) (f0 : w.frozen? ⟨b, 0, none⟩ = false) :
    Calls Try.prog 39 #[.pointer (some ⟨b, 0, none⟩), .int .i64 n] w fun e w' => e = .returned (.int .i64 (wrap64 ((diceStep t / 8589934592).tmod n))) ∧ w.setCell ⟨b, 0, none⟩ (.int .u64 (diceStep t)) = w' := by
  go_enter Try.func39, Try.ntmps39
  go_wp2
  go_ret
  exact ⟨rfl, rfl⟩

/-- Below: what is drawn; only the dice have turned. -/
theorem below_any (b : Nat) (t n : Int) (w : World) (h2 : n ≤ 9223372036854775807) (hd : DiceAt w b t) :
    Calls Try.prog 39 #[.pointer (some ⟨b, 0, none⟩), .int .i64 n] w fun e w' => e = .returned (.int .i64 (diceOf t n).1) ∧ DiceAt w' b (diceOf t n).2 ∧ Chg (One b) w w' := by
  by_cases h : n < 1
  · refine (below_low b n w h).mono ?_
    rintro e w' ⟨rfl, rfl⟩
    have e1 : diceOf t n = (0, t) := by simp [diceOf, h]
    rw [e1]
    exact ⟨rfl, hd, Chg.refl _ _⟩
  · refine (below_hi b t n w (by omega) h2 (hd.cell 0) (hd.free 0)).mono ?_
    rintro e w' ⟨rfl, rfl⟩
    have e1 : diceOf t n = (wrap64 ((diceStep t / 8589934592).tmod n), diceStep t) := by simp [diceOf, h]
    rw [e1]
    exact ⟨rfl, hd.set 0 _, Chg.set1 _ _ _ _⟩

set_option maxHeartbeats 400000 in
/-- one: one of the numbers that are handed in. -/
theorem one_any (b : Nat) (t : Int) (a : Option Addr) (cap n : Nat) (l : List Int) (w : World) (hn : l.length = n) (hp : 1 ≤ n) (hm : n ≤ 1000) (hl : Ints w a n l) (hbb : ∀ x, a = some x → x.block ≠ b) (hd : DiceAt w b t) :
    Calls Try.prog 77 #[.pointer (some ⟨b, 0, none⟩), .slice a n cap] w fun e w' => e = .returned (.int .i64 (l.getD (diceOf t n).1.toNat 0)) ∧ DiceAt w' b (diceOf t n).2 ∧ Chg (One b) w w' := by
  obtain ⟨y, rfl⟩ : ∃ y, a = some y := by
    cases a with
    | none => have := hl.2.1 rfl; omega
    | some y => exact ⟨y, rfl⟩
  obtain ⟨h0, h1⟩ := diceOf_range t n (by omega) (by omega)
  have HD := Lib.hid hd
  have HL := Lib.hid hl
  clear hd hl
  go_enter Try.func77, Try.ntmps77
  go_wp2_with fail
  refine (below_any b t n _ (by omega) HD.out).mono ?_
  rintro e w1 ⟨rfl, hd1, hc1⟩
  have HD1 := Lib.hid hd1
  have HC1 := Lib.hid hc1
  clear hd1 hc1
  generalize hR : diceOf t n = R at *
  have HR := Lib.hid hR
  clear hR
  obtain ⟨q, hq⟩ : ∃ q : Nat, R.1 = (q : Int) := ⟨R.1.toNat, by omega⟩
  have hql : q < l.length := by omega
  have hcell0 := HL.out.2.2 y rfl q hql
  have hbl : (y.add q).block = y.block := by unfold Addr.add; split <;> rfl
  have hcell : w1.cell? (y.add q) = some (.int .i64 (l.getD q 0)) := (World.cell?_of_block (HC1.out.block _ (World.block_lt_of_cell? w _ hcell0) (fun e => hbb y rfl (by rw [← hbl]; exact e)))).trans hcell0
  have HQ : Hid (l.getD R.1.toNat 0 = l.getD q 0) := by show _ = _; rw [hq, Int.toNat_natCast]
  have hqn : q < n := by omega
  rw [hq]
  clear hcell0 hq hbl
  generalize l.getD q 0 = z at *
  go_wp2_with fail
  go_ret
  rw [HR.out]
  exact ⟨ret1_int HQ.out.symm, HD1.out, HC1.out⟩

/-! ### package conf -/

/-- How an allocator is made: the eleven numbers. -/
structure Cf where
  pages : Int
  region : Int
  large : Int
  threads : Int
  cache : Int
  batch : Int
  shelf : Int
  regs : Int
  most : Int
  fill : Int
  key : Int
deriving DecidableEq
/-- As a value. -/
def Cf.cells (c : Cf) : Array Value := #[.int .i64 c.pages, .int .i64 c.region, .int .i64 c.large, .int .i64 c.threads, .int .i64 c.cache, .int .i64 c.batch, .int .i64 c.shelf, .int .i64 c.regs, .int .i64 c.most, .int .i64 c.fill, .int .u64 c.key]
/-- From one number to another one. -/
def inB (n a b : Int) : Bool := decide (a ≤ n) && decide (n ≤ b)

set_option maxHeartbeats 400000 in
theorem in_any (n a b : Int) (w : World) :
    Calls Try.prog 78 #[.int .i64 n, .int .i64 a, .int .i64 b] w fun e w' => e = .returned (.bool (inB n a b)) ∧ w = w' := by
  by_cases h1 : a ≤ n
  · by_cases h2 : n ≤ b
    · have hB : inB n a b = true := by simp [inB, h1, h2]
      go_enter Try.func78, Try.ntmps78
      go_wp2
      go_ret
      first
      | exact ⟨rfl, rfl⟩
      | exact ⟨congrArg (fun x => Ending.returned (.bool x)) hB.symm, rfl⟩
    · have hB : inB n a b = false := by simp [inB, h2]
      go_enter Try.func78, Try.ntmps78
      go_wp2
      go_ret
      first
      | exact ⟨rfl, rfl⟩
      | exact ⟨congrArg (fun x => Ending.returned (.bool x)) hB.symm, rfl⟩
  · have hB : inB n a b = false := by simp [inB, h1]
    go_enter Try.func78, Try.ntmps78
    go_wp2
    go_ret
    first
      | exact ⟨rfl, rfl⟩
      | exact ⟨congrArg (fun x => Ending.returned (.bool x)) hB.symm, rfl⟩


/-- All numbers are such as may be. -/
def Cf.ok (c : Cf) : Bool := inB c.pages 1 1024 && inB c.region 5 16 && inB c.large 0 1024 && inB c.threads 1 8 && inB c.batch 1 16 && inB c.cache c.batch 32 && inB c.shelf 0 16 && inB c.regs 1 64 && inB c.most 1 16384 && inB c.fill 0 255
/-- conf.Check's answer. -/
def Cf.err (c : Cf) : Int := if c.ok = true then (if 20 * c.region + c.large > 1024 then 4 else 0) else 1

set_option maxHeartbeats 400000 in
theorem small_any (c : Cf) (w : World) :
    Calls Try.prog 79 #[.agg c.cells] w fun e w' => e = .returned (.agg #[.int .i64 0, .int .i64 (wrap64 (20 * c.region))]) ∧ Below w.heap.size w w' := by
  unfold Cf.cells
  go_enter Try.func79, Try.ntmps79
  go_wp2
  exact bodyPost_ret (v := .agg #[.int .i64 0, .int .i64 (wrap64 (20 * c.region))]) (by simp [results, Try.results79, go_sem]) rfl ⟨rfl, ((Below.refl _ _).alloc (Nat.le_refl _) _).alloc (by simp) _⟩
set_option maxHeartbeats 400000 in
theorem large_any (c : Cf) (w : World) :
    Calls Try.prog 80 #[.agg c.cells] w fun e w' => e = .returned (.agg #[.int .i64 (wrap64 (20 * c.region)), .int .i64 c.large]) ∧ Below w.heap.size w w' := by
  unfold Cf.cells
  go_enter Try.func80, Try.ntmps80
  go_wp2
  exact bodyPost_ret (v := .agg #[.int .i64 (wrap64 (20 * c.region)), .int .i64 c.large]) (by simp [results, Try.results80, go_sem]) rfl ⟨rfl, ((Below.refl _ _).alloc (Nat.le_refl _) _).alloc (by simp) _⟩

theorem area_pages (a b : Int) (w : World) : (Instr.field 122 (.agg #[.int .i64 a, .int .i64 b]) 1).run Try.prog w = .ok (.int .i64 b) w := by kernel_rfl

set_option maxHeartbeats 1000000 in
set_option maxRecDepth 100000 in
theorem check_any (c : Cf) (w : World) :
    Calls Try.prog 60 #[.agg c.cells] w fun e w' => e = .returned (.int .i64 c.err) ∧ Chg Non w w' := by
  have hsm := fun w => small_any c w
  have hlg := fun w => large_any c w
  unfold Cf.cells at *
  have HSM := Lib.hid hsm
  have HLG := Lib.hid hlg
  clear hsm hlg
  cases hok : c.ok with
  | true =>
    have h := hok
    simp only [Cf.ok, Bool.and_eq_true] at h
    obtain ⟨⟨⟨⟨⟨⟨⟨⟨⟨a1, a2⟩, a3⟩, a4⟩, a5⟩, a6⟩, a7⟩, a8⟩, a9⟩, a10⟩ := h
    have hr : 5 ≤ c.region ∧ c.region ≤ 16 := by simpa [inB] using a2
    have hl : 0 ≤ c.large ∧ c.large ≤ 1024 := by simpa [inB] using a3
    have HE : Hid (c.err = if 20 * c.region + c.large > 1024 then 4 else 0) := by show c.err = _; unfold Cf.err; rw [if_pos hok]
    clear hok
    have HBK : Hid (∀ wx, Below (w.heap.size + 1) (w.alloc (.cells #[.int .i64 c.pages, .int .i64 c.region, .int .i64 c.large, .int .i64 c.threads, .int .i64 c.cache, .int .i64 c.batch, .int .i64 c.shelf, .int .i64 c.regs, .int .i64 c.most, .int .i64 c.fill, .int .u64 c.key] 96)) wx → Blk wx w.heap.size #[.int .i64 c.pages, .int .i64 c.region, .int .i64 c.large, .int .i64 c.threads, .int .i64 c.cache, .int .i64 c.batch, .int .i64 c.shelf, .int .i64 c.regs, .int .i64 c.most, .int .i64 c.fill, .int .u64 c.key] 96) := fun wx hx => (Blk.new w _ _).below hx (by omega)
    have HB0 : Hid (Below w.heap.size w (w.alloc (.cells #[.int .i64 c.pages, .int .i64 c.region, .int .i64 c.large, .int .i64 c.threads, .int .i64 c.cache, .int .i64 c.batch, .int .i64 c.shelf, .int .i64 c.regs, .int .i64 c.most, .int .i64 c.fill, .int .u64 c.key] 96))) := (Below.refl _ _).alloc (Nat.le_refl _) _
    have hfield := area_pages
    have hw1 : IntKind.i64.wrap (20 * c.region + c.large) = 20 * c.region + c.large := IntWalk.i64_in _ (by omega)
    have hw2 : wrap64 (20 * c.region) = 20 * c.region := by unfold wrap64; omega
    by_cases hbig : 20 * c.region + c.large > 1024
    all_goals
      go_enter Try.func60, Try.ntmps60
      go_wp2_with (go_at_call 78; refine (in_any _ _ _ _).mono ?_; rintro e w' ⟨rfl, rfl⟩)
      go_region_held3 (fun w' => w'.cell? ⟨w.heap.size, 0, none⟩ = some (.int .i64 c.pages) ∧ w'.cell? ⟨w.heap.size, 1, none⟩ = some (.int .i64 c.region) ∧ w'.cell? ⟨w.heap.size, 2, none⟩ = some (.int .i64 c.large) ∧ w'.cell? ⟨w.heap.size, 3, none⟩ = some (.int .i64 c.threads) ∧ w'.cell? ⟨w.heap.size, 4, none⟩ = some (.int .i64 c.cache) ∧ w'.cell? ⟨w.heap.size, 5, none⟩ = some (.int .i64 c.batch) ∧ w'.cell? ⟨w.heap.size, 6, none⟩ = some (.int .i64 c.shelf) ∧ w'.cell? ⟨w.heap.size, 7, none⟩ = some (.int .i64 c.regs) ∧ w'.cell? ⟨w.heap.size, 8, none⟩ = some (.int .i64 c.most) ∧ w'.cell? ⟨w.heap.size, 9, none⟩ = some (.int .i64 c.fill) ∧ w'.cell? ⟨w.heap.size, 10, none⟩ = some (.int .u64 c.key))
        (first | go_keep | exact ⟨q0, q1, q2, q3, q4, q5, q6, q7, q8, q9, q10⟩)
        (first
          | (go_at_call 79; refine (HSM.out _).mono ?_; rintro e w1 ⟨rfl, hb1⟩; have hz1 := hb1.size; simp at hz1; have hk := HBK.out w1 (show Below (w.heap.size + 1) _ w1 from ⟨hb1.os, hb1.tape, hb1.output, hb1.size, fun k hk => hb1.block k (by simpa using hk)⟩); have k0 := hk.cell 0; have k1 := hk.cell 1; have k2 := hk.cell 2; have k3 := hk.cell 3; have k4 := hk.cell 4; have k5 := hk.cell 5; have k6 := hk.cell 6; have k7 := hk.cell 7; have k8 := hk.cell 8; have k9 := hk.cell 9; have k10 := hk.cell 10; simp at k0 k1 k2 k3 k4 k5 k6 k7 k8 k9 k10; have HB1 := Lib.hid hb1; have HK1 := Lib.hid hk; clear hb1 hk)
          | (go_at_call 80; refine (HLG.out _).mono ?_; rintro e w2 ⟨rfl, hb2⟩; have hk2 := HK1.out.below hb2 (by omega); have q0 := hk2.cell 0; have q1 := hk2.cell 1; have q2 := hk2.cell 2; have q3 := hk2.cell 3; have q4 := hk2.cell 4; have q5 := hk2.cell 5; have q6 := hk2.cell 6; have q7 := hk2.cell 7; have q8 := hk2.cell 8; have q9 := hk2.cell 9; have q10 := hk2.cell 10; simp at q0 q1 q2 q3 q4 q5 q6 q7 q8 q9 q10; have HB2 := Lib.hid hb2; clear hb2 hk2))
      all_goals
        go_wp2
        go_ret
        refine ⟨ret1_int ?_, (Chg.of_below HB0.out).tr ((Chg.of_below (HB1.out)).of_drew.tr (Chg.of_below HB2.out))⟩
        rw [HE.out]
        first
          | rw [if_pos hbig]
          | rw [if_neg (by omega)]
  | false =>
    have HE : Hid (c.err = 1) := by show c.err = 1; unfold Cf.err; rw [hok]; rfl
    have h := hok
    simp only [Cf.ok] at h
    clear hok
    cases a0 : inB c.pages 1 1024 with
    | false =>
      clear h
      go_enter Try.func60, Try.ntmps60
      go_wp2_with (go_at_call 78; refine (in_any _ _ _ _).mono ?_; rintro e w' ⟨rfl, rfl⟩)
      go_ret
      exact ⟨ret1_int HE.out.symm, (Chg.refl _ _).alloc _⟩
    | true =>
      cases a1 : inB c.region 5 16 with
      | false =>
        clear h
        go_enter Try.func60, Try.ntmps60
        go_wp2_with (go_at_call 78; refine (in_any _ _ _ _).mono ?_; rintro e w' ⟨rfl, rfl⟩)
        go_ret
        exact ⟨ret1_int HE.out.symm, (Chg.refl _ _).alloc _⟩
      | true =>
        cases a2 : inB c.large 0 1024 with
        | false =>
          clear h
          go_enter Try.func60, Try.ntmps60
          go_wp2_with (go_at_call 78; refine (in_any _ _ _ _).mono ?_; rintro e w' ⟨rfl, rfl⟩)
          go_ret
          exact ⟨ret1_int HE.out.symm, (Chg.refl _ _).alloc _⟩
        | true =>
          cases a3 : inB c.threads 1 8 with
          | false =>
            clear h
            go_enter Try.func60, Try.ntmps60
            go_wp2_with (go_at_call 78; refine (in_any _ _ _ _).mono ?_; rintro e w' ⟨rfl, rfl⟩)
            go_ret
            exact ⟨ret1_int HE.out.symm, (Chg.refl _ _).alloc _⟩
          | true =>
            cases a4 : inB c.batch 1 16 with
            | false =>
              clear h
              go_enter Try.func60, Try.ntmps60
              go_wp2_with (go_at_call 78; refine (in_any _ _ _ _).mono ?_; rintro e w' ⟨rfl, rfl⟩)
              go_ret
              exact ⟨ret1_int HE.out.symm, (Chg.refl _ _).alloc _⟩
            | true =>
              cases a5 : inB c.cache c.batch 32 with
              | false =>
                clear h
                go_enter Try.func60, Try.ntmps60
                go_wp2_with (go_at_call 78; refine (in_any _ _ _ _).mono ?_; rintro e w' ⟨rfl, rfl⟩)
                go_ret
                exact ⟨ret1_int HE.out.symm, (Chg.refl _ _).alloc _⟩
              | true =>
                cases a6 : inB c.shelf 0 16 with
                | false =>
                  clear h
                  go_enter Try.func60, Try.ntmps60
                  go_wp2_with (go_at_call 78; refine (in_any _ _ _ _).mono ?_; rintro e w' ⟨rfl, rfl⟩)
                  go_ret
                  exact ⟨ret1_int HE.out.symm, (Chg.refl _ _).alloc _⟩
                | true =>
                  cases a7 : inB c.regs 1 64 with
                  | false =>
                    clear h
                    go_enter Try.func60, Try.ntmps60
                    go_wp2_with (go_at_call 78; refine (in_any _ _ _ _).mono ?_; rintro e w' ⟨rfl, rfl⟩)
                    go_ret
                    exact ⟨ret1_int HE.out.symm, (Chg.refl _ _).alloc _⟩
                  | true =>
                    cases a8 : inB c.most 1 16384 with
                    | false =>
                      clear h
                      go_enter Try.func60, Try.ntmps60
                      go_wp2_with (go_at_call 78; refine (in_any _ _ _ _).mono ?_; rintro e w' ⟨rfl, rfl⟩)
                      go_ret
                      exact ⟨ret1_int HE.out.symm, (Chg.refl _ _).alloc _⟩
                    | true =>
                      cases a9 : inB c.fill 0 255 with
                      | false =>
                        clear h
                        go_enter Try.func60, Try.ntmps60
                        go_wp2_with (go_at_call 78; refine (in_any _ _ _ _).mono ?_; rintro e w' ⟨rfl, rfl⟩)
                        go_ret
                        exact ⟨ret1_int HE.out.symm, (Chg.refl _ _).alloc _⟩
                      | true =>
                        simp [a0, a1, a2, a3, a4, a5, a6, a7, a8, a9] at h

/-- conf.Ample's answer. -/
def Cf.ampleB (c : Cf) : Bool := decide (c.err = 0) && decide (20 * c.region + c.large ≤ c.pages)
theorem Cf.ok_of {c : Cf} (h : c.err = 0) : c.ok = true := by
  cases hok : c.ok with
  | true => rfl
  | false => simp [Cf.err, hok] at h
theorem Cf.bounds {c : Cf} (h : c.ok = true) : 1 ≤ c.pages ∧ c.pages ≤ 1024 ∧ 5 ≤ c.region ∧ c.region ≤ 16 ∧ 0 ≤ c.large ∧ c.large ≤ 1024 ∧ 1 ≤ c.threads ∧ c.threads ≤ 8 ∧ 1 ≤ c.batch ∧ c.batch ≤ 16 ∧ c.batch ≤ c.cache ∧ c.cache ≤ 32 ∧ 0 ≤ c.shelf ∧ c.shelf ≤ 16 ∧ 1 ≤ c.regs ∧ c.regs ≤ 64 ∧ 1 ≤ c.most ∧ c.most ≤ 16384 ∧ 0 ≤ c.fill ∧ c.fill ≤ 255 := by
  simp [Cf.ok, inB] at h
  omega

set_option maxHeartbeats 1000000 in
set_option maxRecDepth 100000 in
theorem ample_any (c : Cf) (w : World) (he : c.err = 0) :
    Calls Try.prog 61 #[.agg c.cells] w fun e w' => e = .returned (.bool c.ampleB) ∧ Chg Non w w' := by
  have hsm := fun w => small_any c w
  have hlg := fun w => large_any c w
  have hck := fun w => check_any c w
  unfold Cf.cells at *
  have HSM := Lib.hid hsm
  have HLG := Lib.hid hlg
  have HCK := Lib.hid hck
  clear hsm hlg hck
  have hfield := area_pages
  have HBK : Hid (∀ wx, Chg Non (w.alloc (.cells #[.int .i64 c.pages, .int .i64 c.region, .int .i64 c.large, .int .i64 c.threads, .int .i64 c.cache, .int .i64 c.batch, .int .i64 c.shelf, .int .i64 c.regs, .int .i64 c.most, .int .i64 c.fill, .int .u64 c.key] 96)) wx → Blk wx w.heap.size #[.int .i64 c.pages, .int .i64 c.region, .int .i64 c.large, .int .i64 c.threads, .int .i64 c.cache, .int .i64 c.batch, .int .i64 c.shelf, .int .i64 c.regs, .int .i64 c.most, .int .i64 c.fill, .int .u64 c.key] 96) := fun wx hx => (Blk.new w _ _).chg hx (fun h => h)
  have HB0 : Hid (Chg Non w (w.alloc (.cells #[.int .i64 c.pages, .int .i64 c.region, .int .i64 c.large, .int .i64 c.threads, .int .i64 c.cache, .int .i64 c.batch, .int .i64 c.shelf, .int .i64 c.regs, .int .i64 c.most, .int .i64 c.fill, .int .u64 c.key] 96))) := (Chg.refl _ _).alloc _
  have hb := Cf.bounds (Cf.ok_of he)
  have hr : 5 ≤ c.region ∧ c.region ≤ 16 := by omega
  have hl : 0 ≤ c.large ∧ c.large ≤ 1024 := by omega
  clear hb
  have hw1 : IntKind.i64.wrap (20 * c.region + c.large) = 20 * c.region + c.large := IntWalk.i64_in _ (by omega)
  have hw2 : wrap64 (20 * c.region) = 20 * c.region := by unfold wrap64; omega
  by_cases hp : 20 * c.region + c.large ≤ c.pages
  · have HA : Hid (c.ampleB = true) := by show c.ampleB = true; simp [Cf.ampleB, he, hp]
    go_enter Try.func61, Try.ntmps61
    go_wp2_with fail
    go_region_held3 (fun w' => w'.cell? ⟨w.heap.size, 0, none⟩ = some (.int .i64 c.pages) ∧ w'.cell? ⟨w.heap.size, 1, none⟩ = some (.int .i64 c.region) ∧ w'.cell? ⟨w.heap.size, 2, none⟩ = some (.int .i64 c.large) ∧ w'.cell? ⟨w.heap.size, 3, none⟩ = some (.int .i64 c.threads) ∧ w'.cell? ⟨w.heap.size, 4, none⟩ = some (.int .i64 c.cache) ∧ w'.cell? ⟨w.heap.size, 5, none⟩ = some (.int .i64 c.batch) ∧ w'.cell? ⟨w.heap.size, 6, none⟩ = some (.int .i64 c.shelf) ∧ w'.cell? ⟨w.heap.size, 7, none⟩ = some (.int .i64 c.regs) ∧ w'.cell? ⟨w.heap.size, 8, none⟩ = some (.int .i64 c.most) ∧ w'.cell? ⟨w.heap.size, 9, none⟩ = some (.int .i64 c.fill) ∧ w'.cell? ⟨w.heap.size, 10, none⟩ = some (.int .u64 c.key))
      (go_keep)
      (first
        | (go_at_call 60; refine (HCK.out _).mono ?_; rintro e wa ⟨rfl, hbwa⟩; have hzwa := hbwa.size; have hkwa := HBK.out wa hbwa.of_drew; have k0 := hkwa.cell 0; have k1 := hkwa.cell 1; have k2 := hkwa.cell 2; have k3 := hkwa.cell 3; have k4 := hkwa.cell 4; have k5 := hkwa.cell 5; have k6 := hkwa.cell 6; have k7 := hkwa.cell 7; have k8 := hkwa.cell 8; have k9 := hkwa.cell 9; have k10 := hkwa.cell 10; simp at k0 k1 k2 k3 k4 k5 k6 k7 k8 k9 k10; have HBwa := Lib.hid hbwa; have HKwa := Lib.hid hkwa; clear hbwa hkwa)
        | (go_at_call 79; refine (HSM.out _).mono ?_; rintro e wb ⟨rfl, hbwb⟩; have hzwb := hbwb.size; have hkwb := HKwa.out.chg (Chg.of_below (F := Non) hbwb) (fun h => h); have q0 := hkwb.cell 0; have q1 := hkwb.cell 1; have q2 := hkwb.cell 2; have q3 := hkwb.cell 3; have q4 := hkwb.cell 4; have q5 := hkwb.cell 5; have q6 := hkwb.cell 6; have q7 := hkwb.cell 7; have q8 := hkwb.cell 8; have q9 := hkwb.cell 9; have q10 := hkwb.cell 10; simp at q0 q1 q2 q3 q4 q5 q6 q7 q8 q9 q10; have HBwb := Lib.hid hbwb; have HKwb := Lib.hid hkwb; clear hbwb hkwb)
        | (go_at_call 80; refine (HLG.out _).mono ?_; rintro e wd ⟨rfl, hbwd⟩; have hzwd := hbwd.size; have hkwd := HKwb.out.chg (Chg.of_below (F := Non) hbwd) (fun h => h); have z0 := hkwd.cell 0; have z1 := hkwd.cell 1; have z2 := hkwd.cell 2; have z3 := hkwd.cell 3; have z4 := hkwd.cell 4; have z5 := hkwd.cell 5; have z6 := hkwd.cell 6; have z7 := hkwd.cell 7; have z8 := hkwd.cell 8; have z9 := hkwd.cell 9; have z10 := hkwd.cell 10; simp at z0 z1 z2 z3 z4 z5 z6 z7 z8 z9 z10; have HBwd := Lib.hid hbwd; have HKwd := Lib.hid hkwd; clear hbwd hkwd))
    all_goals
      go_wp2
      go_ret
      exact ⟨congrArg (fun x => Ending.returned (.bool x)) HA.out.symm, (HB0.out.tr HBwa.out.of_drew).tr ((Chg.of_below HBwb.out).tr (Chg.of_below HBwd.out))⟩
  · have HA : Hid (c.ampleB = false) := by show c.ampleB = false; simp [Cf.ampleB, he, hp]
    have hp2 : c.pages < 20 * c.region + c.large := by omega
    go_enter Try.func61, Try.ntmps61
    go_wp2_with fail
    go_region_held3 (fun w' => w'.cell? ⟨w.heap.size, 0, none⟩ = some (.int .i64 c.pages) ∧ w'.cell? ⟨w.heap.size, 1, none⟩ = some (.int .i64 c.region) ∧ w'.cell? ⟨w.heap.size, 2, none⟩ = some (.int .i64 c.large) ∧ w'.cell? ⟨w.heap.size, 3, none⟩ = some (.int .i64 c.threads) ∧ w'.cell? ⟨w.heap.size, 4, none⟩ = some (.int .i64 c.cache) ∧ w'.cell? ⟨w.heap.size, 5, none⟩ = some (.int .i64 c.batch) ∧ w'.cell? ⟨w.heap.size, 6, none⟩ = some (.int .i64 c.shelf) ∧ w'.cell? ⟨w.heap.size, 7, none⟩ = some (.int .i64 c.regs) ∧ w'.cell? ⟨w.heap.size, 8, none⟩ = some (.int .i64 c.most) ∧ w'.cell? ⟨w.heap.size, 9, none⟩ = some (.int .i64 c.fill) ∧ w'.cell? ⟨w.heap.size, 10, none⟩ = some (.int .u64 c.key))
      (go_keep)
      (first
        | (go_at_call 60; refine (HCK.out _).mono ?_; rintro e wa ⟨rfl, hbwa⟩; have hzwa := hbwa.size; have hkwa := HBK.out wa hbwa.of_drew; have k0 := hkwa.cell 0; have k1 := hkwa.cell 1; have k2 := hkwa.cell 2; have k3 := hkwa.cell 3; have k4 := hkwa.cell 4; have k5 := hkwa.cell 5; have k6 := hkwa.cell 6; have k7 := hkwa.cell 7; have k8 := hkwa.cell 8; have k9 := hkwa.cell 9; have k10 := hkwa.cell 10; simp at k0 k1 k2 k3 k4 k5 k6 k7 k8 k9 k10; have HBwa := Lib.hid hbwa; have HKwa := Lib.hid hkwa; clear hbwa hkwa)
        | (go_at_call 79; refine (HSM.out _).mono ?_; rintro e wb ⟨rfl, hbwb⟩; have hzwb := hbwb.size; have hkwb := HKwa.out.chg (Chg.of_below (F := Non) hbwb) (fun h => h); have q0 := hkwb.cell 0; have q1 := hkwb.cell 1; have q2 := hkwb.cell 2; have q3 := hkwb.cell 3; have q4 := hkwb.cell 4; have q5 := hkwb.cell 5; have q6 := hkwb.cell 6; have q7 := hkwb.cell 7; have q8 := hkwb.cell 8; have q9 := hkwb.cell 9; have q10 := hkwb.cell 10; simp at q0 q1 q2 q3 q4 q5 q6 q7 q8 q9 q10; have HBwb := Lib.hid hbwb; have HKwb := Lib.hid hkwb; clear hbwb hkwb)
        | (go_at_call 80; refine (HLG.out _).mono ?_; rintro e wd ⟨rfl, hbwd⟩; have hzwd := hbwd.size; have hkwd := HKwb.out.chg (Chg.of_below (F := Non) hbwd) (fun h => h); have z0 := hkwd.cell 0; have z1 := hkwd.cell 1; have z2 := hkwd.cell 2; have z3 := hkwd.cell 3; have z4 := hkwd.cell 4; have z5 := hkwd.cell 5; have z6 := hkwd.cell 6; have z7 := hkwd.cell 7; have z8 := hkwd.cell 8; have z9 := hkwd.cell 9; have z10 := hkwd.cell 10; simp at z0 z1 z2 z3 z4 z5 z6 z7 z8 z9 z10; have HBwd := Lib.hid hbwd; have HKwd := Lib.hid hkwd; clear hbwd hkwd))
    all_goals
      go_wp2
      go_ret
      exact ⟨congrArg (fun x => Ending.returned (.bool x)) (show decide (20 * c.region + c.large ≤ c.pages) = c.ampleB by rw [HA.out]; simpa using hp), (HB0.out.tr HBwa.out.of_drew).tr ((Chg.of_below HBwb.out).tr (Chg.of_below HBwd.out))⟩

end Go.Proofs.Ytabeolmfgmbfaaa
