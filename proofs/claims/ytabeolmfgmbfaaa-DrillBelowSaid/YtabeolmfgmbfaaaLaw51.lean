/- The law DrillBelow: the walk. -/
import Derived.Test.YtabeolmfgmbfaaaOps
namespace Go.Proofs.Ytabeolmfgmbfaaa
open Go.RowKit
set_option linter.unusedVariables false
set_option linter.unusedSimpArgs false

def c51 : Cf := ⟨132, 5, 32, 1, 3, 3, 2, 9, 3000, 57, 318699215⟩
theorem conf_zero : (confDraw 0).1 = c51 := by kernel_rfl

set_option maxHeartbeats 2000000 in
set_option maxRecDepth 100000 in
theorem awake51_any (w : World) : Calls Try.prog 37 #[] w fun e w' => e = .returned (.bool true) ∧ Chg Non w w' := by
  have hw0 : Chg Non w (w.alloc (.cells #[.int .u64 0] 102)) := (Chg.refl _ _).alloc _
  have hcf : Calls Try.prog 59 #[.pointer (some ⟨w.heap.size, 0, none⟩), .bool true] (w.alloc (.cells #[.int .u64 0] 102)) fun e w' => e = .returned (.agg c51.cells) ∧ DiceAt w' w.heap.size (confDraw 0).2 ∧ Chg (One w.heap.size) (w.alloc (.cells #[.int .u64 0] 102)) w' := by
    have h := conf_ample w.heap.size 0 (w.alloc (.cells #[.int .u64 0] 102)) (Blk.new _ _ _)
    rw [conf_zero] at h
    exact h
  have HW := Lib.hid hw0
  have HCF := Lib.hid hcf
  clear hw0 hcf
  go_enter Try.func37, Try.ntmps37
  go_wp2_with fail
  refine (diceNew_any 0 _).mono ?_
  rintro e wx ⟨rfl, rfl⟩
  go_wp2_with fail
  refine HCF.out.mono ?_
  rintro e w1 ⟨rfl, hd, hc⟩
  generalize (confDraw 0).2 = t1 at *
  unfold Cf.cells c51
  have hs1 := hc.size
  simp only [World.size_alloc] at hs1
  have HD := Lib.hid hd
  have HC := Lib.hid (HW.out.trans hc (fun _ _ h => h) (fun i hi h => by have : i = w.heap.size := h; omega))
  clear hd hc
  have HB : Hid (Blk (w1.alloc (.cells c51.cells 96)) w1.heap.size c51.cells 96) := Blk.new _ _ _
  go_upto_region 3 with fail
  go_wp2_with fail
  refine (check_any c51 _).mono ?_
  rintro e w2 ⟨rfl, hc⟩
  rw [show c51.err = 0 from by decide]
  have HB2 := Lib.hid (HB.out.chg hc (fun h => h))
  have HC2 := Lib.hid hc
  clear hc
  have c0 : w2.cell? ⟨w1.heap.size, 0, none⟩ = some (.int .i64 132) := HB2.out.cell 0
  have c1 : w2.cell? ⟨w1.heap.size, 1, none⟩ = some (.int .i64 5) := HB2.out.cell 1
  have c2 : w2.cell? ⟨w1.heap.size, 2, none⟩ = some (.int .i64 32) := HB2.out.cell 2
  have c3 : w2.cell? ⟨w1.heap.size, 3, none⟩ = some (.int .i64 1) := HB2.out.cell 3
  have c4 : w2.cell? ⟨w1.heap.size, 4, none⟩ = some (.int .i64 3) := HB2.out.cell 4
  have c5 : w2.cell? ⟨w1.heap.size, 5, none⟩ = some (.int .i64 3) := HB2.out.cell 5
  have c6 : w2.cell? ⟨w1.heap.size, 6, none⟩ = some (.int .i64 2) := HB2.out.cell 6
  have c7 : w2.cell? ⟨w1.heap.size, 7, none⟩ = some (.int .i64 9) := HB2.out.cell 7
  have c8 : w2.cell? ⟨w1.heap.size, 8, none⟩ = some (.int .i64 3000) := HB2.out.cell 8
  have c9 : w2.cell? ⟨w1.heap.size, 9, none⟩ = some (.int .i64 57) := HB2.out.cell 9
  have c10 : w2.cell? ⟨w1.heap.size, 10, none⟩ = some (.int .u64 318699215) := HB2.out.cell 10
  go_wp2_with fail
  refine (ample_any c51 _ (by decide)).mono ?_
  clear c0 c1 c2 c3 c4 c5 c6 c7 c8 c9 c10
  rintro e w3 ⟨rfl, hc⟩
  rw [show c51.ampleB = true from by decide]
  have HB3 := Lib.hid (HB2.out.chg hc (fun h => h))
  have HC3 := Lib.hid (HC2.out.tr hc)
  clear hc
  have c0 : w3.cell? ⟨w1.heap.size, 0, none⟩ = some (.int .i64 132) := HB3.out.cell 0
  have c1 : w3.cell? ⟨w1.heap.size, 1, none⟩ = some (.int .i64 5) := HB3.out.cell 1
  have c2 : w3.cell? ⟨w1.heap.size, 2, none⟩ = some (.int .i64 32) := HB3.out.cell 2
  have c3 : w3.cell? ⟨w1.heap.size, 3, none⟩ = some (.int .i64 1) := HB3.out.cell 3
  have c4 : w3.cell? ⟨w1.heap.size, 4, none⟩ = some (.int .i64 3) := HB3.out.cell 4
  have c5 : w3.cell? ⟨w1.heap.size, 5, none⟩ = some (.int .i64 3) := HB3.out.cell 5
  have c6 : w3.cell? ⟨w1.heap.size, 6, none⟩ = some (.int .i64 2) := HB3.out.cell 6
  have c7 : w3.cell? ⟨w1.heap.size, 7, none⟩ = some (.int .i64 9) := HB3.out.cell 7
  have c8 : w3.cell? ⟨w1.heap.size, 8, none⟩ = some (.int .i64 3000) := HB3.out.cell 8
  have c9 : w3.cell? ⟨w1.heap.size, 9, none⟩ = some (.int .i64 57) := HB3.out.cell 9
  have c10 : w3.cell? ⟨w1.heap.size, 10, none⟩ = some (.int .u64 318699215) := HB3.out.cell 10
  go_wp2_with fail
  refine (ops_some w.heap.size t1 c51 5 _ (by decide) ((HD.out.alloc _).chg HC3.out (fun h => h))).mono ?_
  clear c0 c1 c2 c3 c4 c5 c6 c7 c8 c9 c10
  rintro e w4 ⟨a, cp, t, g, xs, rfl, _, _, _, hc⟩
  have HC4 := Lib.hid ((((HC.out.alloc _).tr HC3.out)).trans hc (fun _ _ h => h) (fun i hi h => by have : i = w.heap.size := h; omega))
  clear hc
  go_wp2_with fail
  go_ret
  exact ⟨rfl, HC4.out⟩

/-- The law's own draw. -/
theorem want_of (t n : Int) (h : 1 ≤ n) : wrap64 ((IntKind.u64.wrap ((IntKind.u64.wrap (IntKind.u64.wrap (t * 2862933555777941757) + 3037000493)).tdiv 8589934592)).tmod n) = (diceOf t n).1 := by
  have h' : ¬ n < 1 := by omega
  have hd := diceStep_range t
  have e : IntKind.u64.wrap ((diceStep t).tdiv 8589934592) = diceStep t / 8589934592 := by
    rw [Int.tdiv_eq_ediv_of_nonneg hd.1, u64_wrap']
    omega
  simp only [diceOf, h', if_false]
  rw [← e]
  rfl
theorem step_of (t n : Int) (h : 1 ≤ n) : IntKind.u64.wrap (IntKind.u64.wrap (t * 2862933555777941757) + 3037000493) = (diceOf t n).2 := by
  have h' : ¬ n < 1 := by omega
  simp only [diceOf, h', if_false]
  rfl
theorem none_of (t n : Int) (h : ¬ 1 ≤ n) : diceOf t n = (0, t) := by
  have h' : n < 1 := by omega
  simp [diceOf, h']

set_option maxHeartbeats 4000000 in
set_option maxRecDepth 100000 in
theorem drillBelow_any (seed : Int) (a : Option Addr) (len cap : Nat) (z : List Int) (w : World) (hi : Ints w a len z) (hw : ∀ x ∈ z, -9223372036854775808 ≤ x ∧ x ≤ 9223372036854775807) (hs : 0 ≤ seed ∧ seed < 18446744073709551616) :
    Calls Try.prog 10 #[.int .u64 seed, .slice a len cap] w fun e w' => e = .returned (.bool true) ∧ Below w.heap.size w w' := by
  have hzl := hi.1
  have HI := Lib.hid hi
  have HW := Lib.hid hw
  clear hi hw
  go_enter Try.func10, Try.ntmps10
  go_wp2_with fail
  refine (awake51_any _).mono ?_
  rintro e w1 ⟨rfl, hc⟩
  have HC := Lib.hid hc
  have hs1 := hc.size
  clear hc
  go_wp2_with fail
  refine (diceNew_any seed _).mono ?_
  rintro e wx ⟨rfl, rfl⟩
  have HD : Hid (DiceAt (w1.alloc (.cells #[.int .u64 seed] 102)) w1.heap.size seed) := Blk.new _ _ _
  have HC1 : Hid (Chg Non w (w1.alloc (.cells #[.int .u64 seed] 102))) := HC.out.alloc _
  go_wp2_with fail
  go_loopw [6, 7] (fun x i wr => ∃ (j : Nat) (t : Int), x = .int .u64 t ∧ i = .int .i64 j ∧ j ≤ len ∧ j ≤ 60 ∧ (0 ≤ t ∧ t < 18446744073709551616) ∧ Hid (DiceAt wr w1.heap.size t) ∧ Hid (Chg Non w wr)) (fun _ i _ => len - (intOf i).toNat)
  case atStart => exact ⟨0, seed, rfl, rfl, by omega, by omega, hs, HD, HC1⟩
  case round =>
    obtain ⟨j, t, rfl, rfl, hj, hj6, ht, HD2, HC2⟩ := hrel
    by_cases hlt : j < len
    · by_cases hlt6 : j < 60
      · obtain ⟨x, rfl⟩ : ∃ x, a = some x := by
          cases a with
          | none => have := HI.out.2.1 rfl; omega
          | some x => exact ⟨x, rfl⟩
        have hcell := (HI.out.chg HC2.out (fun _ _ h => h)).2.2 x rfl j (by omega)
        have hmem := HW.out (z.getD j 0) (by
          rw [List.getD_eq_getElem?_getD, List.getElem?_eq_getElem (by omega)]
          exact List.getElem_mem _)
        generalize z.getD j 0 = n at *
        by_cases h1 : 1 ≤ n
        · have hst := step_of t n h1
          have hrg := diceStep_range t
          have hwn := want_of t n h1
          have HST := Lib.hid hst
          have HWN := Lib.hid hwn
          clear hst hwn
          go_upto_region 11 with fail
          rw [HWN.out, HST.out]
          have hrg2 : 0 ≤ (diceOf t n).2 ∧ (diceOf t n).2 < 18446744073709551616 := by
            rw [← HST.out]
            exact hrg
          clear HWN HST hrg
          go_wp2_with fail
          refine (below_any w1.heap.size t n _ hmem.2 HD2.out).mono ?_
          rintro e w2 ⟨rfl, hd, hc⟩
          have HD3 := Lib.hid hd
          have HC3 : Hid (Chg Non w w2) := HC2.out.trans hc (fun _ _ h => h) (fun i hi h => by have : i = w1.heap.size := h; omega)
          clear hd hc hcell HD2
          generalize diceOf t n = r at *
          go_wp2_with fail
          go_roundw
          case rel => exact ⟨j + 1, r.2, rfl, by go_num, by omega, by omega, hrg2, HD3, HC3⟩
          case measure => simp [intOf]; omega
        · have hz := none_of t n h1
          have HZ := Lib.hid hz
          clear hz
          go_upto_region 11 with fail
          go_wp2_with fail
          refine (below_any w1.heap.size t n _ hmem.2 HD2.out).mono ?_
          rw [HZ.out]
          rintro e w2 ⟨rfl, hd, hc⟩
          have HD3 := Lib.hid hd
          have HC3 : Hid (Chg Non w w2) := HC2.out.trans hc (fun _ _ h => h) (fun i hi h => by have : i = w1.heap.size := h; omega)
          clear hd hc hcell HD2
          go_wp2_with fail
          go_roundw
          case rel => exact ⟨j + 1, t, rfl, by go_num, by omega, by omega, ht, HD3, HC3⟩
          case measure => simp [intOf]; omega
      · obtain rfl : j = 60 := by omega
        go_wp2_with fail
        go_ret
        exact ⟨rfl, HC2.out.below⟩
    · obtain rfl : j = len := by omega
      go_wp2_with fail
      go_ret
      exact ⟨rfl, HC2.out.below⟩

end Go.Proofs.Ytabeolmfgmbfaaa
