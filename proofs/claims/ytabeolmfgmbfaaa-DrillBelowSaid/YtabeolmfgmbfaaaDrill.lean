/- Package drill: Conf, Op and Ops; the law DrillBelow. Every seed; every list. -/
import Derived.Test.YtabeolmfgmbfaaaDice
namespace Go.Proofs.Ytabeolmfgmbfaaa
open Go.RowKit
set_option linter.unusedVariables false
set_option linter.unusedSimpArgs false

/-- How an allocator is drawn (before its pages). -/
def confDraw (t : Int) : Cf × Int :=
  let r1 := diceOf t 4
  let r2 := diceOf r1.2 60
  let r3 := diceOf r2.2 3
  let r4 := diceOf r3.2 6
  let r5 := diceOf r4.2 4
  let r6 := diceOf r5.2 8
  let r7 := diceOf r6.2 4
  let r8 := diceOf r7.2 256
  let r9 := diceOf r8.2 1073741824
  let r10 := diceOf r9.2 6
  (⟨20 * (5 + r1.1) + (20 + r2.1), 5 + r1.1, 20 + r2.1, 1 + r3.1, 1 + r4.1 + r10.1, 1 + r4.1, r5.1, 8 + r6.1, [64, 1024, 3000, 8000].getD r7.1.toNat 0, r8.1, r9.1⟩, r10.2)

set_option maxHeartbeats 2000000 in
set_option maxRecDepth 100000 in
theorem conf_ample (b : Nat) (t : Int) (w : World) (hd : DiceAt w b t) :
    Calls Try.prog 59 #[.pointer (some ⟨b, 0, none⟩), .bool true] w fun e w' => e = .returned (.agg (confDraw t).1.cells) ∧ DiceAt w' b (confDraw t).2 ∧ Chg (One b) w w' := by
  have HD : Hid (DiceAt (w.alloc (.cells #[.int .i64 0, .int .i64 0, .int .i64 0, .int .i64 0, .int .i64 0, .int .i64 0, .int .i64 0, .int .i64 0, .int .i64 0, .int .i64 0, .int .u64 0] 96)) b t) := hd.alloc _
  have HC : Hid (Chg (One b) (w.alloc (.cells #[.int .i64 0, .int .i64 0, .int .i64 0, .int .i64 0, .int .i64 0, .int .i64 0, .int .i64 0, .int .i64 0, .int .i64 0, .int .i64 0, .int .u64 0] 96)) (w.alloc (.cells #[.int .i64 0, .int .i64 0, .int .i64 0, .int .i64 0, .int .i64 0, .int .i64 0, .int .i64 0, .int .i64 0, .int .i64 0, .int .i64 0, .int .u64 0] 96))) := Chg.refl _ _
  have hb := hd.lt
  clear hd
  go_enter Try.func59, Try.ntmps59
  go_wp2_with fail
  refine (below_any b t 4 _ (by decide) HD.out).mono ?_
  rintro e w1 ⟨rfl, hd, hc⟩
  obtain ⟨ha1, hb1⟩ := diceOf_range t 4 (by decide) (by decide)
  have HC := Lib.hid (HC.out.tr hc)
  have HD := Lib.hid hd
  clear hd hc
  generalize hr1 : diceOf t 4 = r1 at *
  have HR1 := Lib.hid hr1
  clear hr1
  go_wp2_with fail
  refine (below_any b r1.2 60 _ (by decide) HD.out).mono ?_
  rintro e w2 ⟨rfl, hd, hc⟩
  obtain ⟨ha2, hb2⟩ := diceOf_range r1.2 60 (by decide) (by decide)
  have HC := Lib.hid (HC.out.tr hc)
  have HD := Lib.hid hd
  clear hd hc
  generalize hr2 : diceOf r1.2 60 = r2 at *
  have HR2 := Lib.hid hr2
  clear hr2
  go_wp2_with fail
  refine (below_any b r2.2 3 _ (by decide) HD.out).mono ?_
  rintro e w3 ⟨rfl, hd, hc⟩
  obtain ⟨ha3, hb3⟩ := diceOf_range r2.2 3 (by decide) (by decide)
  have HC := Lib.hid (HC.out.tr hc)
  have HD := Lib.hid hd
  clear hd hc
  generalize hr3 : diceOf r2.2 3 = r3 at *
  have HR3 := Lib.hid hr3
  clear hr3
  go_wp2_with fail
  refine (below_any b r3.2 6 _ (by decide) HD.out).mono ?_
  rintro e w4 ⟨rfl, hd, hc⟩
  obtain ⟨ha4, hb4⟩ := diceOf_range r3.2 6 (by decide) (by decide)
  have HC := Lib.hid (HC.out.tr hc)
  have HD := Lib.hid hd
  clear hd hc
  generalize hr4 : diceOf r3.2 6 = r4 at *
  have HR4 := Lib.hid hr4
  clear hr4
  go_wp2_with fail
  refine (below_any b r4.2 4 _ (by decide) HD.out).mono ?_
  rintro e w5 ⟨rfl, hd, hc⟩
  obtain ⟨ha5, hb5⟩ := diceOf_range r4.2 4 (by decide) (by decide)
  have HC := Lib.hid (HC.out.tr hc)
  have HD := Lib.hid hd
  clear hd hc
  generalize hr5 : diceOf r4.2 4 = r5 at *
  have HR5 := Lib.hid hr5
  clear hr5
  go_wp2_with fail
  refine (below_any b r5.2 8 _ (by decide) HD.out).mono ?_
  rintro e w6 ⟨rfl, hd, hc⟩
  obtain ⟨ha6, hb6⟩ := diceOf_range r5.2 8 (by decide) (by decide)
  have HC := Lib.hid (HC.out.tr hc)
  have HD := Lib.hid hd
  clear hd hc
  generalize hr6 : diceOf r5.2 8 = r6 at *
  have HR6 := Lib.hid hr6
  clear hr6
  go_wp2_with fail
  refine (one_any b r6.2 _ 4 4 [64, 1024, 3000, 8000] _ rfl (by decide) (by decide) (ints_blk (Blk.new _ _ _) ?_ rfl) ?_ (HD.out.alloc _)).mono ?_
  · intro j hj
    match j, hj with
    | 0, _ => rfl
    | 1, _ => rfl
    | 2, _ => rfl
    | 3, _ => rfl
  · intro x hx
    cases hx
    have := HC.out.size
    simp at this ⊢
    omega
  rintro e w7 ⟨rfl, hd, hc⟩
  obtain ⟨ha7, hb7⟩ := diceOf_range r6.2 4 (by decide) (by decide)
  have HC := Lib.hid ((HC.out.alloc (.cells #[.int .i64 64, .int .i64 1024, .int .i64 3000, .int .i64 8000] 3)).tr hc)
  have HD := Lib.hid hd
  clear hd hc
  generalize hr7 : diceOf r6.2 4 = r7 at *
  have HR7 := Lib.hid hr7
  clear hr7
  generalize hmo : ([64, 1024, 3000, 8000] : List Int).getD r7.1.toNat 0 = mo at *
  have HMO := Lib.hid hmo
  clear hmo
  go_wp2_with fail
  refine (below_any b r7.2 256 _ (by decide) HD.out).mono ?_
  rintro e w8 ⟨rfl, hd, hc⟩
  obtain ⟨ha8, hb8⟩ := diceOf_range r7.2 256 (by decide) (by decide)
  have HC := Lib.hid (HC.out.tr hc)
  have HD := Lib.hid hd
  clear hd hc
  generalize hr8 : diceOf r7.2 256 = r8 at *
  have HR8 := Lib.hid hr8
  clear hr8
  go_wp2_with fail
  refine (below_any b r8.2 1073741824 _ (by decide) HD.out).mono ?_
  rintro e w9 ⟨rfl, hd, hc⟩
  obtain ⟨ha9, hb9⟩ := diceOf_range r8.2 1073741824 (by decide) (by decide)
  have HC := Lib.hid (HC.out.tr hc)
  have HD := Lib.hid hd
  clear hd hc
  generalize hr9 : diceOf r8.2 1073741824 = r9 at *
  have HR9 := Lib.hid hr9
  clear hr9
  go_wp2_with fail
  have hb9 := HC.out.size
  have hs9 : w.heap.size < w9.heap.size := by simp at hb9; omega
  have HBK : Hid (∀ wx, Chg (One b) (w9.alloc (.cells #[.int .i64 0, .int .i64 (5 + r1.1), .int .i64 (20 + r2.1), .int .i64 (1 + r3.1), .int .i64 0, .int .i64 (1 + r4.1), .int .i64 r5.1, .int .i64 (8 + r6.1), .int .i64 mo, .int .i64 r8.1, .int .u64 r9.1] 96)) wx → Blk wx w9.heap.size #[.int .i64 0, .int .i64 (5 + r1.1), .int .i64 (20 + r2.1), .int .i64 (1 + r3.1), .int .i64 0, .int .i64 (1 + r4.1), .int .i64 r5.1, .int .i64 (8 + r6.1), .int .i64 mo, .int .i64 r8.1, .int .u64 r9.1] 96) := fun wx hx => (Blk.new w9 _ _).chg hx (fun e => by have : w9.heap.size = b := e; omega)
  have HDA : Hid (DiceAt (w9.alloc (.cells #[.int .i64 0, .int .i64 (5 + r1.1), .int .i64 (20 + r2.1), .int .i64 (1 + r3.1), .int .i64 0, .int .i64 (1 + r4.1), .int .i64 r5.1, .int .i64 (8 + r6.1), .int .i64 mo, .int .i64 r8.1, .int .u64 r9.1] 96)) b r9.2) := HD.out.alloc _
  have HCA : Hid (Chg (One b) (w.alloc (.cells #[.int .i64 0, .int .i64 0, .int .i64 0, .int .i64 0, .int .i64 0, .int .i64 0, .int .i64 0, .int .i64 0, .int .i64 0, .int .i64 0, .int .u64 0] 96)) (w9.alloc (.cells #[.int .i64 0, .int .i64 (5 + r1.1), .int .i64 (20 + r2.1), .int .i64 (1 + r3.1), .int .i64 0, .int .i64 (1 + r4.1), .int .i64 r5.1, .int .i64 (8 + r6.1), .int .i64 mo, .int .i64 r8.1, .int .u64 r9.1] 96))) := HC.out.alloc _
  have HRZ : Hid (∀ wx, Chg (One b) (w.alloc (.cells #[.int .i64 0, .int .i64 0, .int .i64 0, .int .i64 0, .int .i64 0, .int .i64 0, .int .i64 0, .int .i64 0, .int .i64 0, .int .i64 0, .int .u64 0] 96)) wx → Blk wx w.heap.size #[.int .i64 0, .int .i64 0, .int .i64 0, .int .i64 0, .int .i64 0, .int .i64 0, .int .i64 0, .int .i64 0, .int .i64 0, .int .i64 0, .int .u64 0] 96) := fun wx hx => (Blk.new w _ _).chg hx (fun e => by have : w.heap.size = b := e; omega)
  obtain ⟨ha10, hb10⟩ := diceOf_range r9.2 6 (by decide) (by decide)
  have hnx := fun w => below_any b r9.2 6 w (by decide)
  generalize hr10 : diceOf r9.2 6 = r10 at *
  have HR10 := Lib.hid hr10
  have HNX := Lib.hid hnx
  clear hr10 hnx HD HC
  have HE : Hid (confDraw t = (⟨20 * (5 + r1.1) + (20 + r2.1), 5 + r1.1, 20 + r2.1, 1 + r3.1, 1 + r4.1 + r10.1, 1 + r4.1, r5.1, 8 + r6.1, mo, r8.1, r9.1⟩, r10.2)) := by
    show _ = _
    unfold confDraw
    simp only [HR1.out, HR2.out, HR3.out, HR4.out, HR5.out, HR6.out, HR7.out, HR8.out, HR9.out, HR10.out, HMO.out]
  go_region_with (go_at_call 39; refine (HNX.out _ ?_).mono ?_; exact HDA.out; rintro e w10 ⟨rfl, hd, hc⟩; have hk := HBK.out w10 hc.of_drew; have k0 := hk.cell 0; have f0 := hk.free 0; have k1 := hk.cell 1; have f1 := hk.free 1; have k2 := hk.cell 2; have f2 := hk.free 2; have k3 := hk.cell 3; have f3 := hk.free 3; have k4 := hk.cell 4; have f4 := hk.free 4; have k5 := hk.cell 5; have f5 := hk.free 5; have k6 := hk.cell 6; have f6 := hk.free 6; have k7 := hk.cell 7; have f7 := hk.free 7; have k8 := hk.cell 8; have f8 := hk.free 8; have k9 := hk.cell 9; have f9 := hk.free 9; have k10 := hk.cell 10; have f10 := hk.free 10; simp at k0 k1 k2 k3 k4 k5 k6 k7 k8 k9 k10; have HD := Lib.hid hd; have HC := Lib.hid (HCA.out.tr hc.of_drew); have hz := HRZ.out w10 HC.out; have z0 := hz.cell 0; have g0 := hz.free 0; have z1 := hz.cell 1; have g1 := hz.free 1; have z2 := hz.cell 2; have g2 := hz.free 2; have z3 := hz.cell 3; have g3 := hz.free 3; have z4 := hz.cell 4; have g4 := hz.free 4; have z5 := hz.cell 5; have g5 := hz.free 5; have z6 := hz.cell 6; have g6 := hz.free 6; have z7 := hz.cell 7; have g7 := hz.free 7; have z8 := hz.cell 8; have g8 := hz.free 8; have z9 := hz.cell 9; have g9 := hz.free 9; have z10 := hz.cell 10; have g10 := hz.free 10; simp at z0 z1 z2 z3 z4 z5 z6 z7 z8 z9 z10; clear hd hc hk hz)
  all_goals
    go_wp2_with fail
    refine bodyPost_ret (v := .agg #[.int .i64 (20 * (5 + r1.1) + (20 + r2.1)), .int .i64 (5 + r1.1), .int .i64 (20 + r2.1), .int .i64 (1 + r3.1), .int .i64 (1 + r4.1 + r10.1), .int .i64 (1 + r4.1), .int .i64 r5.1, .int .i64 (8 + r6.1), .int .i64 mo, .int .i64 r8.1, .int .u64 r9.1]) ?_ rfl ⟨?_, ?_, ?_⟩
    · simp [results, Try.results59, go_sem, *]
    · rw [HE.out]; rfl
    · rw [HE.out]
      refine (show DiceAt w10 b r10.2 from HD.out).chg (F := fun k => k = w9.heap.size ∨ k = w.heap.size) ?_ (fun e => by rcases e with e | e <;> omega)
      iterate 13 refine Chg.setCell ?_ (.inl (by first | exact .inl rfl | exact .inr rfl)) _
      exact Chg.refl _ _
    · refine (((Chg.refl (One b) w).alloc _).tr HC.out).trans (G := fun k => k = w9.heap.size ∨ k = w.heap.size) ?_ (fun _ _ h => h) (fun i hi e => by rcases e with e | e <;> omega)
      iterate 13 refine Chg.setCell ?_ (.inl (by first | exact .inl rfl | exact .inr rfl)) _
      exact Chg.refl _ _

end Go.Proofs.Ytabeolmfgmbfaaa
