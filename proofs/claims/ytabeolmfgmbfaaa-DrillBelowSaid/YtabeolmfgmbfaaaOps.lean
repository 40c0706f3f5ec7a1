/- Package drill: Ops: so many; the law DrillBelow's walk. -/
import Derived.Test.YtabeolmfgmbfaaaDrillOp
namespace Go.Proofs.Ytabeolmfgmbfaaa
open Go.RowKit
set_option linter.unusedVariables false
set_option linter.unusedSimpArgs false

/-- A whole new block, as a source. -/
theorem src_cells {w : World} {b : Nat} {c : Array Value} {t : TypeId} {size m cap : Nat} (h : Blk w b c t) (hs : c.size = m * size) (h1 : ∀ u ∈ c.toList, u.oneCell' = true) : Src w size (.slice (some ⟨b, 0, none⟩) m cap) m c.toList := by
  refine ⟨by simp [hs], h1, .inr ⟨_, _, rfl, fun j u hu => ?_⟩⟩
  rw [Addr.add_lit, h.cell]
  simpa using hu

theorem Try.info_op : (Try.prog.info? 61).map (fun i => (i.zero, i.size, i.bytes)) = some (some (.agg #[.int .i64 0, .int .i64 0, .int .i64 0, .int .i64 0, .int .i64 0, .int .i64 0, .int .i64 0, .slice none 0 0]), 8, 80) := by kernel_rfl

/-- What Ops answers: so many; only the dice turned. -/
def OpsPost (b : Nat) (m : Nat) (w : World) (e : Ending) (w' : World) : Prop := ∃ (a : Option Addr) (cp : Nat) (t : Int) (g : Option Nat) (xs : List Value), e = .returned (.slice a m cp) ∧ Own w' 61 8 (.slice a m cp) m xs g ∧ (∀ i, g = some i → w.heap.size ≤ i) ∧ DiceAt w' b t ∧ Chg (One b) w w'

set_option maxHeartbeats 4000000 in
set_option maxRecDepth 100000 in
theorem ops_some (b : Nat) (t : Int) (c : Cf) (many : Int) (w : World) (hc0 : c.threads ≤ 1000 ∧ c.regs ≤ 1000 ∧ -1000000 ≤ c.most ∧ c.most ≤ 1000000) (hd : DiceAt w b t) :
    Calls Try.prog 62 #[.pointer (some ⟨b, 0, none⟩), .agg c.cells, .int .i64 many] w (OpsPost b (min (max many 0) 400).toNat w) := by
  obtain ⟨i0, hi, hz0, hz1, hz2⟩ := info_parts Try.info_op
  have hb := hd.lt
  have HD : Hid (∃ t, DiceAt (w.alloc (.cells c.cells 96)) b t) := ⟨t, hd.alloc _⟩
  have HB : Hid (Blk (w.alloc (.cells c.cells 96)) w.heap.size c.cells 96) := Blk.new _ _ _
  clear hd
  obtain ⟨m, hm⟩ : ∃ m : Nat, (min (max many 0) 400).toNat = m := ⟨_, rfl⟩
  have hm4 : m ≤ 400 := by omega
  rw [hm]
  have HC : Hid (Chg (One b) w (w.alloc (.cells c.cells 96))) := (Chg.refl _ _).alloc _
  unfold Cf.cells at *
  have HM := Lib.hid hm
  clear hm
  go_enter Try.func62, Try.ntmps62
  go_upto_region 2 with fail
  go_cut [10, 11] (fun x i wx => x = .int .i64 m ∧ i = .int .i64 0 ∧ wx = w.alloc (.cells #[.int .i64 c.pages, .int .i64 c.region, .int .i64 c.large, .int .i64 c.threads, .int .i64 c.cache, .int .i64 c.batch, .int .i64 c.shelf, .int .i64 c.regs, .int .i64 c.most, .int .i64 c.fill, .int .u64 c.key] 96))
  case first =>
    go_wp2_with fail
    all_goals
      go_meet
      exact ⟨congrArg (Value.int .i64) (by have := HM.out; omega), rfl, rfl⟩
  case rest =>
    obtain ⟨rfl, rfl, rfl⟩ := hcut
    go_wp2_with fail
    go_loopw [7, 11] (fun x i wr => ∃ (j : Nat) (a : Option Addr) (cp : Nat), x = .slice a j cp ∧ i = .int .i64 j ∧ j ≤ m ∧ Hid (∃ t, DiceAt wr b t) ∧ Hid (Blk wr w.heap.size c.cells 96) ∧ Hid (∃ g xs, Own wr 61 8 (.slice a j cp) j xs g ∧ ∀ k, g = some k → w.heap.size < k) ∧ Hid (Chg (One b) w wr)) (fun _ i _ => m - (intOf i).toNat)
    case atStart => exact ⟨0, _, _, rfl, rfl, by omega, HD, HB, ⟨none, [], Own.nil _ _ _, fun k hk => by cases hk⟩, HC⟩
    case round =>
      obtain ⟨j, a, cp, rfl, rfl, hj, HD2, HB2, HO2, HC2⟩ := hrel
      by_cases hlt : j < m
      · obtain ⟨t2, hd2⟩ := HD2.out
        obtain ⟨g, xs, ho, hg⟩ := HO2.out
        have c0 := HB2.out.cell 0
        have c1 := HB2.out.cell 1
        have c2 := HB2.out.cell 2
        have c3 := HB2.out.cell 3
        have c4 := HB2.out.cell 4
        have c5 := HB2.out.cell 5
        have c6 := HB2.out.cell 6
        have c7 := HB2.out.cell 7
        have c8 := HB2.out.cell 8
        have c9 := HB2.out.cell 9
        have c10 := HB2.out.cell 10
        simp [Cf.cells] at c0 c1 c2 c3 c4 c5 c6 c7 c8 c9 c10
        have hsz := HC2.out.size
        have HD3 := Lib.hid hd2
        have HO3 := Lib.hid ho
        have HG := Lib.hid hg
        clear hd2 ho hg HD2 HO2
        go_wp2_with fail
        refine (op_some b t2 c _ hc0 HD3.out).mono ?_
        clear c0 c1 c2 c3 c4 c5 c6 c7 c8 c9 c10
        rintro e w2 ⟨k, x1, x2, x3, x4, x5, x6, sa, n2, cp2, t3, rfl, hd4, hc4⟩
        have HC4 := Lib.hid hc4
        have HD4 := Lib.hid hd4
        have HO4 := Lib.hid (HO3.out.chg hc4 (fun i hi e => by have := HG.out i hi; have : i = b := e; omega))
        have HB4 := Lib.hid (HB2.out.chg hc4 (fun e => by have : w.heap.size = b := e; omega))
        have hs4 := hc4.size
        clear hc4 hd4
        go_wp2_with (at_builtin; refine wpList_append_Own _ rfl _ _ 58 rfl 61 i0 _ 8 80 Try.underlying58 hi hz0 hz1 hz2 rfl (by decide) _ j _ g rfl (HO4.out.chg ((Chg.refl Non _).alloc _) (fun _ _ h => h)) _ 1 _ rfl (src_cells (size := 8) (Blk.new _ _ _) rfl (by simp [Value.oneCell'])) (by unfold maxLen; omega) (by omega) ?_; intro v' w' g' hown hchg hg'; obtain ⟨a2, cc, rfl, hc2, hm2⟩ := hown.slice; have HO5 := Lib.hid hown; have HC5 := Lib.hid hchg; have HG5 := Lib.hid hg'; clear hown hchg hg')
        go_roundw
        case rel =>
          refine ⟨j + 1, a2, cc, rfl, by go_num, by omega, ⟨t3, (HD4.out.alloc _).chg HC5.out (fun h => ?_)⟩, (HB4.out.alloc _).chg HC5.out (fun h => ?_), ⟨g', _, HO5.out, fun i hi => ?_⟩, ((HC2.out.tr HC4.out).alloc _).trans HC5.out (fun _ _ h => h) (fun i hi h => ?_)⟩
          · have := HG.out b h
            omega
          · have := HG.out _ h
            omega
          · rcases HG5.out i hi with h | h
            · exact HG.out i h
            · simp at h
              omega
          · have := HG.out i h
            omega
        case measure => simp [intOf]; omega
      · obtain rfl : j = m := by omega
        obtain ⟨t2, hd2⟩ := HD2.out
        obtain ⟨g, xs, ho, hg⟩ := HO2.out
        have HD3 := Lib.hid hd2
        have HO3 := Lib.hid ho
        have HG := Lib.hid hg
        clear hd2 ho hg HD2 HO2
        go_wp2_with fail
        go_ret
        exact ⟨_, _, t2, g, xs, rfl, HO3.out, fun i hi => Nat.le_of_lt (HG.out i hi), HD3.out, HC2.out⟩

end Go.Proofs.Ytabeolmfgmbfaaa
