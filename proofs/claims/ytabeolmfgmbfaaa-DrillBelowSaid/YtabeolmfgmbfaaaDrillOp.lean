/- Package drill: Op: it returns, and only the dice turn. Every seed and form. -/
import Derived.Test.YtabeolmfgmbfaaaDrillAt
import Derived.Deep.CutBlock
namespace Go.Proofs.Ytabeolmfgmbfaaa
open Go.RowKit
set_option linter.unusedVariables false
set_option linter.unusedSimpArgs false

set_option maxHeartbeats 4000000 in
set_option maxRecDepth 100000 in
theorem op_some (b : Nat) (t : Int) (c : Cf) (w : World) (hc0 : c.threads ≤ 1000 ∧ c.regs ≤ 1000 ∧ -1000000 ≤ c.most ∧ c.most ≤ 1000000) (hd : DiceAt w b t) :
    Calls Try.prog 81 #[.pointer (some ⟨b, 0, none⟩), .agg c.cells] w (OpPost b w) := by
  obtain ⟨i0, hi, hz0, hz1, hz2⟩ := info_parts Try.info_byte
  have hb := hd.lt
  have HD := Lib.hid hd
  clear hd
  unfold Cf.cells at *
  go_enter Try.func81, Try.ntmps81
  go_wp2_with fail
  refine (one_any b t (some ⟨w.heap.size + 2, 0, none⟩) 33 33 kindsL _ rfl (by decide) (by decide) ?_ ?_ ?_).mono ?_
  · have h : ∀ (A B : Obj) (t : TypeId) (c : Array Value), Blk (((w.alloc A).alloc B).alloc (.cells c t)) (w.heap.size + 2) c t := fun A B t c => Blk.newAt _ _ _ (by simp)
    exact ints_lit kindsL (h _ _ _ _)
  · intro x hx
    cases hx
    simp only []
    omega
  · exact ((HD.out.alloc _).alloc _).alloc _
  rintro e w1 ⟨rfl, hd1, hc1⟩
  have hr := diceOf_range t 33 (by decide) (by decide)
  have hk := kindsL_range (kindsL.getD (diceOf t 33).1.toNat 0) (by
    rw [List.getD_eq_getElem?_getD, List.getElem?_eq_getElem (by show _ < 33; omega)]
    exact List.getElem_mem _)
  change DiceAt w1 b (diceOf t 33).2 at hd1
  rw [show ((33 : Nat) : Int) = 33 from rfl]
  generalize kindsL.getD (diceOf t 33).1.toNat 0 = k at *
  generalize (diceOf t 33).2 = t1 at *
  have hsz1 := hc1.size
  simp only [World.size_alloc] at hsz1
  have H0 : Hid (OpAt w (w1.alloc (.cells #[.int .i64 k, .int .i64 0, .int .i64 0, .int .i64 0, .int .i64 0, .int .i64 0, .int .i64 0, .slice none 0 0] 61)) b w.heap.size (w.heap.size + 1) w1.heap.size c k 0) := by
    have hal : Chg (One b) w1 (w1.alloc (.cells #[.int .i64 k, .int .i64 0, .int .i64 0, .int .i64 0, .int .i64 0, .int .i64 0, .int .i64 0, .slice none 0 0] 61)) := (Chg.refl _ _).alloc _
    have hca := hc1.tr hal
    refine ⟨⟨t1, hd1.chg ((Chg.refl Non w1).alloc _) (fun h => h)⟩, ((((Blk.new w _ _).alloc _).alloc _).chg hca (fun e => by have : w.heap.size = b := e; omega)), ?_, ⟨0, 0, 0, 0, 0, 0, none, 0, 0, none, [], Blk.new w1 _ _, Own.nil _ _ _, fun i hi => (by cases hi), rfl⟩, ?_, hb, Nat.le_refl _, by omega, by omega, by omega, by omega, by omega⟩
    · have h : ∀ (A B : Obj) (t : TypeId) (d : Array Value), Blk (((w.alloc A).alloc (.cells d t)).alloc B) (w.heap.size + 1) d t := fun A B t d => (Blk.newAt _ _ _ (by simp)).alloc _
      exact (h _ _ _ _).chg hca (fun e => by have : w.heap.size + 1 = b := e; omega)
    · exact ((((Chg.refl (One b) w).alloc _).alloc _).alloc _).tr hca
  clear hd1 hc1 HD
  go_upto_region 2 with fail
  go_cut [] (fun wx => Hid (OpAt w wx b w.heap.size (w.heap.size + 1) w1.heap.size c k 0))
  case first =>
    obtain ⟨⟨y1, y2, y3, y4, y5, y6, ysa, yn, ycp, z0, z1, z2, z3, z4, z5, z6, z7⟩, zf, q3, q7, q8⟩ := H0.out.facts
    have zf1 := zf 1
    have zf2 := zf 2
    have zf3 := zf 3
    have zf4 := zf 4
    have HX := H0
    have hne1 : w1.heap.size ≠ w.heap.size := by omega
    have hne2 : w.heap.size ≠ w1.heap.size := by omega
    clear zf
    go_region_held3 (fun w' => w'.cell? ⟨w.heap.size, 3, none⟩ = some (.int .i64 c.threads) ∧ w'.cell? ⟨w.heap.size, 7, none⟩ = some (.int .i64 c.regs))
      (first | go_keep | (refine ⟨?_, ?_⟩ <;> (repeat rw [World.cell?_setCell_other _ _ _ _ (by simp; omega)]) <;> assumption))
      (first
        | (go_at_call 39; refine (below_op (w0 := w) (cb := w.heap.size) (rb := w.heap.size + 1) (ob := w1.heap.size) (c := c) (k := k) (d := 0) _ ?_ ?_).mono ?_; (first | exact HX.out | exact HX.out.drew); omega; rintro e wn ⟨xn, rfl, hx0, hx1, hop⟩; have HX := Lib.hid hop; obtain ⟨⟨y1, y2, y3, y4, y5, y6, ysa, yn, ycp, z0, z1, z2, z3, z4, z5, z6, z7⟩, zf, q3, q7, q8⟩ := hop.facts; have zf1 := zf 1; have zf2 := zf 2; have zf3 := zf 3; have zf4 := zf 4; have zf5 := zf 5; have zf6 := zf 6; have zf7 := zf 7; clear zf; clear hop))
    all_goals
      go_wp2_with fail
      go_meet
      exact ((((HX.out.set 1 _ (by decide) (by decide)).set 2 _ (by decide) (by decide)).set 3 _ (by decide) (by decide)).set 4 _ (by decide) (by decide))
  case rest =>
    clear H0
    have HX := hcut
    clear hcut
    have hop := HX.out
    obtain ⟨⟨y1, y2, y3, y4, y5, y6, ysa, yn, ycp, z0, z1, z2, z3, z4, z5, z6, z7⟩, zf, q3, q7, q8⟩ := hop.facts; have zf1 := zf 1; have zf2 := zf 2; have zf3 := zf 3; have zf4 := zf 4; have zf5 := zf 5; have zf6 := zf 6; have zf7 := zf 7; clear zf
    clear hop
    go_upto_block 0 with fail
    go_cut [] (fun wx => Hid (∃ d, OpAt w wx b w.heap.size (w.heap.size + 1) w1.heap.size c k d))
    case first =>
      have hall : (k = 1 ∨ k = 5) ∨ k = 2 ∨ k = 3 ∨ (k = 7 ∨ k = 11) ∨ k = 8 ∨ k = 9 ∨ k = 12 ∨ k = 16 ∨ (k = 4 ∨ k = 6 ∨ k = 10 ∨ k = 13 ∨ k = 14 ∨ k = 15 ∨ k = 17 ∨ k = 18) := by omega
      clear hk
      rcases hall with hk | rfl | rfl | hk | rfl | rfl | rfl | rfl | hk
      · rcases hk with rfl | rfl
        all_goals
          go_wp2_with fail
          refine (size_op (w0 := w) (cb := w.heap.size) (rb := w.heap.size + 1) (ob := w1.heap.size) (c := c) _ HX.out ?_).mono ?_
          · omega
          rintro e wn ⟨xn, rfl, hx0, hx1, hop⟩
          have HX := Lib.hid hop
          obtain ⟨⟨y1, y2, y3, y4, y5, y6, ysa, yn, ycp, z0, z1, z2, z3, z4, z5, z6, z7⟩, zf, q3, q7, q8⟩ := hop.facts; have zf1 := zf 1; have zf2 := zf 2; have zf3 := zf 3; have zf4 := zf 4; have zf5 := zf 5; have zf6 := zf 6; have zf7 := zf 7; clear zf
          clear hop
          go_wp2_with fail
          go_meet
          exact ⟨_, HX.out.set 5 _ (by decide) (by decide)⟩
      · go_wp2_with fail
        refine (below_op (w0 := w) (cb := w.heap.size) (rb := w.heap.size + 1) (ob := w1.heap.size) (c := c) _ HX.out ?_).mono ?_
        · omega
        rintro e wn ⟨xn, rfl, hx0, hx1, hop⟩
        have HX := Lib.hid hop
        obtain ⟨⟨y1, y2, y3, y4, y5, y6, ysa, yn, ycp, z0, z1, z2, z3, z4, z5, z6, z7⟩, zf, q3, q7, q8⟩ := hop.facts; have zf1 := zf 1; have zf2 := zf 2; have zf3 := zf 3; have zf4 := zf 4; have zf5 := zf 5; have zf6 := zf 6; have zf7 := zf 7; clear zf
        clear hop
        go_wp2_with fail
        refine (below_op (w0 := w) (cb := w.heap.size) (rb := w.heap.size + 1) (ob := w1.heap.size) (c := c) _ HX.out ?_).mono ?_
        · omega
        rintro e wn ⟨xn, rfl, hx0, hx1, hop⟩
        have HX := Lib.hid hop
        obtain ⟨⟨y1, y2, y3, y4, y5, y6, ysa, yn, ycp, z0, z1, z2, z3, z4, z5, z6, z7⟩, zf, q3, q7, q8⟩ := hop.facts; have zf1 := zf 1; have zf2 := zf 2; have zf3 := zf 3; have zf4 := zf 4; have zf5 := zf 5; have zf6 := zf 6; have zf7 := zf 7; clear zf
        clear hop
        go_wp2_with fail
        go_meet
        exact ⟨_, (HX.out.set 5 _ (by decide) (by decide)).set 6 _ (by decide) (by decide)⟩
      · go_wp2_with fail
        refine (size_op (w0 := w) (cb := w.heap.size) (rb := w.heap.size + 1) (ob := w1.heap.size) (c := c) _ HX.out ?_).mono ?_
        · omega
        rintro e wn ⟨xn, rfl, hx0, hx1, hop⟩
        have HX := Lib.hid hop
        obtain ⟨⟨y1, y2, y3, y4, y5, y6, ysa, yn, ycp, z0, z1, z2, z3, z4, z5, z6, z7⟩, zf, q3, q7, q8⟩ := hop.facts; have zf1 := zf 1; have zf2 := zf 2; have zf3 := zf 3; have zf4 := zf 4; have zf5 := zf 5; have zf6 := zf 6; have zf7 := zf 7; clear zf
        clear hop
        go_wp2_with fail
        refine (below_opc (w0 := w) (cb := w.heap.size) (rb := w.heap.size + 1) (ob := w1.heap.size) (c := c) _ HX.out ?_ ?_).mono ?_
        · omega
        · omega
        rintro e wn ⟨xn, rfl, hx0, hx1, hop⟩
        have HX := Lib.hid hop
        obtain ⟨⟨y1, y2, y3, y4, y5, y6, ysa, yn, ycp, z0, z1, z2, z3, z4, z5, z6, z7⟩, zf, q3, q7, q8⟩ := hop.facts; have zf1 := zf 1; have zf2 := zf 2; have zf3 := zf 3; have zf4 := zf 4; have zf5 := zf 5; have zf6 := zf 6; have zf7 := zf 7; clear zf
        clear hop
        go_wp2_with fail
        go_meet
        exact ⟨_, (HX.out.set 5 _ (by decide) (by decide)).set 6 _ (by decide) (by decide)⟩
      · rcases hk with rfl | rfl
        all_goals
          go_wp2_with fail
          have hal := HX.out.ch.size
          refine (one_op (w0 := w) (cb := w.heap.size) (rb := w.heap.size + 1) (ob := w1.heap.size) (c := c) [1, 8, 16, 16, 32, 100] ⟨_, 0, none⟩ 6 6 rfl (by decide) (by decide) (ints_lit [1, 8, 16, 16, 32, 100] (Blk.new _ _ _)) ?_ ?_ (HX.out.alloc _)).mono ?_
          · exact Nat.ne_of_gt (Nat.lt_of_lt_of_le hb hal)
          · intro x hx
            simp at hx
            omega
          rintro e wn ⟨xn, rfl, hx0, hx1, hop⟩
          have HX := Lib.hid hop
          obtain ⟨⟨y1, y2, y3, y4, y5, y6, ysa, yn, ycp, z0, z1, z2, z3, z4, z5, z6, z7⟩, zf, q3, q7, q8⟩ := hop.facts; have zf1 := zf 1; have zf2 := zf 2; have zf3 := zf 3; have zf4 := zf 4; have zf5 := zf 5; have zf6 := zf 6; have zf7 := zf 7; clear zf
          clear hop hal
          go_wp2_with fail
          go_meet
          exact ⟨_, HX.out.set 5 _ (by decide) (by decide)⟩
      · skip
        go_wp2_with fail
        have hal := HX.out.ch.size
        refine (one_op (w0 := w) (cb := w.heap.size) (rb := w.heap.size + 1) (ob := w1.heap.size) (c := c) [1, 2, 4, 8, 16] ⟨_, 0, none⟩ 5 5 rfl (by decide) (by decide) (ints_lit [1, 2, 4, 8, 16] (Blk.new _ _ _)) ?_ ?_ (HX.out.alloc _)).mono ?_
        · exact Nat.ne_of_gt (Nat.lt_of_lt_of_le hb hal)
        · intro x hx
          simp at hx
          omega
        rintro e wn ⟨xn, rfl, hx0, hx1, hop⟩
        have HX := Lib.hid hop
        obtain ⟨⟨y1, y2, y3, y4, y5, y6, ysa, yn, ycp, z0, z1, z2, z3, z4, z5, z6, z7⟩, zf, q3, q7, q8⟩ := hop.facts; have zf1 := zf 1; have zf2 := zf 2; have zf3 := zf 3; have zf4 := zf 4; have zf5 := zf 5; have zf6 := zf 6; have zf7 := zf 7; clear zf
        clear hop hal
        go_wp2_with fail
        go_meet
        exact ⟨_, HX.out.set 5 _ (by decide) (by decide)⟩
      · skip
        go_wp2_with fail
        have hal := HX.out.ch.size
        refine (one_op (w0 := w) (cb := w.heap.size) (rb := w.heap.size + 1) (ob := w1.heap.size) (c := c) [0, 0, 16, 16, 32, 48, 7, -8, 200] ⟨_, 0, none⟩ 9 9 rfl (by decide) (by decide) (ints_lit [0, 0, 16, 16, 32, 48, 7, -8, 200] (Blk.new _ _ _)) ?_ ?_ (HX.out.alloc _)).mono ?_
        · exact Nat.ne_of_gt (Nat.lt_of_lt_of_le hb hal)
        · intro x hx
          simp at hx
          omega
        rintro e wn ⟨xn, rfl, hx0, hx1, hop⟩
        have HX := Lib.hid hop
        obtain ⟨⟨y1, y2, y3, y4, y5, y6, ysa, yn, ycp, z0, z1, z2, z3, z4, z5, z6, z7⟩, zf, q3, q7, q8⟩ := hop.facts; have zf1 := zf 1; have zf2 := zf 2; have zf3 := zf 3; have zf4 := zf 4; have zf5 := zf 5; have zf6 := zf 6; have zf7 := zf 7; clear zf
        clear hop hal
        go_wp2_with fail
        go_meet
        exact ⟨_, HX.out.set 5 _ (by decide) (by decide)⟩
      · go_wp2_with fail
        refine (below_opc (w0 := w) (cb := w.heap.size) (rb := w.heap.size + 1) (ob := w1.heap.size) (c := c) _ HX.out ?_ ?_).mono ?_
        · omega
        · omega
        rintro e wn ⟨xn, rfl, hx0, hx1, hop⟩
        have HX := Lib.hid hop
        have e40 := IntWalk.i64_in (1 + xn) (by omega)
        clear hop z0 z1 z2 z3 z4 z5 z6 z7 q3 q7 q8 zf1 zf2 zf3 zf4 zf5 zf6 zf7
        go_wp2_with fail
        clear e40
        go_loopw [86] (fun i wr => ∃ j : Nat, i = .int .i64 j ∧ (j : Int) ≤ 1 + xn ∧ Hid (OpAt w wr b w.heap.size (w.heap.size + 1) w1.heap.size c 12 j)) (fun i _ => 41 - (intOf i).toNat)
        case atStart => exact ⟨0, rfl, by omega, HX⟩
        case round =>
          obtain ⟨j, rfl, hj, hopH⟩ := hrel
          by_cases hlt : (j : Int) < 1 + xn
          · obtain ⟨⟨t2, hd⟩, hcc, hrr, ⟨x1, x2, x3, x4, x5, x6, sa, n, cp, g, xs, ho, hw, hg, hnj⟩, hch, hb0, hb1, hb2, hb3, hn1, hn2, hn3⟩ := hopH.out
            obtain rfl : n = j := hnj
            have hsz := hch.size
            have z7 : wr.cell? ⟨w1.heap.size, 7, none⟩ = some (.slice sa n cp) := ho.cell 7
            have zf7 := ho.free 7
            have HD := Lib.hid hd
            have HCC := Lib.hid hcc
            have HRR := Lib.hid hrr
            have HOO := Lib.hid ho
            have HW := Lib.hid hw
            have HG := Lib.hid hg
            have HCH := Lib.hid hch
            clear hd hcc hrr ho hw hg hch hb0 hn1 hn2 hn3
            go_upto_region 21 with fail
            go_region_law (first
              | (refine step_append_Own rfl _ _ 59 rfl 5 i0 (.int .u8 0) 1 1 Try.underlying59 hi hz0 hz1 hz2 rfl (by decide) _ n _ g rfl (HW1.out.chg ((Chg.refl Non _).alloc _) (fun _ _ h => h)) _ 1 _ rfl (src_one (Blk.new _ _ _) rfl rfl) (by unfold maxLen; omega) (by omega) ?_; intro v' w' g' hown hchg hg'; obtain ⟨a2, c2, rfl, hc2, hm2⟩ := hown.slice; have ho2 := (HO1.out.alloc _).chg hchg (fun h => (HG.out _ h).2.2.2 rfl); have z7w : w'.cell? ⟨w1.heap.size, 7, none⟩ = some (.slice sa n cp) := ho2.cell 7; have zf7w := ho2.free 7; have HO2 := Lib.hid ho2; have HO3 := Lib.hid hown; have HC3 := Lib.hid hchg; have HG3 := Lib.hid hg'; clear ho2 hown hchg hg')
              | (go_simp; go_at_call 39; refine (below_any b t2 256 _ (by decide) ?_).mono ?_; (first | exact HD.out | exact Blk.drew HD.out); rintro e wq ⟨rfl, hd1, hc1⟩; generalize (diceOf t2 256).1 = q; generalize (diceOf t2 256).2 = t3 at *; have HC1 : Hid (Chg (One b) wr wq) := (by first | exact hc1 | exact Chg.of_drew hc1); have ho1 := HOO.out.chg HC1.out (fun e => by have : w1.heap.size = b := e; omega); have z7q : wq.cell? ⟨w1.heap.size, 7, none⟩ = some (.slice sa n cp) := ho1.cell 7; have zf7q := ho1.free 7; have hltq := ho1.lt; have HO1 := Lib.hid ho1; have HD1 := Lib.hid hd1; have HW1 := Lib.hid (HW.out.chg HC1.out (fun i hi e => by have := HG.out i hi; have : i = b := e; omega)); clear hd1 hc1 ho1))
            all_goals
              go_wp2_with fail
              go_roundw
              case rel =>
                have hA := HC1.out.alloc (.cells #[.int .u8 (IntKind.u8.wrap q)] 5)
                have hs1 := HC1.out.size
                refine ⟨n + 1, by go_num, by omega, ?_⟩
                refine OpAt.data hopH.out ((HCH.out.tr hA).trans HC3.out (fun _ _ h => h) (fun i hi h => ?_)) ⟨t3, (HD1.out.chg ((Chg.refl Non wq).alloc (.cells #[.int .u8 (IntKind.u8.wrap q)] 5)) (fun h => h)).chg HC3.out (fun h => ?_)⟩ (((HCC.out.chg HC1.out (fun e => ?_)).alloc _).chg HC3.out (fun h => (HG.out _ h).2.1 rfl)) (((HRR.out.chg HC1.out (fun e => ?_)).alloc _).chg HC3.out (fun h => (HG.out _ h).2.2.1 rfl)) ⟨x1, x2, x3, x4, x5, x6, _, HO2.out⟩ HO3.out (fun i hi => ?_)
                · have := (HG.out i h).1
                  omega
                · have := (HG.out b h).1
                  omega
                · have : w.heap.size = b := e
                  omega
                · have : w.heap.size + 1 = b := e
                  omega
                · rcases HG3.out i hi with h | h
                  · exact HG.out i h
                  · simp at h
                    omega
              case measure => simp [intOf]; omega
          · go_wp2_with fail
            go_meet
            exact ⟨_, hopH.out⟩
      · go_wp2_with fail
        refine (below_op (w0 := w) (cb := w.heap.size) (rb := w.heap.size + 1) (ob := w1.heap.size) (c := c) _ HX.out ?_).mono ?_
        · omega
        rintro e wn ⟨xn, rfl, hx0, hx1, hop⟩
        have HX := Lib.hid hop
        obtain ⟨⟨y1, y2, y3, y4, y5, y6, ysa, yn, ycp, z0, z1, z2, z3, z4, z5, z6, z7⟩, zf, q3, q7, q8⟩ := hop.facts; have zf1 := zf 1; have zf2 := zf 2; have zf3 := zf 3; have zf4 := zf 4; have zf5 := zf 5; have zf6 := zf 6; have zf7 := zf 7; clear zf
        clear hop
        go_wp2_with fail
        go_meet
        exact ⟨_, HX.out.set 5 _ (by decide) (by decide)⟩
      · rcases hk with rfl | rfl | rfl | rfl | rfl | rfl | rfl | rfl
        all_goals
          go_wp2_with fail
          go_meet
          exact ⟨_, HX.out⟩
    case rest =>
      clear HX z0 z1 z2 z3 z4 z5 z6 z7 q3 q7 q8
      obtain ⟨d, hop⟩ := hcut.out
      have HX := Lib.hid hop
      clear hcut hop
      go_wp2_with fail
      refine (below_opc (w0 := w) (cb := w.heap.size) (rb := w.heap.size + 1) (ob := w1.heap.size) (c := c) 40 HX.out (by decide) (by decide)).mono ?_
      rintro e wn ⟨xn, rfl, hx0, hx1, hop⟩
      have HX := Lib.hid hop
      obtain ⟨⟨y1, y2, y3, y4, y5, y6, ysa, yn, ycp, z0, z1, z2, z3, z4, z5, z6, z7⟩, zf, q3, q7, q8⟩ := hop.facts; have zf2 := zf 2; have zf5 := zf 5; clear zf
      have hal := HX.out.ch.size
      clear hop
      by_cases hz : xn = 0
      · subst hz
        go_wp2_with fail
        refine (one_op (w0 := w) (cb := w.heap.size) (rb := w.heap.size + 1) (ob := w1.heap.size) (c := c) [-1, 99] ⟨_, 0, none⟩ 2 2 rfl (by decide) (by decide) (ints_lit [-1, 99] (Blk.new _ _ _)) ?_ ?_ (HX.out.alloc _)).mono ?_
        · exact Nat.ne_of_gt (Nat.lt_of_lt_of_le hb hal)
        · intro x hx
          simp at hx
          omega
        clear z0 z1 z2 z3 z4 z5 z6 z7 q3 q7 q8 zf2 zf5
        rintro e wm ⟨xm, rfl, hx0, hx1, hop⟩
        have HX := Lib.hid ((hop.set 2 xm (by decide) (by decide)).set 5 (-1) (by decide) (by decide))
        obtain ⟨⟨y1, y2, y3, y4, y5, y6, ysa, yn, ycp, z0, z1, z2, z3, z4, z5, z6, z7⟩, zf, q3, q7, q8⟩ := hop.facts; have zf2 := zf 2; have zf5 := zf 5; clear zf
        clear hop
        go_upto_region 27 with fail
        clear z0 z1 z2 z3 z4 z5 z6 z7 q3 q7 q8 zf2 zf5
        generalize (wm.setCell ⟨w1.heap.size, 2, none⟩ (.int .i64 xm)).setCell ⟨w1.heap.size, 5, none⟩ (.int .i64 (-1)) = wz at *
        obtain ⟨⟨y1, y2, y3, y4, y5, y6, ysa, yn, ycp, z0, z1, z2, z3, z4, z5, z6, z7⟩, zf, q3, q7, q8⟩ := HX.out.facts; have zf2 := zf 2; have zf5 := zf 5; clear zf
        have r0 : wz.cell? ⟨w.heap.size + 1, 0, none⟩ = some (.int .i64 0) := HX.out.rr.cell 0
        have rf0 : wz.frozen? ⟨w.heap.size + 1, 0, none⟩ = false := HX.out.rr.free 0
        have r1 : wz.cell? ⟨w.heap.size + 1, 1, none⟩ = some (.int .i64 0) := HX.out.rr.cell 1
        have rf1 : wz.frozen? ⟨w.heap.size + 1, 1, none⟩ = false := HX.out.rr.free 1
        have r2 : wz.cell? ⟨w.heap.size + 1, 2, none⟩ = some (.int .i64 0) := HX.out.rr.cell 2
        have rf2 : wz.frozen? ⟨w.heap.size + 1, 2, none⟩ = false := HX.out.rr.free 2
        have r3 : wz.cell? ⟨w.heap.size + 1, 3, none⟩ = some (.int .i64 0) := HX.out.rr.cell 3
        have rf3 : wz.frozen? ⟨w.heap.size + 1, 3, none⟩ = false := HX.out.rr.free 3
        have r4 : wz.cell? ⟨w.heap.size + 1, 4, none⟩ = some (.int .i64 0) := HX.out.rr.cell 4
        have rf4 : wz.frozen? ⟨w.heap.size + 1, 4, none⟩ = false := HX.out.rr.free 4
        have r5 : wz.cell? ⟨w.heap.size + 1, 5, none⟩ = some (.int .i64 0) := HX.out.rr.cell 5
        have rf5 : wz.frozen? ⟨w.heap.size + 1, 5, none⟩ = false := HX.out.rr.free 5
        have r6 : wz.cell? ⟨w.heap.size + 1, 6, none⟩ = some (.int .i64 0) := HX.out.rr.cell 6
        have rf6 : wz.frozen? ⟨w.heap.size + 1, 6, none⟩ = false := HX.out.rr.free 6
        have r7 : wz.cell? ⟨w.heap.size + 1, 7, none⟩ = some (.slice none 0 0) := HX.out.rr.cell 7
        have rf7 : wz.frozen? ⟨w.heap.size + 1, 7, none⟩ = false := HX.out.rr.free 7
        go_wp2_with fail
        refine bodyPost_ret (v := .agg #[.int .i64 k, .int .i64 y1, .int .i64 y2, .int .i64 y3, .int .i64 y4, .int .i64 y5, .int .i64 y6, .slice ysa yn ycp]) (by simp [results, Try.results81, go_sem, r0, r1, r2, r3, r4, r5, r6, r7]) rfl ?_
        obtain ⟨t9, hd9⟩ := HX.out.dice
        have hch9 := HX.out.ch
        have hch8 : Chg (One (w.heap.size + 1)) wz _ := ((((((((Chg.refl (One (w.heap.size + 1)) wz).setCell (p := ⟨w.heap.size + 1, 0, none⟩) (.inl rfl) (.int .i64 k)).setCell (p := ⟨w.heap.size + 1, 1, none⟩) (.inl rfl) (.int .i64 y1)).setCell (p := ⟨w.heap.size + 1, 2, none⟩) (.inl rfl) (.int .i64 y2)).setCell (p := ⟨w.heap.size + 1, 3, none⟩) (.inl rfl) (.int .i64 y3)).setCell (p := ⟨w.heap.size + 1, 4, none⟩) (.inl rfl) (.int .i64 y4)).setCell (p := ⟨w.heap.size + 1, 5, none⟩) (.inl rfl) (.int .i64 y5)).setCell (p := ⟨w.heap.size + 1, 6, none⟩) (.inl rfl) (.int .i64 y6)).setCell (p := ⟨w.heap.size + 1, 7, none⟩) (.inl rfl) (.slice ysa yn ycp)
        exact ⟨_, _, _, _, _, _, _, _, _, _, t9, rfl, hd9.chg hch8 (fun e => by have : b = w.heap.size + 1 := e; omega), hch9.trans hch8 (fun _ _ h => h) (fun i hi h => by have : i = w.heap.size + 1 := h; omega)⟩
      · have hxb : (xn == 0) = false := by simp [hz]
        have r0 : wn.cell? ⟨w.heap.size + 1, 0, none⟩ = some (.int .i64 0) := HX.out.rr.cell 0
        have rf0 : wn.frozen? ⟨w.heap.size + 1, 0, none⟩ = false := HX.out.rr.free 0
        have r1 : wn.cell? ⟨w.heap.size + 1, 1, none⟩ = some (.int .i64 0) := HX.out.rr.cell 1
        have rf1 : wn.frozen? ⟨w.heap.size + 1, 1, none⟩ = false := HX.out.rr.free 1
        have r2 : wn.cell? ⟨w.heap.size + 1, 2, none⟩ = some (.int .i64 0) := HX.out.rr.cell 2
        have rf2 : wn.frozen? ⟨w.heap.size + 1, 2, none⟩ = false := HX.out.rr.free 2
        have r3 : wn.cell? ⟨w.heap.size + 1, 3, none⟩ = some (.int .i64 0) := HX.out.rr.cell 3
        have rf3 : wn.frozen? ⟨w.heap.size + 1, 3, none⟩ = false := HX.out.rr.free 3
        have r4 : wn.cell? ⟨w.heap.size + 1, 4, none⟩ = some (.int .i64 0) := HX.out.rr.cell 4
        have rf4 : wn.frozen? ⟨w.heap.size + 1, 4, none⟩ = false := HX.out.rr.free 4
        have r5 : wn.cell? ⟨w.heap.size + 1, 5, none⟩ = some (.int .i64 0) := HX.out.rr.cell 5
        have rf5 : wn.frozen? ⟨w.heap.size + 1, 5, none⟩ = false := HX.out.rr.free 5
        have r6 : wn.cell? ⟨w.heap.size + 1, 6, none⟩ = some (.int .i64 0) := HX.out.rr.cell 6
        have rf6 : wn.frozen? ⟨w.heap.size + 1, 6, none⟩ = false := HX.out.rr.free 6
        have r7 : wn.cell? ⟨w.heap.size + 1, 7, none⟩ = some (.slice none 0 0) := HX.out.rr.cell 7
        have rf7 : wn.frozen? ⟨w.heap.size + 1, 7, none⟩ = false := HX.out.rr.free 7
        go_wp2_with fail
        refine bodyPost_ret (v := .agg #[.int .i64 k, .int .i64 y1, .int .i64 y2, .int .i64 y3, .int .i64 y4, .int .i64 y5, .int .i64 y6, .slice ysa yn ycp]) (by simp [results, Try.results81, go_sem, r0, r1, r2, r3, r4, r5, r6, r7]) rfl ?_
        obtain ⟨t9, hd9⟩ := HX.out.dice
        have hch9 := HX.out.ch
        have hch8 : Chg (One (w.heap.size + 1)) wn _ := ((((((((Chg.refl (One (w.heap.size + 1)) wn).setCell (p := ⟨w.heap.size + 1, 0, none⟩) (.inl rfl) (.int .i64 k)).setCell (p := ⟨w.heap.size + 1, 1, none⟩) (.inl rfl) (.int .i64 y1)).setCell (p := ⟨w.heap.size + 1, 2, none⟩) (.inl rfl) (.int .i64 y2)).setCell (p := ⟨w.heap.size + 1, 3, none⟩) (.inl rfl) (.int .i64 y3)).setCell (p := ⟨w.heap.size + 1, 4, none⟩) (.inl rfl) (.int .i64 y4)).setCell (p := ⟨w.heap.size + 1, 5, none⟩) (.inl rfl) (.int .i64 y5)).setCell (p := ⟨w.heap.size + 1, 6, none⟩) (.inl rfl) (.int .i64 y6)).setCell (p := ⟨w.heap.size + 1, 7, none⟩) (.inl rfl) (.slice ysa yn ycp)
        exact ⟨_, _, _, _, _, _, _, _, _, _, t9, rfl, hd9.chg hch8 (fun e => by have : b = w.heap.size + 1 := e; omega), hch9.trans hch8 (fun _ _ h => h) (fun i hi h => by have : i = w.heap.size + 1 := h; omega)⟩

end Go.Proofs.Ytabeolmfgmbfaaa
