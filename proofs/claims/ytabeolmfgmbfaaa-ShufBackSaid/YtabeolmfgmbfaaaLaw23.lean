/- The laws of package shuf: the walks of ShufOrder and ShufBack. Every list, every number. -/
import Derived.Test.YtabeolmfgmbfaaaShuf
import Derived.Test.YtabeolmfgmbfaaaRef16
namespace Go.Proofs.Ytabeolmfgmbfaaa
open Go.RowKit
set_option linter.unusedVariables false
set_option linter.unusedSimpArgs false

set_option maxRecDepth 100000 in
theorem awake23 (w : World) : Calls Try.prog 29 #[] w fun e w' => e = .returned (.bool true) ∧ Chg Non w w' := by
  go_enter Try.func29, Try.ntmps29
  go_wp2_with fail
  refine (new_any [0] _ _ (src_blk (Blk.new _ _ _) (by simp) rfl) (by simp)).mono ?_
  rintro e w1 ⟨b, g, rfl, hd, hc, hb, hg⟩
  have HC : Hid (Chg Non w w1) := ((Chg.refl _ _).alloc _).tr hc
  have hbw : w.heap.size ≤ b := by simp at hb; omega
  have HD := Lib.hid hd
  clear hd hc hg hb
  go_wp2_with fail
  refine (order_any 2 b g [0] 0 _ (by decide) HD.out).mono ?_
  rintro e w2 ⟨x, c, g2, rfl, ho, hd2, hc2, hg2⟩
  have e1 : (shufOf (2 - 1) ((List.range 2).map Int.ofNat) [0] 0).1 = [1, 0] := by decide
  rw [e1] at ho
  obtain ⟨_, _, rfl, _, h0, _⟩ := ho.at (j := 0) (by decide)
  obtain ⟨_, _, hx, _, h1, _⟩ := ho.at (j := 1) (by decide)
  cases hx
  simp at h0 h1
  obtain ⟨_, _, hce, hcc, hcm⟩ := ho.slice
  have HC2 : Hid (Chg Non w w2) := HC.out.trans hc2 (fun _ _ h => h) (fun i hi e => by have : i = b := e; omega)
  clear hd2 hc2 hg2 ho hce hcc hcm e1
  go_wp2_with fail
  go_ret
  exact ⟨rfl, HC2.out⟩

/-- The first so many, read. -/
theorem Ints.take {w : World} {a : Option Addr} {n : Nat} {l : List Int} (h : Ints w a n l) (k : Nat) (hk : k ≤ n) : Ints w a k (l.take k) := by
  refine ⟨by rw [List.length_take, h.1]; omega, fun e => by have := h.2.1 e; omega, fun x hx j hj => ?_⟩
  rw [List.length_take] at hj
  rw [h.2.2 x hx j (by omega)]
  simp [List.getD_eq_getElem?_getD, show j < k by omega]
theorem Ints.below {B : Nat} {w w' : World} {a : Option Addr} {n : Nat} {l : List Int} (h : Ints w a n l) (k : Below B w w') (hB : 0 < l.length → ∀ x, a = some x → x.block < B) : Ints w' a n l := by
  refine ⟨h.1, h.2.1, fun x hx j hj => ?_⟩
  have hbl : (x.add j).block = x.block := by unfold Addr.add; split <;> rfl
  rw [k.cell (p := x.add j) (by rw [hbl]; exact hB (by omega) x hx)]
  exact h.2.2 x hx j hj
theorem Ints.back {B : Nat} {w w' : World} {a : Option Addr} {n : Nat} {l : List Int} (h : Ints w' a n l) (k : Below B w w') (hB : 0 < l.length → ∀ x, a = some x → x.block < B) : Ints w a n l := by
  refine ⟨h.1, h.2.1, fun x hx j hj => ?_⟩
  have hbl : (x.add j).block = x.block := by unfold Addr.add; split <;> rfl
  rw [← k.cell (p := x.add j) (by rw [hbl]; exact hB (by omega) x hx)]
  exact h.2.2 x hx j hj

set_option maxHeartbeats 2000000 in
set_option maxRecDepth 100000 in
theorem shufOrder_walk (a a1 : Option Addr) (len cap len1 cap1 : Nat) (l l1 : List Int) (w : World) (hl : Ints w a len l) (h1 : Ints w a1 len1 l1) (hc : len ≤ cap) (hc1 : len1 ≤ cap1) :
    Calls Try.prog 6 #[.slice a len cap, .slice a1 len1 cap1] w fun e w' => e = .returned (.bool true) ∧ Below w.heap.size w w' := by
  obtain ⟨i0, hi, hz0, hz1, hz2⟩ := info_parts Try.info_int
  obtain ⟨k, hK, hk1, hk2⟩ := min_cut 20 len (by decide)
  obtain ⟨m, hM, hm1, hm2⟩ := min_cut 30 len1 (by decide)
  have hx := hl.take k hk1
  have hy := h1.take m hm1
  clear hl h1
  generalize l.take k = X at *
  generalize l1.take m = D at *
  clear l l1
  obtain ⟨hxl, hx0, hx1⟩ := hx
  obtain ⟨hyl, hy0, hy1⟩ := hy
  subst hxl
  subst hyl
  have HX : Hid (Ints w a X.length X) := ⟨rfl, hx0, hx1⟩
  have HY : Hid (Ints w a1 D.length D) := ⟨rfl, hy0, hy1⟩
  have hX20 : X.length ≤ 20 := by omega
  have hD30 : D.length ≤ 30 := by omega
  clear hx0 hx1 hy0 hy1
  have HS : Hid (Src (w.drew.alloc (.cells #[] 3)) 1 (.slice a X.length cap) X.length (X.map (Value.int .i64))) := by
    have h := (HX.out.chg (((Chg.refl Non w).drew).alloc (.cells #[] 3)) (fun _ _ h => h)).src X.length cap (Nat.le_refl _)
    rw [List.take_length] at h
    exact h
  have HO : Hid (Own (w.drew.alloc (.cells #[] 3)) 3 1 (.slice (some ⟨w.heap.size, 0, none⟩) 0 0) 0 [] (some w.heap.size)) := ⟨by simp, .inr ⟨_, 0, 0, _, rfl, rfl, Blk.new w.drew _ _, Nat.le_refl _, Nat.zero_le _, by simp, by simp⟩⟩
  have HM : Hid (0 + X.length ≤ maxLen) := by show 0 + X.length ≤ maxLen; unfold maxLen; omega
  have H2 : Hid ((0 + X.length) * 8 ≤ 140737488355328) := by show (0 + X.length) * 8 ≤ 140737488355328; omega
  go_enter Try.func6, Try.ntmps6
  go_wp2_with fail
  go_region
  go_wp2_with (at_builtin; refine wpList_append_Own _ rfl _ _ 22 rfl 3 i0 (.int .i64 0) 1 8 Try.underlying22 hi hz0 hz1 hz2 rfl (by decide) _ 0 _ _ rfl HO.out _ _ _ rfl HS.out HM.out H2.out ?_; intro v1 w1 g1 hown hchg hg1; simp only [Nat.zero_add, List.nil_append] at hown; obtain ⟨b1, c1, rfl, hc1', hm1'⟩ := hown.slice; have HO1 := Lib.hid hown; have HC1 := Lib.hid hchg; have HG1 := Lib.hid hg1; clear hown hchg hg1)
  have hg : Hid (∀ k, g1 = some k → w.heap.size ≤ k ∧ k < w1.heap.size) := fun k hk => ⟨by
    rcases HG1.out k hk with h | h
    · cases h; exact Nat.le_refl _
    · have h' : w.heap.size + 1 ≤ k := by simpa using h
      omega, HO1.out.lt k hk⟩
  have hww : w.heap.size ≤ w1.heap.size := by
    have h := HC1.out.size
    have h' : w.heap.size + 1 ≤ w1.heap.size := by simpa using h
    omega
  have HB1 : Hid (Below w.heap.size w w1) := by
    have h : Chg Non w w1 := (((Chg.refl Non w).drew).alloc (.cells #[] 3)).trans HC1.out (fun _ _ h => h) (fun i hi h => by cases h; omega)
    exact h.below
  have HBk : Hid (Blk (w1.alloc (.cells #[.slice a1 D.length cap1, .int .u64 0] 37)) w1.heap.size #[.slice a1 D.length cap1, .int .u64 0] 37) := Blk.new w1 _ _
  have HB2 : Hid (Below w.heap.size w (w1.alloc (.cells #[.slice a1 D.length cap1, .int .u64 0] 37))) := HB1.out.alloc hww _
  have HO2 : Hid (Own (w1.alloc (.cells #[.slice a1 D.length cap1, .int .u64 0] 37)) 3 1 (.slice b1 X.length c1) X.length (X.map (Value.int .i64)) g1) := HO1.out.chg ((Chg.refl Non w1).alloc _) (fun _ _ h => h)
  clear HS HO HM H2 HC1 HG1 HO1 HB1
  generalize hB : w1.heap.size = B at *
  have HBeq := Lib.hid hB
  clear hB
  go_wp2_with fail
  go_loopw [9, 10] (fun _ i wr => ∃ (n : Int) (ys m : List Int) (v : Int) (a' : Option Addr) (c' : Nat), -1 ≤ n ∧ n < X.length ∧ i = .int .i64 n ∧ Hid (ys.length = X.length) ∧ Hid (shufOf n.toNat ys m v = shufOf (X.length - 1) X D 0) ∧ Hid (Own wr 3 1 (.slice b1 X.length c1) X.length (ys.map (Value.int .i64)) g1) ∧ Hid (Blk wr B #[.slice a' m.length c', .int .u64 v] 37) ∧ Hid (Ints w a' m.length m) ∧ m.length ≤ c' ∧ Hid (Below w.heap.size w wr)) (fun _ i _ => (intOf i).toNat)
  case atStart => exact ⟨(X.length : Int) - 1, X, D, 0, a1, cap1, by omega, by omega, rfl, rfl, by show shufOf _ _ _ _ = _; congr 1; omega, HO2, HBk, HY, by omega, HB2⟩
  case round =>
    obtain ⟨n, ys, m, v, a', c', hn1, hn2, rfl, hyl, hsh, ho, hbk, hin, hmc, hB⟩ := hrel
    by_cases hp : 0 < n
    · obtain ⟨q, rfl⟩ : ∃ q : Nat, n = (q : Int) + 1 := ⟨(n - 1).toNat, by omega⟩
      have hb0 := hbk.out.cell 0
      have hb1 := hbk.out.cell 1
      simp at hb0 hb1
      have hi2 : Ints wr a' m.length m := hin.out.below hB.out (fun h x hx => (hin.out.spot h x hx).2)
      go_wp2_with fail
      refine (refNext_any a' c' m v (q + 1 + 1) _ (by omega) hi2 hmc).mono ?_
      rintro e w2 ⟨a2, c2, rfl, hi3, hc3, ha3, hch⟩
      obtain ⟨hr0, hr1⟩ := drawOf_range m v (q + 1 + 1) (by omega) (by omega)
      have hB2 : Below w.heap.size w w2 := hB.out.trans (hch.belowAt hB.out.size fun _ h => h.elim)
      have HI3 : Hid (Ints w a2 (drawOf m v (q + 1 + 1)).2.1.length (drawOf m v (q + 1 + 1)).2.1) := by
        refine hi3.back hB2 (fun hpos x hx => ?_)
        obtain ⟨y, hy, hxy⟩ := ha3 x hx
        rw [hxy]
        refine (hin.out.spot ?_ y hy).2
        cases m with
        | nil => simp [drawOf] at hpos; split at hpos <;> simp at hpos
        | cons => simp
      have HR : Hid (shufOf q (swap ys (q + 1) (drawOf m v (q + 1 + 1)).1.toNat) (drawOf m v (q + 1 + 1)).2.1 (drawOf m v (q + 1 + 1)).2.2 = shufOf (X.length - 1) X D 0) := by
        have h := hsh.out
        rw [show ((q : Int) + 1).toNat = q + 1 by omega] at h
        exact h
      have HB2 := Lib.hid hB2
      have HBK2 := hbk.out.chg hch (fun h => h)
      have k0 := HBK2.cell 0
      have k1 := HBK2.cell 1
      have f0 := HBK2.free 0
      have f1 := HBK2.free 1
      simp at k0 k1
      have HK := Lib.hid HBK2
      have HO3 := Lib.hid (ho.out.chg hch (fun _ _ h => h))
      have hbb : Hid (w.heap.size ≤ B) := hww
      clear hi2 hi3 ha3 hch hB2 HBK2 hbk ho hsh hB hb0 hb1 hin
      generalize drawOf m v ((q : Int) + 1 + 1) = R at *
      obtain ⟨kk, hkk⟩ : ∃ kk : Nat, R.1 = (kk : Int) := ⟨R.1.toNat, by omega⟩
      have hk1 : kk < X.length := by omega
      -- the block of the reference's draws is written first
      have HK3 : Hid (Blk ((w2.setCell ⟨B, 0, none⟩ (.slice a2 R.2.1.length c2)).setCell ⟨B, 1, none⟩ (.int .u64 R.2.2)) B #[.slice a2 R.2.1.length c2, .int .u64 R.2.2] 37) := (HK.out.set 0 _).set 1 _
      have hc3' : Chg (One B) w2 ((w2.setCell ⟨B, 0, none⟩ (.slice a2 R.2.1.length c2)).setCell ⟨B, 1, none⟩ (.int .u64 R.2.2)) := (Chg.set1 _ B _ _).tr (Chg.set1 _ B _ _)
      have HO4 := Lib.hid (HO3.out.chg hc3' (fun b hb e => by have := (hg.out b hb).2; have : b = B := e; omega))
      have HB3 : Hid (Below w.heap.size w ((w2.setCell ⟨B, 0, none⟩ (.slice a2 R.2.1.length c2)).setCell ⟨B, 1, none⟩ (.int .u64 R.2.2))) := HB2.out.trans (hc3'.belowAt HB2.out.size fun i e => by have : i = B := e; omega)
      clear hc3' HK HO3 HB2
      rw [hkk]
      have HKK := Lib.hid hkk
      clear hkk
      go_wp2_with fail
      generalize (w2.setCell ⟨B, 0, none⟩ (.slice a2 R.2.1.length c2)).setCell ⟨B, 1, none⟩ (.int .u64 R.2.2) = w3 at *
      obtain ⟨b, off, rfl, hgb, hci, hfi⟩ := HO4.out.at (j := q + 1) (by omega)
      obtain ⟨b', off', hbe, hgb', hck, hfk⟩ := HO4.out.at (j := kk) (by omega)
      cases hbe
      rw [map_getD (by rw [hyl.out]; omega)] at hci hck
      have ho3 := HO4.out.store (q + 1) (.int .i64 (ys.getD kk 0))
      obtain ⟨b'', off'', hbe, hgb'', hck2, hfk2⟩ := ho3.at (j := kk) (by omega)
      cases hbe
      have hk3 : ∃ z, (w3.setCell ⟨b, off + (q + 1), none⟩ (.int .i64 (ys.getD kk 0))).cell? ⟨b, off + kk, none⟩ = some z := by
        rw [hck2]
        exact ⟨_, List.getElem?_eq_getElem (by simp [hyl.out]; omega)⟩
      obtain ⟨z, hk3⟩ := hk3
      have HO5 := Lib.hid (ho3.store kk (.int .i64 (ys.getD (q + 1) 0)))
      have HSW : Hid (((ys.map (Value.int .i64)).set (q + 1) (.int .i64 (ys.getD kk 0))).set kk (.int .i64 (ys.getD (q + 1) 0)) = (swap ys (q + 1) kk).map (Value.int .i64)) := by
        show _ = _
        simp [swap, List.map_set]
      generalize ys.getD kk 0 = vk at *
      generalize ys.getD (q + 1) 0 = vi at *
      have hq0 : 0 ≤ (q : Int) + 1 := by omega
      have HGB := Lib.hid hgb
      clear ho3 hck2 hgb hgb' hgb'' HO4
      go_region
      go_wp2_with fail
      go_roundw
      case rel =>
        have hr := HR.out
        rw [HKK.out, Int.toNat_natCast] at hr
        have hbn := hg.out b HGB.out
        have hB0 := HBeq.out
        refine ⟨q, swap ys (q + 1) kk, R.2.1, R.2.2, a2, c2, by omega, by omega, rfl, by rw [swap_length]; exact hyl.out, by rw [Int.toNat_natCast]; exact hr, ?_, ?_, HI3, hc3, ?_⟩
        · rw [← HSW.out]; exact HO5.out
        · exact (HK3.out.setOther (p := ⟨b, off + (q + 1), none⟩) (fun e => by have : B = b := e; omega) _).setOther (p := ⟨b, off + kk, none⟩) (fun e => by have : B = b := e; omega) _
        · exact ((HB3.out.setCell (p := ⟨b, off + (q + 1), none⟩) hbn.1 _).setCell (p := ⟨b, off + kk, none⟩) hbn.1 _).drew
      case measure => simp [intOf]
    · have hn0 : n.toNat = 0 := by omega
      have HF : Hid ((shufOf (X.length - 1) X D 0).1 = ys) := by
        have h := hsh.out
        rw [hn0] at h
        show _ = ys
        rw [← h]
        rfl
      have hn3 : n ≤ 0 := by omega
      have HY2 : Hid (Ints wr a1 D.length D) := HY.out.below hB.out (fun h x hx => (HY.out.spot h x hx).2)
      have HX2 : Hid (Ints wr a X.length X) := HX.out.below hB.out (fun h x hx => (HX.out.spot h x hx).2)
      have HSD : Hid (Src wr 1 (.slice a1 D.length cap1) D.length (D.map (Value.int .i64))) := by
        have h := HY2.out.src D.length cap1 (Nat.le_refl _)
        rw [List.take_length] at h
        exact h
      have HOW := Lib.hid ho.out
      have HBW := Lib.hid hB.out
      have hbsz := hB.out.size
      clear hn0 hsh ho hB hbk hin HB2 HO2 HBk
      go_wp2_with fail
      refine (new_any D _ _ HSD.out (by omega)).mono ?_
      rintro e w2 ⟨bd, gd, rfl, hd, hc2, hb2, hg2⟩
      have HX3 : Hid (Ints w2 a X.length X) := HX2.out.chg hc2 (fun _ _ h => h)
      have HO3 := Lib.hid (HOW.out.chg hc2 (fun _ _ h => h))
      have HB3 : Hid (Below w.heap.size w w2) := HBW.out.trans (hc2.belowAt hbsz fun _ h => h.elim)
      have HD := Lib.hid hd
      have hgl := Lib.hid HOW.out.lt
      have hb2s := hc2.size
      clear hd hc2 hg2
      go_wp2_with fail
      refine (of_any a cap bd gd X D 0 _ HX3.out (by omega) (by omega) HD.out).mono ?_
      rintro e w3 ⟨b4, c4, g4, rfl, ho4, hd4, hc4, hg4⟩
      rw [HF.out] at ho4
      have HO5 := Lib.hid (HO3.out.chg hc4 (fun b hb e => by have := hgl.out b hb; have : b = bd := e; omega))
      have HO4 := Lib.hid ho4
      have HB4 : Hid (Below w.heap.size w w3) := HB3.out.trans (hc4.belowAt HB3.out.size fun i e => by have : i = bd := e; omega)
      clear ho4 hd4 hc4 hg4 HD HO3 HOW HX3 HB3
      have hne : (X.length != X.length) = false := by simp
      go_wp2_with fail
      go_loopw [12] (fun i ws => ∃ j : Nat, j ≤ X.length ∧ i = .int .i64 j ∧ Hid (Chg Non w3 ws)) (fun i _ => X.length - (intOf i).toNat)
      case atStart => exact ⟨0, Nat.zero_le _, rfl, Chg.refl _ _⟩
      case round =>
        obtain ⟨j, hj, rfl, hch⟩ := hrel
        by_cases hlt : j < X.length
        · obtain ⟨q1, o1, rfl, _, hx1, _⟩ := (HO4.out.chg hch.out (fun _ _ h => h)).at (j := j) (by omega)
          obtain ⟨q2, o2, rfl, _, hx2, _⟩ := (HO5.out.chg hch.out (fun _ _ h => h)).at (j := j) (by omega)
          rw [map_getD (by rw [hyl.out]; omega)] at hx1 hx2
          generalize ys.getD j 0 = vj at *
          go_wp2_with fail
          go_quiet (fail)
          go_wp2_with fail
          go_roundw
          case rel => exact ⟨j + 1, by omega, by go_num, hch.out.drewN _⟩
          case measure => simp [intOf]; omega
        · go_wp2_with fail
          refine (awake23 _).mono ?_
          rintro e w5 ⟨rfl, hc5⟩
          have HB5 : Hid (Below w.heap.size w w5) := (HB4.out.trans (hch.out.belowAt HB4.out.size fun _ h => h.elim)).trans (hc5.belowAt (Nat.le_trans HB4.out.size hch.out.size) fun _ h => h.elim)
          clear hc5
          go_wp2_with fail
          go_ret
          exact ⟨rfl, HB5.out⟩

end Go.Proofs.Ytabeolmfgmbfaaa
