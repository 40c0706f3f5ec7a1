/- Package shuf: what Of, Order and Back answer. Every list of at most 2^40 numbers, whatever draws. -/
import Derived.Test.YtabeolmfgmbfaaaDraw
namespace Go.Proofs.Ytabeolmfgmbfaaa
open Go.RowKit
set_option linter.unusedVariables false
set_option linter.unusedSimpArgs false

/-- Two places change. -/
def swap (xs : List Int) (i k : Nat) : List Int := (xs.set i (xs.getD k 0)).set k (xs.getD i 0)
/-- From place i down to 1: each changes with one that is drawn from those up to it. -/
def shufOf : Nat → List Int → List Int → Int → List Int × List Int × Int
  | 0, xs, l, u => (xs, l, u)
  | i + 1, xs, l, u => shufOf i (swap xs (i + 1) (drawOf l u (i + 2)).1.toNat) (drawOf l u (i + 2)).2.1 (drawOf l u (i + 2)).2.2
theorem swap_length (xs : List Int) (i k : Nat) : (swap xs i k).length = xs.length := by simp [swap]
theorem shufOf_length : ∀ (i : Nat) (xs l : List Int) (u : Int), (shufOf i xs l u).1.length = xs.length
  | 0, xs, l, u => rfl
  | i + 1, xs, l, u => by rw [shufOf, shufOf_length i, swap_length]

theorem map_getD {l : List Int} {j : Nat} (hj : j < l.length) : (l.map (Value.int .i64))[j]? = some (.int .i64 (l.getD j 0)) := by
  simp [List.getD_eq_getElem?_getD, hj]

/-- What Of and Order leave: a list in memory of its own, what the draws have left; nothing else has turned. -/
def OfPost (w : World) (bd n : Nat) (gd : Option Nat) (r : List Int × List Int × Int) (e : Ending) (w' : World) : Prop :=
  ∃ b c g, e = .returned (.slice b n c) ∧ Own w' 3 1 (.slice b n c) n (r.1.map (Value.int .i64)) g ∧ DrawsAt w' bd r.2.1 r.2.2 gd ∧ Chg (One bd) w w' ∧ ∀ k, g = some k → w.heap.size ≤ k

set_option maxHeartbeats 2000000 in
set_option maxRecDepth 100000 in
/-- Of: the list in another order; its memory is new; the draws have drawn. -/
theorem of_any (a : Option Addr) (cap bd : Nat) (gd : Option Nat) (xs l : List Int) (u : Int) (w : World) (hx : Ints w a xs.length xs) (hc : xs.length ≤ cap) (hlen : xs.length ≤ 17592186044415) (hd : DrawsAt w bd l u gd) :
    Calls Try.prog 28 #[.slice a xs.length cap, .pointer (some ⟨bd, 0, none⟩)] w (OfPost w bd xs.length gd (shufOf (xs.length - 1) xs l u)) := by
  obtain ⟨i0, hi, hz0, hz1, hz2⟩ := info_parts Try.info_int
  have HS : Hid (Src w 1 (.slice a xs.length cap) xs.length (xs.map (Value.int .i64))) := by
    have h := hx.src xs.length cap (Nat.le_refl _)
    rw [List.take_length] at h
    exact h
  have HO : Hid (Own w 3 1 (.slice none 0 0) 0 [] none) := Own.nil w _ _
  have HM : Hid (0 + xs.length ≤ maxLen) := by show 0 + xs.length ≤ maxLen; unfold maxLen; omega
  have H2 : Hid ((0 + xs.length) * 8 ≤ 140737488355328) := by show (0 + xs.length) * 8 ≤ 140737488355328; omega
  have HD := Lib.hid hd
  clear hx hd
  go_enter Try.func28, Try.ntmps28
  go_wp2_with (at_builtin; refine wpList_append_Own _ rfl _ _ 22 rfl 3 i0 (.int .i64 0) 1 8 Try.underlying22 hi hz0 hz1 hz2 rfl (by decide) _ 0 _ _ rfl HO.out _ _ _ rfl HS.out HM.out H2.out ?_; intro v1 w1 g1 hown hchg hg1; simp only [Nat.zero_add, List.nil_append] at hown; obtain ⟨b1, c1, rfl, hc1, hm1⟩ := hown.slice; have HO1 := Lib.hid hown; have HC1 := Lib.hid hchg; have HG1 := Lib.hid hg1; clear hown hchg hg1)
  have hg : Hid (∀ k, g1 = some k → w.heap.size ≤ k) := fun k hk => by
    rcases HG1.out k hk with h | h
    · cases h
    · exact h
  have HD1 : Hid (DrawsAt w1 bd l u gd) := HD.out.chg HC1.out (fun h => by cases h) (fun i hi h => by cases h)
  have HC2 : Hid (Chg (One bd) w w1) := HC1.out.mono (fun i hi h => by cases h)
  have hbd := HD.out.lt
  have HGD : Hid (∀ k, gd = some k → k < w.heap.size) := HD.out.glt
  clear HS HO HM H2 HD HC1 HG1
  go_loopw [6] (fun i wr => ∃ (n : Int) (ys m : List Int) (v : Int), -1 ≤ n ∧ n < xs.length ∧ i = .int .i64 n ∧ Hid (ys.length = xs.length) ∧ Hid (shufOf n.toNat ys m v = shufOf (xs.length - 1) xs l u) ∧ Hid (Own wr 3 1 (.slice b1 xs.length c1) xs.length (ys.map (Value.int .i64)) g1) ∧ Hid (DrawsAt wr bd m v gd) ∧ Hid (Chg (One bd) w wr)) (fun i _ => (intOf i).toNat)
  case atStart => exact ⟨(xs.length : Int) - 1, xs, l, u, by omega, by omega, rfl, rfl, by show shufOf _ _ _ _ = _; congr 1; omega, HO1, HD1, HC2⟩
  case round =>
    obtain ⟨n, ys, m, v, hn1, hn2, rfl, hyl, hsh, ho, hd, hch⟩ := hrel
    by_cases hp : 0 < n
    · obtain ⟨q, rfl⟩ : ∃ q : Nat, n = (q : Int) + 1 := ⟨(n - 1).toNat, by omega⟩
      go_wp2_with fail
      refine (next_any bd m v (q + 1 + 1) gd _ (by omega) hd.out).mono ?_
      rintro e w2 ⟨rfl, hd2, hc2⟩
      obtain ⟨hr0, hr1⟩ := drawOf_range m v (q + 1 + 1) (by omega) (by omega)
      have HR : Hid (shufOf q (swap ys (q + 1) (drawOf m v (q + 1 + 1)).1.toNat) (drawOf m v (q + 1 + 1)).2.1 (drawOf m v (q + 1 + 1)).2.2 = shufOf (xs.length - 1) xs l u) := by
        have h := hsh.out
        rw [show ((q : Int) + 1).toNat = q + 1 by omega] at h
        exact h
      have HD2 := Lib.hid hd2
      have HC := Lib.hid (hch.out.tr hc2)
      have hgn : ∀ b, g1 = some b → ¬ One bd b := fun b hb e => by have := hg.out b hb; have : b = bd := e; omega
      have HO2 := Lib.hid (ho.out.chg hc2 hgn)
      generalize drawOf m v ((q : Int) + 1 + 1) = R at *
      obtain ⟨kk, hkk⟩ : ∃ kk : Nat, R.1 = (kk : Int) := ⟨R.1.toNat, by omega⟩
      have hk1 : kk < xs.length := by omega
      obtain ⟨b, off, rfl, hgb, hci, hfi⟩ := HO2.out.at (j := q + 1) (by omega)
      obtain ⟨b', off', hbe, hgb', hck, hfk⟩ := HO2.out.at (j := kk) (by omega)
      cases hbe
      rw [map_getD (by rw [hyl.out]; omega)] at hci hck
      have ho3 := HO2.out.store (q + 1) (.int .i64 (ys.getD kk 0))
      obtain ⟨b'', off'', hbe, hgb'', hck2, hfk2⟩ := ho3.at (j := kk) (by omega)
      cases hbe
      have hk3 : ∃ z, (w2.setCell ⟨b, off + (q + 1), none⟩ (.int .i64 (ys.getD kk 0))).cell? ⟨b, off + kk, none⟩ = some z := by
        rw [hck2]
        exact ⟨_, List.getElem?_eq_getElem (by simp [hyl.out]; omega)⟩
      obtain ⟨z, hk3⟩ := hk3
      have HO3 := Lib.hid (ho3.store kk (.int .i64 (ys.getD (q + 1) 0)))
      have HSW : Hid (((ys.map (Value.int .i64)).set (q + 1) (.int .i64 (ys.getD kk 0))).set kk (.int .i64 (ys.getD (q + 1) 0)) = (swap ys (q + 1) kk).map (Value.int .i64)) := by
        show _ = _
        simp [swap, List.map_set]
      generalize ys.getD kk 0 = vk at *
      generalize ys.getD (q + 1) 0 = vi at *
      have hq0 : 0 ≤ (q : Int) + 1 := by omega
      have HKK := Lib.hid hkk
      have HGB := Lib.hid hgb
      have HFI := Lib.hid hfi
      clear hd2 hc2 hsh ho hd hch hgn ho3 hck2 hgb hgb' hgb'' HO2
      rw [hkk]
      clear hkk
      go_wp2_with fail
      go_region
      go_wp2_with fail
      go_roundw
      case rel =>
        have hr := HR.out
        rw [HKK.out, Int.toNat_natCast] at hr
        refine ⟨q, swap ys (q + 1) kk, R.2.1, R.2.2, by omega, by omega, rfl, by rw [swap_length]; exact hyl.out, by rw [Int.toNat_natCast]; exact hr, ?_, ?_, ?_⟩
        · rw [← HSW.out]; exact HO3.out
        · have hbn := hg.out b HGB.out
          exact HD2.out.chg ((Chg.set1 _ b _ _).tr (Chg.set1 _ b _ _)).drew (fun e => by have : bd = b := e; omega) (fun i hi e => by have : i = b := e; have := HGD.out i hi; omega)
        · have hbn := hg.out b HGB.out
          exact ((HC.out.setCell (p := ⟨b, off + (q + 1), none⟩) (.inr hbn) _).setCell (p := ⟨b, off + kk, none⟩) (.inr hbn) _).drew
      case measure => simp [intOf]
    · have hn0 : n.toNat = 0 := by omega
      have HF : Hid ((ys, m, v) = shufOf (xs.length - 1) xs l u) := by
        have h := hsh.out
        rw [hn0] at h
        exact h
      have hn3 : n ≤ 0 := by omega
      clear hn0 hsh
      go_wp2_with fail
      go_ret
      rw [← HF.out]
      exact ⟨b1, c1, g1, rfl, ho.out, hd.out, hch.out, hg.out⟩

set_option maxHeartbeats 2000000 in
set_option maxRecDepth 100000 in
/-- Order: the numbers from 0 on, below n, in another order. -/
theorem order_any (n : Nat) (bd : Nat) (gd : Option Nat) (l : List Int) (u : Int) (w : World) (hn : n ≤ 1000000) (hd : DrawsAt w bd l u gd) :
    Calls Try.prog 35 #[.int .i64 n, .pointer (some ⟨bd, 0, none⟩)] w (OfPost w bd n gd (shufOf (n - 1) ((List.range n).map Int.ofNat) l u)) := by
  obtain ⟨i0, hi, hz0, hz1, hz2⟩ := info_parts Try.info_int
  have HD := Lib.hid hd
  have hbd := hd.lt
  clear hd
  have HO : Hid (Own w 3 1 (.slice none 0 0) 0 [] none) := Own.nil w _ _
  go_enter Try.func35, Try.ntmps35
  go_wp2_with fail
  go_loopw [5, 8] (fun x i wr => ∃ (j : Nat) (b : Option Addr) (c : Nat), x = .slice b j c ∧ i = .int .i64 j ∧ j ≤ n ∧ Hid (∃ g, Own wr 3 1 (.slice b j c) j (((List.range j).map Int.ofNat).map (Value.int .i64)) g ∧ ∀ k, g = some k → w.heap.size ≤ k) ∧ Hid (Chg Non w wr)) (fun _ i _ => n - (intOf i).toNat)
  case atStart => exact ⟨0, _, _, rfl, rfl, by omega, ⟨_, HO.out, fun k hk => by cases hk⟩, Chg.refl _ _⟩
  case round =>
    obtain ⟨j, b, c, rfl, rfl, hj, hown, hch⟩ := hrel
    by_cases hlt : j < n
    · obtain ⟨g, ho, hg⟩ := hown.out
      have HO2 := Lib.hid (ho.chg ((Chg.refl Non wr).alloc (.cells #[.int .i64 j] 3)) (fun _ _ h => h))
      have HG := Lib.hid hg
      have HS : Hid (Src (wr.alloc (.cells #[.int .i64 j] 3)) 1 (.slice (some ⟨wr.heap.size, 0, none⟩) 1 1) 1 [.int .i64 j]) := ⟨rfl, by simp [Value.oneCell'], .inr ⟨_, _, rfl, fun i u hu => by
        match i, hu with
        | 0, hu => simpa [Addr.add, go_sem] using hu⟩⟩
      have hM : j + 1 ≤ maxLen := by unfold maxLen; omega
      clear ho hg hown
      go_wp2_with (at_builtin; refine wpList_append_Own _ rfl _ _ 22 rfl 3 i0 (.int .i64 0) 1 8 Try.underlying22 hi hz0 hz1 hz2 rfl (by decide) _ j _ g rfl HO2.out _ 1 _ rfl HS.out hM (by omega) ?_; intro v' w' g' hown hchg hg'; obtain ⟨a2, c2, rfl, hc2, hm2⟩ := hown.slice; have HO3 := Lib.hid hown; have HC3 := Lib.hid hchg; have HG3 := Lib.hid hg'; clear hown hchg hg')
      go_roundw
      case rel =>
        have hsz := hch.out.size
        refine ⟨j + 1, a2, c2, rfl, by go_num, by omega, ⟨g', ?_, fun k hk => ?_⟩, ?_⟩
        · rw [List.range_succ, List.map_append, List.map_append]; exact HO3.out
        · rcases HG3.out k hk with h | h
          · exact HG.out k h
          · simp at h; omega
        · exact (hch.out.alloc (.cells #[.int .i64 j] 3)).trans HC3.out (fun _ _ h => h) (fun i hi h => by have := HG.out i h; omega)
      case measure => simp [intOf]; omega
    · obtain rfl : j = n := by omega
      obtain ⟨g, ho, hg⟩ := hown.out
      have HO2 := Lib.hid ho
      have HG := Lib.hid hg
      have hlr : ((List.range j).map Int.ofNat).length = j := by simp
      obtain ⟨hcj, hcm⟩ : j ≤ c ∧ c ≤ maxLen := by
        obtain ⟨a', c', e, h1, h2⟩ := ho.slice
        cases e
        exact ⟨h1, h2⟩
      clear ho hg hown
      have HOF : Hid (Calls Try.prog 28 #[.slice b j c, .pointer (some ⟨bd, 0, none⟩)] wr (OfPost wr bd j gd (shufOf (j - 1) ((List.range j).map Int.ofNat) l u))) := by
        have h := of_any b c bd gd ((List.range j).map Int.ofNat) l u wr (by rw [hlr]; exact ints_own hlr HO2.out) (by rw [hlr]; exact hcj) (by rw [hlr]; omega) (HD.out.chg hch.out (fun h => h) (fun _ _ h => h))
        rw [hlr] at h
        exact h
      generalize hr : shufOf (j - 1) ((List.range j).map Int.ofNat) l u = r at *
      have HR := Lib.hid hr
      clear hr hlr
      go_wp2_with fail
      refine HOF.out.mono ?_
      rintro e w2 ⟨b', c', g', rfl, ho', hd', hc', hg'⟩
      have hsz := hch.out.size
      have HFIN : Hid (Own w2 3 1 (.slice b' j c') j (r.1.map (Value.int .i64)) g' ∧ DrawsAt w2 bd r.2.1 r.2.2 gd ∧ Chg (One bd) w w2 ∧ ∀ k, g' = some k → w.heap.size ≤ k) := ⟨ho', hd', hch.out.trans hc' (fun _ _ h => h.elim) (fun _ _ h => h), fun k hk => by have := hg' k hk; omega⟩
      clear ho' hd' hc' hg'
      go_wp2_with fail
      go_ret
      exact ⟨b', c', g', rfl, HFIN.out.1, HFIN.out.2.1, HFIN.out.2.2.1, HFIN.out.2.2.2⟩

/-- The way back of an order; none: it is none. -/
def backGo (n : Nat) : List Int → Nat → List Int → List Bool → Option (List Int)
  | [], _, out, _ => some out
  | x :: r, i, out, seen => if x < 0 ∨ (n : Int) ≤ x ∨ seen.getD x.toNat false = true then none else backGo n r (i + 1) (out.set x.toNat i) (seen.set x.toNat true)
def backOf (l : List Int) : Option (List Int) := backGo l.length l 0 (List.replicate l.length 0) (List.replicate l.length false)

/-- What Back answers: nil, or the way back, in memory of its own. -/
def BackPost (w : World) (r : Option (List Int)) (n : Nat) (e : Ending) (w' : World) : Prop :=
  Chg Non w w' ∧ match r with
  | none => e = .returned (.slice none 0 0)
  | some out => ∃ b g, e = .returned (.slice b n n) ∧ Own w' 3 1 (.slice b n n) n (out.map (Value.int .i64)) g ∧ out.length = n

theorem Try.info_bool : (Try.prog.info? 4).map (fun i => (i.zero, i.size, i.bytes)) = some (some (.bool false), 1, 1) := by kernel_rfl

theorem own_made {w : World} {e : TypeId} {b n : Nat} {z : Value} (h : w.ownsRow b e 1 (.slice (some ⟨b, 0, none⟩) n n) n (madeCells #[z] (n * 1)).toList) : Own w e 1 (.slice (some ⟨b, 0, none⟩) n n) n (List.replicate n z) (some b) := by
  have h2 := Own.of_row h
  rw [Nat.mul_one, toList_madeCells_one] at h2
  exact h2

set_option maxHeartbeats 2000000 in
set_option maxRecDepth 100000 in
theorem back_any (a : Option Addr) (cap n : Nat) (l : List Int) (w : World) (hn : l.length = n) (hx : Ints w a n l) (hlen : n ≤ 1000000) :
    Calls Try.prog 36 #[.slice a n cap] w (BackPost w (backOf l) n) := by
  obtain ⟨i0, hi, hz0, hz1, hz2⟩ := info_parts Try.info_int
  obtain ⟨j0, hj, hy0, hy1, hy2⟩ := info_parts Try.info_bool
  have HX := Lib.hid hx
  have HN := Lib.hid hn
  have HM : Hid (i0.bytes * n ≤ 281474976710656) := by show i0.bytes * n ≤ 281474976710656; rw [hz2]; omega
  have HM2 : Hid (j0.bytes * n ≤ 281474976710656) := by show j0.bytes * n ≤ 281474976710656; rw [hy2]; omega
  have hml : n ≤ maxLen := by unfold maxLen; omega
  clear hx hn
  go_enter Try.func36, Try.ntmps36
  go_wp2_with (first | (at_make; refine wpList_make_full _ rfl (.tmp 8) (.tmp 8) 22 rfl w.heap.size 3 i0 (.int .i64 0) 1 Try.underlying22 hi hz0 hz1 _ _ _ _ n rfl rfl rfl rfl HM.out hml (Nat.le_refl _) ?_; intro w1 hr1 hg1; have HO1 := Lib.hid (own_made hr1); have HC1 : Hid (Chg Non w w1) := (Chg.refl Non w).grown hg1 (fun k hk => by cases hk); have hw1 := HO1.out.lt _ rfl; clear hr1 hg1) | (at_make; refine wpList_make_full _ rfl (.tmp 11) (.tmp 11) 94 rfl w1.heap.size 4 j0 (.bool false) 1 Try.underlying94 hj hy0 hy1 _ _ _ _ n rfl rfl rfl rfl HM2.out hml (Nat.le_refl _) ?_; intro w2 hr2 hg2; have HO2 := Lib.hid (own_made hr2); have HC2 : Hid (Chg Non w1 w2) := (Chg.refl Non w1).grown hg2 (fun k hk => by cases hk); clear hr2 hg2))
  generalize hP : w.heap.size = P at *
  generalize hQ : w1.heap.size = Q at *
  have HP := Lib.hid hP
  have HQ := Lib.hid hQ
  clear hP hQ
  go_loopw [15] (fun i wr => ∃ (k : Nat) (out : List Int) (seen : List Bool), k ≤ n ∧ i = .int .i64 k ∧ Hid (out.length = n) ∧ Hid (seen.length = n) ∧ Hid (backGo n (l.drop k) k out seen = backOf l) ∧ Hid (Own wr 3 1 (.slice (some ⟨P, 0, none⟩) n n) n (out.map (Value.int .i64)) (some P)) ∧ Hid (Own wr 4 1 (.slice (some ⟨Q, 0, none⟩) n n) n (seen.map Value.bool) (some Q)) ∧ Hid (Chg Non w wr)) (fun i _ => n - (intOf i).toNat)
  case atStart => exact ⟨0, List.replicate n 0, List.replicate n false, Nat.zero_le _, rfl, by show _ = _; simp, by show _ = _; simp, by show backGo n l 0 _ _ = backOf l; unfold backOf; rw [HN.out], by rw [List.map_replicate]; exact HO1.out.chg HC2.out (fun _ _ h => h), by rw [List.map_replicate]; exact HO2.out, HC1.out.tr HC2.out⟩
  case round =>
    obtain ⟨k, out, seen, hk, rfl, hol, hsl, hgo, ho, hs, hch⟩ := hrel
    by_cases hlt : k < n
    · obtain ⟨y, rfl⟩ : ∃ y, a = some y := by
        cases a with
        | none => have := HX.out.2.1 rfl; omega
        | some y => exact ⟨y, rfl⟩
      have hkl : k < l.length := by rw [HN.out]; exact hlt
      have hcell0 := HX.out.2.2 y rfl k hkl
      have hcell : wr.cell? (y.add k) = some (.int .i64 (l.getD k 0)) := (World.cell?_of_block (hch.out.block _ (World.block_lt_of_cell? w _ hcell0) (fun h => h))).trans hcell0
      have hdrop : l.drop k = l.getD k 0 :: l.drop (k + 1) := by
        rw [List.drop_eq_getElem_cons hkl]
        simp [List.getD_eq_getElem?_getD, hkl]
      have HG : Hid (backOf l = if l.getD k 0 < 0 ∨ (n : Int) ≤ l.getD k 0 ∨ seen.getD (l.getD k 0).toNat false = true then none else backGo n (l.drop (k + 1)) (k + 1) (out.set (l.getD k 0).toNat k) (seen.set (l.getD k 0).toNat true)) := by
        have h := hgo.out
        rw [hdrop, backGo] at h
        exact h.symm
      clear hcell0 hdrop hkl hgo
      generalize l.getD k 0 = x at *
      by_cases h0 : x < 0
      · go_wp2_with fail
        go_ret
        rw [HG.out, if_pos (.inl h0)]
        exact ⟨hch.out, rfl⟩
      · by_cases h1 : (n : Int) ≤ x
        · go_wp2_with fail
          go_ret
          rw [HG.out, if_pos (.inr (.inl h1))]
          exact ⟨hch.out, rfl⟩
        · obtain ⟨xx, rfl⟩ : ∃ xx : Nat, x = (xx : Int) := ⟨x.toNat, by omega⟩
          have hxn : xx < n := by omega
          obtain ⟨_, _, hb, _, hsc, hsf⟩ := hs.out.at (j := xx) (by omega)
          cases hb
          obtain ⟨_, _, hb, _, hoc, hof⟩ := ho.out.at (j := xx) (by omega)
          cases hb
          obtain ⟨sv, hsv⟩ : ∃ sv, seen.getD xx false = sv := ⟨_, rfl⟩
          have hsv2 : (seen.map Value.bool)[xx]? = some (.bool sv) := by
            rw [← hsv]
            simp [List.getD_eq_getElem?_getD, show xx < seen.length by rw [hsl.out]; exact hxn]
          rw [hsv2] at hsc
          rw [map_getD (by rw [hol.out]; exact hxn)] at hoc
          generalize out.getD xx 0 = ov at *
          have HG2 : Hid (backOf l = if sv = true then none else backGo n (l.drop (k + 1)) (k + 1) (out.set xx k) (seen.set xx true)) := by
            show backOf l = _
            rw [HG.out, Int.toNat_natCast, hsv]
            by_cases hb : sv = true
            · rw [if_pos (.inr (.inr hb)), if_pos hb]
            · rw [if_neg (fun h => by rcases h with h | h | h; omega; omega; exact hb h), if_neg hb]
          simp only [Nat.zero_add] at hsc hoc hsf hof
          have hPQ : P ≠ Q := by omega
          have hsc2 := (World.cell?_setCell_other wr ⟨P, xx, none⟩ ⟨Q, xx, none⟩ (.int .i64 k) (by simp [hPQ])).trans hsc
          have HPQ := Lib.hid hPQ
          clear hsv hsv2 HG hPQ
          cases sv with
          | true =>
            go_wp2_with fail
            go_ret
            rw [HG2.out]
            exact ⟨hch.out, rfl⟩
          | false =>
            have HO5 : Hid (Own (wr.setCell ⟨P, xx, none⟩ (.int .i64 k)) 3 1 (.slice (some ⟨P, 0, none⟩) n n) n ((out.set xx k).map (Value.int .i64)) (some P)) := by
              have h := ho.out.store xx (.int .i64 k)
              rw [Nat.zero_add, ← List.map_set] at h
              exact h
            have HS5 : Hid (Own ((wr.setCell ⟨P, xx, none⟩ (.int .i64 k)).setCell ⟨Q, xx, none⟩ (.bool true)) 4 1 (.slice (some ⟨Q, 0, none⟩) n n) n ((seen.set xx true).map Value.bool) (some Q)) := by
              have h := (hs.out.chg (Chg.set1 wr P xx (.int .i64 k)) (fun b hb e => HPQ.out (by cases hb; exact e.symm))).store xx (.bool true)
              rw [Nat.zero_add, ← List.map_set] at h
              exact h
            go_wp2_with fail
            go_roundw
            case rel =>
              have hPw := HP.out
              have hQw := HQ.out
              have hw := HC1.out.size
              refine ⟨k + 1, out.set xx k, seen.set xx true, by omega, by go_num, by show _ = n; rw [List.length_set]; exact hol.out, by show _ = n; rw [List.length_set]; exact hsl.out, ?_, ?_, HS5.out, ?_⟩
              · have h := HG2.out
                simp at h
                exact h.symm
              · exact HO5.out.chg (Chg.set1 _ Q xx _) (fun b hb e => HPQ.out (by cases hb; exact e))
              · exact (hch.out.setCell (p := ⟨P, xx, none⟩) (.inr (by simp only []; omega)) _).setCell (p := ⟨Q, xx, none⟩) (.inr (by simp only []; omega)) _
            case measure => simp [intOf]; omega
    · obtain rfl : k = n := by omega
      have hd : l.drop k = [] := List.drop_eq_nil_of_le (by rw [HN.out]; omega)
      have HG : Hid (backOf l = some out) := by
        have h := hgo.out
        rw [hd, backGo] at h
        exact h.symm
      clear hd hgo
      go_wp2_with fail
      go_ret
      rw [HG.out]
      exact ⟨hch.out, _, _, rfl, ho.out, hol.out⟩

end Go.Proofs.Ytabeolmfgmbfaaa
