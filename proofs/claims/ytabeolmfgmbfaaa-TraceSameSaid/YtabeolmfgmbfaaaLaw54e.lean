/- TraceSame: two do the same, just if they are alike one by one: the walk. -/
import Derived.Test.YtabeolmfgmbfaaaEq54
import Derived.Deep.RegionHeldLaw
import Derived.Deep.RegionHeld
namespace Go.Proofs.Ytabeolmfgmbfaaa
open Go.RowKit
set_option linter.unusedVariables false
set_option linter.unusedSimpArgs false
attribute [local go_sem ↓] Go.wp_at_zero Go.wp_at_succ

theorem op_cells_one (o : OpV) : ∀ u ∈ o.cells.toList, u.oneCell' = true := by
  intro u hu
  simp [OpV.cells] at hu
  rcases hu with rfl | rfl | rfl | rfl | rfl | rfl | rfl | rfl <;> rfl
theorem cellsOf_one (os : List OpV) : ∀ u ∈ cellsOf os, u.oneCell' = true := by
  intro u hu
  obtain ⟨o, _, ho⟩ := List.mem_flatMap.1 hu
  exact op_cells_one o u ho
/-- The first of things, as what is appended. -/
theorem Opl.src {w : World} {a : Option Addr} {n : Nat} {l : List OpV} (h : Opl w a n l) (k c : Nat) (hk : k ≤ n) : Src w 8 (.slice a k c) k (cellsOf (l.take k)) := by
  have hl : (l.take k).length = k := by rw [List.length_take, h.len]; omega
  refine ⟨by rw [cellsOf_length, hl], cellsOf_one _, ?_⟩
  cases a with
  | none => exact .inl ⟨c, rfl, by have := h.nil rfl; omega⟩
  | some x =>
    refine .inr ⟨x, c, rfl, fun j u hu => ?_⟩
    have hj : j < k * 8 := by
      have := (List.getElem?_eq_some_iff.1 hu).1
      rw [cellsOf_length, hl] at this
      exact this
    have hd : j = j / 8 * 8 + j % 8 := by omega
    have hlt : j / 8 < (l.take k).length := by rw [hl]; omega
    have ho : (l.take k)[j / 8]? = some ((l.take k)[j / 8]) := List.getElem?_eq_getElem hlt
    have hc := cellsOf_at (l.take k) (j / 8) _ ho (j % 8) (by omega)
    rw [← hd, hu] at hc
    have ho2 : l[j / 8]? = some ((l.take k)[j / 8]) := by
      rw [← ho, List.getElem?_take, if_pos (by rw [hl] at hlt; exact hlt)]
    have := h.cell x rfl (j / 8) _ ho2 (j % 8) (by omega)
    rw [← hd] at this
    rw [this, ← hc]
theorem Opl.srcAll {w : World} {a : Option Addr} {n : Nat} {l : List OpV} (h : Opl w a n l) (c : Nat) : Src w 8 (.slice a n c) n (cellsOf l) := by
  have := h.src n c (Nat.le_refl _)
  rwa [List.take_of_length_le (by rw [h.len]; exact Nat.le_refl _)] at this

theorem eqOps_set (xs : List OpV) (k : Nat) (o p : OpV) (hp : xs[k]? = some p) : eqOps xs (xs.set k o) = sameB p o := by
  have hk := (List.getElem?_eq_some_iff.1 hp).1
  by_cases h : p.plain = o.plain
  · rw [sameB_yes h]
    refine eqOps_yes (List.ext_getElem? fun i => ?_)
    rw [List.getElem?_map, List.getElem?_map]
    by_cases e : i = k
    · subst e
      rw [hp, List.getElem?_set_self hk]
      simp [h]
    · rw [List.getElem?_set_ne (fun h => e h.symm)]
  · rw [sameB_no h]
    refine eqOps_no (fun e => h ?_)
    have e2 := congrArg (fun x => x[k]?) e
    simp only [List.getElem?_map, hp, List.getElem?_set_self hk, Option.map_some, Option.some.injEq] at e2
    exact e2
theorem eqOps_len {xs ys : List OpV} (h : xs.length ≠ ys.length) : eqOps xs ys = false := eqOps_no (fun e => h (by
  have := congrArg List.length e
  simpa using this))
theorem own_emptyOp (w : World) : Own (w.alloc (.cells #[] 61)) 61 8 (.slice (some ⟨w.heap.size, 0, none⟩) 0 0) 0 [] (some w.heap.size) :=
  ⟨by simp, .inr ⟨_, 0, 0, _, rfl, rfl, Blk.new w _ _, Nat.le_refl _, Nat.zero_le _, by simp, by simp⟩⟩

/-- The list's own copy. -/
def XPost (w1 : World) (n : Nat) (l : List OpV) (x : Value) (wx : World) : Prop :=
  ∃ (a2 : Option Addr) (m c2 : Nat) (g : Option Nat), x = .slice a2 m c2 ∧ 0 < m ∧ m ≤ 600 ∧ m ≤ n ∧ m ≤ c2 ∧ Own wx 61 8 (.slice a2 m c2) m (cellsOf (l.take m)) g ∧ (∀ k, g = some k → w1.heap.size ≤ k) ∧ Chg Non w1 wx
/-- A thing's eight cells. -/
structure At8 (w : World) (b o : Nat) (p : OpV) : Prop where
  c0 : w.cell? ⟨b, o, none⟩ = some (.int .i64 p.k)
  c1 : w.cell? ⟨b, o + 1, none⟩ = some (.int .i64 p.th)
  c2 : w.cell? ⟨b, o + 2, none⟩ = some (.int .i64 p.a)
  c3 : w.cell? ⟨b, o + 3, none⟩ = some (.int .i64 p.b)
  c4 : w.cell? ⟨b, o + 4, none⟩ = some (.int .i64 p.v)
  c5 : w.cell? ⟨b, o + 5, none⟩ = some (.int .i64 p.n)
  c6 : w.cell? ⟨b, o + 6, none⟩ = some (.int .i64 p.m)
  c7 : w.cell? ⟨b, o + 7, none⟩ = some (.slice p.da p.dn p.dc)
theorem Opl.at8 {w : World} {b off n : Nat} {l : List OpV} (h : Opl w (some ⟨b, off, none⟩) n l) {j : Nat} {p : OpV} (hp : l[j]? = some p) : At8 w b (off + j * 8) p := by
  have hc := h.cell _ rfl j p hp
  simp only [Addr.add_lit, ← Nat.add_assoc] at hc
  exact ⟨hc 0 (by decide), hc 1 (by decide), hc 2 (by decide), hc 3 (by decide), hc 4 (by decide), hc 5 (by decide), hc 6 (by decide), hc 7 (by decide)⟩

/-- Eight cells are written. -/
def put8 (w : World) (b o : Nat) (p : OpV) : World := (((((((w.setCell ⟨b, o, none⟩ (.int .i64 p.k)).setCell ⟨b, o + 1, none⟩ (.int .i64 p.th)).setCell ⟨b, o + 2, none⟩ (.int .i64 p.a)).setCell ⟨b, o + 3, none⟩ (.int .i64 p.b)).setCell ⟨b, o + 4, none⟩ (.int .i64 p.v)).setCell ⟨b, o + 5, none⟩ (.int .i64 p.n)).setCell ⟨b, o + 6, none⟩ (.int .i64 p.m)).setCell ⟨b, o + 7, none⟩ (.slice p.da p.dn p.dc)
theorem put8_eq (w : World) (b o : Nat) (p : OpV) : put8 w b o p = (((((((w.setCell ⟨b, o, none⟩ (.int .i64 p.k)).setCell ⟨b, o + 1, none⟩ (.int .i64 p.th)).setCell ⟨b, o + 2, none⟩ (.int .i64 p.a)).setCell ⟨b, o + 3, none⟩ (.int .i64 p.b)).setCell ⟨b, o + 4, none⟩ (.int .i64 p.v)).setCell ⟨b, o + 5, none⟩ (.int .i64 p.n)).setCell ⟨b, o + 6, none⟩ (.int .i64 p.m)).setCell ⟨b, o + 7, none⟩ (.slice p.da p.dn p.dc) := rfl
theorem chg_put8 (w : World) (b o : Nat) (p : OpV) : Chg (One b) w (put8 w b o p) :=
  (((((((Chg.set1 w b o _).tr (Chg.set1 _ b (o + 1) _)).tr (Chg.set1 _ b (o + 2) _)).tr (Chg.set1 _ b (o + 3) _)).tr (Chg.set1 _ b (o + 4) _)).tr (Chg.set1 _ b (o + 5) _)).tr (Chg.set1 _ b (o + 6) _)).tr (Chg.set1 _ b (o + 7) _)
theorem store8 {w : World} {b off m c : Nat} {xs : List OpV} {g : Option Nat} (h : Own w 61 8 (.slice (some ⟨b, off, none⟩) m c) m (cellsOf xs) g) (hl : xs.length = m) {k : Nat} (hk : k < m) (o : OpV) (hok : ∀ p ∈ xs, p.ok w) (hoo : o.ok w)
    (hd : ∀ p ∈ xs, 0 < p.dn → ∀ x, p.da = some x → x.block ≠ b) (hdo : 0 < o.dn → ∀ x, o.da = some x → x.block ≠ b) : Opl (put8 w b (off + k * 8) o) (some ⟨b, off, none⟩) m (xs.set k o) := by
  have hch := chg_put8 w b (off + k * 8) o
  have okc : ∀ p : OpV, p.ok w → (0 < p.dn → ∀ x, p.da = some x → x.block ≠ b) → p.ok (put8 w b (off + k * 8) o) := fun p hp hb => ⟨hp.nums, hp.bys.chg0 hch (fun h0 x hx e => hb h0 x hx e), hp.byte, hp.cap, hp.few⟩
  have hat := fun j (hj : j < m * 8) => h.at hj
  obtain ⟨b', off', he, _, _, _⟩ := hat 0 (by omega)
  cases he
  rcases h.2 with ⟨hv, _⟩ | ⟨b', off', cap', cur, hv, hg, hb, h4, h5, h6, h7⟩
  · cases hv
  · cases hv
    refine ⟨by rw [List.length_set, hl], fun e => (by cases e), fun p hp => ?_, fun x hx j p hp i hi => ?_⟩
    · rcases List.mem_or_eq_of_mem_set hp with hp | rfl
      · exact okc p (hok p hp) (hd p hp)
      · exact okc p hoo hdo
    · cases hx
      have hjm : j < m := by
        have := (List.getElem?_eq_some_iff.1 hp).1
        rwa [List.length_set, hl] at this
      have hb8 : Blk (put8 w b (off + k * 8) o) b ((((((((cur.setIfInBounds (off + k * 8) (.int .i64 o.k)).setIfInBounds (off + k * 8 + 1) (.int .i64 o.th)).setIfInBounds (off + k * 8 + 2) (.int .i64 o.a)).setIfInBounds (off + k * 8 + 3) (.int .i64 o.b)).setIfInBounds (off + k * 8 + 4) (.int .i64 o.v)).setIfInBounds (off + k * 8 + 5) (.int .i64 o.n)).setIfInBounds (off + k * 8 + 6) (.int .i64 o.m)).setIfInBounds (off + k * 8 + 7) (.slice o.da o.dn o.dc)) 61 :=
        (((((((hb.set _ _).set _ _).set _ _).set _ _).set _ _).set _ _).set _ _).set _ _
      rw [Addr.add_lit, hb8.cell]
      have hcs : off + k * 8 + 8 ≤ cur.size := by
        have : k * 8 + 8 ≤ c * 8 := by omega
        omega
      by_cases e : j = k
      · subst e
        rw [List.getElem?_set_self (by omega)] at hp
        simp only [Option.some.injEq] at hp
        subst hp
        have hcase : i = 0 ∨ i = 1 ∨ i = 2 ∨ i = 3 ∨ i = 4 ∨ i = 5 ∨ i = 6 ∨ i = 7 := by omega
        rcases hcase with rfl | rfl | rfl | rfl | rfl | rfl | rfl | rfl
        all_goals
          simp only [Array.getElem?_setIfInBounds, Array.size_setIfInBounds, OpV.cells, ← Nat.add_assoc, Nat.add_zero]
          simp
          try omega
      · rw [List.getElem?_set_ne (fun h => e h.symm)] at hp
        have hc := cellsOf_at xs j p hp i hi
        obtain ⟨b'', off'', he'', _, hcell, _⟩ := hat (j * 8 + i) (by omega)
        cases he''
        rw [← hc, ← hcell, hb.cell]
        simp only [Array.getElem?_setIfInBounds, Array.size_setIfInBounds]
        repeat (rw [if_neg (by omega)])

set_option maxHeartbeats 6000000 in
set_option maxRecDepth 100000 in
theorem traceSame_walk (a : Option Addr) (n c : Nat) (l : List OpV) (at_ : Int) (o : OpV) (w : World) (hl : Opl w a n l) (ho : o.ok w) (hn : n ≤ 1759218604390) (hnc : n ≤ c) (hat : -9223372036854775808 ≤ at_ ∧ at_ ≤ 9223372036854775807) :
    Calls Try.prog 15 #[.slice a n c, .int .i64 at_, .agg o.cells] w fun e w' => e = .returned (.bool true) ∧ Below w.heap.size w w' := by
  obtain ⟨i0, hi, hz0, hz1, hz2⟩ := info_parts Try.info_opT
  have HL := Lib.hid hl
  have HO := Lib.hid ho
  have hc0 : Chg Non w (w.alloc (.cells o.cells 61)) := (Chg.refl _ _).alloc _
  have HB0 : Hid (Blk (w.alloc (.cells o.cells 61)) w.heap.size o.cells 61) := Blk.new _ _ _
  have HC0 := Lib.hid hc0
  have hlen := hl.len
  clear hl ho hc0
  go_enter Try.func15, Try.ntmps15
  go_wp2_with fail
  refine (awake54_any _).mono ?_
  rintro e w1 ⟨rfl, hc⟩
  have HC1 := Lib.hid (HC0.out.tr hc)
  have HB1 := Lib.hid (HB0.out.chg hc (fun h => h))
  have HL1 := Lib.hid (HL.out.chg HC1.out (fun _ _ h => h))
  have HO1 := Lib.hid (HO.out.chg HC1.out (fun _ _ h => h))
  clear hc HL HO HB0 HC0
  by_cases hz : n = 0
  · subst hz
    have hl0 : l = [] := List.eq_nil_of_length_eq_zero hlen
    subst hl0
    clear hlen
    go_wp2_with fail
    refine (sameOps_any a none 0 0 c 0 [] [] _ HL1.out (opl_nil _) (by omega) (by omega)).mono ?_
    rintro e w2 ⟨rfl, hc⟩
    have he : eqOps [] [] = true := by decide
    rw [he]
    have HC2 := Lib.hid (HC1.out.tr hc)
    have HB2 := Lib.hid (HB1.out.chg hc (fun h => h))
    have HL2 := Lib.hid (HL1.out.chg hc (fun _ _ h => h))
    have HO2 := Lib.hid (HO1.out.chg hc (fun _ _ h => h))
    clear hc he HC1 HB1 HL1 HO1
    have z0 := HB2.out.cell 0; have z1 := HB2.out.cell 1; have z2 := HB2.out.cell 2; have z3 := HB2.out.cell 3; have z4 := HB2.out.cell 4; have z5 := HB2.out.cell 5; have z6 := HB2.out.cell 6; have z7 := HB2.out.cell 7
    simp [OpV.cells] at z0 z1 z2 z3 z4 z5 z6 z7
    have HS : Hid (Opl (w2.alloc (.cells o.cells 61)) (some ⟨w2.heap.size, 0, none⟩) 1 [o]) := opl_one (c := 1) o (Blk.new _ _ _) (HO2.out.chg ((Chg.refl Non _).alloc _) (fun _ _ h => h))
    have HLS : Hid (Opl (w2.alloc (.cells o.cells 61)) a 0 []) := HL2.out.chg ((Chg.refl Non _).alloc _) (fun _ _ h => h)
    have hcall := sameOps_any a (some ⟨w2.heap.size, 0, none⟩) 0 1 c 1 [] [o] _ HLS.out HS.out (by omega) (by omega)
    rw [show eqOps [] [o] = false from eqOps_len (by simp)] at hcall
    unfold OpV.cells at hcall
    have HCL := Lib.hid hcall
    clear hcall
    go_wp2_with fail
    refine HCL.out.mono ?_
    rintro e w3 ⟨rfl, hc⟩
    have HC3 := Lib.hid ((HC2.out.alloc _).tr hc)
    clear hc
    go_wp2_with fail
    go_ret
    exact ⟨rfl, HC3.out.below⟩
  · have hzb : ((n : Int) == 0) = false := by simp; omega
    obtain ⟨_, b0, off0, _, _, rfl, _⟩ := HL1.out.at (show 0 < n by omega)
    go_upto_region 5 with fail
    go_cut [7] (fun x wx => Hid (XPost w1 n l x wx))
    case first =>
      have HOE := Lib.hid (own_emptyOp w1)
      have HLA := Lib.hid (HL1.out.chg ((Chg.refl Non w1).alloc (.cells #[] 61)) (fun _ _ h => h))
      by_cases h6 : n ≤ 600
      · have h6' : ¬ (600 : Int) < n := by omega
        go_wp2_with (at_builtin; refine wpList_append_Own _ rfl _ _ 58 rfl 61 i0 _ 8 80 Try.underlying58 hi hz0 hz1 hz2 rfl (by decide) _ 0 _ _ rfl HOE.out _ n _ rfl (HLA.out.src n c (Nat.le_refl _)) (by unfold maxLen; omega) (by omega) ?_; intro v' w' g' hown hchg hg'; obtain ⟨a3, c3, rfl, hc3, hm3⟩ := hown.slice; have HO6 := Lib.hid hown; have HC6 := Lib.hid hchg; have HG6 := Lib.hid hg'; clear hown hchg hg')
        go_meet
        refine ⟨a3, n, c3, g', ?_, by omega, by omega, by omega, by have := hc3; simpa using this, ?_, fun k hk => ?_, ?_⟩
        · simp
        · simpa using HO6.out
        · rcases HG6.out k hk with h | h
          · cases h; exact Nat.le_refl _
          · simp at h; omega
        · exact ((Chg.refl Non w1).alloc _).trans HC6.out (fun _ _ h => h) (fun i hi h => by have h2 : some w1.heap.size = some i := h; simp at h2; omega)
      · have h6' : (600 : Int) < n := by omega
        go_wp2_with (at_builtin; refine wpList_append_Own _ rfl _ _ 58 rfl 61 i0 _ 8 80 Try.underlying58 hi hz0 hz1 hz2 rfl (by decide) _ 0 _ _ rfl HOE.out _ 600 _ rfl (HLA.out.src 600 c (by omega)) (by unfold maxLen; omega) (by omega) ?_; intro v' w' g' hown hchg hg'; obtain ⟨a3, c3, rfl, hc3, hm3⟩ := hown.slice; have HO6 := Lib.hid hown; have HC6 := Lib.hid hchg; have HG6 := Lib.hid hg'; clear hown hchg hg')
        go_meet
        refine ⟨a3, 600, c3, g', ?_, by omega, by omega, by omega, by have := hc3; simpa using this, ?_, fun k hk => ?_, ?_⟩
        · simp
        · simpa using HO6.out
        · rcases HG6.out k hk with h | h
          · cases h; exact Nat.le_refl _
          · simp at h; omega
        · exact ((Chg.refl Non w1).alloc _).trans HC6.out (fun _ _ h => h) (fun i hi h => by have h2 : some w1.heap.size = some i := h; simp at h2; omega)
    case rest =>
      obtain ⟨a2, m, c2, g, rfl, hm0, hm6, hmn, hmc, hox, hgx, hcx⟩ := hcut.out
      clear hcut
      have HLM : Hid ((l.take m).length = m) := by show _ = _; rw [List.length_take]; omega
      have hokx : ∀ p ∈ l.take m, p.ok wc := fun p hp => (HL1.out.ok p (List.mem_of_mem_take hp)).chg hcx (fun _ _ h => h)
      have hx := opl_own HLM.out hokx hox
      have HOX := Lib.hid hox
      have HX := Lib.hid hx
      have HGX := Lib.hid hgx
      have HCX := Lib.hid hcx
      have HB2 := Lib.hid (HB1.out.chg hcx (fun h => h))
      have HO2 := Lib.hid (HO1.out.chg hcx (fun _ _ h => h))
      have HC2 := Lib.hid (HC1.out.tr hcx)
      have hsx := hcx.size
      clear hokx hx hox hgx hcx HL1
      generalize l.take m = xs at *
      obtain ⟨_, bx, ox, _, _, rfl, _⟩ := HX.out.at (show 0 < m by omega)
      obtain ⟨u, hu⟩ : ∃ u : Nat, at_ % 65536 = u := ⟨(at_ % 65536).toNat, by omega⟩
      have hand := and65535 at_
      rw [hu] at hand
      have hu2 : u < 65536 := by omega
      clear hu
      have HAND := Lib.hid hand
      clear hand
      obtain ⟨k, hk⟩ : ∃ k : Nat, k = u % m := ⟨_, rfl⟩
      have hkm : k < m := by rw [hk]; exact Nat.mod_lt _ hm0
      have HK : Hid (((u : Int)).tmod (m : Int) = (k : Int)) := by show _ = _; rw [hk, Int.tmod_eq_emod_of_nonneg (by omega)]; omega
      clear hk
      obtain ⟨p, hp⟩ : ∃ p, xs[k]? = some p := ⟨_, List.getElem?_eq_getElem (by rw [HLM.out]; exact hkm)⟩
      have HP := Lib.hid hp
      clear hp
      have HOE := Lib.hid (own_emptyOp wc)
      have HXA := Lib.hid (HX.out.chg ((Chg.refl Non wc).alloc (.cells #[] 61)) (fun _ _ h => h))
      go_upto_region 7 with fail
      rw [HAND.out, HK.out]
      clear HAND HK
      go_upto_region 8 with (at_builtin; refine wpList_append_Own _ rfl _ _ 58 rfl 61 i0 _ 8 80 Try.underlying58 hi hz0 hz1 hz2 rfl (by decide) _ 0 _ _ rfl HOE.out _ m _ rfl (HXA.out.srcAll c2) (by unfold maxLen; omega) (by omega) ?_; intro v' w' g' hown hchg hg'; obtain ⟨a3, c3, rfl, hc3, hm3⟩ := hown.slice; have HO6 := Lib.hid hown; have HC6 := Lib.hid hchg; have HG6 := Lib.hid hg'; clear hown hchg hg')
      have hcw : Chg Non wc w' := ((Chg.refl Non wc).alloc _).trans HC6.out (fun _ _ h => h) (fun i hi h => by have h2 : some wc.heap.size = some i := h; simp at h2; omega)
      have HCW := Lib.hid hcw
      obtain ⟨by_, oy, hay, hgy, _, _⟩ := HO6.out.at (show 0 < (0 + m) * 8 by omega)
      subst hay
      have hbyg : wc.heap.size ≤ by_ := by
        rcases HG6.out by_ hgy with h | h
        · simp at h; omega
        · simp at h; omega
      have hown : Own w' 61 8 (.slice (some ⟨by_, oy, none⟩) m c3) m (cellsOf xs) g' := by
        have h := HO6.out
        simpa using h
      have HOWN := Lib.hid hown
      have hbw : w.heap.size < w1.heap.size := HB1.out.lt
      have HBW := Lib.hid (HB2.out.chg hcw (fun h => h))
      have hne : by_ ≠ w.heap.size := by omega
      have hne2 : w.heap.size ≠ by_ := by omega
      have y0 := HBW.out.cell 0; have y1 := HBW.out.cell 1; have y2 := HBW.out.cell 2; have y3 := HBW.out.cell 3; have y4 := HBW.out.cell 4; have y5 := HBW.out.cell 5; have y6 := HBW.out.cell 6; have y7 := HBW.out.cell 7
      simp [OpV.cells] at y0 y1 y2 y3 y4 y5 y6 y7
      have hat : ∀ i, i < 8 → (∃ v, w'.cell? ⟨by_, oy + k * 8 + i, none⟩ = some v) ∧ w'.frozen? ⟨by_, oy + k * 8 + i, none⟩ = false := by
        intro i hi
        have hlt : k * 8 + i < m * 8 := by omega
        obtain ⟨b', o', he, _, hc, hf⟩ := HOWN.out.at hlt
        cases he
        rw [Nat.add_assoc]
        refine ⟨⟨_, hc.trans (List.getElem?_eq_getElem (by rw [cellsOf_length, HLM.out]; exact hlt))⟩, hf⟩
      obtain ⟨⟨v0, e0⟩, f0⟩ := hat 0 (by decide); obtain ⟨⟨v1, e1⟩, f1⟩ := hat 1 (by decide); obtain ⟨⟨v2, e2⟩, f2⟩ := hat 2 (by decide); obtain ⟨⟨v3, e3⟩, f3⟩ := hat 3 (by decide); obtain ⟨⟨v4, e4⟩, f4⟩ := hat 4 (by decide); obtain ⟨⟨v5, e5⟩, f5⟩ := hat 5 (by decide); obtain ⟨⟨v6, e6⟩, f6⟩ := hat 6 (by decide); obtain ⟨⟨v7, e7⟩, f7⟩ := hat 7 (by decide)
      rw [Nat.add_zero] at e0 f0
      have HST : Hid (Opl (put8 w' by_ (oy + k * 8) o) (some ⟨by_, oy, none⟩) m (xs.set k o)) := by
        have hxo := (HX.out.chg hcw (fun _ _ h => h))
        refine store8 HOWN.out HLM.out hkm o hxo.ok (HO2.out.chg hcw (fun _ _ h => h)) (fun q hq h0 x hx e => ?_) (fun h0 x hx e => ?_)
        · have := (HX.out.ok q hq).bys.lt h0 x hx
          omega
        · have := HO2.out.bys.lt h0 x hx
          omega
      have HCP : Hid (Chg Non wc (put8 w' by_ (oy + k * 8) o)) := HCW.out.trans (chg_put8 w' by_ (oy + k * 8) o) (fun _ _ h => h) (fun i hi h => by have : i = by_ := h; omega)
      clear hcw hat hown hgy HO6 HC6 HG6
      go_upto_region 9 with fail
      rw [← put8_eq]
      clear y0 y1 y2 y3 y4 y5 y6 y7 e0 e1 e2 e3 e4 e5 e6 e7 f0 f1 f2 f3 f4 f5 f6 f7
      have HXG : Hid (∀ wz, Chg Non (put8 w' by_ (oy + k * 8) o) wz → Opl wz (some ⟨bx, ox, none⟩) m xs) := fun wz h => HX.out.chg (HCP.out.tr h) (fun _ _ h => h)
      have HYG : Hid (∀ wz, Chg Non (put8 w' by_ (oy + k * 8) o) wz → Opl wz (some ⟨by_, oy, none⟩) m (xs.set k o)) := fun wz h => HST.out.chg h (fun _ _ h => h)
      have HBG : Hid (∀ wz, Chg Non (put8 w' by_ (oy + k * 8) o) wz → Blk wz w.heap.size o.cells 61) := fun wz h => HB2.out.chg (HCP.out.tr h) (fun h => h)
      have HOG : Hid (∀ wz, Chg Non (put8 w' by_ (oy + k * 8) o) wz → o.ok wz) := fun wz h => HO2.out.chg (HCP.out.tr h) (fun _ _ h => h)
      have HCB : Hid (Chg Non w (put8 w' by_ (oy + k * 8) o)) := HC2.out.tr HCP.out
      clear HST HCP HBW HOWN HB2 HO2 HC2 HCX HOX HX HXA HOE
      generalize put8 w' by_ (oy + k * 8) o = ws at *
      have HPG : Hid (∀ wz, Chg Non ws wz → p.ok wz) := fun wz h => (HXG.out wz h).ok p (List.mem_of_getElem? HP.out)
      have hsm : ∀ wz, Chg Non ws wz → Calls Try.prog 47 #[.agg p.cells, .agg o.cells] wz fun e w' => e = .returned (.bool (sameB p o)) ∧ Chg Non wz w' := fun wz h => same_any p o wz (HPG.out wz h) (HOG.out wz h)
      unfold OpV.cells at hsm
      have HSM := Lib.hid hsm
      clear hsm
      have hk0 : (0 : Int) ≤ (k : Int) := by omega
      have hkI : (k : Int) < (m : Int) := by omega
      have HC9 : Hid (Chg Non ws ws.drew) := (Chg.refl Non ws).drew
      have hxx := (HXG.out ws.drew HC9.out).at8 HP.out
      have z0 := hxx.c0
      have z1 := hxx.c1
      have z2 := hxx.c2
      have z3 := hxx.c3
      have z4 := hxx.c4
      have z5 := hxx.c5
      have z6 := hxx.c6
      have z7 := hxx.c7
      have hbb := HBG.out ws.drew HC9.out
      have y0 := hbb.cell 0
      have y1 := hbb.cell 1
      have y2 := hbb.cell 2
      have y3 := hbb.cell 3
      have y4 := hbb.cell 4
      have y5 := hbb.cell 5
      have y6 := hbb.cell 6
      have y7 := hbb.cell 7
      simp [OpV.cells] at y0 y1 y2 y3 y4 y5 y6 y7
      simp only [World.cell?_drew] at z0 z1 z2 z3 z4 z5 z6 z7
      clear hxx hbb
      go_region_held3 (fun w' => w'.cell? ⟨bx, ox + k * 8, none⟩ = some (.int .i64 p.k) ∧ w'.cell? ⟨bx, ox + k * 8 + 1, none⟩ = some (.int .i64 p.th) ∧ w'.cell? ⟨bx, ox + k * 8 + 2, none⟩ = some (.int .i64 p.a) ∧ w'.cell? ⟨bx, ox + k * 8 + 3, none⟩ = some (.int .i64 p.b) ∧ w'.cell? ⟨bx, ox + k * 8 + 4, none⟩ = some (.int .i64 p.v) ∧ w'.cell? ⟨bx, ox + k * 8 + 5, none⟩ = some (.int .i64 p.n) ∧ w'.cell? ⟨bx, ox + k * 8 + 6, none⟩ = some (.int .i64 p.m) ∧ w'.cell? ⟨bx, ox + k * 8 + 7, none⟩ = some (.slice p.da p.dn p.dc) ∧ w'.cell? ⟨w.heap.size, 0, none⟩ = some (.int .i64 o.k) ∧ w'.cell? ⟨w.heap.size, 1, none⟩ = some (.int .i64 o.th) ∧ w'.cell? ⟨w.heap.size, 2, none⟩ = some (.int .i64 o.a) ∧ w'.cell? ⟨w.heap.size, 3, none⟩ = some (.int .i64 o.b) ∧ w'.cell? ⟨w.heap.size, 4, none⟩ = some (.int .i64 o.v) ∧ w'.cell? ⟨w.heap.size, 5, none⟩ = some (.int .i64 o.n) ∧ w'.cell? ⟨w.heap.size, 6, none⟩ = some (.int .i64 o.m) ∧ w'.cell? ⟨w.heap.size, 7, none⟩ = some (.slice o.da o.dn o.dc)) (go_keep) ((go_at_call 47; (with_reducible refine (HSM.out _ HC9.out).mono ?_); rintro e w9 ⟨rfl, hc9⟩; have HC9b := Lib.hid (HC9.out.tr hc9); clear z0 z1 z2 z3 z4 z5 z6 z7 y0 y1 y2 y3 y4 y5 y6 y7; have hxx := (HXG.out w9 HC9b.out).at8 HP.out; have z0 := hxx.c0; have z1 := hxx.c1; have z2 := hxx.c2; have z3 := hxx.c3; have z4 := hxx.c4; have z5 := hxx.c5; have z6 := hxx.c6; have z7 := hxx.c7; have hbb := HBG.out w9 HC9b.out; have y0 := hbb.cell 0; have y1 := hbb.cell 1; have y2 := hbb.cell 2; have y3 := hbb.cell 3; have y4 := hbb.cell 4; have y5 := hbb.cell 5; have y6 := hbb.cell 6; have y7 := hbb.cell 7; simp [OpV.cells] at y0 y1 y2 y3 y4 y5 y6 y7; skip; clear hxx hbb; clear hc9))
      have HSE : Hid (((strOfNums p.bytes).toList == (strOfNums o.bytes).toList) = sameB p o) := by
        show _ = _
        rw [← bytes_eq_plain (HPG.out ws (Chg.refl _ _)) (HOG.out ws (Chg.refl _ _)), ByteArray.toList_eq, ByteArray.toList_eq, Bool.eq_iff_iff]
        have hi := @str_inj p.bytes o.bytes (byte_op (HPG.out ws (Chg.refl _ _))) (byte_op (HOG.out ws (Chg.refl _ _)))
        simp only [beq_iff_eq, EqB, decide_eq_true_eq]
        exact ⟨fun h => hi.1 (Go.WideShapes.bytes_inj h), fun h => by rw [h]⟩
      have HS2 : Hid (∀ wz, Chg Non ws wz → Calls Try.prog 57 #[.slice (some ⟨bx, ox, none⟩) m c2, .slice (some ⟨by_, oy, none⟩) m c3] wz fun e w' => e = .returned (.bool (sameB p o)) ∧ Chg Non wz w') := by
        intro wz h
        have h2 := sameOps_any (some ⟨bx, ox, none⟩) (some ⟨by_, oy, none⟩) m m c2 c3 xs (xs.set k o) wz (HXG.out wz h) (HYG.out wz h) (by omega) (by omega)
        rw [eqOps_set xs k o p HP.out] at h2
        exact h2
      have HS1 : Hid (∀ wz a5 c5, Chg Non ws wz → Opl wz a5 m xs → Calls Try.prog 57 #[.slice (some ⟨bx, ox, none⟩) m c2, .slice a5 m c5] wz fun e w' => e = .returned (.bool true) ∧ Chg Non wz w') := by
        intro wz a5 c5 h h5
        have h2 := sameOps_any (some ⟨bx, ox, none⟩) a5 m m c2 c5 xs xs wz (HXG.out wz h) h5 (by omega) (by omega)
        rw [eqOps_yes rfl] at h2
        exact h2
      have HS3 : Hid (∀ wz ob cb, Chg Non ws wz → (ob = ox + 8 ∨ m = 1) → Calls Try.prog 57 #[.slice (some ⟨bx, ox, none⟩) m c2, .slice (some ⟨bx, ob, none⟩) (m - 1) cb] wz fun e w' => e = .returned (.bool false) ∧ Chg Non wz w') := by
        intro wz ob cb h hob
        have hx := HXG.out wz h
        have hd : Opl wz (some ⟨bx, ob, none⟩) (m - 1) (xs.drop 1) := by
          refine ⟨by rw [List.length_drop, HLM.out], fun e => (by cases e), fun q hq => hx.ok q (List.mem_of_mem_drop hq), fun x hx2 j q hq i hi => ?_⟩
          cases hx2
          rcases hob with rfl | h1
          · rw [List.getElem?_drop] at hq
            have := hx.cell _ rfl (1 + j) q hq i hi
            rw [Addr.add_lit] at this ⊢
            rw [← this]
            congr 2
            omega
          · have h2 := (List.getElem?_eq_some_iff.1 hq).1
            rw [List.length_drop, HLM.out] at h2
            omega
        have h2 := sameOps_any (some ⟨bx, ox, none⟩) (some ⟨bx, ob, none⟩) m (m - 1) c2 cb xs (xs.drop 1) wz hx hd (by omega) (by omega)
        rw [eqOps_len (by rw [List.length_drop, HLM.out]; omega)] at h2
        exact h2
      have hop1 : ∀ wz, Chg Non ws wz → Calls Try.prog 44 #[.agg p.cells] wz (BytesPost wz 0 [] none p.bytes) := fun wz h => one_bytes p wz (HPG.out _ h)
      have hop2 : ∀ wz, Chg Non ws wz → Calls Try.prog 44 #[.agg o.cells] wz (BytesPost wz 0 [] none o.bytes) := fun wz h => one_bytes o wz (HOG.out _ h)
      unfold OpV.cells at hop1 hop2
      have HO1 := Lib.hid hop1
      have HO2 := Lib.hid hop2
      clear hop1 hop2 HC9
      have HCD : Hid (Chg Non ws w9.drew) := HC9b.out.drew
      have HCA : Hid (Chg Non ws (w9.drew.alloc (.cells #[] 61))) := HCD.out.alloc _
      have HXD := Lib.hid (HXG.out _ HCA.out)
      have HSB := Lib.hid (rfl : sameB p o = sameB p o)
      have hxx := (HXG.out (w9.drew.alloc (.cells #[] 61)) HCA.out).at8 HP.out
      have z0a := hxx.c0
      have z1a := hxx.c1
      have z2a := hxx.c2
      have z3a := hxx.c3
      have z4a := hxx.c4
      have z5a := hxx.c5
      have z6a := hxx.c6
      have z7a := hxx.c7
      have hbb := HBG.out (w9.drew.alloc (.cells #[] 61)) HCA.out
      have y0a := hbb.cell 0
      have y1a := hbb.cell 1
      have y2a := hbb.cell 2
      have y3a := hbb.cell 3
      have y4a := hbb.cell 4
      have y5a := hbb.cell 5
      have y6a := hbb.cell 6
      have y7a := hbb.cell 7
      simp [OpV.cells] at y0a y1a y2a y3a y4a y5a y6a y7a
      clear hxx hbb
      have hs9 := HC9b.out.size
      have HC9s : Hid (ws.heap.size ≤ w9.heap.size) := hs9
      have hse := HSE.out
      clear HSE HSB HYG HPG HOG HSM HC9b
      generalize sameB p o = q at *
      by_cases hc21 : c2 = 1
      case' pos => have hm1 : m = 1 := by omega
      case' neg => have hm1 : 1 < c2 := by omega
      case' pos =>
        subst hm1
        subst hc21
        have HS3p : Hid (∀ wz cb, Chg Non ws wz → Calls Try.prog 57 #[.slice (some ⟨bx, ox, none⟩) 1 1, .slice (some ⟨bx, ox, none⟩) 0 cb] wz fun e w' => e = .returned (.bool false) ∧ Chg Non wz w') := fun wz cb h => HS3.out wz ox cb h (.inr rfl)
      case' neg => have HS3p : Hid (∀ wz cb, Chg Non ws wz → Calls Try.prog 57 #[.slice (some ⟨bx, ox, none⟩) m c2, .slice (some ⟨bx, ox + 8, none⟩) (m - 1) cb] wz fun e w' => e = .returned (.bool false) ∧ Chg Non wz w') := fun wz cb h => HS3.out wz (ox + 8) cb h (.inl rfl)
      all_goals
        go_wp2_with fail
        go_region_held_law (fun w' => w'.cell? ⟨bx, ox + k * 8, none⟩ = some (.int .i64 p.k) ∧ w'.cell? ⟨bx, ox + k * 8 + 1, none⟩ = some (.int .i64 p.th) ∧ w'.cell? ⟨bx, ox + k * 8 + 2, none⟩ = some (.int .i64 p.a) ∧ w'.cell? ⟨bx, ox + k * 8 + 3, none⟩ = some (.int .i64 p.b) ∧ w'.cell? ⟨bx, ox + k * 8 + 4, none⟩ = some (.int .i64 p.v) ∧ w'.cell? ⟨bx, ox + k * 8 + 5, none⟩ = some (.int .i64 p.n) ∧ w'.cell? ⟨bx, ox + k * 8 + 6, none⟩ = some (.int .i64 p.m) ∧ w'.cell? ⟨bx, ox + k * 8 + 7, none⟩ = some (.slice p.da p.dn p.dc) ∧ w'.cell? ⟨w.heap.size, 0, none⟩ = some (.int .i64 o.k) ∧ w'.cell? ⟨w.heap.size, 1, none⟩ = some (.int .i64 o.th) ∧ w'.cell? ⟨w.heap.size, 2, none⟩ = some (.int .i64 o.a) ∧ w'.cell? ⟨w.heap.size, 3, none⟩ = some (.int .i64 o.b) ∧ w'.cell? ⟨w.heap.size, 4, none⟩ = some (.int .i64 o.v) ∧ w'.cell? ⟨w.heap.size, 5, none⟩ = some (.int .i64 o.n) ∧ w'.cell? ⟨w.heap.size, 6, none⟩ = some (.int .i64 o.m) ∧ w'.cell? ⟨w.heap.size, 7, none⟩ = some (.slice o.da o.dn o.dc)) (go_keep) (first
          | (refine step_append_Own rfl _ _ 58 rfl 61 i0 _ 8 80 Try.underlying58 hi hz0 hz1 hz2 rfl (by decide) _ 0 _ _ rfl (own_emptyOp w9.drew) _ _ _ rfl (HXD.out.srcAll _) (by unfold maxLen; omega) (by omega) ?_; intro v' w' g' hown hchg hg'; obtain ⟨a5, c5, rfl, hc5, hm5⟩ := hown.slice; have hc7 := HCA.out.trans hchg (H := Non) (fun _ _ h => h) (fun i hi h => by have h2 : some w9.drew.heap.size = some i := h; simp at h2; have := HC9s.out; omega); have HC7 := Lib.hid hc7; (simp only [Nat.zero_add, List.nil_append] at hown); (simp only [Nat.zero_add]); have HXC := Lib.hid (opl_own HLM.out (HXG.out _ hc7).ok hown); clear z0 z1 z2 z3 z4 z5 z6 z7 y0 y1 y2 y3 y4 y5 y6 y7; have hxx := (HXG.out w' HC7.out).at8 HP.out; have z0 := hxx.c0; have z1 := hxx.c1; have z2 := hxx.c2; have z3 := hxx.c3; have z4 := hxx.c4; have z5 := hxx.c5; have z6 := hxx.c6; have z7 := hxx.c7; have hbb := HBG.out w' HC7.out; have y0 := hbb.cell 0; have y1 := hbb.cell 1; have y2 := hbb.cell 2; have y3 := hbb.cell 3; have y4 := hbb.cell 4; have y5 := hbb.cell 5; have y6 := hbb.cell 6; have y7 := hbb.cell 7; simp [OpV.cells] at y0 y1 y2 y3 y4 y5 y6 y7; clear hxx hbb; clear hown hchg hg' hc7)
          | (go_at_call 57; (with_reducible refine (HS1.out _ _ _ HC7.out HXC.out).mono ?_); rintro e w10 ⟨rfl, hc10⟩; have hc11 := HC7.out.tr hc10; clear z0 z1 z2 z3 z4 z5 z6 z7 y0 y1 y2 y3 y4 y5 y6 y7; have HC11 := Lib.hid hc11; have hxx := (HXG.out w10 HC11.out).at8 HP.out; have z0 := hxx.c0; have z1 := hxx.c1; have z2 := hxx.c2; have z3 := hxx.c3; have z4 := hxx.c4; have z5 := hxx.c5; have z6 := hxx.c6; have z7 := hxx.c7; have hbb := HBG.out w10 HC11.out; have y0 := hbb.cell 0; have y1 := hbb.cell 1; have y2 := hbb.cell 2; have y3 := hbb.cell 3; have y4 := hbb.cell 4; have y5 := hbb.cell 5; have y6 := hbb.cell 6; have y7 := hbb.cell 7; simp [OpV.cells] at y0 y1 y2 y3 y4 y5 y6 y7; clear hxx hbb; clear hc10 hc11)
          | (go_at_call 57; (with_reducible refine (HS2.out _ HC11.out).mono ?_); rintro e w12 ⟨rfl, hc10⟩; have hc11 := HC11.out.tr hc10; clear z0 z1 z2 z3 z4 z5 z6 z7 y0 y1 y2 y3 y4 y5 y6 y7; have HC13 := Lib.hid hc11; have hxx := (HXG.out w12 HC13.out).at8 HP.out; have z0 := hxx.c0; have z1 := hxx.c1; have z2 := hxx.c2; have z3 := hxx.c3; have z4 := hxx.c4; have z5 := hxx.c5; have z6 := hxx.c6; have z7 := hxx.c7; have hbb := HBG.out w12 HC13.out; have y0 := hbb.cell 0; have y1 := hbb.cell 1; have y2 := hbb.cell 2; have y3 := hbb.cell 3; have y4 := hbb.cell 4; have y5 := hbb.cell 5; have y6 := hbb.cell 6; have y7 := hbb.cell 7; simp [OpV.cells] at y0 y1 y2 y3 y4 y5 y6 y7; clear hxx hbb; clear hc10 hc11)
          | (go_at_call 57; (with_reducible refine (HS3p.out _ _ HC13.out).mono ?_); rintro e w14 ⟨rfl, hc10⟩; have hc11 := HC13.out.tr hc10; clear z0 z1 z2 z3 z4 z5 z6 z7 y0 y1 y2 y3 y4 y5 y6 y7; have HC15 := Lib.hid hc11; have hxx := (HXG.out w14 HC15.out).at8 HP.out; have z0 := hxx.c0; have z1 := hxx.c1; have z2 := hxx.c2; have z3 := hxx.c3; have z4 := hxx.c4; have z5 := hxx.c5; have z6 := hxx.c6; have z7 := hxx.c7; have hbb := HBG.out w14 HC15.out; have y0 := hbb.cell 0; have y1 := hbb.cell 1; have y2 := hbb.cell 2; have y3 := hbb.cell 3; have y4 := hbb.cell 4; have y5 := hbb.cell 5; have y6 := hbb.cell 6; have y7 := hbb.cell 7; simp [OpV.cells] at y0 y1 y2 y3 y4 y5 y6 y7; clear hxx hbb; clear hc10 hc11)
          | (go_at_call 44; (with_reducible refine (HO1.out _ HC15.out).mono ?_); rintro e w16 ⟨a7, c7, g7, rfl, ho, hg, hc4⟩; (simp only [Nat.zero_add, List.nil_append] at ho); (simp only [Nat.zero_add]); have hc5 := HC15.out.tr (hc4.mono (G := Non) (fun _ _ h => by cases h)); have HC17 := Lib.hid hc5; have hcvC := conv_str (c := c7) (bys_own rfl ho); have HYC := Lib.hid (bys_own rfl ho); clear z0 z1 z2 z3 z4 z5 z6 z7 y0 y1 y2 y3 y4 y5 y6 y7; have hxx := (HXG.out w16 HC17.out).at8 HP.out; have z0 := hxx.c0; have z1 := hxx.c1; have z2 := hxx.c2; have z3 := hxx.c3; have z4 := hxx.c4; have z5 := hxx.c5; have z6 := hxx.c6; have z7 := hxx.c7; have hbb := HBG.out w16 HC17.out; have y0 := hbb.cell 0; have y1 := hbb.cell 1; have y2 := hbb.cell 2; have y3 := hbb.cell 3; have y4 := hbb.cell 4; have y5 := hbb.cell 5; have y6 := hbb.cell 6; have y7 := hbb.cell 7; simp [OpV.cells] at y0 y1 y2 y3 y4 y5 y6 y7; clear hxx hbb; clear ho hg hc4 hc5)
          | (go_at_call 44; (with_reducible refine (HO2.out _ HC17.out).mono ?_); rintro e w18 ⟨a8, c8, g8, rfl, ho, hg, hc4⟩; (simp only [Nat.zero_add, List.nil_append] at ho); (simp only [Nat.zero_add]); have hc5 := HC17.out.tr (hc4.mono (G := Non) (fun _ _ h => by cases h)); have HC19 := Lib.hid hc5; have hcvC2 := conv_str (c := c7) (HYC.out.chg (hc4.mono (G := Non) (fun _ _ h => by cases h)) (fun _ _ h => h)); have hcvD := conv_str (c := c8) (bys_own rfl ho); clear z0 z1 z2 z3 z4 z5 z6 z7 y0 y1 y2 y3 y4 y5 y6 y7; have hxx := (HXG.out w18 HC19.out).at8 HP.out; have z0 := hxx.c0; have z1 := hxx.c1; have z2 := hxx.c2; have z3 := hxx.c3; have z4 := hxx.c4; have z5 := hxx.c5; have z6 := hxx.c6; have z7 := hxx.c7; have hbb := HBG.out w18 HC19.out; have y0 := hbb.cell 0; have y1 := hbb.cell 1; have y2 := hbb.cell 2; have y3 := hbb.cell 3; have y4 := hbb.cell 4; have y5 := hbb.cell 5; have y6 := hbb.cell 6; have y7 := hbb.cell 7; simp [OpV.cells] at y0 y1 y2 y3 y4 y5 y6 y7; clear hxx hbb; clear ho hg hc4 hc5))
      all_goals
        go_wp2_with fail
        go_ret
        exact ⟨rfl, (HCB.out.tr HC19.out).below⟩

end Go.Proofs.Ytabeolmfgmbfaaa
