/- Package quar: Put. -/
import Derived.Test.YtabeolmfgmbfaaaQuar
import Derived.Test.YtabeolmfgmbfaaaSep
import Derived.Deep.RegionHeldLaw
import Derived.Deep.DrawnRows
import Derived.IntWalk
namespace Go.Proofs.Ytabeolmfgmbfaaa
open Go.RowKit
set_option linter.unusedVariables false
set_option linter.unusedSimpArgs false
attribute [local go_sem ↓] Go.wp_at_zero Go.wp_at_succ

/-- The epoch of the last batch. -/
def lastEp (ls : List (List It)) : Option Int := (ls.getLast?.bind List.head?).map It.ep
/-- What Put does to batches. -/
def putS (ls : List (List It)) (x : It) : Option (List (List It)) := match lastEp ls with
  | none => some (ls ++ [[x]])
  | some e => if x.ep < e then none else if e = x.ep then some (ls.dropLast ++ [ls.getLast?.getD [] ++ [x]]) else some (ls ++ [[x]])

theorem Try.info_item : (Try.prog.info? 79).map (fun i => (i.zero, i.size, i.bytes)) = some (some (.agg #[.int .i64 0, .int .i64 0, .int .i64 0, .int .i64 0, .int .i64 0]), 5, 40) := by kernel_rfl
theorem Try.info_items : (Try.prog.info? 75).map (fun i => (i.zero, i.size, i.bytes)) = some (some (.slice none 0 0), 1, 24) := by kernel_rfl

/-- The last batch, taken apart. -/
theorem last_of {bs : List Bt} (h : bs ≠ []) : ∃ bs0 x, bs = bs0 ++ [x] := ⟨bs.dropLast, bs.getLast h, (List.dropLast_concat_getLast h).symm⟩

def PutNo (w : World) (e : Ending) (w' : World) : Prop := e = .returned (.bool false) ∧ Chg Non w w'

/-- A batch, as an assertion; the batches and what leads to them. -/
def btAs (x : Bt) : As := own 79 5 x.val x.its.length (cellsI x.its)
def quarR (bq : Nat) (bs : List Bt) (bytes : Int) (la : Option Addr) (lc : Nat) : List As :=
  blk bq #[.slice la bs.length lc, .int .i64 bytes] 74 :: own 75 1 (.slice la bs.length lc) bs.length (bs.map Bt.val) :: bs.map btAs
/-- What waits: lists of items, one for each batch, none empty. -/
def quarAt (bq : Nat) (ls : List (List It)) (bytes : Int) : As :=
  some' fun p : List Bt × Option Addr × Nat => fact (p.1.map Bt.its = ls ∧ ∀ l ∈ ls, l ≠ []) (sep (quarR bq p.1 bytes p.2.1 p.2.2))

theorem bts_of : ∀ {bs : List Bt} {w : World} {F : Nat → Prop}, Sep (bs.map btAs) w F → (∀ x ∈ bs, x.its ≠ []) → (∀ x ∈ bs, x.ok w) ∧ (bs.map Bt.b).Pairwise (· ≠ ·) ∧ ∀ x ∈ bs, F x.b
  | [], _, _, _, _ => ⟨by simp, by simp, by simp⟩
  | x :: bs, w, F, ⟨G, H, ⟨g, ho, hg⟩, hs, e, d⟩, hn => by
    obtain ⟨i1, i2, i3⟩ := bts_of hs (fun y hy => hn y (List.mem_cons_of_mem _ hy))
    have hx : g = some x.b := by
      rcases ho.2 with ⟨h, h2, _⟩ | ⟨b, off, cap, cur, hv, hgb, _⟩
      · exact absurd (List.eq_nil_of_length_eq_zero h2) (hn x (List.mem_cons_self ..))
      · cases hv; exact hgb
    subst hx
    have hG : G x.b := (hg x.b).2 rfl
    refine ⟨fun y hy => ?_, ?_, fun y hy => ?_⟩
    · rcases List.mem_cons.1 hy with rfl | hy
      · exact ⟨List.length_pos_iff.2 (hn y (List.mem_cons_self ..)), ho⟩
      · exact i1 y hy
    · rw [List.map_cons, List.pairwise_cons]
      refine ⟨fun b hb => ?_, i2⟩
      obtain ⟨y, hy, rfl⟩ := List.mem_map.1 hb
      intro hxy
      exact d x.b hG (hxy ▸ i3 y hy)
    · rcases List.mem_cons.1 hy with rfl | hy
      · exact (e _).2 (.inl hG)
      · exact (e _).2 (.inr (i3 y hy))

theorem qat_of {bq : Nat} {bs : List Bt} {bytes : Int} {la : Option Addr} {lc : Nat} {w : World} {F : Nat → Prop} (h : Sep (quarR bq bs bytes la lc) w F) (hn : ∀ x ∈ bs, x.its ≠ []) : ∃ go, QAt w bq bs bytes la lc go := by
  obtain ⟨G, H, hb, ⟨G2, H2, ⟨go, ho, hgo⟩, hs, e2, d2⟩, e, d⟩ := h
  obtain ⟨i1, i2, i3⟩ := bts_of hs hn
  have hq : G bq := (hb.2 bq).2 rfl
  refine ⟨go, hb.1, ho, i1, i2, fun x hx => ⟨fun hxb => ?_, fun hg => ?_⟩, fun hg => ?_⟩
  · exact d bq hq ((e2 bq).2 (.inr (hxb ▸ i3 x hx)))
  · exact d2 x.b ((hgo x.b).2 hg) (i3 x hx)
  · exact d bq hq ((e2 bq).2 (.inl ((hgo bq).2 hg)))

def PutYes (bq : Nat) (bytes : Int) (ls : List (List It)) (F : Nat → Prop) (w : World) (e : Ending) (w' : World) : Prop :=
  e = .returned (.bool true) ∧ ∃ F', (quarAt bq ls bytes).on w' F' ∧ Upd w w' F F'

set_option maxHeartbeats 4000000 in
set_option maxRecDepth 100000 in
/-- An epoch that is less than the last batch's: refused. -/
theorem put_no (bq : Nat) (bs0 : List Bt) (b : Bt) (x0 : It) (r : List It) (bytes : Int) (la : Option Addr) (lc : Nat) (go : Option Nat) (x : It) (w : World) (h : QAt w bq (bs0 ++ [b]) bytes la lc go) (hb : b.its = x0 :: r) (hlt : x.ep < x0.ep) (hn : (bs0 ++ [b]).length ≤ 1000000) :
    Calls Try.prog 50 #[.pointer (some ⟨bq, 0, none⟩), .agg x.cells] w (PutNo w) := by
  have hq := h.chg ((Chg.refl Non w).alloc (.cells x.cells 79)) (fun _ _ h => h)
  obtain ⟨y, gb, off, hy, rfl, _, hc, _, hok⟩ := hq.at (j := bs0.length) (by simp)
  simp at hy
  subst hy
  obtain ⟨_, hown⟩ := hok
  have hi0 := hown.at (j := 4) (by rw [hb, List.length_cons]; omega)
  obtain ⟨b', o', he, _, hc4, _⟩ := hi0
  have he2 : b' = b.b ∧ o' = b.off := by cases he; exact ⟨rfl, rfl⟩
  obtain ⟨rfl, rfl⟩ := he2
  rw [hb] at hc4
  have hc4' : (w.alloc (.cells x.cells 79)).cell? ⟨b.b, b.off + 4, none⟩ = some (.int .i64 x0.ep) := hc4
  have c0 : (w.alloc (.cells x.cells 79)).cell? ⟨bq, 0, none⟩ = some (.slice (some ⟨gb, off, none⟩) (bs0 ++ [b]).length lc) := hq.blk.cell 0
  have z4 : (w.alloc (.cells x.cells 79)).cell? ⟨w.heap.size, 4, none⟩ = some (.int .i64 x.ep) := (Blk.new w x.cells 79).cell 4
  have hlen : (bs0 ++ [b]).length = bs0.length + 1 := by simp
  rw [hlen] at c0 hn
  unfold Bt.val at hc
  rw [hb] at hc
  have hcap : (x0 :: r).length ≤ b.cap := by
    have := hown.slice
    unfold Bt.val at this
    obtain ⟨a, c, hv, h1, _⟩ := this
    cases hv
    rw [← hb]; exact h1
  generalize bs0.length = k at *
  have hlr : (x0 :: r).length = r.length + 1 := rfl
  rw [hlr] at hc hcap
  generalize r.length = rl at *
  clear hq hown he hc4 h hlen hlr hb
  go_enter Try.func50, Try.ntmps50
  go_wp2_with fail
  go_quiet (fail)
  all_goals
    go_wp2_with fail
    go_ret
    exact ⟨rfl, ((Chg.refl _ _).alloc _).drewN _⟩

/-- What the tests of Put read, in every world behind. -/
structure Last (w : World) (bq : Nat) (n : Nat) (gb off lc : Nat) (b : Bt) (x0 : It) (rl : Nat) : Prop where
  c0 : w.cell? ⟨bq, 0, none⟩ = some (.slice (some ⟨gb, off, none⟩) (n + 1) lc)
  hc : w.cell? ⟨gb, off + n, none⟩ = some (.slice (some ⟨b.b, b.off, none⟩) (rl + 1) b.cap)
  hf : w.frozen? ⟨gb, off + n, none⟩ = false
  h4 : w.cell? ⟨b.b, b.off + 4, none⟩ = some (.int .i64 x0.ep)
  cap : rl + 1 ≤ b.cap
theorem QAt.last {w : World} {bq : Nat} {bs0 : List Bt} {b : Bt} {x0 : It} {r : List It} {bytes : Int} {gb off lc : Nat} {go : Option Nat} (h : QAt w bq (bs0 ++ [b]) bytes (some ⟨gb, off, none⟩) lc go) (hb : b.its = x0 :: r) : Last w bq bs0.length gb off lc b x0 r.length := by
  obtain ⟨y, gb', off', hy, ha, _, hc, hf, hok⟩ := h.at (j := bs0.length) (by simp)
  cases ha
  simp at hy
  subst hy
  obtain ⟨_, hown⟩ := hok
  obtain ⟨b', o', he, _, hc4, _⟩ := hown.at (j := 4) (by rw [hb, List.length_cons]; omega)
  have he2 : b' = b.b ∧ o' = b.off := by cases he; exact ⟨rfl, rfl⟩
  obtain ⟨rfl, rfl⟩ := he2
  rw [hb] at hc4
  unfold Bt.val at hc
  rw [hb] at hc
  have hcap : (x0 :: r).length ≤ b.cap := by
    have := hown.slice
    unfold Bt.val at this
    obtain ⟨a, c, hv, h1, _⟩ := this
    cases hv
    rw [← hb]; exact h1
  refine ⟨?_, hc, hf, hc4, hcap⟩
  have h0 := h.blk.cell 0
  simpa using h0



/-- The last batch is of an epoch before x's, or there is none. -/
def Older (bs : List Bt) (x : It) : Prop := bs = [] ∨ ∃ bs0 b x0 r, bs = bs0 ++ [b] ∧ b.its = x0 :: r ∧ x0.ep < x.ep

theorem older_of {w : World} {bq : Nat} {bs : List Bt} {bytes : Int} {la : Option Addr} {lc : Nat} {go : Option Nat} {x : It} (h : QAt w bq bs bytes la lc go) (ho : Older bs x) :
    bs.length = 0 ∨ ∃ gb off b x0 rl n0, la = some ⟨gb, off, none⟩ ∧ x0.ep < x.ep ∧ bs.length = n0 + 1 ∧ Last w bq n0 gb off lc b x0 rl := by
  rcases ho with rfl | ⟨bs0, b, x0, r, rfl, hb, hlt⟩
  · exact .inl rfl
  · obtain ⟨y, gb, off, _, rfl, _⟩ := h.at (j := bs0.length) (by simp)
    exact .inr ⟨gb, off, b, x0, r.length, bs0.length, rfl, hlt, by simp, h.last hb⟩

/-- Behind the append of a new batch. -/
def Put8 (bx : Nat) (cx : Array Value) (bq : Nat) (bs : List Bt) (bytes : Int) (F : Nat → Prop) (w wx : World) : Prop :=
  ∃ (a5 : Option Addr) (c5 : Nat) (F3 : Nat → Prop), Sep (blk bx cx 79 :: quarR bq bs bytes a5 c5) wx F3 ∧ Upd w wx F F3
theorem put8 {w' wb : World} {F2 FB : Nat → Prop} {bx bq : Nat} {cx : Array Value} {bs : List Bt} {nw : Bt} {la a5 : Option Addr} {lc c5 : Nat} {bytes : Int} {n : Nat} (hl : bs.length = n)
    (h : Sep (own 75 1 (.slice a5 (n + 1) c5) (n + 1) (bs.map Bt.val ++ [nw.val]) :: btAs nw :: blk bx cx 79 :: blk bq #[.slice la bs.length lc, .int .i64 bytes] 74 :: bs.map btAs) w' F2) (u : Upd wb w' FB F2) :
    Put8 bx cx bq (bs ++ [nw]) bytes FB wb (w'.setCell ⟨bq, 0, none⟩ (.slice a5 (n + 1) c5)) := by
  obtain ⟨F3, h3, u3⟩ := (blk_focus (h.bring 3 rfl)).2.2 0 (.slice a5 (n + 1) c5)
  refine ⟨a5, c5, F3, ?_, u.trans u3⟩
  have h4 := h3.bring 3 rfl
  have e : (bs ++ [nw]).length = n + 1 := by simp [hl]
  unfold quarR
  rw [e, List.map_append, List.map_append, List.map_singleton, List.map_singleton]
  exact h4.perm ((((List.perm_append_singleton (btAs nw) (bs.map btAs)).symm.cons _).cons _).cons _)

theorem put9 {wc w : World} {F3 F : Nat → Prop} {bx bq : Nat} {cx : Array Value} {bs : List Bt} {la : Option Addr} {lc : Nat} {bytes b2 : Int} {ls : List (List It)}
    (h : Sep (blk bx cx 79 :: quarR bq bs bytes la lc) wc F3) (u : Upd w wc F F3) (hb : bs.map Bt.its = ls) (hn : ∀ l ∈ ls, l ≠ []) :
    ∃ F', (quarAt bq ls b2).on (wc.setCell ⟨bq, 1, none⟩ (.int .i64 b2)).drew F' ∧ Upd w (wc.setCell ⟨bq, 1, none⟩ (.int .i64 b2)).drew F F' := by
  obtain ⟨G, h1, u1⟩ := h.drop
  obtain ⟨F4, h4, u4⟩ := (blk_focus h1).2.2 1 (.int .i64 b2)
  have hd : Chg Non (wc.setCell ⟨bq, 1, none⟩ (.int .i64 b2)) (wc.setCell ⟨bq, 1, none⟩ (.int .i64 b2)).drew := (Chg.refl _ _).drew
  exact ⟨F4, ⟨(bs, la, lc), ⟨hb, hn⟩, Sep.non h4 hd⟩, ((u.trans u1).trans u4).chgNon hd⟩

theorem own_one {w : World} {b : Nat} {x : It} (h : Blk w b x.cells 79) : Own w 79 5 (.slice (some ⟨b, 0, none⟩) 1 1) 1 (cellsI [x]) (some b) :=
  ⟨cellsI_length [x], .inr ⟨b, 0, 1, x.cells, rfl, rfl, h, Nat.le_refl _, by decide, Nat.le_refl 5, by
    show (x.cells.toList.drop 0).take 5 = cellsI [x]
    simp [cellsI, It.cells]⟩⟩

set_option maxHeartbeats 6000000 in
set_option maxRecDepth 100000 in
/-- A new batch. -/
theorem put_new (bq : Nat) (bs : List Bt) (bytes : Int) (la : Option Addr) (lc : Nat) (x : It) (w : World) (F : Nat → Prop) (h : Sep (quarR bq bs bytes la lc) w F) (hne : ∀ y ∈ bs, y.its ≠ []) (hold : Older bs x) (hn : bs.length ≤ 1000000) (hy : -4611686018427387904 ≤ bytes ∧ bytes ≤ 4611686018427387904) (hx : -4611686018427387904 ≤ x.room ∧ x.room ≤ 4611686018427387903) :
    Calls Try.prog 50 #[.pointer (some ⟨bq, 0, none⟩), .agg x.cells] w (PutYes bq (bytes + x.room) (bs.map Bt.its ++ [[x]]) F w) := by
  obtain ⟨i0, hi, hz0, hz1, hz2⟩ := info_parts Try.info_items
  obtain ⟨F1, h1, u1⟩ := h.pushBlk x.cells 79
  obtain ⟨go, hq⟩ := qat_of (h1.tail.choose_spec.1) hne
  have HS := Lib.hid h1
  have HU := Lib.hid u1
  have HN := Lib.hid hne
  have c0 := hq.blk.cell 0
  have z4 : (w.alloc (.cells x.cells 79)).cell? ⟨w.heap.size, 4, none⟩ = some (.int .i64 x.ep) := (Blk.new w _ _).cell 4
  generalize hnk : bs.length = n at *
  have HNK := Lib.hid hnk
  have HQ := Lib.hid hq
  have HO := Lib.hid hold
  clear h h1 u1 hne hq hnk hold
  go_enter Try.func50, Try.ntmps50
  go_wp2_with fail
  go_cut [30] (fun v wx => v = .bool false ∧ Hid (Chg Non (w.alloc (.cells x.cells 79)) wx))
  case first =>
    rcases older_of HQ.out HO.out with h0 | ⟨gb, off, b, x0, rl, n0, hla, hlt, hn0, hl⟩
    · obtain rfl : n = 0 := by rw [← HNK.out]; exact h0
      clear h0
      go_quiet (fail)
      all_goals
        go_wp2_with fail
        go_meet
        exact ⟨rfl, (Chg.refl _ _).drewN _⟩
    · obtain rfl : n = n0 + 1 := by rw [← HNK.out]; exact hn0
      subst hla
      obtain ⟨l0, lc1, lf1, l4, lcap⟩ := hl
      have hle : ¬ x.ep < x0.ep := by omega
      clear hn0 c0
      go_quiet (fail)
      all_goals
        go_wp2_with fail
        go_meet
        exact ⟨rfl, (Chg.refl _ _).drewN _⟩
  case rest =>
    obtain ⟨rfl, HW⟩ := hcut
    clear c0 z4
    obtain ⟨wa, hwa⟩ : ∃ wa, wa = wc := ⟨_, rfl⟩
    subst hwa
    have HSA := Lib.hid (HS.out.non HW.out)
    have HUA := Lib.hid (HU.out.chgNon HW.out)
    have HQA := Lib.hid (HQ.out.chg HW.out (fun _ _ h => h))
    have c0 := HQA.out.blk.cell 0
    have z4 : wa.cell? ⟨w.heap.size, 4, none⟩ = some (.int .i64 x.ep) := (HSA.out.blkAt 0 rfl).cell 4
    simp only [List.getElem?_toArray, List.getElem?_cons_zero] at c0
    rw [HNK.out] at c0
    clear HS HU HQ HW
    go_upto_region 6 with fail
    go_cut [48] (fun v wx => v = .bool false ∧ Hid (Chg Non wa wx))
    case first =>
      rcases older_of HQA.out HO.out with h0 | ⟨gb, off, b, x0, rl, n0, hla, hlt, hn0, hl⟩
      · obtain rfl : n = 0 := by rw [← HNK.out]; exact h0
        clear h0
        go_quiet (fail)
        all_goals
          go_wp2_with fail
          go_meet
          exact ⟨rfl, (Chg.refl _ _).drewN _⟩
      · obtain rfl : n = n0 + 1 := by rw [← HNK.out]; exact hn0
        subst hla
        obtain ⟨l0, lc1, lf1, l4, lcap⟩ := hl
        have hne : (x0.ep == x.ep) = false := by simp; omega
        clear hn0 c0
        go_quiet (fail)
        all_goals
          go_wp2_with fail
          go_meet
          exact ⟨rfl, (Chg.refl _ _).drewN _⟩
    case rest =>
      obtain ⟨rfl, HW⟩ := hcut
      clear c0 z4
      obtain ⟨wb, hwb⟩ : ∃ wb, wb = wc := ⟨_, rfl⟩
      subst hwb
      have HSB := Lib.hid (HSA.out.non HW.out)
      have HUB := Lib.hid (HUA.out.chgNon HW.out)
      clear HSA HUA HQA HW
      have HCD : Chg Non wb ((wb.drew.alloc (.cells #[.int .i64 x.at_, .int .i64 x.room, .int .i64 x.cls, .int .i64 x.th, .int .i64 x.ep] 79)).alloc (.cells #[.slice (some ⟨wb.heap.size, 0, none⟩) 1 1] 75)) := ((Chg.refl Non wb).drew.alloc _).alloc _
      obtain ⟨FD, hsd, hud⟩ := HSB.out.pushOwnAt HCD (own_one (x := x) ((Blk.newAt wb.drew x.cells 79 rfl).alloc _)) (fun k hk => by cases hk; exact Nat.le_refl _)
      obtain ⟨g0, hown, hK⟩ := own_focus (hsd.bring 3 rfl)
      have HK := Lib.hid hK
      have HOW := Lib.hid hown
      have HUD := Lib.hid (HUB.out.trans hud)
      clear hsd hud hown hK HCD
      have c0 := (HSB.out.blkAt 1 rfl).cell 0
      simp only [List.getElem?_toArray, List.getElem?_cons_zero] at c0
      rw [HNK.out] at c0
      have hzb := HSB.out.blkAt 0 rfl
      have z0 := hzb.cell 0; have z1 := hzb.cell 1; have z2 := hzb.cell 2; have z3 := hzb.cell 3; have z4 := hzb.cell 4
      simp [It.cells] at z0 z1 z2 z3 z4
      clear hzb
      have hbw : bq < wb.heap.size := (HSB.out.blkAt 1 rfl).lt
      have hxw : w.heap.size < wb.heap.size := (HSB.out.blkAt 0 rfl).lt
      have hne1 : w.heap.size ≠ bq := Sep.ne HSB.out
      have hne2 : bq ≠ w.heap.size := fun e => hne1 e.symm
      go_upto_region 8 with fail
      go_cut [75] (fun v wx => Hid (Put8 w.heap.size x.cells bq (bs ++ [⟨wb.heap.size, 0, 1, [x]⟩]) bytes F w wx))
      case first =>
       have HOWV := HOW.out
       rw [HNK.out] at HOWV
       have HOW2 := Lib.hid HOWV
       clear HOWV HOW
       go_region_law ((refine step_append_Own rfl _ _ 72 rfl 75 i0 _ 1 24 Try.underlying72 hi hz0 hz1 hz2 rfl (by decide) _ n _ g0 rfl HOW2.out _ 1 _ rfl (src_one (u := .slice (some ⟨wb.heap.size, 0, none⟩) 1 1) (Blk.newAt _ _ _ (by simp)) rfl rfl) (by unfold maxLen; omega) (by omega) ?_; intro v' w' g' hown hchg hg'; obtain ⟨a5, c5, rfl, hc5, hm5⟩ := hown.slice; obtain ⟨F2, hs2, hu2⟩ := HK.out _ _ _ _ _ hown hchg hg'; have HS2 := Lib.hid hs2; have HU2 := Lib.hid hu2; have hqk := hs2.blkAt 3 rfl; clear c0 z0 z1 z2 z3 z4 hs2 hu2 hown hchg hg'; have c0 := hqk.cell 0; have f0' := hqk.free 0; simp only [List.getElem?_toArray, List.getElem?_cons_zero] at c0; clear hqk))
       all_goals
        go_wp2_with fail
        go_meet
        exact put8 HNK.out HS2.out (HUD.out.trans HU2.out)
      case rest =>
        obtain ⟨a5, c5, F3, h3, u3⟩ := hcut.out
        clear hcut c0 z0 z1 z2 z3 z4
        have c1 := (h3.blkAt 1 rfl).cell 1
        have f1 := (h3.blkAt 1 rfl).free 1
        have z1 := (h3.blkAt 0 rfl).cell 1
        simp [It.cells] at c1 z1
        have H3 := Lib.hid h3
        have U3 := Lib.hid u3
        clear h3 u3
        go_wp2_with fail
        go_region
        go_wp2_with fail
        go_ret
        refine ⟨rfl, put9 (ls := bs.map Bt.its ++ [[x]]) H3.out U3.out (by simp) (fun l hl => ?_)⟩
        rcases List.mem_append.1 hl with hl | hl
        · obtain ⟨y, hy, rfl⟩ := List.mem_map.1 hl
          exact HN.out y hy
        · simp at hl
          subst hl
          simp

/-- Behind the append to the last batch. -/
def Put7 (bx : Nat) (cx : Array Value) (bq : Nat) (bs0 : List Bt) (its : List It) (bytes : Int) (F : Nat → Prop) (w wx : World) : Prop :=
  ∃ b' : Bt, b'.its = its ∧ Put8 bx cx bq (bs0 ++ [b']) bytes F w wx
theorem quarR_snoc (bq : Nat) (bs0 : List Bt) (b : Bt) (bytes : Int) (la : Option Addr) (lc : Nat) : quarR bq (bs0 ++ [b]) bytes la lc =
    blk bq #[.slice la (bs0.length + 1) lc, .int .i64 bytes] 74 :: own 75 1 (.slice la (bs0.length + 1) lc) (bs0.length + 1) (bs0.map Bt.val ++ [b.val]) :: (bs0.map btAs ++ [btAs b]) := by
  unfold quarR
  simp
theorem perm_back (o nb bx q : As) (r : List As) : (o :: nb :: bx :: q :: r).Perm (bx :: q :: o :: (r ++ [nb])) :=
  (bring_perm (l := o :: nb :: bx :: q :: r) 2 rfl).trans (((bring_perm (l := o :: nb :: q :: r) 2 rfl).trans (((List.perm_append_singleton nb r).symm.cons _).cons _)).cons _)
theorem perm_front (bx q o nb : As) (r : List As) : (bx :: q :: o :: (r ++ [nb])).Perm (nb :: bx :: q :: o :: r) :=
  (((List.perm_append_singleton nb r).cons o).cons q |>.cons bx).trans (bring_perm (l := bx :: q :: o :: nb :: r) 3 rfl)
theorem put7 {w' w : World} {F2 FB : Nat → Prop} {bx bq : Nat} {cx : Array Value} {bs0 : List Bt} {b : Bt} {a7 : Option Addr} {gb off lc c7 : Nat} {bytes : Int} {x : It} {m n : Nat} (hm : b.its.length = m) (hn : bs0.length = n)
    (h : Sep (own 79 5 (.slice a7 (m + 1) c7) (m + 1) (cellsI b.its ++ x.cells.toList) :: blk bx cx 79 :: blk bq #[.slice (some ⟨gb, off, none⟩) (bs0.length + 1) lc, .int .i64 bytes] 74 :: own 75 1 (.slice (some ⟨gb, off, none⟩) (bs0.length + 1) lc) (bs0.length + 1) (bs0.map Bt.val ++ [b.val]) :: bs0.map btAs) w' F2) (u : Upd w w' FB F2) :
    Put7 bx cx bq bs0 (b.its ++ [x]) bytes FB w (w'.setCell ⟨gb, off + n, none⟩ (.slice a7 (m + 1) c7)) := by
  subst hn
  obtain ⟨g, hown, _⟩ := own_focus h
  obtain ⟨bb, boff, ha, _, _, _⟩ := hown.at (j := 0) (by omega)
  subst ha
  obtain ⟨g2, ho, K⟩ := own_focus (h.bring 3 rfl)
  obtain ⟨gb', off', he, hg2, _, _⟩ := ho.at (j := bs0.length) (by simp)
  cases he
  obtain ⟨F3, h3, u3⟩ := K _ _ _ _ _ (ho.store bs0.length (.slice (some ⟨bb, boff, none⟩) (m + 1) c7)) ((Chg.set1 w' gb _ _).mono fun i _ hi => by show g2 = some i; rw [hg2, show i = gb from hi]) (fun k hk => .inl hk)
  refine ⟨⟨bb, boff, c7, b.its ++ [x]⟩, rfl, some ⟨gb, off, none⟩, lc, F3, ?_, u.trans u3⟩
  have e1 : cellsI (b.its ++ [x]) = cellsI b.its ++ x.cells.toList := by simp [cellsI]
  have e2 : (bs0.map Bt.val ++ [b.val]).set bs0.length (.slice (some ⟨bb, boff, none⟩) (m + 1) c7) = bs0.map Bt.val ++ [(⟨bb, boff, c7, b.its ++ [x]⟩ : Bt).val] := by
    rw [List.set_append_right _ _ (by simp)]
    simp [Bt.val, hm]
  have e3 : btAs ⟨bb, boff, c7, b.its ++ [x]⟩ = own 79 5 (.slice (some ⟨bb, boff, none⟩) (m + 1) c7) (m + 1) (cellsI b.its ++ x.cells.toList) := by
    unfold btAs Bt.val
    simp only [List.length_append, List.length_singleton, hm, e1]
  rw [e2] at h3
  rw [quarR_snoc, e3]
  exact h3.perm (perm_back _ _ _ _ _)

set_option maxHeartbeats 6000000 in
set_option maxRecDepth 100000 in
/-- Onto the last batch. -/
theorem put_same (bq : Nat) (bs0 : List Bt) (b : Bt) (x0 : It) (r : List It) (bytes : Int) (la : Option Addr) (lc : Nat) (x : It) (w : World) (F : Nat → Prop) (h : Sep (quarR bq (bs0 ++ [b]) bytes la lc) w F) (hne : ∀ y ∈ bs0 ++ [b], y.its ≠ []) (hb : b.its = x0 :: r) (heq : x0.ep = x.ep) (hn : bs0.length + 1 ≤ 1000000) (hr : b.its.length ≤ 1000000) (hy : -4611686018427387904 ≤ bytes ∧ bytes ≤ 4611686018427387904) (hx : -4611686018427387904 ≤ x.room ∧ x.room ≤ 4611686018427387903) :
    Calls Try.prog 50 #[.pointer (some ⟨bq, 0, none⟩), .agg x.cells] w (PutYes bq (bytes + x.room) (bs0.map Bt.its ++ [b.its ++ [x]]) F w) := by
  obtain ⟨i0, hi, hz0, hz1, hz2⟩ := info_parts Try.info_item
  obtain ⟨F1, h1, u1⟩ := h.pushBlk x.cells 79
  obtain ⟨go, hq⟩ := qat_of (h1.tail.choose_spec.1) hne
  obtain ⟨y, gb, off, -, hla, -⟩ := hq.at (j := bs0.length) (by simp)
  subst hla
  have hl := hq.last hb
  have HS := Lib.hid h1
  have HU := Lib.hid u1
  have HN := Lib.hid hne
  have z4 : (w.alloc (.cells x.cells 79)).cell? ⟨w.heap.size, 4, none⟩ = some (.int .i64 x.ep) := (Blk.new w _ _).cell 4
  generalize hnk : bs0.length = n at *
  have HNK := Lib.hid hnk
  have HQ := Lib.hid hq
  have HB := Lib.hid hb
  have hmr : b.its.length = r.length + 1 := by rw [hb]; rfl
  rw [hmr] at hr
  generalize hmk : r.length = m at *
  have HMR := Lib.hid hmr
  have HMK := Lib.hid hmk
  obtain ⟨l0, lc1, lf1, l4, lcap⟩ := hl
  have hle : ¬ x.ep < x0.ep := by omega
  have heqb : (x0.ep == x.ep) = true := by simp; omega
  have hb1 : m + 1 + 1 ≤ maxLen := by unfold maxLen; omega
  have hb2 : (m + 1 + 1) * 40 ≤ 140737488355328 := by omega
  have hj1 : n < (n + 1) * 1 := by omega
  have hw2 : (n : Int) < (n : Int) + 1 := by omega
  have hw3 : (0 : Int) ≤ (n : Int) := by omega
  have hw1 : IntKind.i64.wrap (n : Int) = n := IntWalk.i64_in _ (by omega)
  clear h h1 u1 hne hq hnk hb heq hmr hmk
  go_enter Try.func50, Try.ntmps50
  go_wp2_with fail
  go_cut [30] (fun v wx => v = .bool false ∧ Hid (Chg Non (w.alloc (.cells x.cells 79)) wx))
  case first =>
    go_quiet (fail)
    all_goals
      go_wp2_with fail
      go_meet
      exact ⟨congrArg Value.bool (decide_eq_false (by omega)), (Chg.refl _ _).drewN _⟩
  case rest =>
    obtain ⟨rfl, HW⟩ := hcut
    clear l0 lc1 lf1 l4 z4
    obtain ⟨wa, hwa⟩ : ∃ wa, wa = wc := ⟨_, rfl⟩
    subst hwa
    have HSA := Lib.hid (HS.out.non HW.out)
    have HUA := Lib.hid (HU.out.chgNon HW.out)
    have HQA := Lib.hid (HQ.out.chg HW.out (fun _ _ h => h))
    have hl := HQA.out.last HB.out
    rw [HNK.out, HMK.out] at hl
    obtain ⟨l0, lc1, lf1, l4, _⟩ := hl
    have z4 : wa.cell? ⟨w.heap.size, 4, none⟩ = some (.int .i64 x.ep) := (HSA.out.blkAt 0 rfl).cell 4
    clear HS HU HQ HW
    go_upto_region 6 with fail
    go_cut [48] (fun v wx => v = .bool true ∧ Hid (Chg Non wa wx))
    case first =>
      go_quiet (fail)
      all_goals
        go_wp2_with fail
        go_meet
        exact ⟨rfl, (Chg.refl _ _).drewN _⟩
    case rest =>
      obtain ⟨rfl, HW⟩ := hcut
      clear l0 lc1 lf1 l4 z4
      obtain ⟨wb, hwb⟩ : ∃ wb, wb = wc := ⟨_, rfl⟩
      subst hwb
      have HSB := Lib.hid (HSA.out.non HW.out)
      have HUB := Lib.hid (HUA.out.chgNon HW.out)
      have hl := (HQA.out.chg HW.out (fun _ _ h => h)).last HB.out
      rw [HNK.out, HMK.out] at hl
      obtain ⟨l0, lc1, lf1, _, _⟩ := hl
      clear HSA HUA HQA HW
      have HCD : Chg Non wb (wb.drew.alloc (.cells #[.int .i64 x.at_, .int .i64 x.room, .int .i64 x.cls, .int .i64 x.th, .int .i64 x.ep] 79)) := (Chg.refl Non wb).drew.alloc _
      have hsd := HSB.out
      rw [quarR_snoc] at hsd
      obtain ⟨gb0, hown, hK⟩ := own_focus ((hsd.non HCD).perm (perm_front _ _ _ _ _))
      unfold Bt.val at hown
      rw [HMR.out] at hown
      have HK := Lib.hid hK
      have HOW := Lib.hid hown
      have HUD := Lib.hid (HUB.out.chgNon HCD)
      clear hsd hown hK HCD
      have hzb := HSB.out.blkAt 0 rfl
      have z0 := hzb.cell 0; have z1 := hzb.cell 1; have z2 := hzb.cell 2; have z3 := hzb.cell 3; have z4 := hzb.cell 4
      simp [It.cells] at z0 z1 z2 z3 z4
      clear hzb
      have hbw : bq < wb.heap.size := (HSB.out.blkAt 1 rfl).lt
      have hxw : w.heap.size < wb.heap.size := (HSB.out.blkAt 0 rfl).lt
      have hgw : gb < wb.heap.size := World.block_lt_of_cell? wb ⟨gb, off + n, none⟩ lc1
      have hsrc : Src (wb.drew.alloc (.cells #[.int .i64 x.at_, .int .i64 x.room, .int .i64 x.cls, .int .i64 x.th, .int .i64 x.ep] 79)) 5 (.slice (some ⟨wb.heap.size, 0, none⟩) 1 1) 1 x.cells.toList :=
        ⟨rfl, (by intro u hu; simp [It.cells] at hu; rcases hu with rfl | rfl | rfl | rfl | rfl <;> rfl), .inr ⟨_, _, rfl, fun j u hu => by rw [Addr.add_lit]; refine ((Blk.newAt wb.drew x.cells 79 rfl).cell (0 + j)).trans ?_; simpa using hu⟩⟩
      have HSRC := Lib.hid hsrc
      clear hsrc
      go_upto_region 7 with fail
      go_cut [65] (fun v wx => Hid (Put7 w.heap.size x.cells bq bs0 (b.its ++ [x]) bytes F w wx))
      case first =>
       go_region_law ((refine step_append_Own rfl _ _ 75 rfl 79 i0 _ 5 40 Try.underlying75 hi hz0 hz1 hz2 rfl (by decide) _ (m + 1) _ gb0 rfl HOW.out _ 1 x.cells.toList rfl HSRC.out hb1 hb2 ?_; intro v' w' g' hown hchg hg'; obtain ⟨a7, c7, rfl, hc7, hm7⟩ := hown.slice; obtain ⟨F2, hs2, hu2⟩ := HK.out _ _ _ _ _ hown hchg hg'; have HS2 := Lib.hid hs2; have HU2 := Lib.hid hu2; obtain ⟨go2, hoq⟩ := hs2.ownAt 3 rfl; obtain ⟨gb1, off1, hab, _, hca, hfa⟩ := hoq.at (j := n) (by rw [HNK.out]; exact hj1); cases hab; have l0' := (hs2.blkAt 2 rfl).cell 0; clear l0 lc1 lf1 z0 z1 z2 z3 z4 hs2 hu2 hown hchg hg' hoq; simp [HNK.out] at hca l0'))
       all_goals
        go_wp2_with fail
        go_meet
        exact put7 HMR.out HNK.out HS2.out (HUD.out.trans HU2.out)
      case rest =>
        obtain ⟨b', hb', a5, c5, F3, h3, u3⟩ := hcut.out
        clear hcut l0 lc1 lf1 z0 z1 z2 z3 z4
        have c1 := (h3.blkAt 1 rfl).cell 1
        have f1 := (h3.blkAt 1 rfl).free 1
        have z1 := (h3.blkAt 0 rfl).cell 1
        simp [It.cells] at c1 z1
        have H3 := Lib.hid h3
        have U3 := Lib.hid u3
        have HB' := Lib.hid hb'
        clear h3 u3 hb'
        go_wp2_with fail
        go_region
        go_wp2_with fail
        go_ret
        refine ⟨rfl, put9 (ls := bs0.map Bt.its ++ [b.its ++ [x]]) H3.out U3.out (by simp [HB'.out]) (fun l hl => ?_)⟩
        rcases List.mem_append.1 hl with hl | hl
        · obtain ⟨y, hy, rfl⟩ := List.mem_map.1 hl
          exact HN.out y (List.mem_append_left _ hy)
        · simp at hl
          subst hl
          simp

end Go.Proofs.Ytabeolmfgmbfaaa
