/- Package quar: Take. -/
import Derived.Test.YtabeolmfgmbfaaaQPut
import Derived.Deep.RegionHeld3
namespace Go.Proofs.Ytabeolmfgmbfaaa
open Go.RowKit
set_option linter.unusedVariables false
set_option linter.unusedSimpArgs false
attribute [local go_sem ↓] Go.wp_at_zero Go.wp_at_succ

def sumRoom (l : List It) : Int := (l.map It.room).sum
theorem sumRoom_snoc {l : List It} {k : Nat} {y : It} (h : l[k]? = some y) : sumRoom (l.take (k + 1)) = sumRoom (l.take k) + y.room := by
  unfold sumRoom
  rw [List.take_add_one, h]
  simp
def RoomOk (l : List It) : Prop := ∀ y ∈ l, 0 ≤ y.room ∧ y.room ≤ 1048576
theorem sumRoom_le : ∀ {l : List It}, RoomOk l → 0 ≤ sumRoom l ∧ sumRoom l ≤ 1048576 * l.length
  | [], _ => by simp [sumRoom]
  | y :: l, h => by
    have h1 := h y (List.mem_cons_self ..)
    have h2 := sumRoom_le (l := l) (fun z hz => h z (List.mem_cons_of_mem _ hz))
    unfold sumRoom at *
    simp only [List.map_cons, List.sum_cons, List.length_cons]
    omega
theorem sumRoom_take_le {l : List It} (h : RoomOk l) (k : Nat) : 0 ≤ sumRoom (l.take k) ∧ sumRoom (l.take k) ≤ 1048576 * l.length := by
  have h1 := sumRoom_le (l := l.take k) (fun y hy => h y (List.mem_of_mem_take hy))
  have : (l.take k).length ≤ l.length := by rw [List.length_take]; omega
  omega

def TakeNo (w : World) (e : Ending) (w' : World) : Prop := e = .returned (.slice none 0 0) ∧ Chg Non w w'
def TakeYes (bq : Nat) (bytes : Int) (its : List It) (ls : List (List It)) (F : Nat → Prop) (w : World) (e : Ending) (w' : World) : Prop :=
  ∃ (b : Bt) (F' : Nat → Prop), b.its = its ∧ e = .returned b.val ∧ Sep [btAs b, quarAt bq ls bytes] w' F' ∧ Upd w w' F F'

set_option maxHeartbeats 2000000 in
set_option maxRecDepth 100000 in
theorem take_none (bq : Nat) (bytes : Int) (la : Option Addr) (lc : Nat) (n : Int) (on : Bool) (w : World) (F : Nat → Prop) (h : Sep (quarR bq [] bytes la lc) w F) :
    Calls Try.prog 49 #[.pointer (some ⟨bq, 0, none⟩), .agg #[.int .i64 n, .bool on]] w (TakeNo w) := by
  have c0 := ((h.non ((Chg.refl Non w).alloc (.cells #[.int .i64 n, .bool on] 24))).blkAt 0 rfl).cell 0
  simp only [List.getElem?_toArray, List.getElem?_cons_zero, List.length_nil] at c0
  clear h
  go_enter Try.func49, Try.ntmps49
  go_wp2_with fail
  go_quiet (fail)
  go_wp2_with fail
  go_ret
  exact ⟨rfl, ((Chg.refl _ _).alloc _).drewN _⟩

/-- What region 1 reads, in every world behind. -/
structure Fst (w : World) (bq be : Nat) (m : Nat) (gb off lc : Nat) (b : Bt) (x0 : It) (rl : Nat) (n : Int) (on : Bool) : Prop where
  c0 : w.cell? ⟨bq, 0, none⟩ = some (.slice (some ⟨gb, off, none⟩) (m + 1) lc)
  hc : w.cell? ⟨gb, off, none⟩ = some (.slice (some ⟨b.b, b.off, none⟩) (rl + 1) b.cap)
  h4 : w.cell? ⟨b.b, b.off + 4, none⟩ = some (.int .i64 x0.ep)
  e0 : w.cell? ⟨be, 0, none⟩ = some (.int .i64 n)
  e1 : w.cell? ⟨be, 1, none⟩ = some (.bool on)
theorem fst_of {w : World} {bq be m gb off lc rl : Nat} {bs : List Bt} {b : Bt} {x0 : It} {r : List It} {bytes n : Int} {on : Bool} {F : Nat → Prop} {R : List As}
    (h : Sep (blk be #[.int .i64 n, .bool on] 24 :: quarR bq (b :: bs) bytes (some ⟨gb, off, none⟩) lc ++ R) w F) (hne : ∀ y ∈ b :: bs, y.its ≠ []) (hb : b.its = x0 :: r) (hm : bs.length = m) (hr : r.length = rl) : Fst w bq be m gb off lc b x0 rl n on := by
  have e0 := (h.blkAt 0 rfl).cell 0
  have e1 := (h.blkAt 0 rfl).cell 1
  obtain ⟨go, hq⟩ := qat_of (show Sep (quarR bq (b :: bs) bytes (some ⟨gb, off, none⟩) lc) w _ from (Sep.frame (l := quarR bq (b :: bs) bytes (some ⟨gb, off, none⟩) lc) h.tail.choose_spec.1).choose_spec.1) hne
  obtain ⟨y, gb', off', hy, ha, _, hc, hf, hok⟩ := hq.at (j := 0) (by simp)
  cases ha
  simp at hy
  subst hy
  obtain ⟨_, hown⟩ := hok
  obtain ⟨b', o', he, _, hc4, _⟩ := hown.at (j := 4) (by rw [hb, List.length_cons]; omega)
  have he2 : b' = b.b ∧ o' = b.off := by cases he; exact ⟨rfl, rfl⟩
  obtain ⟨rfl, rfl⟩ := he2
  rw [hb] at hc4
  unfold Bt.val at hc
  rw [hb] at hc
  subst hm
  subst hr
  refine ⟨?_, by simpa using hc, hc4, e0, e1⟩
  simpa using hq.blk.cell 0

set_option maxHeartbeats 4000000 in
set_option maxRecDepth 100000 in
theorem take_not (bq : Nat) (bs : List Bt) (b : Bt) (x0 : It) (r : List It) (bytes : Int) (la : Option Addr) (lc : Nat) (n : Int) (on : Bool) (w : World) (F : Nat → Prop) (h : Sep (quarR bq (b :: bs) bytes la lc) w F) (hne : ∀ y ∈ b :: bs, y.its ≠ []) (hb : b.its = x0 :: r) (hn : EpOk n) (hp : pastB n on x0.ep = false) :
    Calls Try.prog 49 #[.pointer (some ⟨bq, 0, none⟩), .agg #[.int .i64 n, .bool on]] w (TakeNo w) := by
  obtain ⟨go, hq⟩ := qat_of h hne
  obtain ⟨y, gb, off, -, hla, -⟩ := hq.at (j := 0) (by simp)
  subst hla
  obtain ⟨F1, h1, u1⟩ := h.pushBlk #[.int .i64 n, .bool on] 24
  generalize hm : bs.length = m
  generalize hr : r.length = rl
  have HF : Hid (∀ W, Chg Non (w.alloc (.cells #[.int .i64 n, .bool on] 24)) W → Fst W bq w.heap.size m gb off lc b x0 rl n on) := fun W hc => fst_of (R := []) (by rw [List.append_nil]; exact h1.non hc) hne hb hm hr
  have HEP : Hid (∀ W, Calls Try.prog 21 #[.agg #[.int .i64 n, .bool on], .int .i64 x0.ep] W fun e w' => e = .returned (.bool (pastB n on x0.ep)) ∧ Chg Non W w') := fun W => epPast n on x0.ep W hn
  rw [hp] at HEP
  have HC : Hid (Chg Non w (w.alloc (.cells #[.int .i64 n, .bool on] 24))) := (Chg.refl Non w).alloc _
  obtain ⟨c0, hc, h4, e0, e1⟩ := HF.out _ (Chg.refl _ _)
  clear h hq h1 u1 hne hb hp hn hm hr
  go_enter Try.func49, Try.ntmps49
  go_wp2_with fail
  generalize w.alloc (.cells #[.int .i64 n, .bool on] 24) = w1 at *
  go_region_held3 (fun w' => w'.cell? ⟨bq, 0, none⟩ = some (.slice (some ⟨gb, off, none⟩) (m + 1) lc) ∧ w'.cell? ⟨gb, off, none⟩ = some (.slice (some ⟨b.b, b.off, none⟩) (rl + 1) b.cap) ∧ w'.cell? ⟨b.b, b.off + 4, none⟩ = some (.int .i64 x0.ep) ∧ w'.cell? ⟨w.heap.size, 0, none⟩ = some (.int .i64 n) ∧ w'.cell? ⟨w.heap.size, 1, none⟩ = some (.bool on))
    (go_keep)
    (first | (go_at_call 21; (with_reducible refine (HEP.out _).mono ?_); rintro e w2 ⟨rfl, hch⟩; have HCH := Lib.hid (Chg.of_drew hch); clear hch; obtain ⟨d0, d1, d2, d3, d4⟩ := HF.out _ HCH.out))
  all_goals
    go_wp2_with fail
    go_ret
    exact ⟨rfl, HC.out.tr HCH.out⟩

/-- In the loop: the batch that was taken, and the rest. -/
def TakeR (bq : Nat) (b : Bt) (bs : List Bt) (bytes : Int) (F : Nat → Prop) (w : World) (k : Nat) (wr : World) : Prop :=
  ∃ (A : Option Addr) (c : Nat) (Fr : Nat → Prop), Sep (btAs b :: quarR bq bs (bytes - sumRoom (b.its.take k)) A c) wr Fr ∧ Upd w wr F Fr

theorem cellsI_own {w : World} {b : Bt} {g : Option Nat} (h : Own w 79 5 b.val b.its.length (cellsI b.its) g) {k : Nat} {y : It} (hk : b.its[k]? = some y) :
    w.cell? ⟨b.b, b.off + k * 5, none⟩ = some (.int .i64 y.at_) ∧ w.cell? ⟨b.b, b.off + k * 5 + 1, none⟩ = some (.int .i64 y.room) ∧ w.cell? ⟨b.b, b.off + k * 5 + 2, none⟩ = some (.int .i64 y.cls) ∧ w.cell? ⟨b.b, b.off + k * 5 + 3, none⟩ = some (.int .i64 y.th) ∧ w.cell? ⟨b.b, b.off + k * 5 + 4, none⟩ = some (.int .i64 y.ep) := by
  have hlt : k < b.its.length := (List.getElem?_eq_some_iff.1 hk).1
  have go : ∀ i, i < 5 → w.cell? ⟨b.b, b.off + k * 5 + i, none⟩ = y.cells[i]? := fun i hi => by
    obtain ⟨b', o', he, _, hc, _⟩ := h.at (j := k * 5 + i) (by omega)
    cases he
    rw [Nat.add_assoc, hc]
    exact cellsI_at _ _ _ hk i hi
  exact ⟨go 0 (by omega), go 1 (by omega), go 2 (by omega), go 3 (by omega), go 4 (by omega)⟩

/-- The outer slice without its first. -/
theorem take_cut {wb w : World} {be bq gb off lc : Nat} {b : Bt} {bs : List Bt} {bytes n : Int} {on : Bool} {F F1 : Nat → Prop}
    (h : Sep (blk be #[.int .i64 n, .bool on] 24 :: quarR bq (b :: bs) bytes (some ⟨gb, off, none⟩) lc) wb F1) (u : Upd w wb F F1) :
    TakeR bq b bs bytes F w 0 (wb.setCell ⟨bq, 0, none⟩ (.slice (some (if lc = 1 then ⟨gb, off, none⟩ else ⟨gb, off + 1, none⟩)) bs.length (lc - 1))) := by
  obtain ⟨F2, h2, u2⟩ := h.drop
  obtain ⟨F3, h3, u3⟩ := (blk_focus h2).2.2 0 (.slice (some (if lc = 1 then ⟨gb, off, none⟩ else ⟨gb, off + 1, none⟩)) bs.length (lc - 1))
  obtain ⟨g, ho, K⟩ := own_focus (h3.bring 1 rfl)
  have hd := ho.drop (k := 1) (by simp)
  have e1 : (b :: bs).length - 1 = bs.length := rfl
  have e2 : ((b :: bs).map Bt.val).drop (1 * 1) = bs.map Bt.val := rfl
  rw [e1, e2] at hd
  obtain ⟨F4, h4, u4⟩ := K _ _ _ _ _ hd (Chg.refl _ _) (fun k hk => .inl hk)
  refine ⟨some (if lc = 1 then ⟨gb, off, none⟩ else ⟨gb, off + 1, none⟩), lc - 1, F4, ?_, ((u.trans u2).trans u3).trans u4⟩
  have e3 : bytes - sumRoom (b.its.take 0) = bytes := by simp [sumRoom]
  rw [e3]
  exact h4.perm ((bring_perm (l := own _ _ _ _ _ :: blk _ _ _ :: btAs b :: bs.map btAs) 2 rfl).trans ((List.Perm.swap ..).cons _))

theorem take_round {wr w : World} {bq : Nat} {b : Bt} {bs : List Bt} {bytes : Int} {F : Nat → Prop} {k : Nat} {y : It} {c1 : Array Value} (h : TakeR bq b bs bytes F w k wr) (hk : b.its[k]? = some y) {v : Int} (hv : v = bytes - sumRoom (b.its.take k) - y.room) :
    TakeR bq b bs bytes F w (k + 1) ((wr.setCell ⟨bq, 1, none⟩ (.int .i64 v)).alloc (.cells c1 79)).drew := by
  obtain ⟨A, c, Fr, h1, u1⟩ := h
  obtain ⟨F3, h3, u3⟩ := (blk_focus (h1.bring 1 rfl)).2.2 1 (.int .i64 v)
  have hd : Chg Non (wr.setCell ⟨bq, 1, none⟩ (.int .i64 v)) ((wr.setCell ⟨bq, 1, none⟩ (.int .i64 v)).alloc (.cells c1 79)).drew := ((Chg.refl _ _).alloc _).drew
  refine ⟨A, c, F3, ?_, (u1.trans u3).chgNon hd⟩
  have e : bytes - sumRoom (b.its.take (k + 1)) = v := by rw [sumRoom_snoc hk]; omega
  rw [e]
  exact (h3.swap).non hd

set_option maxHeartbeats 6000000 in
set_option maxRecDepth 100000 in
theorem take_yes (bq : Nat) (bs : List Bt) (b : Bt) (x0 : It) (r : List It) (bytes : Int) (la : Option Addr) (lc : Nat) (n : Int) (on : Bool) (w : World) (F : Nat → Prop) (h : Sep (quarR bq (b :: bs) bytes la lc) w F) (hne : ∀ y ∈ b :: bs, y.its ≠ []) (hb : b.its = x0 :: r) (hn : EpOk n) (hp : pastB n on x0.ep = true)
    (hrm : RoomOk b.its) (hlen : b.its.length ≤ 1000000) (hmm : bs.length ≤ 1000000) (hy : -2305843009213693952 ≤ bytes ∧ bytes ≤ 2305843009213693952) :
    Calls Try.prog 49 #[.pointer (some ⟨bq, 0, none⟩), .agg #[.int .i64 n, .bool on]] w (TakeYes bq (bytes - sumRoom b.its) b.its (bs.map Bt.its) F w) := by
  obtain ⟨go, hq⟩ := qat_of h hne
  obtain ⟨y, gb, off, -, hla, -⟩ := hq.at (j := 0) (by simp)
  subst hla
  obtain ⟨F1, h1, u1⟩ := h.pushBlk #[.int .i64 n, .bool on] 24
  have HR := Lib.hid hrm
  have hbl : b.its.length = r.length + 1 := by rw [hb]; rfl
  have hlen' : r.length + 1 ≤ 1000000 := by rw [← hbl]; exact hlen
  generalize hm : bs.length = m at *
  generalize hr : r.length = rl at *
  have HF : Hid (∀ W, Chg Non (w.alloc (.cells #[.int .i64 n, .bool on] 24)) W → Fst W bq w.heap.size m gb off lc b x0 rl n on) := fun W hc => fst_of (R := []) (by rw [List.append_nil]; exact h1.non hc) hne hb hm hr
  have HEP : Hid (∀ W, Calls Try.prog 21 #[.agg #[.int .i64 n, .bool on], .int .i64 x0.ep] W fun e w' => e = .returned (.bool (pastB n on x0.ep)) ∧ Chg Non W w') := fun W => epPast n on x0.ep W hn
  rw [hp] at HEP
  have HS := Lib.hid h1
  have HU := Lib.hid u1
  have HM := Lib.hid hm
  have HBL := Lib.hid hbl
  have HNE := Lib.hid hne
  have hlc : m + 1 ≤ lc := by
    obtain ⟨g, ho⟩ := h.ownAt 1 rfl
    obtain ⟨_, _, hv, h4, _⟩ := ho.slice
    cases hv
    rw [← hm]
    exact h4
  obtain ⟨c0, hc, h4, e0, e1⟩ := HF.out _ (Chg.refl _ _)
  clear h hq h1 u1 hne hb hp hn hm hr hrm hbl hlen
  go_enter Try.func49, Try.ntmps49
  go_wp2_with fail
  generalize w.alloc (.cells #[.int .i64 n, .bool on] 24) = w1 at *
  go_cut [31] (fun v wx => v = .bool false ∧ Hid (Chg Non w1 wx))
  case first =>
    go_region_held3 (fun w' => w'.cell? ⟨bq, 0, none⟩ = some (.slice (some ⟨gb, off, none⟩) (m + 1) lc) ∧ w'.cell? ⟨gb, off, none⟩ = some (.slice (some ⟨b.b, b.off, none⟩) (rl + 1) b.cap) ∧ w'.cell? ⟨b.b, b.off + 4, none⟩ = some (.int .i64 x0.ep) ∧ w'.cell? ⟨w.heap.size, 0, none⟩ = some (.int .i64 n) ∧ w'.cell? ⟨w.heap.size, 1, none⟩ = some (.bool on))
      (go_keep)
      (first | (go_at_call 21; (with_reducible refine (HEP.out _).mono ?_); rintro e w2 ⟨rfl, hch⟩; have HCH := Lib.hid (Chg.of_drew hch); clear hch; obtain ⟨d0, d1, d2, d3, d4⟩ := HF.out _ HCH.out))
    all_goals
      go_wp2_with fail
      go_meet
      exact ⟨rfl, HCH.out⟩
  case rest =>
    obtain ⟨rfl, HW⟩ := hcut
    clear c0 hc h4 e0 e1
    obtain ⟨c0, hc, _, _, _⟩ := HF.out _ HW.out
    have f0 := (HS.out.non HW.out |>.blkAt 1 rfl).free 0
    have HT := Lib.hid (take_cut (HS.out.non HW.out) (HU.out.chgNon HW.out))
    rw [HM.out] at HT
    clear HS HU HW HF
    have HLN : Hid (b.its.length = rl + 1) := HBL.out
    have HX : ∃ A' : Addr, (if lc = 1 then (⟨gb, off, none⟩ : Addr) else ⟨gb, off + 1, none⟩) = A' := ⟨_, rfl⟩
    by_cases hc1 : lc = 1
    case' pos =>
      obtain rfl : m = 0 := by omega
      subst hc1
      have HT2 := HT.out
      rw [if_pos rfl] at HT2
    case' neg =>
      have HT2 := HT.out
      rw [if_neg hc1] at HT2
    all_goals
      have HT3 := Lib.hid HT2
      clear HT HT2 HX
      go_wp2_with fail
      go_loopw [48] (fun i wr => ∃ k : Nat, i = .int .i64 k ∧ k ≤ rl + 1 ∧ Hid (TakeR bq b bs bytes F w k wr)) (fun i _ => rl + 1 - (intOf i).toNat)
      case atStart => exact ⟨0, rfl, by omega, HT3.out⟩
      case round =>
        obtain ⟨k, rfl, hk, HK⟩ := hrel
        clear HT3
        by_cases hlt : k < rl + 1
        · obtain ⟨y, hyk⟩ : ∃ y, b.its[k]? = some y := ⟨_, List.getElem?_eq_getElem (by rw [HLN.out]; exact hlt)⟩
          have HY := Lib.hid hyk
          obtain ⟨A, cA, Fr, hs, hu⟩ := HK.out
          obtain ⟨g1, ho1⟩ := hs.ownAt 0 rfl
          obtain ⟨q0, q1, q2, q3, q4⟩ := cellsI_own ho1 hyk
          have p1 := (hs.blkAt 1 rfl).cell 1
          simp only [List.getElem?_toArray, List.getElem?_cons_succ, List.getElem?_cons_zero] at p1
          have pf := (hs.blkAt 1 rfl).free 1
          have hbl : bq < wr.heap.size := (hs.blkAt 1 rfl).lt
          have hry := HR.out y (List.mem_of_getElem? hyk)
          have hsl := sumRoom_take_le HR.out k
          rw [HLN.out] at hsl
          obtain ⟨hr1, hr2⟩ := hry
          obtain ⟨hs1, hs2⟩ := hsl
          have hs3 : sumRoom (b.its.take k) ≤ 1048576000000 := by push_cast at hs2; omega
          clear hs hu ho1 hyk hs2
          generalize hsg : sumRoom (b.its.take k) = s at *
          have HSG := Lib.hid hsg
          clear hsg
          go_wp2_with fail
          go_region
          go_wp2_with fail
          go_roundw
          case rel => exact ⟨k + 1, by go_num, by omega, take_round HK.out HY.out (by rw [HSG.out])⟩
          case measure => simp [intOf]; omega
        · obtain rfl : k = rl + 1 := by omega
          go_wp2_with fail
          go_ret
          obtain ⟨A, cA, Fr, hs, hu⟩ := HK.out
          refine ⟨b, Fr, rfl, by show _ = Ending.returned (.slice (some ⟨b.b, b.off, none⟩) b.its.length b.cap); rw [HLN.out]; rfl, ?_, hu⟩
          have e : b.its.take (rl + 1) = b.its := List.take_of_length_le (by rw [HLN.out]; exact Nat.le_refl _)
          rw [e] at hs
          obtain ⟨G, H, a1, b1, e1, d1⟩ := hs
          refine ⟨G, H, a1, Sep.one (A := quarAt bq (bs.map Bt.its) _) ⟨(bs, A, cA), ⟨rfl, fun l hl => ?_⟩, b1⟩, e1, d1⟩
          obtain ⟨y, hy, rfl⟩ := List.mem_map.1 hl
          exact HNE.out y (List.mem_cons_of_mem _ hy)

end Go.Proofs.Ytabeolmfgmbfaaa
