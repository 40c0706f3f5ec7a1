/- Package quar: Has. -/
import Derived.Test.YtabeolmfgmbfaaaQList
namespace Go.Proofs.Ytabeolmfgmbfaaa
open Go.RowKit
set_option linter.unusedVariables false
set_option linter.unusedSimpArgs false

/-- A slice of items, read. -/
def Itms (w : World) (a : Option Addr) (n : Nat) (l : List It) : Prop := l.length = n ∧ ∀ j y, l[j]? = some y → ∃ b off, a = some ⟨b, off, none⟩ ∧ ∀ i, i < 5 → w.cell? ⟨b, off + j * 5 + i, none⟩ = y.cells[i]?
theorem itms_own {w : World} {a : Option Addr} {n c : Nat} {l : List It} {g : Option Nat} (hn : l.length = n) (h : Own w 79 5 (.slice a n c) n (cellsI l) g) : Itms w a n l := by
  refine ⟨hn, fun j y hy => ?_⟩
  have hlt : j < l.length := (List.getElem?_eq_some_iff.1 hy).1
  obtain ⟨b, off, rfl, _, _, _⟩ := h.at (j := j * 5) (by omega)
  refine ⟨b, off, rfl, fun i hi => ?_⟩
  obtain ⟨b', o', he, _, hc, _⟩ := h.at (j := j * 5 + i) (by omega)
  cases he
  rw [Nat.add_assoc, hc]
  exact cellsI_at _ _ _ hy i hi
theorem Itms.chg {F : Nat → Prop} {w w' : World} {a : Option Addr} {n : Nat} {l : List It} (h : Itms w a n l) (k : Chg F w w') (hF : ∀ i, i < w.heap.size → ¬ F i) : Itms w' a n l := by
  refine ⟨h.1, fun j y hy => ?_⟩
  obtain ⟨b, off, rfl, hc⟩ := h.2 j y hy
  have hb := World.block_lt_of_cell? w ⟨b, off + j * 5 + 0, none⟩ (hc 0 (by omega))
  exact ⟨b, off, rfl, fun i hi => (World.cell?_of_block (a := ⟨b, off + j * 5 + i, none⟩) (k.block b hb (hF b hb))).trans (hc i hi)⟩

set_option maxHeartbeats 400000 in
theorem has1_any (y : It) (bx : Nat) (x : Int) (w : World) (hx : Blk w bx #[.int .i64 x] 3) :
    Calls Try.prog 73 #[.agg y.cells, .pointer (some ⟨bx, 0, none⟩)] w fun e w' => e = .returned (.bool (y.at_ == x)) ∧ Chg Non w w' := by
  have c0 := (hx.alloc (.cells y.cells 79)).cell 0
  simp only [List.getElem?_toArray, List.getElem?_cons_zero] at c0
  clear hx
  unfold It.cells at *
  go_enter Try.func73, Try.ntmps73
  go_wp2_with fail
  go_ret
  exact ⟨rfl, (Chg.refl _ _).alloc _⟩

/-- Does one begin there? -/
def atB (l : List It) (x : Int) : Bool := l.any fun y => y.at_ == x
def IdxAt (l : List It) (x : Int) (w : World) (e : Ending) (w' : World) : Prop := ∃ i : Int, e = .returned (.int .i64 i) ∧ decide (0 ≤ i) = atB l x ∧ Chg Non w w'

set_option maxHeartbeats 1000000 in
set_option maxRecDepth 100000 in
theorem indexI_any (a : Option Addr) (n c : Nat) (l : List It) (bx : Nat) (x : Int) (w : World) (hl : Itms w a n l) (hn : n ≤ 1000000) (hx : Blk w bx #[.int .i64 x] 3) :
    Calls Try.prog 86 #[.slice a n c, .func (.func 73) #[] #[.pointer (some ⟨bx, 0, none⟩)]] w (IdxAt l x w) := by
  have hlen := hl.1
  have HL := Lib.hid hl
  have HX := Lib.hid hx
  have HLEN := Lib.hid hlen
  clear hl hx hlen
  go_enter Try.func86, Try.ntmps86
  go_wp2_with fail
  go_loopw [8] (fun i wr => ∃ j : Nat, i = .int .i64 j ∧ j ≤ n ∧ Hid (∀ k y, k < j → l[k]? = some y → (y.at_ == x) = false) ∧ Hid (Chg Non w wr)) (fun i _ => n - (intOf i).toNat)
  case atStart => exact ⟨0, rfl, by omega, fun k o hk => by omega, Chg.refl _ _⟩
  case round =>
    obtain ⟨j, rfl, hj, HS, HC⟩ := hrel
    by_cases hlt : j < n
    · obtain ⟨y, hy⟩ : ∃ y, l[j]? = some y := ⟨_, List.getElem?_eq_getElem (by rw [HLEN.out]; exact hlt)⟩
      obtain ⟨b, off, rfl, hc⟩ := (HL.out.chg HC.out (fun _ _ h => h)).2 j y hy
      have z0 : wr.cell? ⟨b, off + j * 5, none⟩ = some (.int .i64 y.at_) := hc 0 (by omega)
      have z1 : wr.cell? ⟨b, off + j * 5 + 1, none⟩ = some (.int .i64 y.room) := hc 1 (by omega)
      have z2 : wr.cell? ⟨b, off + j * 5 + 2, none⟩ = some (.int .i64 y.cls) := hc 2 (by omega)
      have z3 : wr.cell? ⟨b, off + j * 5 + 3, none⟩ = some (.int .i64 y.th) := hc 3 (by omega)
      have z4 : wr.cell? ⟨b, off + j * 5 + 4, none⟩ = some (.int .i64 y.ep) := hc 4 (by omega)
      have HO := Lib.hid hy
      have HB : Hid (Calls Try.prog 73 #[.agg #[.int .i64 y.at_, .int .i64 y.room, .int .i64 y.cls, .int .i64 y.th, .int .i64 y.ep], .pointer (some ⟨bx, 0, none⟩)] wr fun e w' => e = .returned (.bool (y.at_ == x)) ∧ Chg Non wr w') := has1_any y bx x wr (HX.out.chg HC.out (fun h => h))
      clear hy hc
      go_wp2_with fail
      refine HB.out.mono ?_
      clear z0 z1 z2 z3 z4 HB
      rintro e w2 ⟨rfl, hc2⟩
      have HC2 := Lib.hid (HC.out.tr hc2)
      clear hc2
      cases h4 : (y.at_ == x)
      · have H4 := Lib.hid h4
        clear h4
        go_wp2_with fail
        go_roundw
        case rel =>
          refine ⟨j + 1, by go_num, by omega, fun k p hk hp => ?_, HC2⟩
          by_cases e : k = j
          · subst e
            rw [HO.out] at hp
            cases hp
            exact H4.out
          · exact HS.out k p (by omega) hp
        case measure => simp [intOf]; omega
      · have H4 := Lib.hid h4
        clear h4
        go_wp2_with fail
        go_ret
        refine ⟨_, rfl, ?_, HC2.out⟩
        have hm : atB l x = true := by
          simp only [atB, List.any_eq_true]
          exact ⟨y, List.mem_of_getElem? HO.out, H4.out⟩
        rw [hm]
        simp
    · go_wp2_with fail
      go_ret
      refine ⟨_, rfl, ?_, HC.out⟩
      have hm : atB l x = false := by
        rw [Bool.eq_false_iff]
        intro h
        simp only [atB, List.any_eq_true] at h
        obtain ⟨o, ho, h4⟩ := h
        obtain ⟨k, hk, he⟩ := List.getElem_of_mem ho
        have h5 := HS.out k o (by rw [HLEN.out] at hk; omega) (by rw [← he]; exact List.getElem?_eq_getElem hk)
        rw [h5] at h4
        cases h4
      rw [hm]
      decide

set_option maxHeartbeats 1000000 in
theorem containsI_any (a : Option Addr) (n c : Nat) (l : List It) (bx : Nat) (x : Int) (w : World) (hl : Itms w a n l) (hn : n ≤ 1000000) (hx : Blk w bx #[.int .i64 x] 3) :
    Calls Try.prog 72 #[.slice a n c, .func (.func 73) #[] #[.pointer (some ⟨bx, 0, none⟩)]] w fun e w' => e = .returned (.bool (atB l x)) ∧ Chg Non w w' := by
  have HX := Lib.hid (indexI_any a n c l bx x w hl hn hx)
  clear hl hx
  go_enter Try.func72, Try.ntmps72
  go_wp2_with fail
  refine HX.out.mono ?_
  rintro e w1 ⟨i, rfl, hb, hc⟩
  have HB := Lib.hid hb
  have HC := Lib.hid hc
  clear hb hc
  go_wp2_with fail
  go_ret
  exact ⟨congrArg (fun b => Ending.returned (.bool b)) HB.out, HC.out⟩

set_option maxHeartbeats 1000000 in
set_option maxRecDepth 100000 in
theorem qHas (bq : Nat) (bs : List Bt) (bytes : Int) (la : Option Addr) (lc : Nat) (go : Option Nat) (x : Int) (w : World) (h : QAt w bq bs bytes la lc go) (hs : sumLen bs ≤ 1000000) :
    Calls Try.prog 53 #[.pointer (some ⟨bq, 0, none⟩), .int .i64 x] w fun e w' => e = .returned (.bool (atB (flatI bs) x)) ∧ Chg Non w w' := by
  have hc1 : Chg Non w (w.alloc (.cells #[.int .i64 x] 3)) := (Chg.refl _ _).alloc _
  have HL := Lib.hid (qList bq bs bytes la lc go (w.alloc (.cells #[.int .i64 x] 3)) (h.chg hc1 (fun _ _ h => h)) hs)
  have hlen : (flatI bs).length ≤ 1000000 := by rw [flatI_len]; exact hs
  have HB : Hid (Blk (w.alloc (.cells #[.int .i64 x] 3)) w.heap.size #[.int .i64 x] 3) := Blk.new _ _ _
  clear h hc1
  go_enter Try.func53, Try.ntmps53
  go_wp2_with fail
  (with_reducible refine HL.out.mono ?_)
  rintro e w1 ⟨v, g, rfl, ho, hch, hg⟩
  obtain ⟨a0, c0, rfl, _, _⟩ := ho.slice
  have HI := Lib.hid (itms_own rfl ho)
  have HB1 := Lib.hid (HB.out.chg hch (fun h => h))
  have HC : Hid (Chg Non w w1) := ((Chg.refl Non w).alloc _).tr hch
  clear ho hch hg HL HB
  generalize hn : (flatI bs).length = n at *
  go_wp2_with fail
  (with_reducible refine (containsI_any a0 n c0 (flatI bs) _ x _ HI.out hlen HB1.out).mono ?_)
  rintro e w2 ⟨rfl, hc2⟩
  have HC2 := Lib.hid hc2
  clear hc2
  go_wp2_with fail
  go_ret
  exact ⟨rfl, HC.out.tr HC2.out⟩

end Go.Proofs.Ytabeolmfgmbfaaa
