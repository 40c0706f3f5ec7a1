/- QuarPlays: lemmas of the walk. -/
import Derived.Test.YtabeolmfgmbfaaaLaw35
import Derived.Deep.CutBlock
import Derived.Test.YtabeolmfgmbfaaaCode
import Derived.Deep.RegionHeldLaw
import Derived.Deep.DrawnRows
import Derived.IntWalk
namespace Go.Proofs.Ytabeolmfgmbfaaa
open Go.RowKit
set_option linter.unusedVariables false
set_option linter.unusedSimpArgs false
attribute [local go_sem ↓] Go.wp_at_zero Go.wp_at_succ

/-- However the first is turned, the others stay. -/
def FocK (r : List As) (w : World) (F G : Nat → Prop) : Prop := ∀ (w' : World) (A' : As) (G' : Nat → Prop), A'.on w' G' → Upd w w' G G' → ∃ F', Sep (A' :: r) w' F' ∧ Upd w w' F F'
theorem Sep.foc {A : As} {r : List As} {w : World} {F : Nat → Prop} (h : Sep (A :: r) w F) : ∃ G, A.on w G ∧ FocK r w F G := by
  obtain ⟨G, a, _, k⟩ := h.focus
  exact ⟨G, a, fun w' A' G' a' u => k a' u⟩

theorem own_srcI {w : World} {a : Option Addr} {n c : Nat} {ms : List It} {g : Option Nat} (hn : n = ms.length) (h : Own w 79 5 (.slice a n c) n (cellsI ms) g) : Src w 5 (.slice a n c) n (cellsI ms) := by
  refine ⟨by rw [cellsI_length, hn], fun u hu => ?_, ?_⟩
  · unfold cellsI at hu
    obtain ⟨y, _, hy⟩ := List.mem_flatMap.1 hu
    simp [It.cells] at hy
    rcases hy with rfl | rfl | rfl | rfl | rfl <;> rfl
  · cases a with
    | none =>
      refine .inl ⟨c, rfl, ?_⟩
      cases n with
      | zero => rfl
      | succ n =>
        obtain ⟨b, off, hb, _⟩ := h.at (j := 0) (by omega)
        cases hb
    | some x =>
      refine .inr ⟨x, c, rfl, fun j u hu => ?_⟩
      have hj : j < n * 5 := by
        have := (List.getElem?_eq_some_iff.1 hu).1
        rwa [cellsI_length, ← hn] at this
      obtain ⟨b', o', he, _, hc, _⟩ := h.at hj
      cases he
      rw [Addr.add_lit, hc, hu]
theorem own_empty {w : World} {b : Nat} (h : Blk w b #[] 79) : Own w 79 5 (.slice (some ⟨b, 0, none⟩) 0 0) 0 [] (some b) :=
  ⟨rfl, .inr ⟨b, 0, 0, #[], rfl, rfl, h, Nat.le_refl _, by simp [maxLen], by simp, rfl⟩⟩

theorem src_item {w : World} {b : Nat} {x : It} (h : Blk w b x.cells 79) : Src w 5 (.slice (some ⟨b, 0, none⟩) 1 1) 1 x.cells.toList := by
  refine ⟨rfl, fun u hu => ?_, .inr ⟨_, _, rfl, fun j u hu => ?_⟩⟩
  · simp [It.cells] at hu
    rcases hu with rfl | rfl | rfl | rfl | rfl <;> rfl
  · rw [Addr.add_lit, h.cell]
    simpa using hu
theorem chg_own {w W w' : World} {K : Nat} (h : Chg Non w W) (k : Chg (Opt (some K)) W w') (hK : w.heap.size ≤ K) : Chg Non w w' :=
  h.trans k (fun _ _ h => h) (fun i hi h => by cases h; omega)

/-- What is done: two numbers each. -/
def Acts (w : World) (a : Option Addr) (n : Nat) (l : List (Int × Int)) : Prop :=
  l.length = n ∧ ∀ j p, l[j]? = some p → ∃ b off, a = some ⟨b, off, none⟩ ∧ w.cell? ⟨b, off + j * 2, none⟩ = some (.int .i64 p.1) ∧ w.cell? ⟨b, off + j * 2 + 1, none⟩ = some (.int .i64 p.2)
theorem Acts.chg {w w' : World} {a : Option Addr} {n : Nat} {l : List (Int × Int)} (h : Acts w a n l) (k : Chg Non w w') : Acts w' a n l := by
  refine ⟨h.1, fun j p hp => ?_⟩
  obtain ⟨b, off, rfl, h1, h2⟩ := h.2 j p hp
  have hb := World.block_lt_of_cell? w ⟨b, off + j * 2, none⟩ h1
  exact ⟨b, off, rfl, (World.cell?_of_block (a := ⟨b, off + j * 2, none⟩) (k.block b hb (fun h => h))).trans h1, (World.cell?_of_block (a := ⟨b, off + j * 2 + 1, none⟩) (k.block b hb (fun h => h))).trans h2⟩

/-- At a round's head. -/
def LR (bq be : Nat) (w : World) (i : Nat) (ma : Option Addr) (mn mc : Nat) (wr : World) : Prop :=
  ∃ (ls : List (List It)) (ms : List It) (bytes n : Int) (on : Bool) (F : Nat → Prop), QInv ls ms bytes n i ∧ mn = ms.length ∧
    Sep [quarAt bq ls bytes, own 79 5 (.slice ma mn mc) mn (cellsI ms), blk be #[.int .i64 n, .bool on] 24] wr F ∧ Upd w wr Non F

theorem lr_epoch {w w1 : World} {bq be j mn mc : Nat} {ma : Option Addr} {ls : List (List It)} {ms : List It} {bytes n r1 : Int} {on r2 : Bool} {F : Nat → Prop} (inv : QInv ls ms bytes n j) (hmn : mn = ms.length)
    (hs : Sep [quarAt bq ls bytes, own 79 5 (.slice ma mn mc) mn (cellsI ms), blk be #[.int .i64 n, .bool on] 24] w1 F) (hu : Upd w w1 Non F) (h0 : 0 ≤ r1) (h1 : r1 ≤ n + 1) :
    LR bq be w (j + 1) ma mn mc ((w1.setCell ⟨be, 0, none⟩ (.int .i64 r1)).setCell ⟨be, 1, none⟩ (.bool r2)) := by
  obtain ⟨F2, h2, u2⟩ := (blk_focus (hs.bring 2 rfl)).2.2 0 (.int .i64 r1)
  obtain ⟨F3, h3, u3⟩ := (blk_focus h2).2.2 1 (.bool r2)
  exact ⟨ls, ms, bytes, r1, r2, F3, inv.more h0 h1, hmn, (h3.perm ((List.Perm.swap ..).trans ((List.Perm.swap ..).cons _))), (hu.trans u2).trans u3⟩

/-- With a thing that is to be put in. -/
def XS (bq be xb : Nat) (w : World) (ls : List (List It)) (ms : List It) (bytes n : Int) (on : Bool) (ma : Option Addr) (mn mc : Nat) (x : It) (wr : World) : Prop :=
  ∃ F, Sep [quarAt bq ls bytes, own 79 5 (.slice ma mn mc) mn (cellsI ms), blk be #[.int .i64 n, .bool on] 24, blk xb x.cells 79] wr F ∧ Upd w wr Non F

theorem xs_new {w wr w2 : World} {bq be mn mc : Nat} {ma : Option Addr} {ls : List (List It)} {ms : List It} {bytes n : Int} {on : Bool} {F : Nat → Prop}
    (hs : Sep [quarAt bq ls bytes, own 79 5 (.slice ma mn mc) mn (cellsI ms), blk be #[.int .i64 n, .bool on] 24] wr F) (hu : Upd w wr Non F) (hc : Chg Non wr w2) (x : It) (c : Array Value) (hx : c = x.cells) :
    XS bq be w2.heap.size w ls ms bytes n on ma mn mc x (w2.alloc (.cells c 79)) := by
  subst hx
  obtain ⟨F2, h2, u2⟩ := (hs.non hc).pushBlk x.cells 79
  exact ⟨F2, h2.perm ((List.perm_append_singleton (blk w2.heap.size x.cells 79) [quarAt bq ls bytes, own 79 5 (.slice ma mn mc) mn (cellsI ms), blk be #[.int .i64 n, .bool on] 24]).symm), (hu.chgNon hc).trans u2⟩
theorem xs_old {w wr w2 : World} {bq be mn mc : Nat} {ma : Option Addr} {ls : List (List It)} {ms : List It} {bytes n : Int} {on : Bool} {F : Nat → Prop} {v0 v1 v2 v3 v4 : Value}
    (hs : Sep [quarAt bq ls bytes, own 79 5 (.slice ma mn mc) mn (cellsI ms), blk be #[.int .i64 n, .bool on] 24] wr F) (hu : Upd w wr Non F) (hc : Chg Non (wr.alloc (.cells #[v0, v1, v2, v3, v4] 79)) w2) (x : It) (y0 y1 y2 y3 y4 : Int) (h0 : y0 = x.at_) (h1 : y1 = x.room) (h2 : y2 = x.cls) (h3 : y3 = x.th) (h4 : y4 = x.ep) :
    XS bq be wr.heap.size w ls ms bytes n on ma mn mc x (((((w2.setCell ⟨wr.heap.size, 0, none⟩ (.int .i64 y0)).setCell ⟨wr.heap.size, 1, none⟩ (.int .i64 y1)).setCell ⟨wr.heap.size, 2, none⟩ (.int .i64 y2)).setCell ⟨wr.heap.size, 3, none⟩ (.int .i64 y3)).setCell ⟨wr.heap.size, 4, none⟩ (.int .i64 y4)) := by
  subst h0 h1 h2 h3 h4
  obtain ⟨F2, k2, u2⟩ := hs.pushBlk #[v0, v1, v2, v3, v4] 79
  obtain ⟨F3, k3, u3⟩ := (blk_focus (k2.non hc)).2.2 0 (.int .i64 x.at_)
  obtain ⟨F4, k4, u4⟩ := (blk_focus k3).2.2 1 (.int .i64 x.room)
  obtain ⟨F5, k5, u5⟩ := (blk_focus k4).2.2 2 (.int .i64 x.cls)
  obtain ⟨F6, k6, u6⟩ := (blk_focus k5).2.2 3 (.int .i64 x.th)
  obtain ⟨F7, k7, u7⟩ := (blk_focus k6).2.2 4 (.int .i64 x.ep)
  exact ⟨F7, k7.perm ((List.perm_append_singleton (blk wr.heap.size x.cells 79) [quarAt bq ls bytes, own 79 5 (.slice ma mn mc) mn (cellsI ms), blk be #[.int .i64 n, .bool on] 24]).symm), (((((hu.trans u2).chgNon hc |>.trans u3).trans u4).trans u5).trans u6).trans u7⟩

end Go.Proofs.Ytabeolmfgmbfaaa
