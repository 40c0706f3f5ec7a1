/- Package quar: chunks that wait, in batches: what it is in memory; Len, Bytes, Batches. -/
import Derived.Test.YtabeolmfgmbfaaaEpoch
namespace Go.Proofs.Ytabeolmfgmbfaaa
open Go.RowKit
set_option linter.unusedVariables false
set_option linter.unusedSimpArgs false

/-- An item. -/
structure It where mk ::
  at_ : Int
  room : Int
  cls : Int
  th : Int
  ep : Int
def It.cells (x : It) : Array Value := #[.int .i64 x.at_, .int .i64 x.room, .int .i64 x.cls, .int .i64 x.th, .int .i64 x.ep]
def cellsI (l : List It) : List Value := l.flatMap fun x => x.cells.toList
theorem cellsI_length (l : List It) : (cellsI l).length = l.length * 5 := by
  unfold cellsI
  induction l with
  | nil => rfl
  | cons x l ih => simp only [List.flatMap_cons, List.length_append, ih, List.length_cons]; show 5 + _ = _; omega
theorem cellsI_at : ∀ (l : List It) (j : Nat) (x : It), l[j]? = some x → ∀ i, i < 5 → (cellsI l)[j * 5 + i]? = x.cells[i]? := by
  intro l
  induction l with
  | nil => intro j x h; simp at h
  | cons p l ih =>
    intro j x h i hi
    unfold cellsI
    rw [List.flatMap_cons]
    cases j with
    | zero =>
      simp at h
      subst h
      rw [List.getElem?_append_left (by show 0 * 5 + i < 5; omega)]
      simp
    | succ j =>
      simp only [List.getElem?_cons_succ] at h
      rw [List.getElem?_append_right (by show 5 ≤ (j + 1) * 5 + i; omega)]
      have := ih j x h i hi
      unfold cellsI at this
      rw [← this]
      congr 1
      show (j + 1) * 5 + i - 5 = j * 5 + i
      omega

/-- A batch: an owned slice of items, one at least. -/
structure Bt where mk ::
  b : Nat
  off : Nat
  cap : Nat
  its : List It
def Bt.val (x : Bt) : Value := .slice (some ⟨x.b, x.off, none⟩) x.its.length x.cap
def Bt.ok (w : World) (x : Bt) : Prop := 0 < x.its.length ∧ Own w 79 5 x.val x.its.length (cellsI x.its) (some x.b)

/-- Batches in memory: the outer slice (its block go, if there is one), and each batch's own block; all are apart. -/
structure QAt (w : World) (bq : Nat) (bs : List Bt) (bytes : Int) (la : Option Addr) (lc : Nat) (go : Option Nat) : Prop where
  blk : Blk w bq #[.slice la bs.length lc, .int .i64 bytes] 74
  own : Own w 75 1 (.slice la bs.length lc) bs.length (bs.map Bt.val) go
  bt : ∀ x ∈ bs, x.ok w
  apart : (bs.map Bt.b).Pairwise (· ≠ ·)
  out : ∀ x ∈ bs, x.b ≠ bq ∧ go ≠ some x.b
  go_ : go ≠ some bq
/-- Its blocks. -/
def QF (bq : Nat) (bs : List Bt) (go : Option Nat) : Nat → Prop := fun k => k = bq ∨ go = some k ∨ ∃ x ∈ bs, x.b = k

theorem QAt.chg {F : Nat → Prop} {w w' : World} {bq : Nat} {bs : List Bt} {bytes : Int} {la : Option Addr} {lc : Nat} {go : Option Nat} (h : QAt w bq bs bytes la lc go) (k : Chg F w w') (hF : ∀ i, QF bq bs go i → ¬ F i) : QAt w' bq bs bytes la lc go :=
  ⟨h.blk.chg k (hF bq (.inl rfl)), h.own.chg k (fun b hb => hF b (.inr (.inl hb))), fun x hx => ⟨(h.bt x hx).1, (h.bt x hx).2.chg k (fun b hb => by cases hb; exact hF _ (.inr (.inr ⟨x, hx, rfl⟩)))⟩, h.apart, h.out, h.go_⟩
theorem QAt.lt {w : World} {bq : Nat} {bs : List Bt} {bytes : Int} {la : Option Addr} {lc : Nat} {go : Option Nat} (h : QAt w bq bs bytes la lc go) : ∀ i, QF bq bs go i → i < w.heap.size := by
  intro i hi
  rcases hi with rfl | hi | ⟨x, hx, rfl⟩
  · exact h.blk.lt
  · exact h.own.lt i hi
  · exact (h.bt x hx).2.lt _ rfl
/-- One batch, where the outer slice has it. -/
theorem QAt.at {w : World} {bq : Nat} {bs : List Bt} {bytes : Int} {la : Option Addr} {lc : Nat} {go : Option Nat} (h : QAt w bq bs bytes la lc go) {j : Nat} (hj : j < bs.length) : ∃ (x : Bt) (gb off : Nat), bs[j]? = some x ∧ la = some ⟨gb, off, none⟩ ∧ go = some gb ∧ w.cell? ⟨gb, off + j, none⟩ = some x.val ∧ w.frozen? ⟨gb, off + j, none⟩ = false ∧ x.ok w := by
  obtain ⟨gb, off, ha, hg, hc, hf⟩ := h.own.at (j := j) (by omega)
  refine ⟨bs[j], gb, off, List.getElem?_eq_getElem hj, ha, hg, ?_, hf, h.bt _ (List.getElem_mem hj)⟩
  rw [hc]
  simp [hj]

def sumLen (bs : List Bt) : Nat := (bs.map fun x => x.its.length).sum
theorem sumLen_take {bs : List Bt} {j : Nat} {x : Bt} (h : bs[j]? = some x) : sumLen (bs.take (j + 1)) = sumLen (bs.take j) + x.its.length := by
  unfold sumLen
  rw [List.take_add_one, h]
  simp

theorem many_le : ∀ {bs : List Bt}, (∀ x ∈ bs, 0 < x.its.length) → bs.length ≤ sumLen bs := by
  intro bs
  induction bs with
  | nil => intro _; exact Nat.zero_le _
  | cons x bs ih =>
    intro h
    have h1 := h x (List.mem_cons_self ..)
    have h2 := ih (fun y hy => h y (List.mem_cons_of_mem _ hy))
    unfold sumLen at *
    simp only [List.map_cons, List.sum_cons, List.length_cons]
    omega

set_option maxHeartbeats 1000000 in
theorem qBytes (bq : Nat) (bs : List Bt) (bytes : Int) (la : Option Addr) (lc : Nat) (go : Option Nat) (w : World) (h : QAt w bq bs bytes la lc go) :
    Calls Try.prog 54 #[.pointer (some ⟨bq, 0, none⟩)] w fun e w' => e = .returned (.int .i64 bytes) ∧ w = w' := by
  have c1 : w.cell? ⟨bq, 1, none⟩ = some (.int .i64 bytes) := h.blk.cell 1
  clear h
  go_enter Try.func54, Try.ntmps54
  go_wp2_with fail
  go_ret
  exact ⟨rfl, rfl⟩
set_option maxHeartbeats 1000000 in
theorem qBatches (bq : Nat) (bs : List Bt) (bytes : Int) (la : Option Addr) (lc : Nat) (go : Option Nat) (w : World) (h : QAt w bq bs bytes la lc go) :
    Calls Try.prog 55 #[.pointer (some ⟨bq, 0, none⟩)] w fun e w' => e = .returned (.int .i64 bs.length) ∧ w = w' := by
  have c0 : w.cell? ⟨bq, 0, none⟩ = some (.slice la bs.length lc) := h.blk.cell 0
  clear h
  go_enter Try.func55, Try.ntmps55
  go_wp2_with fail
  go_ret
  exact ⟨rfl, rfl⟩
set_option maxHeartbeats 1000000 in
set_option maxRecDepth 100000 in
theorem qLen (bq : Nat) (bs : List Bt) (bytes : Int) (la : Option Addr) (lc : Nat) (go : Option Nat) (w : World) (h : QAt w bq bs bytes la lc go) (hs : sumLen bs ≤ 1000000) :
    Calls Try.prog 52 #[.pointer (some ⟨bq, 0, none⟩)] w fun e w' => e = .returned (.int .i64 (sumLen bs)) ∧ w = w' := by
  have c0 : w.cell? ⟨bq, 0, none⟩ = some (.slice la bs.length lc) := h.blk.cell 0
  have H := Lib.hid h
  have HSM : Hid (∀ j, sumLen (bs.take j) ≤ sumLen bs) := fun j => by
    have e : bs = bs.take j ++ bs.drop j := (List.take_append_drop j bs).symm
    have : sumLen bs = sumLen (bs.take j) + sumLen (bs.drop j) := by
      conv => lhs; rw [e]
      unfold sumLen
      rw [List.map_append, List.sum_append]
    omega
  have hle := many_le (fun x hx => (h.bt x hx).1)
  clear h
  obtain ⟨nb, hnb⟩ : ∃ nb, nb = bs.length := ⟨_, rfl⟩
  rw [← hnb] at c0 hle
  have HNB := Lib.hid hnb
  clear hnb
  go_enter Try.func52, Try.ntmps52
  go_wp2_with fail
  go_loop [3, 13] (fun s i => ∃ j : Nat, s = .int .i64 (sumLen (bs.take j) : Nat) ∧ i = .int .i64 j ∧ j ≤ nb) (fun _ i => nb - (intOf i).toNat)
  case atStart => exact ⟨0, rfl, rfl, by omega⟩
  case round =>
    obtain ⟨j, rfl, rfl, hj⟩ := hrel
    by_cases hlt : j < nb
    · obtain ⟨x, gb, off, hx, rfl, _, hc, _, _⟩ := H.out.at (j := j) (by rw [← HNB.out]; exact hlt)
      have HT := Lib.hid (sumLen_take hx)
      have hb1 := HSM.out (j + 1)
      rw [HT.out] at hb1
      clear hx
      unfold Bt.val at hc
      generalize sumLen (bs.take j) = s at *
      generalize x.its.length = k at *
      go_wp2_with fail
      go_round
      case rel => exact ⟨j + 1, by rw [HT.out]; go_num, by go_num, by omega⟩
      case measure => simp [intOf]; omega
    · obtain rfl : j = nb := by omega
      have HE : Hid (sumLen (bs.take j) = sumLen bs) := by show _ = _; rw [List.take_of_length_le (by rw [HNB.out]; exact Nat.le_refl _)]
      go_wp2_with fail
      go_ret
      exact ⟨by rw [← HE.out]; rfl, rfl⟩

end Go.Proofs.Ytabeolmfgmbfaaa
