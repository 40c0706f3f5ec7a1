/- QuarPlays: what waits, held against a plain list: the contracts of package quar at once, awake, and what is asked of none. -/
import Derived.Test.YtabeolmfgmbfaaaHas
namespace Go.Proofs.Ytabeolmfgmbfaaa
open Go.RowKit
set_option linter.unusedVariables false
set_option linter.unusedSimpArgs false

/-- The batches ls are the list ms, one batch for each epoch, rising; the rooms' sum; how many epochs began. -/
structure QInv (ls : List (List It)) (ms : List It) (bytes n : Int) (i : Nat) : Prop where
  flat : ls.flatten = ms
  ne : ∀ l ∈ ls, l ≠ []
  uni : ∀ l ∈ ls, ∀ y ∈ l, ∀ z ∈ l, y.ep = z.ep
  inc : ls.Pairwise (fun a b => ∀ y ∈ a, ∀ z ∈ b, y.ep < z.ep)
  room : RoomOk ms
  sum : bytes = sumRoom ms
  len : ms.length ≤ i
  n0 : 0 ≤ n
  n1 : n ≤ i
  at16 : ∀ y ∈ ms, y.at_ % 16 = 0

theorem qinv_nil : QInv [] [] 0 0 0 := ⟨rfl, by simp, by simp, List.Pairwise.nil, (fun y hy => (by cases hy)), rfl, Nat.le_refl _, Int.le_refl _, Int.le_refl _, (fun y hy => (by cases hy))⟩
theorem QInv.more {ls : List (List It)} {ms : List It} {bytes n : Int} {i : Nat} (h : QInv ls ms bytes n i) {m : Int} (h0 : 0 ≤ m) (h1 : m ≤ n + 1) : QInv ls ms bytes m (i + 1) :=
  ⟨h.flat, h.ne, h.uni, h.inc, h.room, h.sum, by have := h.len; omega, h0, by have := h.n1; omega, h.at16⟩

/-- May x come behind all of them? -/
def okM (ms : List It) (x : It) : Bool := match ms.getLast? with | none => true | some y => decide (y.ep ≤ x.ep)

theorem sumRoom_append (a b : List It) : sumRoom (a ++ b) = sumRoom a + sumRoom b := by
  unfold sumRoom
  rw [List.map_append, List.sum_append]
theorem RoomOk.snoc {ms : List It} (h : RoomOk ms) {x : It} (hx : 0 ≤ x.room ∧ x.room ≤ 1048576) : RoomOk (ms ++ [x]) := by
  intro y hy
  rcases List.mem_append.1 hy with hy | hy
  · exact h y hy
  · simp at hy; subst hy; exact hx

theorem last_flat {ls0 : List (List It)} {l : List It} {y : It} {r : List It} (h : l = y :: r) : ∃ z, (ls0 ++ [l]).flatten.getLast? = some z ∧ z ∈ l := by
  subst h
  refine ⟨(y :: r).getLast (by simp), ?_, List.getLast_mem _⟩
  rw [List.flatten_append]
  simp [List.getLast?_append, List.getLast?_cons, List.getLast_eq_getLastD]

theorem QInv.new {ls : List (List It)} {ms : List It} {bytes n : Int} {i : Nat} (h : QInv ls ms bytes n i) {x : It} (hx : 0 ≤ x.room ∧ x.room ≤ 1048576) (h16 : x.at_ % 16 = 0) (ho : ∀ l ∈ ls, ∀ y ∈ l, y.ep < x.ep) : QInv (ls ++ [[x]]) (ms ++ [x]) (bytes + x.room) n (i + 1) := by
  refine ⟨by rw [List.flatten_append, h.flat]; simp, fun l hl => ?_, fun l hl y hy z hz => ?_, ?_, h.room.snoc hx, ?_, by rw [List.length_append]; have := h.len; simp; omega, h.n0, by have := h.n1; omega, (fun y hy => by
    rcases List.mem_append.1 hy with hy | hy
    · exact h.at16 y hy
    · simp at hy; rw [hy]; exact h16)⟩
  · rcases List.mem_append.1 hl with hl | hl
    · exact h.ne l hl
    · simp at hl; subst hl; simp
  · rcases List.mem_append.1 hl with hl | hl
    · exact h.uni l hl y hy z hz
    · simp at hl; subst hl; simp at hy hz; rw [hy, hz]
  · rw [List.pairwise_append]
    refine ⟨h.inc, by simp, fun a ha b hb y hy z hz => ?_⟩
    simp at hb; subst hb; simp at hz; subst hz
    exact ho a ha y hy
  · rw [sumRoom_append, h.sum]; simp [sumRoom]
theorem QInv.same {ls0 : List (List It)} {l ms : List It} {bytes n : Int} {i : Nat} (h : QInv (ls0 ++ [l]) ms bytes n i) {x : It} (hx : 0 ≤ x.room ∧ x.room ≤ 1048576) (h16 : x.at_ % 16 = 0) (ho : ∀ y ∈ l, y.ep = x.ep) : QInv (ls0 ++ [l ++ [x]]) (ms ++ [x]) (bytes + x.room) n (i + 1) := by
  refine ⟨?_, fun k hk => ?_, fun k hk y hy z hz => ?_, ?_, h.room.snoc hx, ?_, by rw [List.length_append]; have := h.len; simp; omega, h.n0, by have := h.n1; omega, (fun y hy => by
    rcases List.mem_append.1 hy with hy | hy
    · exact h.at16 y hy
    · simp at hy; rw [hy]; exact h16)⟩
  · rw [← h.flat]; simp
  · rcases List.mem_append.1 hk with hk | hk
    · exact h.ne k (List.mem_append_left _ hk)
    · simp at hk; subst hk; simp
  · rcases List.mem_append.1 hk with hk | hk
    · exact h.uni k (List.mem_append_left _ hk) y hy z hz
    · simp at hk; subst hk
      have go : ∀ u ∈ l ++ [x], u.ep = x.ep := fun u hu => by
        rcases List.mem_append.1 hu with hu | hu
        · exact ho u hu
        · simp at hu; rw [hu]
      rw [go y hy, go z hz]
  · have hi := h.inc
    rw [List.pairwise_append] at hi ⊢
    refine ⟨hi.1, by simp, fun a ha b hb y hy z hz => ?_⟩
    simp at hb; subst hb
    have hne := h.ne l (by simp)
    rcases List.mem_append.1 hz with hz | hz
    · exact hi.2.2 a ha l (by simp) y hy z hz
    · simp at hz; subst hz
      obtain ⟨u, r, rfl⟩ := List.exists_cons_of_ne_nil hne
      have h1 := hi.2.2 a ha (u :: r) (by simp) y hy u (by simp)
      rw [ho u (by simp)] at h1
      exact h1
  · rw [sumRoom_append, h.sum]; simp [sumRoom]
theorem QInv.rest {l : List It} {ls : List (List It)} {ms : List It} {bytes n : Int} {i : Nat} (h : QInv (l :: ls) ms bytes n i) : QInv ls ls.flatten (bytes - sumRoom l) n i ∧ ms = l ++ ls.flatten := by
  have hf : ms = l ++ ls.flatten := by rw [← h.flat]; simp
  have hp := List.pairwise_cons.1 h.inc
  refine ⟨⟨rfl, fun k hk => h.ne k (List.mem_cons_of_mem _ hk), fun k hk => h.uni k (List.mem_cons_of_mem _ hk), hp.2, fun y hy => h.room y (by rw [hf]; exact List.mem_append_right _ hy), ?_, ?_, h.n0, h.n1, fun y hy => h.at16 y (by rw [hf]; exact List.mem_append_right _ hy)⟩, hf⟩
  · rw [h.sum, hf, sumRoom_append]; omega
  · have := h.len; rw [hf, List.length_append] at this; omega

theorem map_its_flat (bs : List Bt) : flatI bs = (bs.map Bt.its).flatten := rfl
theorem QInv.sumLen {bs : List Bt} {ms : List It} {bytes n : Int} {i : Nat} (h : QInv (bs.map Bt.its) ms bytes n i) : sumLen bs = ms.length := by
  rw [← flatI_len, map_its_flat, h.flat]

/-- What Put has done. -/
def PutOk (bq : Nat) (ms : List It) (bytes : Int) (x : It) (n : Int) (i : Nat) (F : Nat → Prop) (w : World) (e : Ending) (w' : World) : Prop :=
  e = .returned (.bool true) ∧ ∃ ls F', QInv ls (ms ++ [x]) (bytes + x.room) n (i + 1) ∧ (quarAt bq ls (bytes + x.room)).on w' F' ∧ Upd w w' F F'

theorem qPut_yes (bq : Nat) (ls : List (List It)) (ms : List It) (bytes : Int) (x : It) (n : Int) (i : Nat) (F : Nat → Prop) (w : World) (h : (quarAt bq ls bytes).on w F) (inv : QInv ls ms bytes n i) (hi : i ≤ 100) (hx : 0 ≤ x.room ∧ x.room ≤ 1048576) (h16 : x.at_ % 16 = 0) (hok : okM ms x = true) :
    Calls Try.prog 50 #[.pointer (some ⟨bq, 0, none⟩), .agg x.cells] w (PutOk bq ms bytes x n i F w) := by
  obtain ⟨⟨bs, la, lc⟩, ⟨rfl, hne⟩, hs⟩ := h
  have hne' : ∀ y ∈ bs, y.its ≠ [] := fun y hy => hne y.its (List.mem_map.2 ⟨y, hy, rfl⟩)
  have hml : bs.length ≤ ms.length := by
    rw [← inv.sumLen]
    exact many_le (fun y hy => List.length_pos_iff.2 (hne' y hy))
  have hl := inv.len
  have hb := sumRoom_le inv.room
  rw [← inv.sum] at hb
  have new : Older bs x → (∀ l ∈ bs.map Bt.its, ∀ y ∈ l, y.ep < x.ep) → Calls Try.prog 50 #[.pointer (some ⟨bq, 0, none⟩), .agg x.cells] w (PutOk bq ms bytes x n i F w) := fun h1 h2 =>
    (put_new bq bs bytes la lc x w F hs hne' h1 (by omega) (by omega) (by omega)).mono fun e w' ⟨he, F', h3, h4⟩ => ⟨he, _, F', inv.new hx h16 h2, h3, h4⟩
  by_cases hbs : bs = []
  · subst hbs
    exact new (.inl rfl) (by simp)
  · obtain ⟨bs0, b, rfl⟩ := last_of hbs
    obtain ⟨x0, r, hbi⟩ := List.exists_cons_of_ne_nil (hne' b (by simp))
    have hbm : b.its ∈ (bs0 ++ [b]).map Bt.its := List.mem_map.2 ⟨b, by simp, rfl⟩
    have hu : ∀ y ∈ b.its, y.ep = x0.ep := fun y hy => inv.uni b.its hbm y hy x0 (by rw [hbi]; simp)
    have hms : ∃ z, ms.getLast? = some z ∧ z ∈ b.its := by
      rw [← inv.flat, List.map_append]
      exact last_flat hbi
    obtain ⟨z, hz, hzm⟩ := hms
    have hle : x0.ep ≤ x.ep := by
      unfold okM at hok
      rw [hz] at hok
      simp at hok
      rw [← hu z hzm]
      exact hok
    by_cases heq : x0.ep = x.ep
    · have inv2 := inv
      rw [List.map_append, List.map_singleton] at inv2
      have hbl : b.its.length ≤ ms.length := by
        rw [← inv.flat, List.map_append, List.flatten_append]
        simp
      exact (put_same bq bs0 b x0 r bytes la lc x w F hs hne' hbi heq (by simp at hml; omega) (by omega) (by omega) (by omega)).mono fun e w' ⟨he, F', h3, h4⟩ => ⟨he, _, F', inv2.same hx h16 (fun y hy => (hu y hy).trans heq), h3, h4⟩
    · refine new (.inr ⟨bs0, b, x0, r, rfl, hbi, by omega⟩) (fun l hl y hy => ?_)
      rw [List.map_append, List.map_singleton] at hl
      rcases List.mem_append.1 hl with hl | hl
      · have hi2 := inv.inc
        rw [List.map_append, List.map_singleton, List.pairwise_append] at hi2
        have := hi2.2.2 l hl b.its (by simp) y hy x0 (by rw [hbi]; simp)
        omega
      · simp at hl
        subst hl
        rw [hu y hy]
        omega

theorem qPut_no (bq : Nat) (ls : List (List It)) (ms : List It) (bytes : Int) (x : It) (n : Int) (i : Nat) (F : Nat → Prop) (w : World) (h : (quarAt bq ls bytes).on w F) (inv : QInv ls ms bytes n i) (hi : i ≤ 100) (hok : okM ms x = false) :
    Calls Try.prog 50 #[.pointer (some ⟨bq, 0, none⟩), .agg x.cells] w (PutNo w) := by
  obtain ⟨⟨bs, la, lc⟩, ⟨rfl, hne⟩, hs⟩ := h
  have hne' : ∀ y ∈ bs, y.its ≠ [] := fun y hy => hne y.its (List.mem_map.2 ⟨y, hy, rfl⟩)
  have hml : bs.length ≤ ms.length := by
    rw [← inv.sumLen]
    exact many_le (fun y hy => List.length_pos_iff.2 (hne' y hy))
  have hl := inv.len
  by_cases hbs : bs = []
  · subst hbs
    have : ms = [] := by rw [← inv.flat]; rfl
    subst this
    simp [okM] at hok
  · obtain ⟨bs0, b, rfl⟩ := last_of hbs
    obtain ⟨x0, r, hbi⟩ := List.exists_cons_of_ne_nil (hne' b (by simp))
    have hbm : b.its ∈ (bs0 ++ [b]).map Bt.its := List.mem_map.2 ⟨b, by simp, rfl⟩
    have hms : ∃ z, ms.getLast? = some z ∧ z ∈ b.its := by
      rw [← inv.flat, List.map_append]
      exact last_flat hbi
    obtain ⟨z, hz, hzm⟩ := hms
    have hlt : x.ep < x0.ep := by
      unfold okM at hok
      rw [hz] at hok
      simp at hok
      rw [← inv.uni b.its hbm z hzm x0 (by rw [hbi]; simp)]
      exact hok
    obtain ⟨go, hq⟩ := qat_of hs hne'
    exact put_no bq bs0 b x0 r bytes la lc go x w hq hbi hlt (by omega)

def TakeOk (bq : Nat) (l : List It) (ls : List (List It)) (bytes : Int) (F : Nat → Prop) (w : World) (e : Ending) (w' : World) : Prop :=
  ∃ (a : Option Addr) (c : Nat) (F' : Nat → Prop), e = .returned (.slice a l.length c) ∧ Sep [own 79 5 (.slice a l.length c) l.length (cellsI l), quarAt bq ls (bytes - sumRoom l)] w' F' ∧ Upd w w' F F'

theorem qTake_yes (bq : Nat) (l : List It) (ls : List (List It)) (ms : List It) (bytes : Int) (n : Int) (on : Bool) (i : Nat) (x0 : It) (r : List It) (F : Nat → Prop) (w : World) (h : (quarAt bq (l :: ls) bytes).on w F) (inv : QInv (l :: ls) ms bytes n i) (hi : i ≤ 100) (hl : l = x0 :: r) (hp : pastB n on x0.ep = true) :
    Calls Try.prog 49 #[.pointer (some ⟨bq, 0, none⟩), .agg #[.int .i64 n, .bool on]] w (TakeOk bq l ls bytes F w) := by
  obtain ⟨⟨bs, la, lc⟩, ⟨hm, hne⟩, hs⟩ := h
  obtain ⟨b, bs1, rfl⟩ : ∃ b bs1, bs = b :: bs1 := by
    cases bs with
    | nil => simp at hm
    | cons b bs1 => exact ⟨b, bs1, rfl⟩
  have hb : b.its = l := by simp at hm; exact hm.1
  have hbs : bs1.map Bt.its = ls := by simp at hm; exact hm.2
  subst hb
  subst hbs
  have hne' : ∀ y ∈ b :: bs1, y.its ≠ [] := fun y hy => hne y.its (by rw [← List.map_cons (f := Bt.its)]; exact List.mem_map.2 ⟨y, hy, rfl⟩)
  have hml : (b :: bs1).length ≤ ms.length := by
    have inv2 : QInv ((b :: bs1).map Bt.its) ms bytes n i := inv
    rw [← inv2.sumLen]
    exact many_le (fun y hy => List.length_pos_iff.2 (hne' y hy))
  have hlen := inv.len
  have hbd := sumRoom_le inv.room
  rw [← inv.sum] at hbd
  obtain ⟨_, hms⟩ := inv.rest
  have hrm : RoomOk b.its := fun y hy => inv.room y (by rw [hms]; exact List.mem_append_left _ hy)
  have hbl : b.its.length ≤ ms.length := by rw [hms, List.length_append]; omega
  have h0 := inv.n0
  have h1 := inv.n1
  simp only [List.length_cons] at hml
  refine (take_yes bq bs1 b x0 r bytes la lc n on w F hs hne' hl ⟨h0, by omega⟩ hp hrm (by omega) (by omega) (by omega)).mono ?_
  rintro e w' ⟨b', F', hb', rfl, h3, h4⟩
  rw [← hb'] at h3 ⊢
  exact ⟨_, _, F', rfl, h3, h4⟩

theorem qTake_no (bq : Nat) (ls : List (List It)) (ms : List It) (bytes : Int) (n : Int) (on : Bool) (i : Nat) (F : Nat → Prop) (w : World) (h : (quarAt bq ls bytes).on w F) (inv : QInv ls ms bytes n i) (hi : i ≤ 100) (hp : ∀ y r, ms = y :: r → pastB n on y.ep = false) :
    Calls Try.prog 49 #[.pointer (some ⟨bq, 0, none⟩), .agg #[.int .i64 n, .bool on]] w (TakeNo w) := by
  obtain ⟨⟨bs, la, lc⟩, ⟨rfl, hne⟩, hs⟩ := h
  have hne' : ∀ y ∈ bs, y.its ≠ [] := fun y hy => hne y.its (List.mem_map.2 ⟨y, hy, rfl⟩)
  have h0 := inv.n0
  have h1 := inv.n1
  cases bs with
  | nil => exact take_none bq bytes la lc n on w F hs
  | cons b bs1 =>
    obtain ⟨x0, r, hbi⟩ := List.exists_cons_of_ne_nil (hne' b (by simp))
    refine take_not bq bs1 b x0 r bytes la lc n on w F hs hne' hbi ⟨h0, by omega⟩ (hp x0 (r ++ (bs1.map Bt.its).flatten) ?_)
    rw [← inv.flat]
    simp [hbi]

theorem qReads (bq : Nat) (ls : List (List It)) (ms : List It) (bytes : Int) (n : Int) (i : Nat) (F : Nat → Prop) (w : World) (h : (quarAt bq ls bytes).on w F) (inv : QInv ls ms bytes n i) (hi : i ≤ 100) :
    (Calls Try.prog 51 #[.pointer (some ⟨bq, 0, none⟩)] w (NewOwn 79 5 ms.length (cellsI ms) w)) ∧
    (Calls Try.prog 52 #[.pointer (some ⟨bq, 0, none⟩)] w fun e w' => e = .returned (.int .i64 ms.length) ∧ w = w') ∧
    (Calls Try.prog 54 #[.pointer (some ⟨bq, 0, none⟩)] w fun e w' => e = .returned (.int .i64 bytes) ∧ w = w') ∧
    (Calls Try.prog 55 #[.pointer (some ⟨bq, 0, none⟩)] w fun e w' => e = .returned (.int .i64 ls.length) ∧ w = w') ∧
    ∀ x, Calls Try.prog 53 #[.pointer (some ⟨bq, 0, none⟩), .int .i64 x] w fun e w' => e = .returned (.bool (atB ms x)) ∧ Chg Non w w' := by
  obtain ⟨⟨bs, la, lc⟩, ⟨rfl, hne⟩, hs⟩ := h
  have hne' : ∀ y ∈ bs, y.its ≠ [] := fun y hy => hne y.its (List.mem_map.2 ⟨y, hy, rfl⟩)
  obtain ⟨go, hq⟩ := qat_of hs hne'
  have hlen := inv.len
  have hsl : sumLen bs = ms.length := inv.sumLen
  have hf : flatI bs = ms := by rw [map_its_flat, inv.flat]
  have hsum : sumLen bs ≤ 1000000 := by omega
  have a1 := qList bq bs bytes la lc go w hq hsum
  have a2 := qLen bq bs bytes la lc go w hq hsum
  rw [hf] at a1
  rw [hsl] at a2
  refine ⟨a1, a2, qBytes bq bs bytes la lc go w hq, ?_, fun x => ?_⟩
  · rw [List.length_map]
    exact qBatches bq bs bytes la lc go w hq
  · have := qHas bq bs bytes la lc go x w hq hsum
    rwa [hf] at this

/-! ### Of none -/
theorem itms_nil (w : World) : Itms w none 0 [] := by
  refine ⟨rfl, fun j y hy => ?_⟩
  simp at hy

set_option maxHeartbeats 1000000 in
set_option maxRecDepth 100000 in
theorem none_put (x : It) (w : World) : Calls Try.prog 50 #[.pointer none, .agg x.cells] w fun e w' => e = .returned (.bool false) ∧ Chg Non w w' := by
  go_enter Try.func50, Try.ntmps50
  go_wp2_with fail
  go_ret
  exact ⟨rfl, (Chg.refl _ _).alloc _⟩
set_option maxHeartbeats 1000000 in
set_option maxRecDepth 100000 in
theorem none_take (n : Int) (on : Bool) (w : World) : Calls Try.prog 49 #[.pointer none, .agg #[.int .i64 n, .bool on]] w (TakeNo w) := by
  go_enter Try.func49, Try.ntmps49
  go_wp2_with fail
  go_quiet (fail)
  go_wp2_with fail
  go_ret
  exact ⟨rfl, ((Chg.refl _ _).alloc _).drewN _⟩
set_option maxHeartbeats 1000000 in
theorem none_len (w : World) : Calls Try.prog 52 #[.pointer none] w fun e w' => e = .returned (.int .i64 0) ∧ w = w' := by
  go_enter Try.func52, Try.ntmps52
  go_wp2_with fail
  go_ret
  exact ⟨rfl, rfl⟩
set_option maxHeartbeats 1000000 in
theorem none_bytes (w : World) : Calls Try.prog 54 #[.pointer none] w fun e w' => e = .returned (.int .i64 0) ∧ w = w' := by
  go_enter Try.func54, Try.ntmps54
  go_wp2_with fail
  go_ret
  exact ⟨rfl, rfl⟩
set_option maxHeartbeats 1000000 in
theorem none_batches (w : World) : Calls Try.prog 55 #[.pointer none] w fun e w' => e = .returned (.int .i64 0) ∧ w = w' := by
  go_enter Try.func55, Try.ntmps55
  go_wp2_with fail
  go_ret
  exact ⟨rfl, rfl⟩
set_option maxHeartbeats 1000000 in
theorem none_list (w : World) : Calls Try.prog 51 #[.pointer none] w fun e w' => e = .returned (.slice none 0 0) ∧ w = w' := by
  go_enter Try.func51, Try.ntmps51
  go_wp2_with fail
  go_ret
  exact ⟨rfl, rfl⟩
set_option maxHeartbeats 1000000 in
set_option maxRecDepth 100000 in
theorem none_has (x : Int) (w : World) : Calls Try.prog 53 #[.pointer none, .int .i64 x] w fun e w' => e = .returned (.bool false) ∧ Chg Non w w' := by
  go_enter Try.func53, Try.ntmps53
  go_wp2_with (go_at_call 51; (with_reducible refine (none_list _).mono ?_); rintro e w' ⟨rfl, rfl⟩)
  (with_reducible refine (containsI_any none 0 0 [] _ x _ (itms_nil _) (by omega) (Blk.new _ _ _)).mono ?_)
  rintro e w2 ⟨rfl, hc2⟩
  have HC2 := Lib.hid hc2
  clear hc2
  go_wp2_with fail
  go_ret
  exact ⟨rfl, ((Chg.refl _ _).alloc _).tr HC2.out⟩

theorem QInv.head {ls : List (List It)} {y : It} {ms : List It} {bytes n : Int} {i : Nat} (h : QInv ls (y :: ms) bytes n i) : ∃ r ls', ls = (y :: r) :: ls' := by
  cases ls with
  | nil => have := h.flat; simp at this
  | cons l ls' =>
    obtain ⟨u, r, rfl⟩ := List.exists_cons_of_ne_nil (h.ne l (by simp))
    have := h.flat
    simp at this
    exact ⟨r, ls', by rw [this.1]⟩
theorem QInv.empty {ls : List (List It)} {bytes n : Int} {i : Nat} (h : QInv ls [] bytes n i) : ls = [] := by
  cases ls with
  | nil => rfl
  | cons l ls' =>
    obtain ⟨u, r, rfl⟩ := List.exists_cons_of_ne_nil (h.ne l (by simp))
    have := h.flat
    simp at this
/-! ### awake -/
theorem quar_new (w : World) : ∃ F, (quarAt w.heap.size [] 0).on (w.alloc (.cells #[.slice none 0 0, .int .i64 0] 74)) F ∧ Upd w (w.alloc (.cells #[.slice none 0 0, .int .i64 0] 74)) Non F := by
  have h0 : Sep [] w Non := fun _ h => h
  obtain ⟨F1, h1, u1⟩ := h0.pushOwnAt (Chg.refl _ _) (Own.nil w 75 1) (fun k hk => by cases hk)
  obtain ⟨F2, h2, u2⟩ := h1.pushBlk #[.slice none 0 0, .int .i64 0] 74
  exact ⟨F2, ⟨([], none, 0), ⟨rfl, by simp⟩, h2⟩, u1.trans u2⟩

set_option maxHeartbeats 4000000 in
set_option maxRecDepth 100000 in
theorem awake35_any (w : World) : Calls Try.prog 56 #[] w fun e w' => e = .returned (.bool true) ∧ Chg Non w w' := by
  obtain ⟨F1, hs1, hu1⟩ := quar_new w
  have HU1 := Lib.hid hu1
  have HP : Hid (Calls Try.prog 50 #[.pointer (some ⟨w.heap.size, 0, none⟩), .agg #[.int .i64 32, .int .i64 16, .int .i64 0, .int .i64 0, .int .i64 0]] (w.alloc (.cells #[.slice none 0 0, .int .i64 0] 74)) (PutOk w.heap.size [] 0 ⟨32, 16, 0, 0, 0⟩ 0 0 F1 (w.alloc (.cells #[.slice none 0 0, .int .i64 0] 74)))) := qPut_yes w.heap.size [] [] 0 ⟨32, 16, 0, 0, 0⟩ 0 0 F1 _ hs1 qinv_nil (by omega) (by decide) (by decide) rfl
  clear hs1 hu1
  go_enter Try.func56, Try.ntmps56
  go_wp2_with fail
  (with_reducible refine HP.out.mono ?_)
  rintro e w1 ⟨rfl, ls, F2, inv, hs, hu⟩
  have hls : ls = [[⟨32, 16, 0, 0, 0⟩]] := by
    obtain ⟨r, ls', rfl⟩ := inv.head
    have hf := inv.flat
    simp at hf
    obtain ⟨rfl, h2⟩ := hf
    cases ls' with
    | nil => rfl
    | cons l _ => exact absurd (h2 l (by simp)) (inv.ne l (by simp))
  subst hls
  have HS2 := Lib.hid hs
  have HU2 := Lib.hid (HU1.out.trans hu)
  have HV := Lib.hid inv
  clear inv hs hu HP HU1
  have HB : Hid (∀ W, Calls Try.prog 16 #[.agg #[.int .i64 0, .bool false]] W (EpPost (1, true) W)) := fun W => epBegin 0 false W ⟨by omega, by omega⟩
  go_wp2_with fail
  (with_reducible refine (HB.out _).mono ?_)
  rintro e w2 ⟨xe, rfl, hc⟩
  have HC2 := Lib.hid hc
  clear hc
  have HTN : Hid (∀ W, Chg Non w1 W → Calls Try.prog 49 #[.pointer (some ⟨w.heap.size, 0, none⟩), .agg #[.int .i64 1, .bool true]] W (TakeNo W)) := fun W hc => qTake_no w.heap.size _ _ _ 1 true 1 F2 W (As.non _ HS2.out hc) ⟨HV.out.flat, HV.out.ne, HV.out.uni, HV.out.inc, HV.out.room, HV.out.sum, HV.out.len, by omega, by omega, HV.out.at16⟩ (by omega) (fun y r h => by cases h; rfl)
  go_wp2_with fail
  (with_reducible refine (HTN.out _ ?_).mono ?_)
  · exact (HC2.out.alloc _)
  rintro e w3 ⟨rfl, hc⟩
  have he := (Blk.new w2 #[.int .i64 1, .bool true] 24).chg hc (fun h => h)
  have e0 := he.cell 0
  have e1 := he.cell 1
  simp only [List.getElem?_toArray, List.getElem?_cons_zero, List.getElem?_cons_succ] at e0 e1
  have HC3 : Hid (Chg Non w1 w3) := (HC2.out.alloc _).tr hc
  clear hc HC2 HTN HB he
  have HB : Hid (∀ W, Calls Try.prog 17 #[.agg #[.int .i64 1, .bool true]] W (EpPost (1, false) W)) := fun W => epEnd 1 true W
  go_wp2_with fail
  (with_reducible refine (HB.out _).mono ?_)
  rintro e w4 ⟨xe, rfl, hc⟩
  have HC4 : Hid (Chg Non w1 w4) := HC3.out.tr hc
  clear hc HC3 e0 e1 HB
  have HTY : Hid (∀ W, Chg Non w1 W → Calls Try.prog 49 #[.pointer (some ⟨w.heap.size, 0, none⟩), .agg #[.int .i64 1, .bool false]] W (TakeOk w.heap.size [⟨32, 16, 0, 0, 0⟩] [] (0 + 16) F2 W)) := fun W hc => qTake_yes w.heap.size _ _ _ _ 1 false 1 ⟨32, 16, 0, 0, 0⟩ [] F2 W (As.non _ HS2.out hc) ⟨HV.out.flat, HV.out.ne, HV.out.uni, HV.out.inc, HV.out.room, HV.out.sum, HV.out.len, by omega, by omega, HV.out.at16⟩ (by omega) rfl rfl
  go_wp2_with fail
  (with_reducible refine (HTY.out _ ?_).mono ?_)
  · exact (HC4.out.alloc _)
  rintro e w5 ⟨a5, c5, F5, rfl, hs5, hu5⟩
  obtain ⟨g5, ho5⟩ := hs5.ownAt 0 rfl
  obtain ⟨b5, o5, rfl, _, z0, _⟩ := ho5.at (j := 0) (by decide)
  have z0' : w5.cell? ⟨b5, o5, none⟩ = some (.int .i64 32) := z0
  have HS5 := Lib.hid hs5
  have HU5 : Hid (Upd w w5 Non F5) := (HU2.out.chgNon (HC4.out.alloc _)).trans hu5
  have hlen : ([⟨32, 16, 0, 0, 0⟩] : List It).length = 1 := rfl
  rw [hlen]
  clear hs5 hu5 ho5 z0 hlen HTY
  have HLN : Hid (Calls Try.prog 52 #[.pointer (some ⟨w.heap.size, 0, none⟩)] w5 fun e w' => e = .returned (.int .i64 0) ∧ w5 = w') := by
    obtain ⟨G, a, _⟩ := (HS5.out.bring 1 rfl).head
    exact (qReads w.heap.size [] [] _ 1 1 G w5 a ⟨rfl, by simp, by simp, List.Pairwise.nil, (fun y hy => (by cases hy)), rfl, by simp, by omega, by omega, (fun y hy => (by cases hy))⟩ (by omega)).2.1
  go_wp2_with fail
  (with_reducible refine HLN.out.mono ?_)
  rintro e w' ⟨rfl, rfl⟩
  go_wp2_with fail
  go_ret
  exact ⟨rfl, HU5.out.chg⟩

end Go.Proofs.Ytabeolmfgmbfaaa
