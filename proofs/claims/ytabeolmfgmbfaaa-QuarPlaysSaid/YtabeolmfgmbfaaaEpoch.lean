/- Package epoch: Begin, End, Now, Past. -/
import Derived.Test.YtabeolmfgmbfaaaMore
namespace Go.Proofs.Ytabeolmfgmbfaaa
open Go.RowKit
set_option linter.unusedVariables false
set_option linter.unusedSimpArgs false

/-- Epochs, counted. -/
def EpOk (n : Int) : Prop := 0 ≤ n ∧ n ≤ 16777215
def epB (n : Int) (on : Bool) : Int × Bool := if on = true then (n, on) else if 16777215 ≤ n then (n, on) else (n + 1, true)
def epE (n : Int) (on : Bool) : Int × Bool := (n, false)
def pastB (n : Int) (on : Bool) (s : Int) : Bool := (decide (s < n) && !on) || decide (s < n - 1)

def EpPost (r : Int × Bool) (w : World) (e : Ending) (w' : World) : Prop := ∃ x : Int, e = .returned (.tuple #[.agg #[.int .i64 r.1, .bool r.2], .int .i64 x]) ∧ Chg Non w w'

set_option maxHeartbeats 1000000 in
theorem epBegin (n : Int) (on : Bool) (w : World) (hn : EpOk n) :
    Calls Try.prog 16 #[.agg #[.int .i64 n, .bool on]] w (EpPost (epB n on) w) := by
  unfold EpOk at hn
  cases on
  · by_cases h : 16777215 ≤ n
    · have HE : Hid (epB n false = (n, false)) := by show _ = _; simp [epB, h]
      go_enter Try.func16, Try.ntmps16
      go_wp2_with fail
      refine bodyPost_ret (v := .tuple #[.agg #[.int .i64 n, .bool false], .int .i64 4]) (by simp [results, Try.results16, go_sem]) rfl ⟨4, by rw [HE.out], ?_⟩
      first
        | exact ((Chg.refl _ _).alloc _).alloc _
        | exact ((((Chg.refl _ _).alloc _).alloc _).setCell (p := ⟨w.heap.size + 1, 0, none⟩) (.inr (by simp)) _).setCell (p := ⟨w.heap.size + 1, 1, none⟩) (.inr (by simp)) _
    · have HE : Hid (epB n false = (n + 1, true)) := by show _ = _; simp [epB, h]
      go_enter Try.func16, Try.ntmps16
      go_wp2_with fail
      refine bodyPost_ret (v := .tuple #[.agg #[.int .i64 (n + 1), .bool true], .int .i64 0]) (by simp [results, Try.results16, go_sem]) rfl ⟨0, by rw [HE.out], ?_⟩
      first
        | exact ((Chg.refl _ _).alloc _).alloc _
        | exact ((((Chg.refl _ _).alloc _).alloc _).setCell (p := ⟨w.heap.size + 1, 0, none⟩) (.inr (by simp)) _).setCell (p := ⟨w.heap.size + 1, 1, none⟩) (.inr (by simp)) _
  · have HE : Hid (epB n true = (n, true)) := by show _ = _; simp [epB]
    go_enter Try.func16, Try.ntmps16
    go_wp2_with fail
    refine bodyPost_ret (v := .tuple #[.agg #[.int .i64 n, .bool true], .int .i64 12]) (by simp [results, Try.results16, go_sem]) rfl ⟨12, by rw [HE.out], ?_⟩
    first
      | exact ((Chg.refl _ _).alloc _).alloc _
      | exact ((((Chg.refl _ _).alloc _).alloc _).setCell (p := ⟨w.heap.size + 1, 0, none⟩) (.inr (by simp)) _).setCell (p := ⟨w.heap.size + 1, 1, none⟩) (.inr (by simp)) _

set_option maxHeartbeats 1000000 in
theorem epEnd (n : Int) (on : Bool) (w : World) :
    Calls Try.prog 17 #[.agg #[.int .i64 n, .bool on]] w (EpPost (epE n on) w) := by
  cases on
  · have HE : Hid (epE n false = (n, false)) := rfl
    go_enter Try.func17, Try.ntmps17
    go_wp2_with fail
    refine bodyPost_ret (v := .tuple #[.agg #[.int .i64 n, .bool false], .int .i64 12]) (by simp [results, Try.results17, go_sem]) rfl ⟨12, by rw [HE.out], ?_⟩
    first
      | exact ((Chg.refl _ _).alloc _).alloc _
      | exact ((((Chg.refl _ _).alloc _).alloc _).setCell (p := ⟨w.heap.size + 1, 0, none⟩) (.inr (by simp)) _).setCell (p := ⟨w.heap.size + 1, 1, none⟩) (.inr (by simp)) _
  · have HE : Hid (epE n true = (n, false)) := rfl
    go_enter Try.func17, Try.ntmps17
    go_wp2_with fail
    refine bodyPost_ret (v := .tuple #[.agg #[.int .i64 n, .bool false], .int .i64 0]) (by simp [results, Try.results17, go_sem]) rfl ⟨0, by rw [HE.out], ?_⟩
    first
      | exact ((Chg.refl _ _).alloc _).alloc _
      | exact ((((Chg.refl _ _).alloc _).alloc _).setCell (p := ⟨w.heap.size + 1, 0, none⟩) (.inr (by simp)) _).setCell (p := ⟨w.heap.size + 1, 1, none⟩) (.inr (by simp)) _

set_option maxHeartbeats 1000000 in
theorem epNow (n : Int) (on : Bool) (w : World) :
    Calls Try.prog 18 #[.agg #[.int .i64 n, .bool on]] w fun e w' => e = .returned (.int .i64 n) ∧ Chg Non w w' := by
  go_enter Try.func18, Try.ntmps18
  go_wp2_with fail
  go_ret
  exact ⟨rfl, (Chg.refl _ _).alloc _⟩

set_option maxHeartbeats 1000000 in
theorem epPast (n : Int) (on : Bool) (s : Int) (w : World) (hn : EpOk n) :
    Calls Try.prog 21 #[.agg #[.int .i64 n, .bool on], .int .i64 s] w fun e w' => e = .returned (.bool (pastB n on s)) ∧ Chg Non w w' := by
  unfold EpOk at hn
  by_cases h1 : s < n
  · by_cases h2 : s < n - 1
    · have HE : Hid (pastB n on s = true) := by show _ = _; simp [pastB, h2]
      cases on
      all_goals
        go_enter Try.func21, Try.ntmps21
        go_wp2_with fail
        go_ret
        exact ⟨by rw [HE.out]; rfl, (Chg.refl _ _).alloc _⟩
    · cases on
      · have HE : Hid (pastB n false s = true) := by show _ = _; simp [pastB, h1]
        go_enter Try.func21, Try.ntmps21
        go_wp2_with fail
        go_ret
        exact ⟨by rw [HE.out]; rfl, (Chg.refl _ _).alloc _⟩
      · have HE : Hid (pastB n true s = false) := by show _ = _; simp [pastB, h2]
        go_enter Try.func21, Try.ntmps21
        go_wp2_with fail
        go_ret
        exact ⟨by rw [HE.out]; rfl, (Chg.refl _ _).alloc _⟩
  · have h2 : ¬ s < n - 1 := by omega
    have HE : Hid (pastB n on s = false) := by show _ = _; simp [pastB, h1, h2]
    go_enter Try.func21, Try.ntmps21
    go_wp2_with fail
    go_ret
    exact ⟨by rw [HE.out]; rfl, (Chg.refl _ _).alloc _⟩

end Go.Proofs.Ytabeolmfgmbfaaa
