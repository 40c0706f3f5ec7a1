/- CutPrefix at the mark. -/
import Derived.Test.YtabeolmfgmbfaaaTake2
namespace Go.Proofs.Ytabeolmfgmbfaaa
open Go.RowKit
set_option linter.unusedVariables false
set_option linter.unusedSimpArgs false

/-- Do bytes begin with the mark? -/
def markB (s : ByteArray) : Bool := decide (s.data.toList.take 3 = [67, 84, 49])

theorem extract_list (s : ByteArray) : (s.extract 0 3).toList = s.data.toList.take 3 := by
  rw [ByteArray.toList_eq]
  simp [ByteArray.data_extract]

set_option maxHeartbeats 1000000 in
theorem hasPrefix_any (s : ByteArray) (w : World) (hs : s.size ≤ 140737488351232) :
    Calls Try.prog 88 #[.string s, .string { data := #[67, 84, 49] }] w fun e w' => e = .returned (.bool (markB s)) ∧ w = w' := by
  by_cases h3 : 3 ≤ s.size
  · have HE : Hid (((s.extract 0 3).toList == [67, 84, 49]) = markB s) := by
      show (_ = _)
      rw [extract_list]
      unfold markB
      rw [Bool.eq_iff_iff]
      simp
    go_enter Try.func88, Try.ntmps88
    go_wp2_with fail
    go_ret
    exact ⟨congrArg (fun b => Ending.returned (.bool b)) HE.out, rfl⟩
  · have HE : Hid (markB s = false) := by
      show (_ = _)
      unfold markB
      simp only [decide_eq_false_iff_not]
      intro h
      have := congrArg List.length h
      rw [List.length_take] at this
      simp at this
      omega
    go_enter Try.func88, Try.ntmps88
    go_wp2_with fail
    go_ret
    exact ⟨by rw [HE.out]; rfl, rfl⟩

def CutPost (s : ByteArray) (w : World) (e : Ending) (w' : World) : Prop := e = .returned (if markB s = true then .tuple #[.string (s.extract 3 s.size), .bool true] else .tuple #[.string s, .bool false]) ∧ w = w'

set_option maxHeartbeats 1000000 in
theorem cut1_any (s : ByteArray) (w : World) (hs : s.size ≤ 140737488351232) :
    Calls Try.prog 83 #[.string s, .string { data := #[67, 84, 49] }] w (CutPost s w) := by
  have HP := Lib.hid (hasPrefix_any s w hs)
  cases hm : markB s
  · have HM := Lib.hid hm
    rw [hm] at HP
    clear hm
    go_enter Try.func83, Try.ntmps83
    go_wp2_with fail
    refine HP.out.mono ?_
    rintro e w1 ⟨rfl, rfl⟩
    go_wp2_with fail
    go_ret2
    unfold CutPost
    rw [HM.out]
    exact ⟨rfl, rfl⟩
  · have HM := Lib.hid hm
    rw [hm] at HP
    have h3 : 3 ≤ s.size := by
      unfold markB at hm
      have h := congrArg List.length (of_decide_eq_true hm)
      rw [List.length_take] at h
      simp at h
      omega
    clear hm
    go_enter Try.func83, Try.ntmps83
    go_wp2_with fail
    refine HP.out.mono ?_
    rintro e w1 ⟨rfl, rfl⟩
    go_wp2_with fail
    go_ret2
    unfold CutPost
    rw [HM.out]
    exact ⟨rfl, rfl⟩

set_option maxHeartbeats 1000000 in
theorem cut_any (s : ByteArray) (w : World) (hs : s.size ≤ 140737488351232) :
    Calls Try.prog 67 #[.string s, .string { data := #[67, 84, 49] }] w (CutPost s w) := by
  have HP := Lib.hid (cut1_any s w hs)
  cases hm : markB s
  all_goals
    have HM := Lib.hid hm
    clear hm
    go_enter Try.func67, Try.ntmps67
    go_wp2_with fail
    refine HP.out.mono ?_
    intro e w1 h
    unfold CutPost at h
    rw [HM.out] at h
    obtain ⟨rfl, rfl⟩ := h
    go_wp2_with fail
    go_ret2
    unfold CutPost
    rw [HM.out]
    exact ⟨rfl, rfl⟩

end Go.Proofs.Ytabeolmfgmbfaaa
