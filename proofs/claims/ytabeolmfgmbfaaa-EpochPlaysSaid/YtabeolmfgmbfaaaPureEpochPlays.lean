/- The law EpochPlays answers true at every list of numbers and every stamp: whatever begins and ends, the counts are those that are told. No condition. -/
import Derived.Test.YtabeolmfgmbfaaaPEpochPlaysx1
namespace Go.Proofs.Ytabeolmfgmbfaaa.Pure
open Go.RowKit Go.Proofs.Ytabeolmfgmbfaaa.PEpochPlays Go.Proofs.YtabeolmfgmbfaaaW.PrintWords Go.Proofs.YtabeolmfgmbfaaaW.PrintLast

theorem awake_yes : cubbyholelaw34_awake.f = some true := by decide +kernel

theorem wrap_up {i : Int} (h0 : 0 ≤ i) (h : i ≤ 1000) : wrap64 (i + 1) = i + 1 := by
  unfold wrap64; omega

theorem wrap_down {i : Int} (h0 : 0 ≤ i) (h : i ≤ 1000) : wrap64 (i - 1) = i - 1 := by
  unfold wrap64; omega

/-- What holds at the loop's head: how many began, whether one goes on, which ended last. -/
structure Inv (i n : Int) (on : Bool) (ended : Int) : Prop where
  i0 : 0 ≤ i
  i1 : i ≤ 40
  n0 : 0 ≤ n
  n1 : n ≤ i
  e0 : ended = if on then n - 1 else n

theorem past_yes {i n : Int} {on : Bool} {ended : Int} (h : Inv i n on ended) (s : Int) : epoch_Epoch_Past.f n on s = some (decide (s < ended)) := by
  obtain ⟨a, b, c, d, e⟩ := h
  unfold epoch_Epoch_Past.f
  rw [wrap_down c (by omega)]
  cases on
  · simp at e; subst e
    by_cases hs : s < ended
    · simp [hs]
    · rw [if_neg hs]
      have : ¬ s < ended - 1 := by omega
      simp [hs, this]
  · simp at e; subst e
    by_cases hs : s < n
    · rw [if_pos hs]; rfl
    · rw [if_neg hs]

theorem last_yes {i n : Int} {on : Bool} {ended : Int} (h : Inv i n on ended) (s : Int) :
    (cubbyholelaw34_awake.f.bind fun t122 => if t122 = true then (epoch_Epoch_Past.f n on s).bind fun t123 => some (t123 == decide (s < ended)) else some false) = some true := by
  rw [awake_yes]
  simp [past_yes h]

theorem round_yes (l : List Int) (s : Int) (d : Nat) : ∀ (k : Nat) (i n : Int) (on : Bool) (ended : Int), Inv i n on ended → 40 - i = d → 3 * d + 3 ≤ k →
    cubbyholelaw34_EpochPlays.l0 k l s n on ended i n on = some true := by
  induction d with
  | zero =>
    intro k i n on ended hi hd hk
    obtain ⟨k, rfl⟩ : ∃ m, k = m + 2 := ⟨k - 2, by omega⟩
    have h40 : ¬ i < 40 := by omega
    simp only [cubbyholelaw34_EpochPlays.l0]
    by_cases hlt : i < (l.length : Int)
    · rw [if_pos hlt]
      simp only [cubbyholelaw34_EpochPlays.j1]
      rw [if_neg (by simp [h40])]
      exact last_yes hi _
    · rw [if_neg hlt]
      simp only [cubbyholelaw34_EpochPlays.j1]
      rw [if_neg (by simp)]
      exact last_yes hi _
  | succ d ih =>
    intro k i n on ended hi hd hk
    obtain ⟨k, rfl⟩ : ∃ m, k = m + 3 := ⟨k - 3, by omega⟩
    have h40 : i < 40 := by omega
    have hi0 := hi.i0
    have hn0 := hi.n0
    have hn1 := hi.n1
    have he := hi.e0
    simp only [cubbyholelaw34_EpochPlays.l0]
    by_cases hlt : i < (l.length : Int)
    · rw [if_pos hlt]
      simp only [cubbyholelaw34_EpochPlays.j1]
      rw [if_pos (by simp [h40]), if_pos hi0, if_pos hlt]
      have wi := wrap_up hi0 (by omega)
      have wn := wrap_up hn0 (by omega)
      have e2 : epoch_Epoch_Now.f = fun a _ => some a := rfl
      have e3 : epoch_Epoch_On.f = fun _ b => some b := rfl
      by_cases hb : Go.bits .and .i64 (rd l i) 1 = 0
      · rw [if_pos hb]
        cases on with
        | true =>
          simp only [epoch_Epoch_Begin.f, if_true, Option.bind_some]
          simp only [cubbyholelaw34_EpochPlays.j2, e2, e3, Option.bind_some, if_true]
          rw [if_neg (by simp), wi]
          exact ih k (i + 1) n true ended ⟨by omega, by omega, by omega, by omega, he⟩ (by omega) (by omega)
        | false =>
          simp at he
          have hbig : ¬ n ≥ 16777215 := by omega
          simp only [epoch_Epoch_Begin.f, Bool.false_eq_true, if_false, if_neg hbig, Option.bind_some]
          simp only [cubbyholelaw34_EpochPlays.j2, e2, e3, Option.bind_some, if_true]
          rw [if_neg (by simp), wi, wn]
          exact ih k (i + 1) (n + 1) true ended ⟨by omega, by omega, by omega, by omega, by simp [he]⟩ (by omega) (by omega)
      · rw [if_neg hb]
        cases on with
        | true =>
          simp only [epoch_Epoch_End.f, if_true, Option.bind_some]
          simp only [cubbyholelaw34_EpochPlays.j2, e2, e3, Option.bind_some, if_true]
          rw [if_neg (by simp), wi]
          exact ih k (i + 1) n false n ⟨by omega, by omega, by omega, by omega, by simp⟩ (by omega) (by omega)
        | false =>
          simp only [epoch_Epoch_End.f, Bool.false_eq_true, if_false, Option.bind_some]
          simp only [cubbyholelaw34_EpochPlays.j2, e2, e3, Option.bind_some, if_true]
          rw [if_neg (by simp), wi]
          exact ih k (i + 1) n false ended ⟨by omega, by omega, by omega, by omega, he⟩ (by omega) (by omega)
    · rw [if_neg hlt]
      simp only [cubbyholelaw34_EpochPlays.j1]
      rw [if_neg (by simp)]
      exact last_yes hi _

theorem EpochPlays : cubbyholelaw34_EpochPlays.Pure := by
  intro l s _ _ _ _
  exact ⟨200, round_yes l s 40 200 0 0 false 0 ⟨by omega, by omega, by omega, by omega, by simp⟩ (by omega) (by omega)⟩

end Go.Proofs.Ytabeolmfgmbfaaa.Pure
