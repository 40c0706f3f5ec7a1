/- The reference's Next (cubbyholeref16): what it tells of draws that are handed in by value. Every list and number of 64 bits. -/
import Derived.Test.YtabeolmfgmbfaaaDraw
import Derived.ChangeAlike
namespace Go.Proofs.Ytabeolmfgmbfaaa
open Go.RowKit
set_option linter.unusedVariables false
set_option linter.unusedSimpArgs false

/-- One way to say what Next of the reference answers. -/
def RefNext (w : World) (B : Nat) (r : Int) (a : Option Addr) (n c : Nat) (u : Int) (e : Ending) (w' : World) : Prop :=
  e = .returned (.tuple #[.int .i64 r, .agg #[.slice a n c, .int .u64 u]]) ∧ Below B w w'

set_option maxHeartbeats 1000000 in
theorem refNext_low (a : Option Addr) (len cap : Nat) (u n : Int) (w : World) (h : n < 1) :
    Calls Try.prog 25 #[.agg #[.slice a len cap, .int .u64 u], .int .i64 n] w (RefNext w w.heap.size 0 a len cap u) := by
  go_enter Try.func25, Try.ntmps25
  go_wp2
  go_region
  go_wp2
  exact bodyPost_ret (v := .tuple #[.int .i64 0, .agg #[.slice a len cap, .int .u64 u]]) (by simp [results, Try.results25, go_sem]) rfl ⟨rfl, ((((Below.refl _ _).alloc (Nat.le_refl _) _).alloc (by simp) _).drew)⟩

theorem quo128 (X : Int) : IntKind.u64.wrap ((IntKind.u64.wrap X).tdiv 128) = IntKind.u64.wrap X / 128 := by
  have h : 0 ≤ IntKind.u64.wrap X := by rw [u64_wrap]; omega
  have h2 : IntKind.u64.wrap X < 18446744073709551616 := by rw [u64_wrap]; omega
  generalize IntKind.u64.wrap X = y at h h2
  rw [Int.tdiv_eq_ediv_of_nonneg h, u64_wrap]
  omega

set_option maxHeartbeats 1000000 in
theorem refNext_rule (a : Option Addr) (cap : Nat) (u n : Int) (w : World) (h : 1 ≤ n) (h2 : n ≤ 9223372036854775807) :
    Calls Try.prog 25 #[.agg #[.slice a 0 cap, .int .u64 u], .int .i64 n] w (RefNext w w.heap.size (rule u n) a 0 cap (ruleU u)) := by
  go_enter Try.func25, Try.ntmps25
  go_wp2
  go_region
  go_wp2
  exact bodyPost_ret (v := .tuple #[.int .i64 (wrap64 ((IntKind.u64.wrap ((IntKind.u64.wrap (IntKind.u64.wrap (u + 1) * 2654435761)).tdiv 128)).tmod n)), .agg #[.slice a 0 cap, .int .u64 (ruleU u)]]) (by simp [results, Try.results25, go_sem, ruleU]) rfl ⟨by rw [quo128]; rfl, ((((Below.refl _ _).alloc (Nat.le_refl _) _).alloc (by simp) _).drew)⟩

set_option maxHeartbeats 1000000 in
theorem refNext_list (b off len cap : Nat) (x u n : Int) (w : World) (h : 1 ≤ n) (h2 : n ≤ 9223372036854775807) (hl : 1 ≤ len) (hc : len ≤ cap) (hb : b < w.heap.size)
    (h1 : w.cell? ⟨b, off, none⟩ = some (.int .i64 x)) :
    Calls Try.prog 25 #[.agg #[.slice (some ⟨b, off, none⟩) len cap, .int .u64 u], .int .i64 n] w
      (RefNext w w.heap.size (ofList x n) (some (if cap = 1 then ⟨b, off, none⟩ else ⟨b, off + 1, none⟩)) (len - 1) (cap - 1) u) := by
  have a := Int.tmod_lt_of_pos x (show 0 < n by omega)
  have c := Int.lt_tmod_of_pos x (show 0 < n by omega)
  by_cases hs : x.tmod n < 0
  · have ho : ofList x n = x.tmod n + n := by unfold ofList; rw [if_pos hs]
    by_cases hcap : cap = 1
    · have hcap' : (cap = 1) = True := by simp [hcap]
      go_enter Try.func25, Try.ntmps25
      go_wp2
      go_region
      go_wp2
      refine bodyPost_ret (v := .tuple #[.int .i64 (ofList x n), .agg #[.slice (some (if cap = 1 then ⟨b, off, none⟩ else ⟨b, off + 1, none⟩)) (len - 1) (cap - 1), .int .u64 u]]) ?_ rfl ⟨?_, ?_⟩
      · simp [results, Try.results25, go_sem, *]
      · simp [*]
      · exact ((((Below.refl _ _).alloc (Nat.le_refl _) _).alloc (by simp) _).drew)
    · have hcap' : (cap = 1) = False := by simp [hcap]
      go_enter Try.func25, Try.ntmps25
      go_wp2
      go_region
      go_wp2
      refine bodyPost_ret (v := .tuple #[.int .i64 (ofList x n), .agg #[.slice (some (if cap = 1 then ⟨b, off, none⟩ else ⟨b, off + 1, none⟩)) (len - 1) (cap - 1), .int .u64 u]]) ?_ rfl ⟨?_, ?_⟩
      · simp [results, Try.results25, go_sem, *]
      · simp [*]
      · exact ((((Below.refl _ _).alloc (Nat.le_refl _) _).alloc (by simp) _).drew)
  · have ho : ofList x n = x.tmod n := by unfold ofList; rw [if_neg hs]
    by_cases hcap : cap = 1
    · have hcap' : (cap = 1) = True := by simp [hcap]
      go_enter Try.func25, Try.ntmps25
      go_wp2
      go_region
      go_wp2
      refine bodyPost_ret (v := .tuple #[.int .i64 (ofList x n), .agg #[.slice (some (if cap = 1 then ⟨b, off, none⟩ else ⟨b, off + 1, none⟩)) (len - 1) (cap - 1), .int .u64 u]]) ?_ rfl ⟨?_, ?_⟩
      · simp [results, Try.results25, go_sem, *]
      · simp [*]
      · exact ((((Below.refl _ _).alloc (Nat.le_refl _) _).alloc (by simp) _).drew)
    · have hcap' : (cap = 1) = False := by simp [hcap]
      go_enter Try.func25, Try.ntmps25
      go_wp2
      go_region
      go_wp2
      refine bodyPost_ret (v := .tuple #[.int .i64 (ofList x n), .agg #[.slice (some (if cap = 1 then ⟨b, off, none⟩ else ⟨b, off + 1, none⟩)) (len - 1) (cap - 1), .int .u64 u]]) ?_ rfl ⟨?_, ?_⟩
      · simp [results, Try.results25, go_sem, *]
      · simp [*]
      · exact ((((Below.refl _ _).alloc (Nat.le_refl _) _).alloc (by simp) _).drew)

/-- Next of the reference, of draws handed in by value: what is drawn; what is left reads as it should. -/
theorem refNext_any (a : Option Addr) (cap : Nat) (l : List Int) (u n : Int) (w : World) (h2 : n ≤ 9223372036854775807) (hl : Ints w a l.length l) (hc : l.length ≤ cap) :
    Calls Try.prog 25 #[.agg #[.slice a l.length cap, .int .u64 u], .int .i64 n] w fun e w' => ∃ a' cap', e = .returned (.tuple #[.int .i64 (drawOf l u n).1, .agg #[.slice a' (drawOf l u n).2.1.length cap', .int .u64 (drawOf l u n).2.2]]) ∧
      Ints w' a' (drawOf l u n).2.1.length (drawOf l u n).2.1 ∧ (drawOf l u n).2.1.length ≤ cap' ∧ (∀ x, a' = some x → ∃ y, a = some y ∧ x.block = y.block) ∧ Chg Non w w' := by
  by_cases h : n < 1
  · have e1 : drawOf l u n = (0, l, u) := by simp [drawOf, h]
    rw [e1]
    refine (refNext_low a _ cap u n w h).mono ?_
    rintro e w' ⟨rfl, hB⟩
    have hch : Chg Non w w' := .of_below hB
    exact ⟨a, cap, rfl, hl.chg hch (fun _ _ h => h), hc, fun x hx => ⟨x, hx, rfl⟩, hch⟩
  · cases l with
    | nil =>
      have e1 : drawOf [] u n = (rule u n, [], ruleU u) := by simp [drawOf, h]
      rw [e1]
      refine (refNext_rule a cap u n w (by omega) h2).mono ?_
      rintro e w' ⟨rfl, hB⟩
      have hch : Chg Non w w' := .of_below hB
      exact ⟨a, cap, rfl, hl.chg hch (fun _ _ h => h), Nat.zero_le _, fun x hx => ⟨x, hx, rfl⟩, hch⟩
    | cons x r =>
      have e1 : drawOf (x :: r) u n = (ofList x n, r, u) := by simp [drawOf, h]
      rw [e1]
      cases a with
      | none => exact absurd (hl.2.1 rfl) (by simp)
      | some y =>
        obtain ⟨b, off, sp⟩ := y
        obtain rfl : sp = none := (hl.spot (by simp) _ rfl).1
        have hx := hl.2.2 _ rfl 0 (by simp)
        have hx0 : w.cell? ⟨b, off, none⟩ = some (.int .i64 x) := by simpa [Addr.add] using hx
        have hbl := World.block_lt_of_cell? w _ hx0
        refine (refNext_list b off (x :: r).length cap x u n w (by omega) h2 (by simp) hc hbl hx0).mono ?_
        rintro e w' ⟨rfl, hB⟩
        have hch : Chg Non w w' := .of_below hB
        have hc' : r.length + 1 ≤ cap := by simpa using hc
        refine ⟨_, cap - 1, rfl, ⟨rfl, fun h => (by cases h), fun y hy j hj => ?_⟩, (by simp only []; omega), fun y hy => ⟨_, rfl, ?_⟩, hch⟩
        · have hl' := hl.chg hch (fun _ _ h => h)
          have hj2 : j < r.length := hj
          rw [if_neg (by omega)] at hy
          cases hy
          have := hl'.2.2 _ rfl (j + 1) (by simpa using hj)
          rw [Addr.add_lit] at this ⊢
          simpa [Nat.add_comm, Nat.add_left_comm] using this
        · cases hy; split <;> rfl

end Go.Proofs.Ytabeolmfgmbfaaa

