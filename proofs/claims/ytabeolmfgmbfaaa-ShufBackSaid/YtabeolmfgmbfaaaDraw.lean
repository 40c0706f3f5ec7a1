/- Package draw: what New, Next, Left and Add do, of draws that are known whole (DrawsAt); the law's reference Next. Every list, every number of 64 bits; the bound is at least the least int. -/
import Derived.Test.YtabeolmfgmbfaaaBase
namespace Go.Proofs.Ytabeolmfgmbfaaa
open Go.RowKit
set_option linter.unusedVariables false
set_option linter.unusedSimpArgs false

/-! ### The plain rule -/
def ruleU (u : Int) : Int := IntKind.u64.wrap (u + 1)
/-- What is drawn by the rule behind u draws. -/
def rule (u n : Int) : Int := wrap64 ((IntKind.u64.wrap (IntKind.u64.wrap (u + 1) * 2654435761) / 128).tmod n)
/-- What is drawn of a list's number. -/
def ofList (x n : Int) : Int := if x.tmod n < 0 then x.tmod n + n else x.tmod n
/-- One draw: the number, and what is left. -/
def drawOf (l : List Int) (u n : Int) : Int × List Int × Int :=
  if n < 1 then (0, l, u) else match l with
    | x :: r => (ofList x n, r, u)
    | [] => (rule u n, [], ruleU u)

theorem u64_wrap (x : Int) : IntKind.u64.wrap x = x % 18446744073709551616 := by
  simp [IntKind.wrap, IntKind.bits, IntKind.signed]

theorem drawOf_range (l : List Int) (u n : Int) (h : 1 ≤ n) (h2 : n ≤ 9223372036854775807) : 0 ≤ (drawOf l u n).1 ∧ (drawOf l u n).1 < n := by
  unfold drawOf
  rw [if_neg (by omega)]
  cases l with
  | nil =>
    show 0 ≤ rule u n ∧ rule u n < n
    unfold rule
    have h0 : 0 ≤ IntKind.u64.wrap (IntKind.u64.wrap (u + 1) * 2654435761) / 128 := by rw [u64_wrap (_ * _)]; omega
    generalize IntKind.u64.wrap (IntKind.u64.wrap (u + 1) * 2654435761) / 128 = x at h0
    rw [Int.tmod_eq_emod_of_nonneg h0]
    have h1 := Int.emod_nonneg x (show n ≠ 0 by omega)
    have h2 := Int.emod_lt_of_pos x (show 0 < n by omega)
    unfold wrap64
    omega
  | cons x r =>
    show 0 ≤ ofList x n ∧ ofList x n < n
    unfold ofList
    have a := Int.tmod_lt_of_pos x (show 0 < n by omega)
    have b := Int.lt_tmod_of_pos x (show 0 < n by omega)
    split <;> omega

theorem ret_int {k : IntKind} {a b : Int} (h : a = b) : Ending.returned (.int k a) = .returned (.int k b) := by rw [h]

/-! ### What lies in memory -/
/-- Draws: block b; l is left of the list, u were drawn by the rule; the list's array is g. -/
structure DrawsAt (w : World) (b : Nat) (l : List Int) (u : Int) (g : Option Nat) : Prop where mk ::
  ex : ∃ v, Blk w b #[v, .int .u64 u] 88 ∧ Own w 3 1 v l.length (l.map (Value.int .i64)) g
  ne : g ≠ some b

theorem DrawsAt.lt {w : World} {b : Nat} {l : List Int} {u : Int} {g : Option Nat} (h : DrawsAt w b l u g) : b < w.heap.size := by
  obtain ⟨⟨v, hb, _⟩, _⟩ := h; exact hb.lt
theorem DrawsAt.glt {w : World} {b : Nat} {l : List Int} {u : Int} {g : Option Nat} (h : DrawsAt w b l u g) : ∀ k, g = some k → k < w.heap.size := by
  obtain ⟨⟨v, _, ho⟩, _⟩ := h; exact ho.lt
theorem DrawsAt.chg {F : Nat → Prop} {w w' : World} {b : Nat} {l : List Int} {u : Int} {g : Option Nat} (h : DrawsAt w b l u g) (k : Chg F w w') (hb : ¬ F b) (hg : ∀ i, g = some i → ¬ F i) : DrawsAt w' b l u g := by
  obtain ⟨⟨v, h1, h2⟩, h3⟩ := h
  exact ⟨⟨v, h1.chg k hb, h2.chg k hg⟩, h3⟩

theorem DrawsAt.drew {w : World} {b : Nat} {l : List Int} {u : Int} {g : Option Nat} (h : DrawsAt w b l u g) : DrawsAt w.drew b l u g := ⟨h.ex, h.ne⟩
theorem DrawsAt.drewN {w : World} {b : Nat} {l : List Int} {u : Int} {g : Option Nat} (h : DrawsAt w b l u g) (n : Nat) : DrawsAt (w.drewN n) b l u g := ⟨h.ex, h.ne⟩

set_option maxHeartbeats 400000 in
theorem next_low (a : Option Addr) (n : Int) (w : World) (h : n < 1) :
    Calls Try.prog 23 #[.pointer a, .int .i64 n] w fun e w' => e = .returned (.int .i64 0) ∧ w = w' := by
  cases a with
  | none =>
    go_enter Try.func23, Try.ntmps23
    go_wp2
    go_ret
    exact ⟨rfl, rfl⟩
  | some d =>
    go_enter Try.func23, Try.ntmps23
    go_wp2
    go_ret
    exact ⟨rfl, rfl⟩

set_option maxHeartbeats 400000 in
theorem next_none (n : Int) (w : World) :
    Calls Try.prog 23 #[.pointer none, .int .i64 n] w fun e w' => e = .returned (.int .i64 0) ∧ w = w' := by
  go_enter Try.func23, Try.ntmps23
  go_wp2
  go_ret
  exact ⟨rfl, rfl⟩

set_option maxHeartbeats 400000 in
theorem next_rule (B : Nat) (u n : Int) (sa : Option Addr) (cap : Nat) (w : World) (h : 1 ≤ n) (h2 : n ≤ 9223372036854775807)
    (h0 : w.cell? ⟨B, 0, none⟩ = some (.slice sa 0 cap)) (h1 : w.cell? ⟨B, 1, none⟩ = some (.int .u64 u)) (f1 : w.frozen? ⟨B, 1, none⟩ = false) :
    Calls Try.prog 23 #[.pointer (some ⟨B, 0, none⟩), .int .i64 n] w fun e w' => e = .returned (.int .i64 (rule u n)) ∧ w.setCell ⟨B, 1, none⟩ (.int .u64 (ruleU u)) = w' := by
  go_enter Try.func23, Try.ntmps23
  go_wp2
  go_ret
  exact ⟨rfl, rfl⟩

set_option maxHeartbeats 400000 in
theorem next_list (B b off len cap : Nat) (x n : Int) (w : World) (h : 1 ≤ n) (h2 : n ≤ 9223372036854775807) (hl : 1 ≤ len) (_hc : len ≤ cap) (_hm : cap ≤ 9223372036854775807)
    (h0 : w.cell? ⟨B, 0, none⟩ = some (.slice (some ⟨b, off, none⟩) len cap)) (h1 : w.cell? ⟨b, off, none⟩ = some (.int .i64 x)) (f0 : w.frozen? ⟨B, 0, none⟩ = false) :
    Calls Try.prog 23 #[.pointer (some ⟨B, 0, none⟩), .int .i64 n] w fun e w' => e = .returned (.int .i64 (ofList x n)) ∧
      w.setCell ⟨B, 0, none⟩ (.slice (some (if cap = 1 then ⟨b, off, none⟩ else ⟨b, off + 1, none⟩)) (len - 1) (cap - 1)) = w' := by
  have a := Int.tmod_lt_of_pos x (show 0 < n by omega)
  have c := Int.lt_tmod_of_pos x (show 0 < n by omega)
  by_cases hs : x.tmod n < 0
  all_goals
    go_enter Try.func23, Try.ntmps23
    go_wp2
    all_goals
      go_ret
      exact ⟨ret_int (by simp only [ofList]; split <;> first | rfl | omega), by simp [*]⟩

/-- Next, whatever is left: what is drawn, and what is left then. -/
theorem next_any (B : Nat) (l : List Int) (u n : Int) (g : Option Nat) (w : World) (h2 : n ≤ 9223372036854775807) (hd : DrawsAt w B l u g) :
    Calls Try.prog 23 #[.pointer (some ⟨B, 0, none⟩), .int .i64 n] w fun e w' => e = .returned (.int .i64 (drawOf l u n).1) ∧ DrawsAt w' B (drawOf l u n).2.1 (drawOf l u n).2.2 g ∧ Chg (One B) w w' := by
  by_cases h : n < 1
  · refine (next_low _ n w h).mono ?_
    rintro e w' ⟨rfl, rfl⟩
    have e1 : drawOf l u n = (0, l, u) := by simp [drawOf, h]
    rw [e1]
    exact ⟨rfl, hd, Chg.refl _ _⟩
  · obtain ⟨⟨v, hb, ho⟩, hne⟩ := hd
    cases l with
    | nil =>
      have e1 : drawOf [] u n = (rule u n, [], ruleU u) := by simp [drawOf, h]
      rw [e1]
      obtain ⟨a, cap, rfl, _, _⟩ := ho.slice
      refine (next_rule B u n a cap w (by omega) h2 (hb.cell 0) (hb.cell 1) (hb.free 1)).mono ?_
      rintro e w' ⟨rfl, rfl⟩
      have hc : Chg (One B) w (w.setCell ⟨B, 1, none⟩ (.int .u64 (ruleU u))) := Chg.set1 w B _ _
      exact ⟨rfl, ⟨⟨_, hb.set 1 _, ho.chg hc (fun b hg hB => hne (by rw [hg, hB]))⟩, hne⟩, hc⟩
    | cons x r =>
      have e1 : drawOf (x :: r) u n = (ofList x n, r, u) := by simp [drawOf, h]
      rw [e1]
      obtain ⟨a, cap, rfl, hc, hm⟩ := ho.slice
      obtain ⟨b, off, rfl, rfl, hx, _⟩ := ho.at (j := 0) (by simp)
      simp [maxLen] at hm
      refine (next_list B b off (x :: r).length cap x n w (by omega) h2 (by simp) hc (by omega) (hb.cell 0) (by simpa using hx) (hb.free 0)).mono ?_
      rintro e w' ⟨rfl, rfl⟩
      have hch : ∀ v, Chg (One B) w (w.setCell ⟨B, 0, none⟩ v) := fun v => Chg.set1 w B _ _
      refine ⟨rfl, ⟨⟨_, hb.set 0 _, ?_⟩, hne⟩, hch _⟩
      have hk := ho.drop (k := 1) (by simp)
      exact hk.chg (hch _) (fun b hg hB => hne (by rw [hg, hB]))

set_option maxHeartbeats 400000 in
theorem left_none (w : World) : Calls Try.prog 26 #[.pointer none] w fun e w' => e = .returned (.int .i64 0) ∧ w = w' := by
  go_enter Try.func26, Try.ntmps26
  go_wp2
  go_ret
  exact ⟨rfl, rfl⟩

set_option maxHeartbeats 400000 in
theorem left_any (B : Nat) (l : List Int) (u : Int) (g : Option Nat) (w : World) (hd : DrawsAt w B l u g) :
    Calls Try.prog 26 #[.pointer (some ⟨B, 0, none⟩)] w fun e w' => e = .returned (.int .i64 l.length) ∧ w = w' := by
  obtain ⟨⟨v, hb, ho⟩, hne⟩ := hd
  obtain ⟨a, cap, rfl, hc, hm⟩ := ho.slice
  have h0 := hb.cell 0
  simp [maxLen] at hm
  clear ho hb hne
  go_enter Try.func26, Try.ntmps26
  go_wp2
  go_ret
  exact ⟨rfl, rfl⟩

theorem Try.info_int : (Try.prog.info? 3).map (fun i => (i.zero, i.size, i.bytes)) = some (some (.int .i64 0), 1, 8) := by kernel_rfl

set_option maxHeartbeats 400000 in
theorem add_none (v : Value) (w : World) : Calls Try.prog 27 #[.pointer none, v] w fun e w' => e = .returned (.tuple #[]) ∧ w = w' := by
  go_enter Try.func27, Try.ntmps27
  go_wp2
  go_end0
  exact ⟨rfl, rfl⟩

set_option maxHeartbeats 400000 in
theorem add_any (B : Nat) (l more : List Int) (u : Int) (g : Option Nat) (v : Value) (w : World) (hd : DrawsAt w B l u g) (hs : Src w 1 v more.length (more.map (Value.int .i64)))
    (b2 : (l.length + more.length) * 8 ≤ 140737488355328) :
    Calls Try.prog 27 #[.pointer (some ⟨B, 0, none⟩), v] w fun e w' => e = .returned (.tuple #[]) ∧ ∃ g', DrawsAt w' B (l ++ more) u g' ∧ Chg (Two (One B) (Opt g)) w w' ∧ (∀ k, g' = some k → g = some k ∨ w.heap.size ≤ k) := by
  obtain ⟨⟨x, hb, ho⟩, hne⟩ := hd
  obtain ⟨i0, hi, hz0, hz1, hz2⟩ := info_parts Try.info_int
  obtain ⟨xa, xc, rfl, hc, hcm⟩ := ho.slice
  obtain ⟨va, vc, rfl⟩ := hs.slice
  have h0 : w.cell? ⟨B, 0, none⟩ = some (.slice xa l.length xc) := hb.cell 0
  have hlt := hb.lt
  have hml : l.length + more.length ≤ maxLen := by unfold maxLen; omega
  have HO := Lib.hid ho
  have HS := Lib.hid hs
  have HB := Lib.hid hb
  have H2 := Lib.hid b2
  have HM := Lib.hid hml
  have HN := Lib.hid hne
  clear ho hs hb b2 hml hne
  go_enter Try.func27, Try.ntmps27
  have HF : Hid (¬ Opt g B) := HN.out
  go_wp2_with (at_builtin; refine wpList_append_Own _ rfl _ _ 22 rfl 3 i0 (.int .i64 0) 1 8 Try.underlying22 hi hz0 hz1 hz2 rfl (by decide) _ l.length _ g rfl HO.out _ more.length _ rfl HS.out HM.out H2.out ?_; intro v' w' g' hown hchg hg'; obtain ⟨a2, c2, rfl, hc2, hm2⟩ := hown.slice; have hb' := HB.out.chg hchg HF.out; have c0 := hb'.cell 0; have f0 := hb'.free 0; simp at c0; have HB' := Lib.hid hb'; have HO' := Lib.hid hown; have HC' := Lib.hid hchg; have HG' := Lib.hid hg'; clear hb' hown hchg hg')
  go_end0
  have hn' : g' ≠ some B := fun e => by
    rcases HG'.out B e with h | h
    · exact HN.out h
    · omega
  refine ⟨rfl, g', ⟨⟨_, HB'.out.set 0 _, ?_⟩, hn'⟩, ?_, HG'.out⟩
  · have h := HO'.out.chg (Chg.set1 w' B 0 (.slice a2 (l.length + more.length) c2)) (fun b e1 e2 => hn' (by rw [e1, e2]))
    simpa using h
  · exact HC'.out.trans (Chg.set1 w' B 0 _) (fun _ _ => .inr) (fun _ _ => .inl)

/-- New: a list's numbers first. -/
theorem new_any (l : List Int) (v : Value) (w : World) (hs : Src w 1 v l.length (l.map (Value.int .i64))) (b2 : l.length * 8 ≤ 140737488355328) :
    Calls Try.prog 22 #[v] w fun e w' => ∃ b g, e = .returned (.pointer (some ⟨b, 0, none⟩)) ∧ DrawsAt w' b l 0 g ∧ Chg Non w w' ∧ w.heap.size ≤ b ∧ (∀ k, g = some k → w.heap.size ≤ k) := by
  obtain ⟨i0, hi, hz0, hz1, hz2⟩ := info_parts Try.info_int
  obtain ⟨va, vc, rfl⟩ := hs.slice
  have HS := Lib.hid hs
  have HM : Hid (0 + l.length ≤ maxLen) := by show 0 + l.length ≤ maxLen; unfold maxLen; omega
  have H2 : Hid ((0 + l.length) * 8 ≤ 140737488355328) := by show (0 + l.length) * 8 ≤ 140737488355328; omega
  have HO : Hid (Own w 3 1 (.slice none 0 0) 0 [] none) := Own.nil w _ _
  clear hs b2
  go_enter Try.func22, Try.ntmps22
  go_wp2_with (at_builtin; refine wpList_append_Own _ rfl _ _ 22 rfl 3 i0 (.int .i64 0) 1 8 Try.underlying22 hi hz0 hz1 hz2 rfl (by decide) _ 0 _ none rfl HO.out _ l.length _ rfl HS.out HM.out H2.out ?_; intro v' w' g' hown hchg hg'; simp only [Nat.zero_add, List.nil_append] at hown; obtain ⟨a2, c2, rfl, hc2, hm2⟩ := hown.slice; have HO' := Lib.hid hown; have HC' := Lib.hid hchg; have HG' := Lib.hid hg'; clear hown hchg hg')
  go_ret
  have hG : ∀ k, g' = some k → w.heap.size ≤ k := fun k hk => by
    rcases HG'.out k hk with h | h
    · cases h
    · exact h
  have hc : Chg Non w' (w'.alloc (.cells #[.slice a2 l.length c2, .int .u64 0] 88)) := (Chg.refl _ w').alloc _
  refine ⟨w'.heap.size, g', rfl, ⟨⟨_, Blk.new w' _ _, ?_⟩, fun e => ?_⟩, (HC'.out.mono (fun i _ h => by cases h)).tr hc, HC'.out.size, hG⟩
  · exact HO'.out.chg hc (fun b _ h => h)
  · have := HO'.out.lt _ e
    omega

end Go.Proofs.Ytabeolmfgmbfaaa
