/- Lists of things that are done: May, Bytes. -/
import Derived.Test.YtabeolmfgmbfaaaRef54
namespace Go.Proofs.Ytabeolmfgmbfaaa
open Go.RowKit
set_option linter.unusedVariables false
set_option linter.unusedSimpArgs false

/-- A list of things that are done, read but not owned. -/
structure Opl (w : World) (a : Option Addr) (n : Nat) (l : List OpV) : Prop where
  len : l.length = n
  nil : a = none → n = 0
  ok : ∀ o ∈ l, o.ok w
  cell : ∀ x, a = some x → ∀ j o, l[j]? = some o → ∀ i, i < 8 → w.cell? (x.add (j * 8 + i)) = o.cells[i]?

theorem Opl.chg {F : Nat → Prop} {w w' : World} {a : Option Addr} {n : Nat} {l : List OpV} (h : Opl w a n l) (k : Chg F w w') (hF : ∀ i, i < w.heap.size → ¬ F i) : Opl w' a n l := by
  refine ⟨h.len, h.nil, fun o ho => (h.ok o ho).chg k hF, fun x hx j o ho i hi => ?_⟩
  have hc := h.cell x hx j o ho i hi
  obtain ⟨v, hv⟩ : ∃ v, o.cells[i]? = some v := by
    have : i < o.cells.size := hi
    exact ⟨_, Array.getElem?_eq_getElem this⟩
  rw [hv] at hc ⊢
  have hb := World.block_lt_of_cell? w _ hc
  rw [World.cell?_of_block (k.block _ hb (hF _ hb))]
  exact hc

/-- One of them. -/
theorem Opl.at {w : World} {a : Option Addr} {n : Nat} {l : List OpV} (h : Opl w a n l) {j : Nat} (hj : j < n) :
    ∃ (o : OpV) (b off : Nat), l[j]? = some o ∧ o.ok w ∧ a = some ⟨b, off, none⟩ ∧ w.cell? ⟨b, off + j * 8, none⟩ = some (.int .i64 o.k) ∧ w.cell? ⟨b, off + j * 8 + 1, none⟩ = some (.int .i64 o.th) ∧ w.cell? ⟨b, off + j * 8 + 2, none⟩ = some (.int .i64 o.a) ∧ w.cell? ⟨b, off + j * 8 + 3, none⟩ = some (.int .i64 o.b) ∧ w.cell? ⟨b, off + j * 8 + 4, none⟩ = some (.int .i64 o.v) ∧ w.cell? ⟨b, off + j * 8 + 5, none⟩ = some (.int .i64 o.n) ∧ w.cell? ⟨b, off + j * 8 + 6, none⟩ = some (.int .i64 o.m) ∧ w.cell? ⟨b, off + j * 8 + 7, none⟩ = some (.slice o.da o.dn o.dc) := by
  have hl : j < l.length := by rw [h.len]; exact hj
  have ho : l[j]? = some l[j] := List.getElem?_eq_getElem hl
  cases ha : a with
  | none => have := h.nil ha; omega
  | some x =>
    have hc := h.cell x ha j _ ho
    have hsp : x.spot = none := by
      have h0 := h.cell x ha 0 _ (List.getElem?_eq_getElem (show 0 < l.length by omega)) 0 (by decide)
      have e : x.add (0 * 8 + 0) = x := by simp [Addr.add]
      rw [e] at h0
      have h1 : (l[0]'(by omega)).cells[0]? = some (.int .i64 (l[0]'(by omega)).k) := rfl
      rw [h1] at h0
      simpa using World.cell?_spot h0
    obtain ⟨b, off, sp⟩ := x
    obtain rfl : sp = none := hsp
    simp only [Addr.add_lit, ← Nat.add_assoc] at hc
    exact ⟨l[j], b, off, ho, h.ok _ (List.getElem_mem hl), rfl, hc 0 (by decide), hc 1 (by decide), hc 2 (by decide), hc 3 (by decide), hc 4 (by decide), hc 5 (by decide), hc 6 (by decide), hc 7 (by decide)⟩

/-- May things be written? -/
def mayB (l : List OpV) : Bool := decide (l.length ≤ 500) && l.all fun o => decide (o.dn ≤ 4096)

set_option maxHeartbeats 1000000 in
set_option maxRecDepth 100000 in
theorem may_any (a : Option Addr) (n c : Nat) (l : List OpV) (w : World) (hl : Opl w a n l) :
    Calls Try.prog 43 #[.slice a n c] w fun e w' => e = .returned (.bool (mayB l)) ∧ w = w' := by
  have hlen := hl.len
  by_cases h5 : 500 < n
  · have hm : mayB l = false := by simp [mayB, hlen]; omega
    rw [hm]
    go_enter Try.func43, Try.ntmps43
    go_wp2_with fail
    go_ret
    exact ⟨rfl, rfl⟩
  · go_enter Try.func43, Try.ntmps43
    go_wp2_with fail
    go_loop [3] (fun i => ∃ j : Nat, i = .int .i64 j ∧ j ≤ n ∧ Hid (∀ k o, k < j → l[k]? = some o → o.dn ≤ 4096)) (fun i => n - (intOf i).toNat)
    case atStart => exact ⟨0, rfl, by omega, fun k o hk => by omega⟩
    case round =>
      obtain ⟨j, rfl, hj, HS⟩ := hrel
      by_cases hlt : j < n
      · obtain ⟨o, b, off, ho, hok, rfl, _, _, _, _, _, _, _, z7⟩ := hl.at hlt
        have HO := Lib.hid ho
        clear ho
        by_cases h4 : o.dn ≤ 4096
        · have h4' : (o.dn : Int) ≤ 4096 := by omega
          go_wp2_with fail
          go_round
          case rel =>
            refine ⟨j + 1, by go_num, by omega, fun k p hk hp => ?_⟩
            by_cases e : k = j
            · subst e
              rw [HO.out] at hp
              cases hp
              exact h4
            · exact HS.out k p (by omega) hp
          case measure => simp [intOf]; omega
        · have h4' : ¬ (o.dn : Int) ≤ 4096 := by omega
          go_wp2_with fail
          go_ret
          have hm : mayB l = false := by
            have h := List.mem_of_getElem? HO.out
            rw [Bool.eq_false_iff]
            intro hb
            simp [mayB] at hb
            have := hb.2 o h
            omega
          rw [hm]
          exact ⟨rfl, rfl⟩
      · have hm : mayB l = true := by
          simp only [mayB, Bool.and_eq_true, decide_eq_true_eq, List.all_eq_true]
          refine ⟨by omega, fun o ho => ?_⟩
          obtain ⟨k, hk, he⟩ := List.getElem_of_mem ho
          exact HS.out k o (by omega) (by rw [← he]; exact List.getElem?_eq_getElem hk)
        go_wp2_with fail
        go_ret
        exact ⟨rfl, rfl⟩

end Go.Proofs.Ytabeolmfgmbfaaa
