/- Package quar: List (slices.Concat, slices.Grow). -/
import Derived.Test.YtabeolmfgmbfaaaQTake
namespace Go.Proofs.Ytabeolmfgmbfaaa
open Go.RowKit
set_option linter.unusedVariables false
set_option linter.unusedSimpArgs false

section
variable {P : Program} (w : World)
set_option maxRecDepth 10000 in
/-- append of so many noughts to nothing: 'append(nil[:0], make([]T, n)...)'. -/
theorem run_append_zeros_nil (t x ty e : TypeId) (k : IntKind) (i : TypeInfo) (z : Value) (ht : P.underlying t = some (.slice e)) (hx : P.underlying x = some (.int k)) (hi : P.info? e = some i) (hz : i.zero = some z) (hs : 0 < i.size)
    (n : Nat) (h0 : 0 < n) (h63 : (n : Int) ≤ 1000000000) (h48 : n * i.bytes ≤ 281474976710656) :
    (Builtin.append_ #[t, x] ty #[.slice none 0 0, .int .i64 n]).run P w =
      .ok (.slice (some ⟨w.heap.size, 0, none⟩) n (grownCap w n 0 e)) (w.drew.alloc (.cells (Builtin.zeroCells z.cells n ++ Builtin.zeroCells z.cells (grownCap w n 0 e - n)) e)) := by
  have hn : n ≠ 0 := by omega
  have h63' : ¬ (9223372036854775807 < (n : Int)) := by omega
  have h48' : ¬ (281474976710656 < Builtin.nextslicecap n 0 * i.bytes) := by rw [nextslicecap_zero h0]; omega
  have hw : IntKind.i64.wrap (n : Int) = n := IntWalk.i64_in _ (by omega)
  have hneg : ¬ ((n : Int) < 0) := by omega
  have hbig : ¬ (281474976710656 < (n : Int) * (i.bytes : Int)) := by
    rw [← Int.natCast_mul]
    omega
  have hsz : i.size ≠ 0 := by omega
  simp [asIntOf, Builtin.append_, run_underlying ht, run_underlying hx, sizeOf, typeInfo, zeroValue, hi, hz, hn, h63', h48', Question.forced, run_firstCells_none, newRow, grownCap, asInt, hw, hneg, hbig, hsz, Builtin.firstCells, loadCells, loadCellsFrom]
  intro h
  rcases Nat.mul_eq_zero.1 h with h | h <;> omega

theorem wpList_append_zeros {ops : Array Oper} {rest : List Oper} {o : Oper} {a : Act} {Q : Exit → Act → World → Prop}
    (hg : o.guard = none) (s x : Operand) (t tx : TypeId) (hop : o.op = Op.call { callee := Callee.builtin Builtin.append, args := #[s, x], argTypes := #[t, tx] })
    (e : TypeId) (k : IntKind) (i : TypeInfo) (z : Value) (size bytes : Nat) (ht : P.underlying t = some (.slice e)) (hx : P.underlying tx = some (.int k)) (hi : P.info? e = some i) (hz : i.zero = some z) (hzs : z.cells.size = size) (h4 : i.size = size) (h5 : i.bytes = bytes) (h7 : 0 < size)
    (n : Nat) (h0 : 0 < n) (h63 : (n : Int) ≤ 1000000000) (h48 : n * bytes ≤ 281474976710656) (hs : a.eval s = .slice none 0 0) (hxv : a.eval x = .int .i64 n)
    (hK : ∀ cap cur, n ≤ cap → cap ≤ maxLen → cur.size = cap * size → wpList P ops Q rest (a.put o.dst (.slice (some ⟨w.heap.size, 0, none⟩) n cap)) (w.drew.alloc (.cells cur e))) :
    wpList P ops Q (o :: rest) a w := by
  refine wpList_plain hg fun K hK' => ?_
  subst h4
  subst h5
  have hrun := run_append_zeros_nil (P := P) w t tx o.type e k i z ht hx hi hz h7 n h0 h63 h48
  have hg1 := grownCap_ge w n 0 e
  have hg2 := grownCap_le_maxLen w n 0 e (by unfold maxLen; omega)
  unfold Oper.wp
  simp [execOp, hop, resolve, invoke, builtin, hs, hxv, hrun, Result.andThen]
  refine hK' _ _ (hK _ _ hg1 hg2 ?_)
  simp only [Array.size_append, size_zeroCells, hzs, ← Nat.add_mul]
  congr 1
  omega
end

/-- A new slice, without elements yet. -/
def NewOwn (e : TypeId) (size : Nat) (n : Nat) (xs : List Value) (w : World) (en : Ending) (w' : World) : Prop := ∃ v g, en = .returned v ∧ Own w' e size v n xs g ∧ Chg Non w w' ∧ ∀ k, g = some k → w.heap.size ≤ k

theorem Try.info_itemZ : (Try.prog.info? 79).map (fun i => (i.zero, i.size, i.bytes)) = some (some (.agg #[.int .i64 0, .int .i64 0, .int .i64 0, .int .i64 0, .int .i64 0]), 5, 40) := Try.info_item

set_option maxHeartbeats 1000000 in
set_option maxRecDepth 100000 in
theorem grow_nil (n : Nat) (w : World) (hn : n ≤ 1000000) :
    Calls Try.prog 85 #[.slice none 0 0, .int .i64 n] w (NewOwn 79 5 0 [] w) := by
  obtain ⟨i0, hi, hz0, hz1, hz2⟩ := info_parts Try.info_item
  by_cases h0 : 0 < n
  · have h63 : (n : Int) ≤ 1000000000 := by omega
    have h48 : n * 40 ≤ 281474976710656 := by omega
    go_enter Try.func85, Try.ntmps85
    go_wp2_with (at_builtin; refine wpList_append_zeros _ rfl _ _ 75 3 rfl 79 .i64 i0 _ 5 40 Try.underlying75 Try.underlying3 hi hz0 rfl hz1 hz2 (by decide) n h0 h63 h48 rfl rfl ?_; intro cap cur hc1 hc2 hcs; have HCS := Lib.hid hcs; clear hcs)
    go_ret
    exact ⟨_, some w.heap.size, rfl, ⟨rfl, .inr ⟨w.heap.size, 0, cap, cur, rfl, rfl, Blk.newAt _ _ _ rfl, by omega, hc2, by rw [HCS.out]; omega, rfl⟩⟩, (Chg.refl _ _).drew.alloc _, fun k hk => by cases hk; exact Nat.le_refl _⟩
  · obtain rfl : n = 0 := by omega
    go_enter Try.func85, Try.ntmps85
    go_wp2_with fail
    go_ret
    exact ⟨_, none, rfl, Own.nil _ _ _, Chg.refl _ _, fun k hk => by cases hk⟩

/-- A batch, as what is appended. -/
theorem bt_src {w : World} {b : Bt} (h : b.ok w) : Src w 5 b.val b.its.length (cellsI b.its) := by
  refine ⟨cellsI_length _, fun u hu => ?_, .inr ⟨⟨b.b, b.off, none⟩, b.cap, rfl, fun j u hu => ?_⟩⟩
  · unfold cellsI at hu
    obtain ⟨y, _, hy⟩ := List.mem_flatMap.1 hu
    simp [It.cells] at hy
    rcases hy with rfl | rfl | rfl | rfl | rfl <;> rfl
  · have hj : j < b.its.length * 5 := by
      have := (List.getElem?_eq_some_iff.1 hu).1
      rwa [cellsI_length] at this
    obtain ⟨b', o', he, _, hc, _⟩ := h.2.at hj
    cases he
    rw [Addr.add_lit, hc, hu]

def flatI (bs : List Bt) : List It := (bs.map Bt.its).flatten
theorem flatI_snoc {bs : List Bt} {j : Nat} {x : Bt} (h : bs[j]? = some x) : flatI (bs.take (j + 1)) = flatI (bs.take j) ++ x.its := by
  unfold flatI
  rw [List.take_add_one, h]
  simp
theorem flatI_len (bs : List Bt) : (flatI bs).length = sumLen bs := by
  unfold flatI sumLen
  rw [List.length_flatten, List.map_map]
  rfl

def CatR (bs : List Bt) (w : World) (k : Nat) (a : Option Addr) (n c : Nat) (wr : World) : Prop :=
  n = (flatI (bs.take k)).length ∧ ∃ g, Own wr 79 5 (.slice a n c) n (cellsI (flatI (bs.take k))) g ∧ Chg Non w wr ∧ ∀ k, g = some k → w.heap.size ≤ k

set_option maxHeartbeats 4000000 in
set_option maxRecDepth 100000 in
theorem concat_any (bq : Nat) (bs : List Bt) (bytes : Int) (la : Option Addr) (lc : Nat) (go : Option Nat) (w : World) (h : QAt w bq bs bytes la lc go) (hs : sumLen bs ≤ 1000000) :
    Calls Try.prog 71 #[.slice la bs.length lc] w (NewOwn 79 5 (flatI bs).length (cellsI (flatI bs)) w) := by
  obtain ⟨i0, hi, hz0, hz1, hz2⟩ := info_parts Try.info_item
  have H := Lib.hid h
  have HSM : Hid (∀ j, sumLen (bs.take j) ≤ sumLen bs) := fun j => by
    have e : bs = bs.take j ++ bs.drop j := (List.take_append_drop j bs).symm
    have : sumLen bs = sumLen (bs.take j) + sumLen (bs.drop j) := by
      conv => lhs; rw [e]
      unfold sumLen
      rw [List.map_append, List.sum_append]
    omega
  have hle := many_le (fun x hx => (h.bt x hx).1)
  clear h
  obtain ⟨nb, hnb⟩ : ∃ nb, nb = bs.length := ⟨_, rfl⟩
  rw [← hnb] at hle ⊢
  have HNB := Lib.hid hnb
  clear hnb
  go_enter Try.func71, Try.ntmps71
  go_wp2_with fail
  go_loop [3, 11] (fun s i => ∃ j : Nat, s = .int .i64 (sumLen (bs.take j) : Nat) ∧ i = .int .i64 j ∧ j ≤ nb) (fun _ i => nb - (intOf i).toNat)
  case atStart => exact ⟨0, rfl, rfl, by omega⟩
  case round =>
    obtain ⟨j, rfl, rfl, hj⟩ := hrel
    by_cases hlt : j < nb
    · obtain ⟨x, gb, off, hx, rfl, _, hc, _, _⟩ := H.out.at (j := j) (by rw [← HNB.out]; exact hlt)
      have HT := Lib.hid (sumLen_take hx)
      have hb1 := HSM.out (j + 1)
      rw [HT.out] at hb1
      clear hx
      unfold Bt.val at hc
      generalize sumLen (bs.take j) = s at *
      generalize x.its.length = k at *
      go_wp2_with fail
      go_round
      case rel => exact ⟨j + 1, by rw [HT.out]; go_num, by go_num, by omega⟩
      case measure => simp [intOf]; omega
    · obtain rfl : j = nb := by omega
      have HE : Hid (sumLen (bs.take j) = sumLen bs) := by show _ = _; rw [List.take_of_length_le (by rw [HNB.out]; exact Nat.le_refl _)]
      have hsj := HSM.out j
      generalize sumLen (bs.take j) = s at *
      have hs1 : s ≤ 1000000 := by omega
      go_wp2_with (go_at_call 85; (with_reducible refine (grow_nil s _ hs1).mono ?_); rintro e w1 ⟨v, g, rfl, ho, hch, hg⟩; have HO := Lib.hid ho; have HC := Lib.hid hch; have HG := Lib.hid hg; obtain ⟨a0, c0, rfl, _, _⟩ := ho.slice; clear ho hch hg)
      have H0 : Hid (CatR bs w 0 a0 0 c0 w1) := ⟨rfl, g, HO.out, HC.out, HG.out⟩
      clear HO HC HG hsj hs1
      obtain ⟨nb, hnb⟩ : ∃ nb, nb = j := ⟨_, rfl⟩
      subst hnb
      go_loopw [6, 27] (fun v i wr => ∃ (k n : Nat) (a : Option Addr) (c : Nat), i = .int .i64 k ∧ v = .slice a n c ∧ k ≤ nb ∧ Hid (CatR bs w k a n c wr)) (fun _ i _ => nb - (intOf i).toNat)
      case atStart => exact ⟨0, 0, a0, c0, rfl, rfl, by omega, H0.out⟩
      case round =>
        obtain ⟨k, n, a, c, rfl, rfl, hk, HK⟩ := hrel
        clear H0
        by_cases hlt : k < nb
        · obtain ⟨hn, g1, ho, hch, hg1⟩ := HK.out
          have hq := H.out.chg hch (fun _ _ h => h)
          obtain ⟨x, gb, off, hx, hla, _, hc, _, hok⟩ := hq.at (j := k) (by rw [← HNB.out]; exact hlt)
          subst hla
          have hsrc := bt_src hok
          have HF := Lib.hid (flatI_snoc hx)
          have hb1 := HSM.out (k + 1)
          rw [← flatI_len, HF.out, List.length_append, ← hn] at hb1
          have HN := Lib.hid hn
          have HO := Lib.hid ho
          have HC := Lib.hid hch
          have HG := Lib.hid hg1
          unfold Bt.val at hc hsrc
          have HS := Lib.hid hsrc
          have hB1 : n + x.its.length ≤ maxLen := by unfold maxLen; omega
          have hB2 : (n + x.its.length) * 40 ≤ 140737488355328 := by omega
          clear hn ho hch hg1 hq hx hok hsrc
          generalize hxl : x.its.length = xl at *
          have HXL := Lib.hid hxl
          clear hxl
          go_wp2_with (at_builtin; refine wpList_append_Own _ rfl _ _ 75 rfl 79 i0 _ 5 40 Try.underlying75 hi hz0 hz1 hz2 rfl (by decide) _ n _ g1 rfl HO.out _ xl _ rfl HS.out hB1 hB2 ?_; intro v' w' g' hown hchg hg'; obtain ⟨a2, c2, rfl, hc2, hm2⟩ := hown.slice; have HO3 := Lib.hid hown; have HC3 := Lib.hid hchg; have HG3 := Lib.hid hg'; clear hown hchg hg')
          go_roundw
          case rel =>
            refine ⟨k + 1, n + xl, a2, c2, by go_num, rfl, by omega, by rw [HF.out, List.length_append, HXL.out, HN.out], g', ?_, HC.out.trans HC3.out (fun _ _ h => h) (fun i hi h => ?_), fun i hi => ?_⟩
            · rw [HF.out]
              have e : cellsI (flatI (bs.take k) ++ x.its) = cellsI (flatI (bs.take k)) ++ cellsI x.its := by simp [cellsI]
              rw [e]
              exact HO3.out
            · have := HG.out i h; omega
            · have := HC.out.size
              rcases HG3.out i hi with h | h
              · exact HG.out i h
              · omega
          case measure => simp [intOf]; omega
        · obtain rfl : k = nb := by omega
          go_wp2_with fail
          go_ret
          obtain ⟨hn, g1, ho, hch, hg1⟩ := HK.out
          have e : bs.take k = bs := List.take_of_length_le (by rw [HNB.out]; exact Nat.le_refl _)
          rw [e] at hn ho
          subst hn
          exact ⟨_, g1, rfl, ho, hch, hg1⟩

set_option maxHeartbeats 1000000 in
set_option maxRecDepth 100000 in
theorem qList (bq : Nat) (bs : List Bt) (bytes : Int) (la : Option Addr) (lc : Nat) (go : Option Nat) (w : World) (h : QAt w bq bs bytes la lc go) (hs : sumLen bs ≤ 1000000) :
    Calls Try.prog 51 #[.pointer (some ⟨bq, 0, none⟩)] w (NewOwn 79 5 (flatI bs).length (cellsI (flatI bs)) w) := by
  have c0 : w.cell? ⟨bq, 0, none⟩ = some (.slice la bs.length lc) := h.blk.cell 0
  have HC := Lib.hid (concat_any bq bs bytes la lc go w h hs)
  clear h hs
  generalize bs.length = n at *
  go_enter Try.func51, Try.ntmps51
  go_wp2_with (go_at_call 71; (with_reducible refine HC.out.mono ?_); rintro e w1 ⟨v, g, rfl, ho, hch, hg⟩; have HO := Lib.hid ho; have HC2 := Lib.hid hch; have HG := Lib.hid hg; obtain ⟨a0, c0, rfl, _, _⟩ := ho.slice; clear ho hch hg)
  go_ret
  exact ⟨_, g, rfl, HO.out, HC2.out, HG.out⟩

end Go.Proofs.Ytabeolmfgmbfaaa
