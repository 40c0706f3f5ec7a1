/- Bytes that are only read; things that are done, as values. -/
import Derived.Test.YtabeolmfgmbfaaaTrace
namespace Go.Proofs.Ytabeolmfgmbfaaa
open Go.RowKit
set_option linter.unusedVariables false
set_option linter.unusedSimpArgs false

/-- A slice of bytes, read but not owned: its elements' cells. -/
def Bys (w : World) (a : Option Addr) (n : Nat) (l : List Int) : Prop :=
  l.length = n ∧ (a = none → n = 0) ∧ ∀ x, a = some x → ∀ j, j < l.length → w.cell? (x.add j) = some (.int .u8 (l.getD j 0))

theorem Bys.src {w : World} {a : Option Addr} {n : Nat} {l : List Int} (h : Bys w a n l) (k cap : Nat) (hk : k ≤ n) : Src w 1 (.slice a k cap) k (bytesV (l.take k)) := by
  obtain ⟨hl, h0, h1⟩ := h
  have e : (l.take k).length = k := by simp; omega
  refine ⟨by rw [bytesV_length, e, Nat.mul_one], fun u hu => ?_, ?_⟩
  · obtain ⟨x, _, rfl⟩ := List.mem_map.1 hu
    rfl
  · cases a with
    | none => exact .inl ⟨_, rfl, by have := h0 rfl; omega⟩
    | some x =>
      refine .inr ⟨_, _, rfl, fun j u hu => ?_⟩
      have hj : j < k := by have := (List.getElem?_eq_some_iff.1 hu).1; rw [bytesV_length, e] at this; exact this
      rw [h1 x rfl j (by omega)]
      simpa [bytesV, List.getElem?_map, List.getElem?_take, hj, List.getD_eq_getElem?_getD, show j < l.length by omega] using hu
theorem Bys.srcAll {w : World} {a : Option Addr} {n : Nat} {l : List Int} (h : Bys w a n l) (cap : Nat) : Src w 1 (.slice a n cap) n (bytesV l) := by
  have := h.src n cap (Nat.le_refl _)
  rwa [List.take_of_length_le (by have := h.1; omega)] at this

theorem bys_own {w : World} {e : TypeId} {a : Option Addr} {n c : Nat} {l : List Int} {g : Option Nat} (hn : l.length = n) (h : Own w e 1 (.slice a n c) n (bytesV l) g) : Bys w a n l := by
  refine ⟨hn, fun e => ?_, fun x hx j hj => ?_⟩
  · subst e
    cases n with
    | zero => rfl
    | succ n =>
      obtain ⟨b, off, hb, _⟩ := h.at (j := 0) (by simp)
      cases hb
  · subst hx
    obtain ⟨b, off, hb, _, hcell, _⟩ := h.at (j := j) (by omega)
    cases hb
    rw [Addr.add_lit, hcell]
    simp [bytesV, List.getD_eq_getElem?_getD, hj]

theorem Bys.chg {F : Nat → Prop} {w w' : World} {a : Option Addr} {n : Nat} {l : List Int} (h : Bys w a n l) (k : Chg F w w') (hF : ∀ i, i < w.heap.size → ¬ F i) : Bys w' a n l := by
  refine ⟨h.1, h.2.1, fun x hx j hj => ?_⟩
  have hc := h.2.2 x hx j hj
  have hb := World.block_lt_of_cell? w (x.add j) hc
  rw [World.cell?_of_block (k.block _ hb (hF _ hb))]
  exact hc

/-- A thing that is done, as a value. -/
structure OpV where mk ::
  k : Int
  th : Int
  a : Int
  b : Int
  v : Int
  n : Int
  m : Int
  da : Option Addr
  dn : Nat
  dc : Nat
  d : List Int
def OpV.cells (o : OpV) : Array Value := #[.int .i64 o.k, .int .i64 o.th, .int .i64 o.a, .int .i64 o.b, .int .i64 o.v, .int .i64 o.n, .int .i64 o.m, .slice o.da o.dn o.dc]
def OpV.nums (o : OpV) : List Int := [o.k, o.th, o.a, o.b, o.v, o.n, o.m, (o.dn : Int)]
/-- It is such as a world has it. -/
structure OpV.ok (w : World) (o : OpV) : Prop where
  nums : ∀ x ∈ o.nums, -9223372036854775808 ≤ x ∧ x ≤ 9223372036854775807
  bys : Bys w o.da o.dn o.d
  byte : ∀ x ∈ o.d, 0 ≤ x ∧ x ≤ 255
  cap : o.dn ≤ o.dc
  few : o.dn ≤ 140737488351232
theorem OpV.ok.chg {F : Nat → Prop} {w w' : World} {o : OpV} (h : o.ok w) (k : Chg F w w') (hF : ∀ i, i < w.heap.size → ¬ F i) : o.ok w' := ⟨h.nums, h.bys.chg k hF, h.byte, h.cap, h.few⟩
/-- Its bytes. -/
def OpV.bytes (o : OpV) : List Int := o.nums.flatMap numOf ++ o.d

theorem flat_length (l : List Int) : (l.flatMap numOf).length ≤ 10 * l.length := by
  induction l with
  | nil => simp
  | cons x l ih =>
    have := (numOf_length x).2
    simp only [List.flatMap_cons, List.length_append, List.length_cons]
    omega
theorem take_flat (l : List Int) (j : Nat) (h : j < l.length) : (l.take (j + 1)).flatMap numOf = (l.take j).flatMap numOf ++ numOf (l.getD j 0) := by
  rw [List.take_add_one, List.flatMap_append, List.getElem?_eq_getElem h]
  simp [List.getD_eq_getElem?_getD, h]

theorem arr8 (x0 x1 x2 x3 x4 x5 x6 x7 : Int) (j : Nat) (hj : j < 8) (w : World) : (Instr.index 107 (.agg #[.int .i64 x0, .int .i64 x1, .int .i64 x2, .int .i64 x3, .int .i64 x4, .int .i64 x5, .int .i64 x6, .int .i64 x7]) (.int .i64 (j : Nat))).run Try.prog w = .ok (.int .i64 ([x0, x1, x2, x3, x4, x5, x6, x7].getD j 0)) w := by
  have q0 : ∀ w, (Instr.index 107 (.agg #[.int .i64 x0, .int .i64 x1, .int .i64 x2, .int .i64 x3, .int .i64 x4, .int .i64 x5, .int .i64 x6, .int .i64 x7]) (.int .i64 0)).run Try.prog w = .ok (.int .i64 x0) w := fun _ => by kernel_rfl
  have q1 : ∀ w, (Instr.index 107 (.agg #[.int .i64 x0, .int .i64 x1, .int .i64 x2, .int .i64 x3, .int .i64 x4, .int .i64 x5, .int .i64 x6, .int .i64 x7]) (.int .i64 1)).run Try.prog w = .ok (.int .i64 x1) w := fun _ => by kernel_rfl
  have q2 : ∀ w, (Instr.index 107 (.agg #[.int .i64 x0, .int .i64 x1, .int .i64 x2, .int .i64 x3, .int .i64 x4, .int .i64 x5, .int .i64 x6, .int .i64 x7]) (.int .i64 2)).run Try.prog w = .ok (.int .i64 x2) w := fun _ => by kernel_rfl
  have q3 : ∀ w, (Instr.index 107 (.agg #[.int .i64 x0, .int .i64 x1, .int .i64 x2, .int .i64 x3, .int .i64 x4, .int .i64 x5, .int .i64 x6, .int .i64 x7]) (.int .i64 3)).run Try.prog w = .ok (.int .i64 x3) w := fun _ => by kernel_rfl
  have q4 : ∀ w, (Instr.index 107 (.agg #[.int .i64 x0, .int .i64 x1, .int .i64 x2, .int .i64 x3, .int .i64 x4, .int .i64 x5, .int .i64 x6, .int .i64 x7]) (.int .i64 4)).run Try.prog w = .ok (.int .i64 x4) w := fun _ => by kernel_rfl
  have q5 : ∀ w, (Instr.index 107 (.agg #[.int .i64 x0, .int .i64 x1, .int .i64 x2, .int .i64 x3, .int .i64 x4, .int .i64 x5, .int .i64 x6, .int .i64 x7]) (.int .i64 5)).run Try.prog w = .ok (.int .i64 x5) w := fun _ => by kernel_rfl
  have q6 : ∀ w, (Instr.index 107 (.agg #[.int .i64 x0, .int .i64 x1, .int .i64 x2, .int .i64 x3, .int .i64 x4, .int .i64 x5, .int .i64 x6, .int .i64 x7]) (.int .i64 6)).run Try.prog w = .ok (.int .i64 x6) w := fun _ => by kernel_rfl
  have q7 : ∀ w, (Instr.index 107 (.agg #[.int .i64 x0, .int .i64 x1, .int .i64 x2, .int .i64 x3, .int .i64 x4, .int .i64 x5, .int .i64 x6, .int .i64 x7]) (.int .i64 7)).run Try.prog w = .ok (.int .i64 x7) w := fun _ => by kernel_rfl
  have h : j = 0 ∨ j = 1 ∨ j = 2 ∨ j = 3 ∨ j = 4 ∨ j = 5 ∨ j = 6 ∨ j = 7 := by omega
  rcases h with rfl | rfl | rfl | rfl | rfl | rfl | rfl | rfl
  · exact q0 w
  · exact q1 w
  · exact q2 w
  · exact q3 w
  · exact q4 w
  · exact q5 w
  · exact q6 w
  · exact q7 w

set_option maxHeartbeats 1000000 in
set_option maxRecDepth 100000 in
theorem one_bytes (o : OpV) (w : World) (ho : o.ok w) :
    Calls Try.prog 44 #[.agg o.cells] w (BytesPost w 0 [] none o.bytes) := by
  obtain ⟨i0, hi, hz0, hz1, hz2⟩ := info_parts Try.info_byte
  have HO := Lib.hid ho
  have hfew := ho.few
  have hix : ∀ j, j < 8 → ∀ w, (Instr.index 107 (.agg #[.int .i64 o.k, .int .i64 o.th, .int .i64 o.a, .int .i64 o.b, .int .i64 o.v, .int .i64 o.n, .int .i64 o.m, .int .i64 o.dn]) (.int .i64 (j : Nat))).run Try.prog w = .ok (.int .i64 (o.nums.getD j 0)) w := by
    intro j hj w
    exact arr8 _ _ _ _ _ _ _ _ j hj w
  have HIX := Lib.hid hix
  clear ho hix
  have HC0 : Hid (Chg Non w (w.alloc (.cells o.cells 61))) := (Chg.refl _ _).alloc _
  have HB : Hid (Blk (w.alloc (.cells o.cells 61)) w.heap.size o.cells 61) := Blk.new _ _ _
  unfold OpV.cells at *
  go_enter Try.func44, Try.ntmps44
  go_wp2_with fail
  go_loopw [3, 24] (fun x i wr => ∃ (a2 : Option Addr) (c2 j : Nat), x = .slice a2 ((o.nums.take j).flatMap numOf).length c2 ∧ i = .int .i64 j ∧ j ≤ 8 ∧ Hid (∃ g2, Own wr 5 1 (.slice a2 ((o.nums.take j).flatMap numOf).length c2) ((o.nums.take j).flatMap numOf).length (bytesV ((o.nums.take j).flatMap numOf)) g2 ∧ (∀ i, g2 = some i → w.heap.size < i)) ∧ Hid (Chg Non w wr) ∧ Hid (Blk wr w.heap.size #[.int .i64 o.k, .int .i64 o.th, .int .i64 o.a, .int .i64 o.b, .int .i64 o.v, .int .i64 o.n, .int .i64 o.m, .slice o.da o.dn o.dc] 61)) (fun _ i _ => 8 - (intOf i).toNat)
  case atStart => exact ⟨_, _, 0, rfl, rfl, by omega, ⟨none, Own.nil _ _ _, fun i hi => by cases hi⟩, HC0, HB⟩
  case round =>
    obtain ⟨a2, c2, j, rfl, rfl, hj, HO2, HC, HB2⟩ := hrel
    have hl : ((o.nums.take j).flatMap numOf).length ≤ 80 := by
      have h1 := flat_length (o.nums.take j)
      have h2 : (o.nums.take j).length ≤ 8 := by rw [List.length_take]; show min j 8 ≤ 8; omega
      omega
    obtain ⟨g2, ho2, hg2⟩ := HO2.out
    have HOa := Lib.hid ho2
    have HG2 := Lib.hid hg2
    have hs2 := HC.out.size
    clear ho2 hg2 HO2
    by_cases h8 : j < 8
    · have hixj := HIX.out j h8
      have hnum := HO.out.nums (o.nums.getD j 0) (by
        rw [List.getD_eq_getElem?_getD, List.getElem?_eq_getElem (show j < o.nums.length from h8)]
        exact List.getElem_mem _)
      have HT := Lib.hid (take_flat o.nums j h8)
      generalize o.nums.getD j 0 = x at *
      generalize (o.nums.take j).flatMap numOf = done at *
      go_wp2_with fail
      refine (put_any a2 done.length c2 (bytesV done) g2 x _ hnum (.inl HOa.out) (by omega)).mono ?_
      clear hixj
      rintro e w2 ⟨a3, c3, g3, rfl, ho3, hg3, hc3⟩
      have HO3 := Lib.hid ho3
      have HG3 := Lib.hid hg3
      have HC3 := Lib.hid hc3
      clear ho3 hg3 hc3
      go_wp2_with fail
      go_roundw
      case rel =>
        refine ⟨a3, c3, j + 1, by rw [HT.out]; simp, by go_num, by omega, ⟨g3, ?_, fun i hi => ?_⟩, HC.out.trans HC3.out (fun _ _ h => h) (fun i hi h => ?_), HB2.out.chg HC3.out (fun h => ?_)⟩
        · rw [HT.out, bytesV_append]
          simpa using HO3.out
        · rcases HG3.out i hi with h | h
          · exact HG2.out i h
          · have := HB2.out.lt
            omega
        · have := HG2.out i h
          omega
        · have := HG2.out _ h
          omega
      case measure => simp [intOf]; omega
    · obtain rfl : j = 8 := by omega
      have e8 : o.nums.take 8 = o.nums := List.take_of_length_le (Nat.le_refl _)
      have HS := Lib.hid ((HO.out.chg HC.out (fun _ _ h => h)).bys.srcAll o.dc)
      have c7 := HB2.out.cell 7
      simp at c7
      generalize hnf : (o.nums.take 8).flatMap numOf = done at *
      rw [e8] at hnf
      have HNF := Lib.hid hnf
      clear hnf e8
      go_wp2_with (at_builtin; refine wpList_append_Own _ rfl _ _ 59 rfl 5 i0 (.int .u8 0) 1 1 Try.underlying59 hi hz0 hz1 hz2 rfl (by decide) _ done.length _ g2 rfl HOa.out _ o.dn _ rfl HS.out (by unfold maxLen; omega) (by omega) ?_; intro v' w' g' hown hchg hg'; obtain ⟨a3, c3, rfl, hc3, hm3⟩ := hown.slice; have HO3 := Lib.hid hown; have HC3 := Lib.hid hchg; have HG3 := Lib.hid hg'; clear hown hchg hg')
      go_ret
      have hdl := HO.out.bys.1
      refine ⟨a3, c3, g', ?_, ?_, fun i hi => ?_, ((HC.out.trans HC3.out (fun _ _ h => h) (fun i hi h => ?_)).mono (fun _ _ h => False.elim h))⟩
      · simp [OpV.bytes, HNF.out, hdl]
      · have h := HO3.out
        simpa [OpV.bytes, HNF.out, hdl, bytesV_append] using h
      · rcases HG3.out i hi with h | h
        · exact .inr (Nat.le_of_lt (HG2.out i h))
        · exact .inr (by omega)
      · have := HG2.out i h
        omega

end Go.Proofs.Ytabeolmfgmbfaaa
