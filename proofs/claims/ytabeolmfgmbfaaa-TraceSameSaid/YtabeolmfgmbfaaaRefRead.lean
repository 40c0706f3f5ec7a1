/- The reference's Read. -/
import Derived.Test.YtabeolmfgmbfaaaTrRead
import Derived.Test.YtabeolmfgmbfaaaRefTake
namespace Go.Proofs.Ytabeolmfgmbfaaa
open Go.RowKit
set_option linter.unusedVariables false
set_option linter.unusedSimpArgs false

theorem takeK_last (k : Nat) : ∀ l, takeK (k + 1) l = match takeK k l with
    | none => none
    | some (xs, r) => match readN 0 0 r with
      | none => none
      | some (v, j) => some (xs ++ [unzig v], r.drop j) := by
  induction k with
  | zero =>
    intro l
    simp only [takeK]
    cases readN 0 0 l with
    | none => rfl
    | some p => rfl
  | succ k ih =>
    intro l
    cases hn : readN 0 0 l with
    | none => rw [takeK, takeK, hn]
    | some p =>
      obtain ⟨v, j⟩ := p
      have e1 : takeK (k + 1 + 1) l = match takeK (k + 1) (l.drop j) with | none => none | some (xs, r) => some (unzig v :: xs, r) := by rw [takeK, hn]; rfl
      have e2 : takeK (k + 1) l = match takeK k (l.drop j) with | none => none | some (xs, r) => some (unzig v :: xs, r) := by rw [takeK, hn]; rfl
      rw [e1, e2, ih (l.drop j)]
      cases takeK k (l.drop j) with
      | none => rfl
      | some q =>
        obtain ⟨xs, r2⟩ := q
        simp only
        cases readN 0 0 r2 with
        | none => rfl
        | some q => rfl
theorem takeK_stuck {j n : Nat} {l : List Int} (hj : j ≤ n) (h : takeK j l = none) : takeK n l = none := by
  have h2 : ∀ d, takeK (j + d) l = none := by
    intro d
    induction d with
    | zero => exact h
    | succ d ih => rw [← Nat.add_assoc, takeK_last, ih]
  have h3 := h2 (n - j)
  rwa [show j + (n - j) = n from by omega] at h3
theorem takeOps_stuck {j n : Nat} {l : List Int} (hj : j ≤ n) (h : takeOps j l = none) : takeOps n l = none := by
  have h2 : ∀ d, takeOps (j + d) l = none := by
    intro d
    induction d with
    | zero => exact h
    | succ d ih => rw [← Nat.add_assoc, takeOps_last, ih]
  have h3 := h2 (n - j)
  rwa [show j + (n - j) = n from by omega] at h3

/-- The reference's rounds. -/
structure RRounds (w0 : World) (l l0 : List Int) (i at_ : Nat) (wr : World) (a : Option Addr) (c : Nat) (vs : List OpV) (g : Option Nat) : Prop where
  len : vs.length = i
  state : takeOps i l0 = some (vs.map OpV.plain, l.drop at_)
  le : at_ ≤ l.length
  own : Own wr 61 8 (.slice a i c) i (cellsOf vs) g
  new : ∀ k, g = some k → w0.heap.size ≤ k
  bys : ∀ o ∈ vs, Bys wr o.da o.dn o.d ∧ o.dn ≤ o.dc ∧ (0 < o.dn → ∀ x, o.da = some x → ∀ k, g = some k → x.block ≠ k)
  chg : Chg Non w0 wr
theorem RRounds.mono {w0 wr w1 : World} {l l0 : List Int} {i at_ : Nat} {a : Option Addr} {c : Nat} {vs : List OpV} {g : Option Nat} (h : RRounds w0 l l0 i at_ wr a c vs g) (k : Chg Non wr w1) : RRounds w0 l l0 i at_ w1 a c vs g :=
  ⟨h.len, h.state, h.le, h.own.chg k (fun _ _ h => h), h.new, fun o ho => ⟨(h.bys o ho).1.chg k (fun _ _ h => h), (h.bys o ho).2⟩, h.chg.tr k⟩
theorem RRounds.one {w0 wr w1 : World} {l l0 : List Int} {i at_ : Nat} {a : Option Addr} {c : Nat} {vs : List OpV} {g : Option Nat} (h : RRounds w0 l l0 i at_ wr a c vs g) {b : Nat} (k : Chg (One b) wr w1) (hb : ∀ k, g = some k → k ≠ b) (hv : ∀ o ∈ vs, 0 < o.dn → ∀ x, o.da = some x → x.block ≠ b) (h0 : w0.heap.size ≤ b) : RRounds w0 l l0 i at_ w1 a c vs g :=
  ⟨h.len, h.state, h.le, h.own.chg k (fun i hi e => hb i hi e), h.new, fun o ho => ⟨(h.bys o ho).1.chg0 k (fun h0 x hx e => hv o ho h0 x hx e), (h.bys o ho).2⟩, h.chg.trans k (fun _ _ h => h) (fun i hi h => by have : i = b := h; omega)⟩

theorem RRounds.next {w0 wo ws wf : World} {l l0 : List Int} {j at_ nx : Nat} {a a3 : Option Addr} {c c3 : Nat} {vs : List OpV} {g g' : Option Nat} (h : RRounds w0 l l0 j at_ wo a c vs g) (o : OpV) (hop : takeOp (l.drop at_) = some (o.plain, l.drop nx)) (hnx : nx ≤ l.length) (hc : Chg Non wo ws) (hb : Bys ws o.da o.dn o.d) (hdc : o.dn ≤ o.dc) (hnew : 0 < o.dn → ∀ x, o.da = some x → wo.heap.size ≤ x.block)
    (hown : Own wf 61 8 (.slice a3 (j + 1) c3) (j + 1) (cellsOf vs ++ o.cells.toList) g') (hchg : Chg (Opt g) ws wf) (hg' : ∀ k, g' = some k → g = some k ∨ ws.heap.size ≤ k) : RRounds w0 l l0 (j + 1) nx wf a3 c3 (vs ++ [o]) g' := by
  have hs := hc.size
  have h0 := h.chg.size
  refine ⟨by rw [List.length_append, h.len]; rfl, ?_, hnx, by rw [cellsOf_snoc]; exact hown, fun k hk => ?_, fun p hp => ?_, (h.chg.tr hc).trans hchg (fun _ _ h => h) (fun i hi e => by have := h.new i e; omega)⟩
  · rw [takeOps_last, h.state]
    simp only [hop, List.map_append]
    rfl
  · rcases hg' k hk with e | e
    · exact h.new k e
    · omega
  · rcases List.mem_append.1 hp with hp | hp
    · obtain ⟨q1, q2, q3⟩ := h.bys p hp
      refine ⟨(q1.chg hc (fun _ _ h => h)).chg0 hchg (fun h0 x hx e => q3 h0 x hx _ e rfl), q2, fun h0 x hx k hk e => ?_⟩
      rcases hg' k hk with e2 | e2
      · exact q3 h0 x hx k e2 e
      · have := q1.lt h0 x hx
        omega
    · simp at hp
      subst hp
      refine ⟨hb.chg0 hchg (fun h0 x hx e => ?_), hdc, fun h0 x hx k hk e => ?_⟩
      · have h1 := hnew h0 x hx
        have h2 := h.own.lt _ e
        omega
      · have h1 := hnew h0 x hx
        rcases hg' k hk with e2 | e2
        · have h2 := h.own.lt _ e2
          omega
        · have := hb.lt h0 x hx
          omega

theorem parse_ref {l : List Int} (hb : Byte l) (h3 : l.take 3 = [67, 84, 49]) : parse l = if (takeR (l.drop 3)).2 = 0 ∨ (takeR (l.drop 3)).1 < 0 ∨ 500 < (takeR (l.drop 3)).1 then none else endOps (takeR (l.drop 3)).1.toNat (l.drop (3 + (takeR (l.drop 3)).2)) := by
  rw [parse, if_pos h3]
  unfold takeR
  cases hn : readN 0 0 (l.drop 3) with
  | none => simp
  | some p =>
    obtain ⟨v, k⟩ := p
    have hk := (readN_len (hb.drop 3) hn).2.1
    have hk0 : ¬ k = 0 := by omega
    simp only [hk0, false_or, List.drop_drop]
    rfl
theorem parse_short {l : List Int} (h : l.length < 4) : parse l = none := by
  unfold parse
  split
  · have : l.drop 3 = [] := List.drop_eq_nil_of_le (by omega)
    rw [this]
    rfl
  · rfl
theorem takeR_le {l : List Int} (hb : Byte l) : (takeR l).2 ≤ l.length ∧ I64 (takeR l).1 := by
  unfold takeR
  cases hn : readN 0 0 l with
  | none => exact ⟨Nat.zero_le _, by show I64 0; unfold I64; omega⟩
  | some p => exact ⟨(readN_len hb hn).2.2.1, unzig_range _ (readN_len hb hn).2.2.2.2.1⟩
theorem end_of {m : Nat} {l : List Int} : endOps m l = match takeOps m l with | some (os, []) => some os | _ => none := rfl

/-- One number more. -/
theorem takeK_step {j : Nat} {l : List Int} {xs : List Int} {at0 at_ : Nat} {x : Int} {k : Nat} (hk : takeK j (l.drop at0) = some (xs, l.drop at_)) (hx : takeR (l.drop at_) = (x, k)) (h0 : k ≠ 0) : takeK (j + 1) (l.drop at0) = some (xs ++ [x], l.drop (at_ + k)) := by
  rw [takeK_last, hk]
  simp only
  unfold takeR at hx
  cases hn : readN 0 0 (l.drop at_) with
  | none => rw [hn] at hx; simp only [Prod.mk.injEq] at hx; omega
  | some p =>
    obtain ⟨v, i⟩ := p
    rw [hn] at hx
    simp only [Prod.mk.injEq] at hx
    obtain ⟨rfl, rfl⟩ := hx
    simp [List.drop_drop]
theorem takeK_no {j : Nat} {l : List Int} {xs : List Int} {at0 at_ : Nat} {x : Int} (hk : takeK j (l.drop at0) = some (xs, l.drop at_)) (hx : takeR (l.drop at_) = (x, 0)) (hb : Byte l) : takeK (j + 1) (l.drop at0) = none := by
  rw [takeK_last, hk]
  simp only
  unfold takeR at hx
  cases hn : readN 0 0 (l.drop at_) with
  | none => rfl
  | some p =>
    obtain ⟨v, i⟩ := p
    rw [hn] at hx
    simp only [Prod.mk.injEq] at hx
    have := (readN_len (hb.drop at_) hn).2.1
    omega

theorem conv_mark3 {w : World} {a : Option Addr} {n c : Nat} {l : List Int} (h : Bys w a n l) (h3 : 3 ≤ n) : (convert 59 9 (.slice a 3 c)).run Try.prog w = .ok (.string (strOfNums (l.take 3))) w :=
  conv_str ⟨by rw [List.length_take, h.1]; omega, fun e => by have := h.2.1 e; omega, fun x hx j hj => by
    rw [List.length_take, h.1] at hj
    rw [h.2.2 x hx j (by rw [h.1]; omega)]
    simp [List.getD_eq_getElem?_getD, show j < 3 by omega]⟩
theorem mark3 {l : List Int} (hl : Byte l) : ((strOfNums (l.take 3)).toList == [67, 84, 49]) = decide (l.take 3 = [67, 84, 49]) := by
  rw [ByteArray.toList_eq, strOfNums_data, Bool.eq_iff_iff]
  simp only [beq_iff_eq, decide_eq_true_eq]
  constructor
  · intro h
    exact u8_list_inj (hl.take 3) (by unfold Byte; decide) h
  · intro h; rw [h]; rfl

def FromAt (o2 off k n : Nat) : Prop := o2 = off + k ∨ n = k
/-- The rest from a place on, as a slice of it. -/
theorem bys_from {w : World} {b off n : Nat} {l : List Int} (h : Bys w (some ⟨b, off, none⟩) n l) {k : Nat} (hk : k ≤ n) {o2 : Nat} (ho : FromAt o2 off k n) : Bys w (some ⟨b, o2, none⟩) (n - k) (l.drop k) := by
  rcases ho with rfl | rfl
  · exact h.drop k hk
  · rw [Nat.sub_self, List.drop_of_length_le (by rw [h.1]; exact Nat.le_refl _)]
    exact bys_none _
theorem ops_no {m j : Nat} {l l0 : List Int} {at_ : Nat} {os : List (List Int × List Int)} (hj : j < m) (h : takeOps j l0 = some (os, l.drop at_)) (ho : takeOp (l.drop at_) = none) : endOps m l0 = none := by
  have h1 : takeOps (j + 1) l0 = none := by rw [takeOps_last, h]; simp only [ho]
  unfold endOps
  rw [takeOps_stuck (show j + 1 ≤ m by omega) h1]
theorem op_no {i : Nat} {l : List Int} (hi : i ≤ 8) (h : takeK i l = none) : takeOp l = none := by
  unfold takeOp
  rw [takeK_stuck hi h]

theorem op_bad {l l0 ys : List Int} {at2 n : Nat} {x : Int} (h : takeK 8 l0 = some (ys, l.drop at2)) (hl : l.length = n) (hat : at2 ≤ n) (hx : ys.getD 7 0 = x) (hb : x < 0 ∨ 4096 < x ∨ (n : Int) - at2 < x) : takeOp l0 = none := by
  unfold takeOp
  rw [h]
  simp only [hx, List.length_drop, hl]
  rw [if_pos (by omega)]
theorem op_yes {l l0 ys : List Int} {at2 n d : Nat} (h : takeK 8 l0 = some (ys, l.drop at2)) (hl : l.length = n) (hat : at2 ≤ n) (hx : ys.getD 7 0 = (d : Int)) (h4 : d ≤ 4096) (hd : d ≤ n - at2) : takeOp l0 = some ((ys.take 7, (l.drop at2).take d), l.drop (at2 + d)) := by
  unfold takeOp
  rw [h]
  simp only [hx, List.length_drop, hl]
  rw [if_neg (by omega)]
  simp [List.drop_drop]

/-- The reference's eight numbers. -/
structure Eight (w0 : World) (l l0 : List Int) (j at0 : Nat) (a : Option Addr) (c : Nat) (vs : List OpV) (g : Option Nat) (ba i at_ : Nat) (wr : World) (ys : List Int) : Prop where
  rr : RRounds w0 l l0 j at0 wr a c vs g
  len : ys.length = 8
  state : takeK i (l.drop at0) = some (ys.take i, l.drop at_)
  blk : Blk wr ba (ys.map (Value.int .i64)).toArray 107
theorem Eight.step {w0 wr w2 : World} {l l0 : List Int} {j at0 : Nat} {a : Option Addr} {c : Nat} {vs : List OpV} {g : Option Nat} {ba i at_ : Nat} {ys : List Int} (h : Eight w0 l l0 j at0 a c vs g ba i at_ wr ys) (hc : Chg Non wr w2)
    {x : Int} {k : Nat} (hx : takeR (l.drop at_) = (x, k)) (h0 : k ≠ 0) (hi : i < 8) (hg : ∀ k, g = some k → k ≠ ba) (hv : ∀ o ∈ vs, 0 < o.dn → ∀ x, o.da = some x → x.block ≠ ba) (hb : w0.heap.size ≤ ba) :
    Eight w0 l l0 j at0 a c vs g ba (i + 1) (at_ + k) (w2.setCell ⟨ba, i, none⟩ (.int .i64 x)) (ys.set i x) := by
  refine ⟨(h.rr.mono hc).one (Chg.set1 w2 ba i _) hg hv hb, by simp [h.len], ?_, ?_⟩
  · rw [takeK_step h.state hx h0]
    congr 2
    rw [List.take_add_one, List.take_set_of_le (by omega)]
    simp [h.len, hi]
  · have h2 := (h.blk.chg hc (fun h => h)).set i (.int .i64 x)
    have e : ((ys.map (Value.int .i64)).toArray.setIfInBounds i (.int .i64 x)) = ((ys.set i x).map (Value.int .i64)).toArray := by simp
    rw [← e]
    exact h2

set_option maxHeartbeats 4000000 in
set_option maxRecDepth 100000 in
theorem readRef_any (a : Option Addr) (n c : Nat) (l : List Int) (w : World) (hl : Bys w a n l) (hb : Byte l) (hn : n ≤ 140737488351232) (hc : n ≤ c) :
    Calls Try.prog 48 #[.slice a n c] w (ReadPost l w) := by
  obtain ⟨i0, hi, hz0, hz1, hz2⟩ := info_parts Try.info_opT
  obtain ⟨i1, hi1, hy0, hy1, hy2⟩ := info_parts Try.info_byte
  have hln := hl.1
  have HB := Lib.hid hb
  have HBAD : Hid (∀ e w', parse l = none → e = .returned (.tuple #[.slice none 0 0, .bool false]) → Chg Non w w' → ReadPost l w e w') := fun e w' h1 h2 h3 => ⟨fun _ => ⟨h2, h3⟩, fun os h => by rw [h1] at h; cases h⟩
  by_cases h4 : n < 4
  · have HN : Hid (parse l = none) := parse_short (by omega)
    have h4' : (n : Int) < 4 := by omega
    clear hl hb
    go_enter Try.func48, Try.ntmps48
    go_wp2_with fail
    go_ret2
    exact HBAD.out _ _ HN.out rfl ((Chg.refl _ _).alloc _)
  · have h4' : ¬ (n : Int) < 4 := by omega
    obtain ⟨b, off, rfl, _⟩ := hl.at (show 0 < n by omega)
    have hcv := conv_mark3 (c := c) (hl.chg ((Chg.refl Non w).alloc (.cells #[] 61)) (fun _ _ h => h)) (by omega)
    have hmk := mark3 hb
    have HL := Lib.hid (hl.chg ((Chg.refl Non w).alloc (.cells #[] 61)) (fun _ _ h => h))
    have HLW := Lib.hid hl
    by_cases h3 : l.take 3 = [67, 84, 49]
    · have hpr := parse_ref hb h3
      have hm2 : ((strOfNums (l.take 3)).toList == [67, 84, 49]) = true := by rw [hmk]; simp [h3]
      have hle := takeR_le (hb.drop 3)
      clear hmk h3 hl hb
      generalize strOfNums (l.take 3) = sm at *
      have HT := Lib.hid (take_any (some ⟨b, off + 3, none⟩) (n - 3) (c - 3) (l.drop 3) _ (HL.out.drop 3 (by omega)) (HB.out.drop 3) (by omega))
      obtain ⟨x, k, hxk⟩ : ∃ x k, takeR (l.drop 3) = (x, k) := ⟨_, _, rfl⟩
      rw [hxk] at hpr hle
      have HXK := Lib.hid hxk
      obtain ⟨hle1, hle2⟩ := hle
      unfold I64 at hle2
      simp only [] at hle1 hle2 hpr
      rw [List.length_drop, hln] at hle1
      have HPR := Lib.hid hpr
      clear hpr hxk
      go_enter Try.func48, Try.ntmps48
      go_wp2_with fail
      refine HT.out.mono ?_
      clear HT hcv
      rintro e w1 h
      unfold TakePost at h
      rw [HXK.out] at h
      obtain ⟨rfl, hch⟩ := h
      have HC1 : Hid (Chg Non w w1) := ((Chg.refl _ _).alloc _).tr hch
      have HL1 := Lib.hid (HL.out.chg hch (fun _ _ h => h))
      have HO1 : Hid (Own w1 61 8 (.slice (some ⟨w.heap.size, 0, none⟩) 0 0) 0 [] (some w.heap.size)) := ⟨by simp, .inr ⟨_, 0, 0, _, rfl, rfl, (Blk.new w #[] 61).chg hch (fun h => h), Nat.le_refl _, Nat.zero_le _, by simp, by simp⟩⟩
      have hs1 := hch.size
      simp only [World.size_alloc] at hs1
      clear hch HL HXK
      by_cases hk0 : k = 0
      · have HN : Hid (parse l = none) := by show parse l = none; rw [HPR.out, if_pos (.inl hk0)]
        subst hk0
        go_wp2_with fail
        go_ret2
        exact HBAD.out _ _ HN.out rfl HC1.out
      · have hk1 : ((k : Int) == 0) = false := by simp; omega
        by_cases hx0 : x < 0
        · have HN : Hid (parse l = none) := by show parse l = none; rw [HPR.out, if_pos (.inr (.inl hx0))]
          go_wp2_with fail
          go_ret2
          exact HBAD.out _ _ HN.out rfl HC1.out
        · by_cases hx5 : 500 < x
          · have HN : Hid (parse l = none) := by show parse l = none; rw [HPR.out, if_pos (.inr (.inr hx5))]
            go_wp2_with fail
            go_ret2
            exact HBAD.out _ _ HN.out rfl HC1.out
          · obtain ⟨m, rfl⟩ := Int.eq_ofNat_of_zero_le (show 0 ≤ x by omega)
            have HPE : Hid (parse l = endOps m (l.drop (3 + k))) := by
              show parse l = _
              rw [HPR.out, Int.toNat_natCast, if_neg (by omega)]
            clear HPR
            go_wp2_with fail
            go_loopw [4, 7, 8] (fun y z i wr => ∃ (j at_ : Nat) (a2 : Option Addr) (c2 : Nat), y = .slice a2 j c2 ∧ z = .int .i64 at_ ∧ i = .int .i64 j ∧ j ≤ m ∧ at_ ≤ n ∧ Hid (∃ vs g, RRounds w l (l.drop (3 + k)) j at_ wr a2 c2 vs g)) (fun _ _ i _ => m - (intOf i).toNat)
            case atStart => exact ⟨0, 3 + k, _, 0, rfl, by go_num, rfl, by omega, by omega, [], some w.heap.size, rfl, rfl, by omega, HO1.out, (fun i hi => by cases hi; omega), (fun o ho => by cases ho), HC1.out⟩
            case round =>
              obtain ⟨j, at_, a2, c2, rfl, rfl, rfl, hj, hat, HR⟩ := hrel
              obtain ⟨vs, g, hr⟩ := HR.out
              obtain ⟨wo, hwo⟩ : ∃ wo, wo = wr := ⟨_, rfl⟩
              subst hwo
              have HRR := Lib.hid hr
              have hvl := hr.len
              clear hr HR
              have hsr := HRR.out.chg.size
              by_cases hlt : j < m
              · have hgb : ∀ i, g = some i → i < wo.heap.size := fun i hi => HRR.out.own.lt i hi
                have hvb : ∀ o ∈ vs, 0 < o.dn → ∀ x, o.da = some x → x.block < wo.heap.size := fun o ho h0 x hx => (HRR.out.bys o ho).1.lt h0 x hx
                have HGB := Lib.hid hgb
                have HVB := Lib.hid hvb
                clear hgb hvb
                have HE0 : Hid (Eight w l (l.drop (3 + k)) j at_ a2 c2 vs g wo.heap.size 0 at_ (wo.alloc (.cells #[.int .i64 0, .int .i64 0, .int .i64 0, .int .i64 0, .int .i64 0, .int .i64 0, .int .i64 0, .int .i64 0] 107)) [0, 0, 0, 0, 0, 0, 0, 0]) :=
                  ⟨HRR.out.mono ((Chg.refl Non wo).alloc _), rfl, rfl, Blk.new _ _ _⟩
                go_wp2_with fail
                go_loopw [7, 10] (fun z y wr => ∃ (i at2 : Nat), z = .int .i64 at2 ∧ y = .int .i64 i ∧ i ≤ 8 ∧ at2 ≤ n ∧ Hid (∃ ys, Eight w l (l.drop (3 + k)) j at_ a2 c2 vs g wo.heap.size i at2 wr ys)) (fun _ y _ => 8 - (intOf y).toNat)
                case atStart => exact ⟨0, at_, rfl, rfl, by omega, by omega, _, HE0.out⟩
                case round =>
                  obtain ⟨i, at2, rfl, rfl, hi8, hat2, HE⟩ := hrel
                  obtain ⟨ys, he⟩ := HE.out
                  have HE1 := Lib.hid he
                  clear he HE
                  by_cases hi8b : i < 8
                  · obtain ⟨x2, k2, hx2⟩ : ∃ x k, takeR (l.drop at2) = (x, k) := ⟨_, _, rfl⟩
                    have HX2 := Lib.hid hx2
                    have HTK : Hid (∀ o' c', FromAt o' off at2 n → Calls Try.prog 70 #[.slice (some ⟨b, o', none⟩) (n - at2) c'] wr (TakePost (l.drop at2) wr)) := fun o' c' ho =>
                      take_any _ _ _ _ _ (bys_from (HLW.out.chg HE1.out.rr.chg (fun _ _ h => h)) hat2 ho) (HB.out.drop at2) (by omega)
                    have hle2 := takeR_le (HB.out.drop at2)
                    rw [hx2] at hle2
                    have hle3 : k2 ≤ n - at2 := by have h := hle2.1; rw [List.length_drop, hln] at h; exact h
                    have hle4 : -9223372036854775808 ≤ x2 ∧ x2 ≤ 9223372036854775807 := hle2.2
                    clear hx2 hle2
                    by_cases hk2 : k2 = 0
                    · subst hk2
                      have HN : Hid (parse l = none) := by
                        show parse l = none
                        rw [HPE.out]
                        exact ops_no hlt HRR.out.state (op_no (i := i + 1) (by omega) (takeK_no HE1.out.state HX2.out HB.out))
                      by_cases hce : c = at2
                      case' pos => have ho' : FromAt off off at2 n := .inr (by omega)
                      case' neg => have ho' : FromAt (off + at2) off at2 n := .inl rfl
                      all_goals
                        have HO' := Lib.hid ho'
                        clear ho'
                        go_wp2_with fail
                        refine (HTK.out _ _ HO'.out).mono ?_
                        clear HTK HO'
                        intro e w2 h
                        unfold TakePost at h
                        rw [HX2.out] at h
                        obtain ⟨rfl, hch⟩ := h
                        have HC2 := Lib.hid hch
                        clear hch
                        have hsz2 := HC2.out.size
                        go_wp2_with fail
                        go_ret2
                        exact HBAD.out _ _ HN.out rfl (HE1.out.rr.chg.tr HC2.out)
                    · have hk3 : ((k2 : Int) == 0) = false := by simp; omega
                      have hce : ¬ c = at2 := by omega
                      have ho' : FromAt (off + at2) off at2 n := .inl rfl
                      have HO' := Lib.hid ho'
                      clear ho'
                      go_wp2_with fail
                      refine (HTK.out _ _ HO'.out).mono ?_
                      clear HTK HO'
                      intro e w2 h
                      unfold TakePost at h
                      rw [HX2.out] at h
                      obtain ⟨rfl, hch⟩ := h
                      have HC2 := Lib.hid hch
                      clear hch
                      have hsz2 := HC2.out.size
                      have HEN := Lib.hid (HE1.out.step HC2.out HX2.out hk2 hi8b (fun k hk => Nat.ne_of_lt (HGB.out k hk)) (fun o ho h0 x hx => Nat.ne_of_lt (HVB.out o ho h0 x hx)) hsr)
                      have hbl := HE1.out.blk.chg HC2.out (fun h => h)
                      have hcl : w2.cell? ⟨wo.heap.size, i, none⟩ = some (.int .i64 (ys.getD i 0)) := by
                        rw [hbl.cell]
                        simp [List.getD_eq_getElem?_getD, HE1.out.len, hi8b]
                      have hfr := hbl.free i
                      clear hbl
                      go_wp2_with fail
                      go_roundw
                      case rel => exact ⟨i + 1, at2 + k2, by go_num, by go_num, by omega, by omega, _, HEN.out⟩
                      case measure => simp [intOf]; omega
                  · obtain rfl : i = 8 := by omega
                    obtain ⟨y0, y1, y2, y3, y4, y5, y6, y7, rfl⟩ : ∃ y0 y1 y2 y3 y4 y5 y6 y7, ys = [y0, y1, y2, y3, y4, y5, y6, y7] := by
                      have hl := HE1.out.len
                      match ys, hl with
                      | [y0, y1, y2, y3, y4, y5, y6, y7], _ => exact ⟨_, _, _, _, _, _, _, _, rfl⟩
                    have HST : Hid (takeK 8 (l.drop at_) = some ([y0, y1, y2, y3, y4, y5, y6, y7], l.drop at2)) := HE1.out.state
                    have hbk : Blk wr wo.heap.size #[.int .i64 y0, .int .i64 y1, .int .i64 y2, .int .i64 y3, .int .i64 y4, .int .i64 y5, .int .i64 y6, .int .i64 y7] 107 := HE1.out.blk
                    have z0 : wr.cell? ⟨wo.heap.size, 0, none⟩ = some (.int .i64 y0) := hbk.cell 0
                    have z1 : wr.cell? ⟨wo.heap.size, 1, none⟩ = some (.int .i64 y1) := hbk.cell 1
                    have z2 : wr.cell? ⟨wo.heap.size, 2, none⟩ = some (.int .i64 y2) := hbk.cell 2
                    have z3 : wr.cell? ⟨wo.heap.size, 3, none⟩ = some (.int .i64 y3) := hbk.cell 3
                    have z4 : wr.cell? ⟨wo.heap.size, 4, none⟩ = some (.int .i64 y4) := hbk.cell 4
                    have z5 : wr.cell? ⟨wo.heap.size, 5, none⟩ = some (.int .i64 y5) := hbk.cell 5
                    have z6 : wr.cell? ⟨wo.heap.size, 6, none⟩ = some (.int .i64 y6) := hbk.cell 6
                    have z7 : wr.cell? ⟨wo.heap.size, 7, none⟩ = some (.int .i64 y7) := hbk.cell 7
                    have hlt0 := hbk.lt
                    have HBK := Lib.hid hbk
                    clear hbk
                    by_cases hyn : y7 < 0
                    · have HN : Hid (parse l = none) := by
                        show parse l = none
                        rw [HPE.out]
                        exact ops_no hlt HRR.out.state (op_bad HST.out hln hat2 rfl (.inl hyn))
                      go_wp2_with fail
                      go_ret2
                      exact HBAD.out _ _ HN.out rfl HE1.out.rr.chg
                    · by_cases hy4 : 4096 < y7
                      · have HN : Hid (parse l = none) := by
                          show parse l = none
                          rw [HPE.out]
                          exact ops_no hlt HRR.out.state (op_bad HST.out hln hat2 rfl (.inr (.inl hy4)))
                        go_wp2_with fail
                        go_ret2
                        exact HBAD.out _ _ HN.out rfl HE1.out.rr.chg
                      · by_cases hyl : (n : Int) - at2 < y7
                        · have HN : Hid (parse l = none) := by
                            show parse l = none
                            rw [HPE.out]
                            exact ops_no hlt HRR.out.state (op_bad HST.out hln hat2 rfl (.inr (.inr hyl)))
                          go_wp2_with fail
                          go_ret2
                          exact HBAD.out _ _ HN.out rfl HE1.out.rr.chg
                        · obtain ⟨d, rfl⟩ := Int.eq_ofNat_of_zero_le (show 0 ≤ y7 by omega)
                          obtain ⟨nx, hnx⟩ : ∃ nx, nx = at2 + d := ⟨_, rfl⟩
                          have HNX := Lib.hid hnx
                          have hnn : nx ≤ n := by omega
                          have HOP : Hid (takeOp (l.drop at_) = some (([y0, y1, y2, y3, y4, y5, y6], (l.drop at2).take d), l.drop nx)) := by
                            show _ = _
                            rw [hnx]
                            exact op_yes HST.out hln hat2 rfl (by omega) (by omega)
                          clear hnx HST
                          have hdl : d ≤ n - at2 := by omega
                          have HSRC : Hid (∀ o' d' c' w2, d' = d → FromAt o' off at2 n → Chg Non wr w2 → Src w2 1 (.slice (some ⟨b, o', none⟩) d' c') d (bytesV ((l.drop at2).take d))) := fun o' d' c' w2 hd' ho hc2 => by
                            rw [hd']
                            exact
                            (bys_from ((HLW.out.chg HE1.out.rr.chg (fun _ _ h => h)).chg hc2 (fun _ _ h => h)) hat2 ho).src d c' hdl
                          have HOB : Hid (Blk (wr.alloc (.cells #[.int .i64 y0, .int .i64 y1, .int .i64 y2, .int .i64 y3, .int .i64 y4, .int .i64 y5, .int .i64 y6, .slice none 0 0] 61)) wr.heap.size #[.int .i64 y0, .int .i64 y1, .int .i64 y2, .int .i64 y3, .int .i64 y4, .int .i64 y5, .int .i64 y6, .slice none 0 0] 61) := Blk.new _ _ _
                          have HOE : Hid (Own ((wr.alloc (.cells #[.int .i64 y0, .int .i64 y1, .int .i64 y2, .int .i64 y3, .int .i64 y4, .int .i64 y5, .int .i64 y6, .slice none 0 0] 61)).alloc (.cells #[] 5)) 5 1 (.slice (some ⟨wr.heap.size + 1, 0, none⟩) 0 0) 0 [] (some (wr.heap.size + 1))) := Lib.hid (by
                            have h := own_empty (wr.alloc (.cells #[.int .i64 y0, .int .i64 y1, .int .i64 y2, .int .i64 y3, .int .i64 y4, .int .i64 y5, .int .i64 y6, .slice none 0 0] 61))
                            simpa using h)
                          have HCA : Hid (Chg Non wr ((wr.alloc (.cells #[.int .i64 y0, .int .i64 y1, .int .i64 y2, .int .i64 y3, .int .i64 y4, .int .i64 y5, .int .i64 y6, .slice none 0 0] 61)).alloc (.cells #[] 5))) := ((Chg.refl _ _).alloc _).alloc _
                          have HWS : Hid (((wr.alloc (.cells #[.int .i64 y0, .int .i64 y1, .int .i64 y2, .int .i64 y3, .int .i64 y4, .int .i64 y5, .int .i64 y6, .slice none 0 0] 61)).alloc (.cells #[] 5)).heap.size = wr.heap.size + 2) := by show _ = _; simp
                          by_cases hce : c = at2
                          · subst hce
                            obtain rfl : d = 0 := by omega
                            have HO4 : Hid (Own ((wr.alloc (.cells #[.int .i64 y0, .int .i64 y1, .int .i64 y2, .int .i64 y3, .int .i64 y4, .int .i64 y5, .int .i64 y6, .slice (some ⟨wr.heap.size + 1, 0, none⟩) 0 0] 61)).alloc (.cells #[] 5)) 61 8 (.slice a2 j c2) j (cellsOf vs) g) := HE1.out.rr.own.chg ((((Chg.refl Non wr).alloc _).alloc _)) (fun _ _ h => h)
                            have HCF : Hid (Chg Non wr ((wr.alloc (.cells #[.int .i64 y0, .int .i64 y1, .int .i64 y2, .int .i64 y3, .int .i64 y4, .int .i64 y5, .int .i64 y6, .slice (some ⟨wr.heap.size + 1, 0, none⟩) 0 0] 61)).alloc (.cells #[] 5))) := ((Chg.refl _ _).alloc _).alloc _
                            go_upto_region 24 with fail
                            go_wp2_with (at_builtin; go_loud (refine wpList_append_Own _ rfl _ _ 58 rfl 61 i0 _ 8 80 Try.underlying58 hi hz0 hz1 hz2 rfl (by decide) _ j _ g rfl (HO4.out.chg ((Chg.refl Non _).alloc _) (fun _ _ h => h)) _ 1 _ rfl (src_cellsT (c := #[.int .i64 y0, .int .i64 y1, .int .i64 y2, .int .i64 y3, .int .i64 y4, .int .i64 y5, .int .i64 y6, .slice (some ⟨wr.heap.size + 1, 0, none⟩) 0 0]) (size := 8) (Blk.newAt _ _ _ (by simp)) rfl (by simp [Value.oneCell'])) (by unfold maxLen; omega) (by omega) ?_); intro v' w' g' hown hchg hg'; obtain ⟨a3, c3, rfl, hc3, hm3⟩ := hown.slice; have z7' := ((HBK.out.chg HCF.out (fun h => h)).alloc _).chg hchg (fun h => by have := HGB.out _ h; omega) |>.cell 7; simp at z7'; have HO6 := Lib.hid hown; have HC6 := Lib.hid hchg; have HG6 := Lib.hid hg'; clear hown hchg hg')
                            go_roundw
                            case rel =>
                              refine ⟨j + 1, nx, a3, c3, rfl, by rw [HNX.out]; go_num, by go_num, by omega, hnn, vs ++ [⟨y0, y1, y2, y3, y4, y5, y6, some ⟨wr.heap.size + 1, 0, none⟩, 0, 0, []⟩], g', HE1.out.rr.next ⟨y0, y1, y2, y3, y4, y5, y6, some ⟨wr.heap.size + 1, 0, none⟩, 0, 0, []⟩ ?_ (by omega) ((((Chg.refl Non wr).alloc _).alloc _).alloc _) (bys_none _) (Nat.le_refl _) (fun h0 => absurd h0 (by simp)) HO6.out HC6.out HG6.out⟩
                              rw [HOP.out, List.take_zero]; rfl
                            case measure => simp [intOf]; omega
                          · have ho' : FromAt (off + at2) off at2 n := .inl rfl
                            have HO' := Lib.hid ho'
                            clear ho'
                            go_upto_region 24 with (at_builtin; refine wpList_append_Own _ rfl _ _ 59 rfl 5 i1 (.int .u8 0) 1 1 Try.underlying59 hi1 hy0 hy1 hy2 rfl (by decide) _ 0 _ _ rfl HOE.out _ d _ rfl (HSRC.out _ _ _ _ (by omega) HO'.out HCA.out) (by unfold maxLen; omega) (by omega) ?_; intro v' w' g' hown hchg hg'; obtain ⟨a5, c5, rfl, hc5, hm5⟩ := hown.slice; have HO5 := Lib.hid hown; have HC5 := Lib.hid hchg; have HG5 := Lib.hid hg'; have hq := (HOB.out.alloc (.cells #[] 5)).chg hchg (fun h => by have h2 : some (wr.heap.size + 1) = some wr.heap.size := h; simp at h2); have qf7 := hq.free 7; have q7 := hq.cell 7; have q0 := hq.cell 0; have q1 := hq.cell 1; have q2 := hq.cell 2; have q3 := hq.cell 3; have q4 := hq.cell 4; have q5 := hq.cell 5; have q6 := hq.cell 6; simp at q0 q1 q2 q3 q4 q5 q6 q7; have HQ := Lib.hid hq; clear hq; clear hown hchg hg')
                            have HCW : Hid (Chg Non wr (w'.setCell ⟨wr.heap.size, 7, none⟩ (.slice a5 d c5))) := (HCA.out.trans HC5.out (fun _ _ h => h) (fun i hi h => by have h2 : some (wr.heap.size + 1) = some i := h; simp at h2; omega)).setCell (p := ⟨wr.heap.size, 7, none⟩) (.inr (Nat.le_refl _)) _
                            have HO4 : Hid (Own (w'.setCell ⟨wr.heap.size, 7, none⟩ (.slice a5 d c5)) 61 8 (.slice a2 j c2) j (cellsOf vs) g) := HE1.out.rr.own.chg HCW.out (fun _ _ h => h)
                            have HN5 : Hid (∀ x, a5 = some x → wr.heap.size < x.block) := by
                              intro x hx
                              rcases HO5.out.2 with ⟨h, _⟩ | ⟨b', off', cap', cur, h, hg, _⟩
                              · rw [hx] at h; cases h
                              · rw [hx] at h; cases h
                                show wr.heap.size < b'
                                rcases HG5.out _ hg with h | h
                                · simp at h; omega
                                · have h2 := HWS.out; omega
                            have HB5 : Hid (Bys (w'.setCell ⟨wr.heap.size, 7, none⟩ (.slice a5 d c5)) a5 d ((l.drop at2).take d)) := by
                              have h := HO5.out
                              rw [Nat.zero_add, List.nil_append] at h
                              have h2 := bys_own (by rw [List.length_take, List.length_drop, hln]; omega) h
                              exact h2.chgAt (Chg.set1 w' wr.heap.size 7 _) (fun y hy e => by have := HN5.out y hy; have e' : y.block = wr.heap.size := e; omega)
                            clear HO5 HC5 HG5
                            have HCF := HCW
                            go_wp2_with (at_builtin; go_loud (refine wpList_append_Own _ rfl _ _ 58 rfl 61 i0 _ 8 80 Try.underlying58 hi hz0 hz1 hz2 rfl (by decide) _ j _ g rfl (HO4.out.chg ((Chg.refl Non _).alloc _) (fun _ _ h => h)) _ 1 _ rfl (src_cellsT (c := #[.int .i64 y0, .int .i64 y1, .int .i64 y2, .int .i64 y3, .int .i64 y4, .int .i64 y5, .int .i64 y6, .slice a5 d c5]) (size := 8) (Blk.newAt _ _ _ (by simp)) rfl (by simp [Value.oneCell'])) (by unfold maxLen; omega) (by omega) ?_); intro v' w' g' hown hchg hg'; obtain ⟨a3, c3, rfl, hc3, hm3⟩ := hown.slice; have z7' := ((HBK.out.chg HCF.out (fun h => h)).alloc _).chg hchg (fun h => by have := HGB.out _ h; omega) |>.cell 7; simp at z7'; have HO6 := Lib.hid hown; have HC6 := Lib.hid hchg; have HG6 := Lib.hid hg'; clear hown hchg hg')
                            go_roundw
                            case rel =>
                              refine ⟨j + 1, nx, a3, c3, rfl, by rw [HNX.out]; go_num, by go_num, by omega, hnn, vs ++ [⟨y0, y1, y2, y3, y4, y5, y6, a5, d, c5, (l.drop at2).take d⟩], g', HE1.out.rr.next ⟨y0, y1, y2, y3, y4, y5, y6, a5, d, c5, (l.drop at2).take d⟩ ?_ (by omega) (HCW.out.alloc _) (HB5.out.chg ((Chg.refl Non _).alloc _) (fun _ _ h => h)) (by have := hc5; simp only [Nat.zero_add] at this; exact this) (fun h0 x hx => Nat.le_of_lt (HN5.out x hx)) HO6.out HC6.out HG6.out⟩
                              rw [HOP.out]; rfl
                            case measure => simp [intOf]; omega
              · obtain rfl : j = m := by omega
                by_cases hae : at_ = n
                · have HE : Hid (parse l = some (vs.map OpV.plain)) := by
                    show parse l = _
                    rw [HPE.out]
                    unfold endOps
                    have h := HRR.out.state
                    rw [show l.drop at_ = [] from List.drop_of_length_le (by omega)] at h
                    rw [h]
                  subst hae
                  go_wp2_with fail
                  go_ret2
                  refine ⟨(fun h => by rw [HE.out] at h; cases h), fun os hos => ?_⟩
                  have hos2 := HE.out.symm.trans hos
                  simp only [Option.some.injEq] at hos2
                  have hvl := HRR.out.len
                  have hlen : os.length = j := by rw [← hos2, List.length_map, hvl]
                  obtain ⟨q1, q2, q3⟩ := parse_read HB.out hos
                  refine ⟨a2, c2, vs, ?_, ?_, hos2, HRR.out.chg⟩
                  · rw [hlen]; rfl
                  · rw [hlen]
                    refine opl_own hvl (fun o ho => ?_) HRR.out.own
                    obtain ⟨p1, p2, p3⟩ := HRR.out.bys o ho
                    have hin : o.plain ∈ os := by rw [← hos2]; exact List.mem_map_of_mem ho
                    exact op_ok (q2 _ hin).1 (q2 _ hin).2 p1 p2
                · have HN : Hid (parse l = none) := by
                    show parse l = none
                    rw [HPE.out]
                    unfold endOps
                    have h := HRR.out.state
                    rw [h]
                    have hne : l.drop at_ ≠ [] := by
                      intro e
                      have := congrArg List.length e
                      rw [List.length_drop] at this
                      simp at this
                      omega
                    cases hd : l.drop at_ with
                    | nil => exact absurd hd hne
                    | cons x r => rfl
                  have hae1 : ((at_ : Int) != n) = true := by simp; omega
                  have hae2 : ((at_ : Int) == n) = false := by simp; omega
                  go_wp2_with fail
                  go_ret2
                  exact HBAD.out _ _ HN.out rfl HRR.out.chg
    · have HN : Hid (parse l = none) := by show parse l = none; unfold parse; rw [if_neg h3]
      have hm2 : ((strOfNums (l.take 3)).toList == [67, 84, 49]) = false := by rw [hmk]; simp [h3]
      clear hmk h3 hl hb
      generalize strOfNums (l.take 3) = sm at *
      go_enter Try.func48, Try.ntmps48
      go_wp2_with fail
      go_ret2
      exact HBAD.out _ _ HN.out rfl ((Chg.refl _ _).alloc _)

end Go.Proofs.Ytabeolmfgmbfaaa
