/- trace.Read. -/
import Derived.Test.YtabeolmfgmbfaaaReads
namespace Go.Proofs.Ytabeolmfgmbfaaa
open Go.RowKit
set_option linter.unusedVariables false
set_option linter.unusedSimpArgs false

theorem conv_str {w : World} {a : Option Addr} {n c : Nat} {l : List Int} (h : Bys w a n l) : (convert 59 9 (.slice a n c)).run Try.prog w = .ok (.string (strOfNums l)) w := by
  rcases Nat.eq_zero_or_pos n with h0 | h0
  · subst h0
    have hl : l = [] := List.eq_nil_of_length_eq_zero h.1
    subst hl
    cases a with
    | none => exact run_convert_bytes_nil w 59 5 Try.underlying59 Try.underlying5 0 c 9 Try.underlying9
    | some x =>
      rw [run_convert_bytes_string w 59 9 5 _ 0 c Try.underlying59 Try.underlying5 Try.underlying9]
      exact run_bytesToString w x 0 c [] (run_loadCells_list (P := Try.prog) w x [] (fun j v hj => by simp at hj))
  · obtain ⟨b, off, rfl, _⟩ := h.at h0
    exact run_convert_bytes_arg w 59 5 Try.underlying59 Try.underlying5 b off n c l h.1 (fun i hi => by
      obtain ⟨b', off', he, hc⟩ := h.at hi
      cases he
      exact hc) 9 Try.underlying9

theorem u8_inj {x y : Int} (hx : 0 ≤ x ∧ x ≤ 255) (hy : 0 ≤ y ∧ y ≤ 255) (h : UInt8.ofNat x.toNat = UInt8.ofNat y.toNat) : x = y := by
  have := congrArg UInt8.toNat h
  simp at this
  omega
theorem u8_list_inj : ∀ {k l : List Int}, Byte k → Byte l → k.map (fun n => UInt8.ofNat n.toNat) = l.map (fun n => UInt8.ofNat n.toNat) → k = l := by
  intro k
  induction k with
  | nil =>
    intro l _ _ h
    cases l with
    | nil => rfl
    | cons y l => simp at h
  | cons x k ih =>
    intro l hk hl h
    cases l with
    | nil => simp at h
    | cons y l =>
      simp only [List.map_cons, List.cons.injEq] at h
      rw [u8_inj (hk x (List.mem_cons_self ..)) (hl y (List.mem_cons_self ..)) h.1, ih (fun z hz => hk z (List.mem_cons_of_mem _ hz)) (fun z hz => hl z (List.mem_cons_of_mem _ hz)) h.2]
theorem str_inj {k l : List Int} (hk : Byte k) (hl : Byte l) : strOfNums k = strOfNums l ↔ k = l := by
  constructor
  · intro h
    have h2 := congrArg (fun s : ByteArray => s.data.toList) h
    simp only [strOfNums_data] at h2
    exact u8_list_inj hk hl h2
  · intro h; rw [h]
theorem mark_str {l : List Int} (hl : Byte l) : markB (strOfNums l) = decide (l.take 3 = [67, 84, 49]) := by
  unfold markB
  rw [strOfNums_data, ← List.map_take]
  congr 1
  apply propext
  constructor
  · intro h
    exact u8_list_inj (hl.take 3) (by unfold Byte; decide) h
  · intro h; rw [h]; rfl
theorem bys_world (w : World) (s : ByteArray) (l : List Int) (hb : Byte l) (hs : s.data.toList = l.map fun n => UInt8.ofNat n.toNat) (hl : s.size = l.length) : Bys (Go.Lib.bytesWorld w 5 s) (some ⟨w.heap.size, 0, none⟩) s.size l := by
  refine ⟨hl.symm, fun e => (by cases e), fun x hx j hj => ?_⟩
  cases hx
  rw [Addr.add_lit, Nat.zero_add, Go.Lib.bytesWorld_cell w _ s j (by omega), hs]
  have h := hb (l.getD j 0) (by
    rw [List.getD_eq_getElem?_getD, List.getElem?_eq_getElem hj]
    exact List.getElem_mem _)
  simp [List.getD_eq_getElem?_getD, hj] at h ⊢
  omega
theorem chg_world (w : World) (s : ByteArray) : Chg Non w (Go.Lib.bytesWorld w 5 s) :=
  ⟨rfl, rfl, rfl, by rw [Go.Lib.bytesWorld_size]; omega, fun k hk _ => Go.Lib.bytesWorld_at_old w _ s k hk⟩

def endOps (n : Nat) (l : List Int) : Option (List (List Int × List Int)) := match takeOps n l with
  | some (os, []) => some os
  | _ => none
theorem parse_num {l l1 : List Int} {x : Int} {ok1 : Bool} (h3 : l.take 3 = [67, 84, 49]) (hx : numS (l.drop 3) true = (x, l1, ok1)) : parse l = if x < 0 ∨ 500 < x ∨ ok1 = false then none else endOps x.toNat l1 := by
  rw [parse, if_pos h3]
  cases hn : readN 0 0 (l.drop 3) with
  | none =>
    rw [numS_none true hn] at hx
    simp only [Prod.mk.injEq] at hx
    obtain ⟨rfl, rfl, rfl⟩ := hx
    simp
  | some p =>
    obtain ⟨v, k⟩ := p
    rw [numS_some true hn] at hx
    simp only [Prod.mk.injEq] at hx
    obtain ⟨rfl, rfl, rfl⟩ := hx
    simp only [Bool.true_eq_false, or_false]
    rfl

theorem Bys.chg0 {F : Nat → Prop} {w w' : World} {a : Option Addr} {n : Nat} {l : List Int} (h : Bys w a n l) (k : Chg F w w') (hF : 0 < n → ∀ x, a = some x → ¬ F x.block) : Bys w' a n l := by
  rcases Nat.eq_zero_or_pos n with h0 | h0
  · subst h0
    have : l = [] := List.eq_nil_of_length_eq_zero h.1
    subst this
    exact ⟨rfl, fun _ => rfl, fun x hx j hj => by simp at hj⟩
  · exact h.chgAt k (hF h0)
theorem Bys.lt {w : World} {a : Option Addr} {n : Nat} {l : List Int} (h : Bys w a n l) (h0 : 0 < n) : ∀ x, a = some x → x.block < w.heap.size := by
  intro x hx
  obtain ⟨b, off, ha, hc⟩ := h.at h0
  rw [hx] at ha
  cases ha
  exact World.block_lt_of_cell? w _ hc

/-- The taker's rounds. -/
structure Rounds (w0 : World) (bt b0 : Nat) (l1 : List Int) (ok1 : Bool) (j : Nat) (wr : World) (a : Option Addr) (c : Nat) (ok2 : Bool) (vs : List OpV) (g : Option Nat) : Prop where
  len : vs.length = j
  state : (readsS j l1 ok1).2.2 = ok2
  plain : vs.map OpV.plain = (readsS j l1 ok1).1
  tk : Tk wr bt b0 (readsS j l1 ok1).2.1 (readsS j l1 ok1).2.2
  own : Own wr 61 8 (.slice a j c) j (cellsOf vs) g
  new : ∀ i, g = some i → bt < i
  bys : ∀ o ∈ vs, Bys wr o.da o.dn o.d ∧ o.dn ≤ o.dc ∧ (0 < o.dn → ∀ x, o.da = some x → bt < x.block ∧ ∀ i, g = some i → x.block ≠ i)
  chg : Chg Non w0 wr

theorem cellsOf_snoc (vs : List OpV) (o : OpV) : cellsOf (vs ++ [o]) = cellsOf vs ++ o.cells.toList := by unfold cellsOf; simp

theorem end_stuck {m j : Nat} {l1 : List Int} {ok1 : Bool} (hj : j ≤ m) (h : (readsS j l1 ok1).2.2 = false) : (if ok1 = false then none else endOps m l1) = none := by
  by_cases h1 : ok1 = false
  · rw [if_pos h1]
  · rw [if_neg h1]
    have h2 : ok1 = true := by simpa using h1
    subst h2
    unfold endOps
    rw [readsS_stuck hj h]
theorem end_more {m : Nat} {l1 : List Int} {ok1 : Bool} (h : (readsS m l1 ok1).2.2 = true) (hl : (readsS m l1 ok1).2.1 ≠ []) : (if ok1 = false then none else endOps m l1) = none := by
  by_cases h1 : ok1 = false
  · rw [if_pos h1]
  · rw [if_neg h1]
    have h2 : ok1 = true := by simpa using h1
    subst h2
    have h3 := readsS_take m l1
    unfold endOps
    cases ht : takeOps m l1 with
    | none => rfl
    | some q =>
      obtain ⟨os, r⟩ := q
      rw [ht] at h3
      rw [show readsS m l1 true = (os, r, true) from h3] at hl
      cases r with
      | nil => exact absurd rfl hl
      | cons x r => rfl
theorem end_well {m : Nat} {l1 : List Int} {ok1 : Bool} (h : (readsS m l1 ok1).2.2 = true) (hl : (readsS m l1 ok1).2.1 = []) : (if ok1 = false then none else endOps m l1) = some (readsS m l1 ok1).1 := by
  have h1 : ok1 = true := by
    cases ok1 with
    | true => rfl
    | false =>
      have h2 : ∀ d, (readsS d l1 false).2.2 = false := by
        intro d
        induction d with
        | zero => rfl
        | succ d ih => simp only [readsS]; exact opS_false _ _ ih
      rw [h2 m] at h
      cases h
  subst h1
  rw [if_neg (by decide)]
  have h3 := readsS_take m l1
  unfold endOps
  cases ht : takeOps m l1 with
  | none => rw [ht] at h3; rw [show (readsS m l1 true).2.2 = false from h3] at h; cases h
  | some q =>
    obtain ⟨os, r⟩ := q
    rw [ht] at h3
    rw [show readsS m l1 true = (os, r, true) from h3] at hl ⊢
    have hr : r = [] := hl
    subst hr
    rfl

set_option maxHeartbeats 2000000 in
set_option maxRecDepth 100000 in
theorem read_any (a : Option Addr) (n c : Nat) (l : List Int) (w : World) (hl : Bys w a n l) (hb : Byte l) (hn : n ≤ 140737488351232) :
    Calls Try.prog 46 #[.slice a n c] w (ReadPost l w) := by
  obtain ⟨i0, hi, hz0, hz1, hz2⟩ := info_parts Try.info_opT
  have hcv := conv_str (c := c) hl
  have hln := hl.1
  have HB := Lib.hid hb
  have hsz : (strOfNums l).size = n := by rw [strOfNums_size, hln]
  have HCUT := Lib.hid (cut_any (strOfNums l) w (by omega))
  have hmk := mark_str hb
  clear hl hb
  by_cases h3 : l.take 3 = [67, 84, 49]
  · have HM : Hid (markB (strOfNums l) = true) := by show _ = _; rw [hmk]; simp [h3]
    have hl3 : 3 ≤ l.length := by
      have := congrArg List.length h3
      rw [List.length_take] at this
      simp at this
      omega
    have HRS : Hid (((strOfNums l).extract 3 (strOfNums l).size).data.toList = (l.drop 3).map fun n => UInt8.ofNat n.toNat) := by
      show _ = _
      simp [ByteArray.data_extract, ByteArray.size, strOfNums, List.map_drop]
      rw [List.take_of_length_le (by simp)]
    have hrsz : ((strOfNums l).extract 3 (strOfNums l).size).size = n - 3 := by
      simp [ByteArray.size, strOfNums, hln]
    have HCP : Hid (∀ e w', CutPost (strOfNums l) w e w' → e = .returned (.tuple #[.string ((strOfNums l).extract 3 (strOfNums l).size), .bool true]) ∧ w = w') := by
      intro e w' h
      unfold CutPost at h
      rw [HM.out] at h
      exact h
    have HPN : Hid (∀ l1 x ok1, numS (l.drop 3) true = (x, l1, ok1) → parse l = if x < 0 ∨ 500 < x ∨ ok1 = false then none else endOps x.toNat l1) := fun l1 x ok1 hx => parse_num h3 hx
    clear h3 hmk HM
    generalize (strOfNums l).extract 3 (strOfNums l).size = rs at *
    generalize strOfNums l = sl at *
    go_enter Try.func46, Try.ntmps46
    go_wp2_with fail
    refine HCUT.out.mono ?_
    clear hcv
    intro e w' h
    obtain ⟨rfl, rfl⟩ := HCP.out e w' h
    clear h HCP HCUT
    have hbc := Go.Lib.run_convert_string_bytes (P := Try.prog) w 9 59 5 rs Try.underlying9 Try.underlying59 Try.underlying5
    have hrb : rs.size ≤ 140737488351232 := by omega
    have HRZ := Lib.hid hrsz
    clear hrsz
    have hcap := grownCap_ge w rs.size 0 5
    have HW : Hid (Bys (Go.Lib.bytesWorld w 5 rs) (some ⟨w.heap.size, 0, none⟩) rs.size (l.drop 3)) := bys_world w rs (l.drop 3) (HB.out.drop 3) HRS.out (by rw [List.length_drop, HRZ.out]; omega)
    have HCW := Lib.hid (chg_world w rs)
    have hws := Go.Lib.bytesWorld_size w 5 rs
    generalize Go.Lib.bytesWorld w 5 rs = wb at *
    generalize grownCap w rs.size 0 5 = cb at *
    have HWS := Lib.hid hws
    clear hws
    have HT : Hid (Tk (wb.alloc (.cells #[.slice (some ⟨w.heap.size, 0, none⟩) rs.size cb, .bool true] 112)) wb.heap.size w.heap.size (l.drop 3) true) :=
      ⟨_, rs.size, cb, Blk.new _ _ _, HW.out.chg ((Chg.refl Non wb).alloc _) (fun _ _ h => h), hcap, HB.out.drop 3, by omega, (fun _ => ⟨_, rfl⟩), (fun x hx => by cases hx; rfl)⟩
    have HC : Hid (Chg Non w (wb.alloc (.cells #[.slice (some ⟨w.heap.size, 0, none⟩) rs.size cb, .bool true] 112))) := HCW.out.alloc _
    clear HW HCW
    go_wp2_with fail
    obtain ⟨x, l1, ok1, hx, hcall⟩ := num_rel wb.heap.size w.heap.size _ _ _ HT.out
    have HX := Lib.hid hx
    refine hcall.mono ?_
    clear hx hcall hbc
    rintro e w1 ⟨rfl, ht, hc⟩
    have hs0 := HWS.out
    have HT1 := Lib.hid ht
    have HC1 := Lib.hid (HC.out.trans hc (G := One wb.heap.size) (fun _ _ h => h) (fun i hi h => by have : i = wb.heap.size := h; omega))
    clear ht hc HT HC
    have hs1 : wb.heap.size < w1.heap.size := by obtain ⟨a, n, c, hb, _⟩ := HT1.out; exact hb.lt
    have hwb : w.heap.size < wb.heap.size := by omega
    have hpl := HPN.out l1 x ok1 HX.out
    have HPL := Lib.hid hpl
    clear hpl HPN HX hs0 HWS
    generalize wb.heap.size = bt at *
    have HBAD : Hid (∀ e w', parse l = none → e = .returned (.tuple #[.slice none 0 0, .bool false]) → Chg Non w w' → ReadPost l w e w') := fun e w' h1 h2 h3 => ⟨fun _ => ⟨h2, h3⟩, fun os h => by rw [h1] at h; cases h⟩
    by_cases hx0 : x < 0
    · have HN : Hid (parse l = none) := by show parse l = none; rw [HPL.out, if_pos (.inl hx0)]
      go_wp2_with fail
      go_ret2
      exact HBAD.out _ _ HN.out rfl HC1.out
    · by_cases hx5 : 500 < x
      · have HN : Hid (parse l = none) := by show parse l = none; rw [HPL.out, if_pos (.inr (.inl hx5))]
        go_wp2_with fail
        go_ret2
        exact HBAD.out _ _ HN.out rfl HC1.out
      · obtain ⟨m, rfl⟩ := Int.eq_ofNat_of_zero_le (show 0 ≤ x by omega)
        have HPE : Hid (parse l = if ok1 = false then none else endOps m l1) := by
          show parse l = _
          rw [HPL.out, Int.toNat_natCast]
          by_cases h : ok1 = false
          · rw [if_pos (.inr (.inr h)), if_pos h]
          · rw [if_neg (fun hh => hh.elim (fun h1 => by omega) (fun hh => hh.elim (fun h1 => by omega) h)), if_neg h]
        clear HPL
        go_wp2_with fail
        go_loopw [8, 9] (fun y i wr => ∃ (j : Nat) (a2 : Option Addr) (c2 : Nat), y = .slice a2 j c2 ∧ i = .int .i64 j ∧ j ≤ m ∧ Hid (∃ ok2 vs g, Rounds w bt w.heap.size l1 ok1 j wr a2 c2 ok2 vs g)) (fun _ i _ => m - (intOf i).toNat)
        case atStart => exact ⟨0, none, 0, rfl, rfl, by omega, ok1, [], none, rfl, rfl, rfl, HT1.out, Own.nil _ _ _, (fun i hi => by cases hi), (fun o ho => by cases ho), HC1.out⟩
        case round =>
          obtain ⟨j, a2, c2, rfl, rfl, hj, HR⟩ := hrel
          obtain ⟨ok2, vs, g, hr⟩ := HR.out
          have hst := hr.state
          have htk := hr.tk
          have hvl := hr.len
          have HRR := Lib.hid hr
          clear hr HR
          have hsr := HRR.out.chg.size
          rw [hst] at htk
          obtain ⟨ab, nb, cb2, hb, hbl, hcb, hbb, _⟩ := htk
          have t0 : wr.cell? ⟨bt, 0, none⟩ = some (.slice ab nb cb2) := hb.cell 0
          have t1 : wr.cell? ⟨bt, 1, none⟩ = some (.bool ok2) := hb.cell 1
          have hbs := hb.lt
          have hbn := hbl.1
          have HST := Lib.hid hst
          have HBN := Lib.hid hbn
          have HVL := Lib.hid hvl
          clear hst hbn hbl hb hbb hvl
          cases ok2 with
          | false =>
            have HN : Hid (parse l = none) := by show parse l = none; rw [HPE.out]; exact end_stuck hj HST.out
            by_cases hlt : j < m
            · go_wp2_with fail
              go_ret2
              exact HBAD.out _ _ HN.out rfl HRR.out.chg
            · obtain rfl : j = m := by omega
              go_wp2_with fail
              go_ret2
              exact HBAD.out _ _ HN.out rfl HRR.out.chg
          | true =>
            by_cases hlt : j < m
            · have HCALL := Lib.hid (op_tk bt w.heap.size _ _ wr HRR.out.tk (by omega))
              have HRD : Hid (readsS (j + 1) l1 ok1 = ((readsS j l1 ok1).1 ++ [(opS (readsS j l1 ok1).2.1 (readsS j l1 ok1).2.2).1], (opS (readsS j l1 ok1).2.1 (readsS j l1 ok1).2.2).2)) := rfl
              go_wp2_with fail
              refine HCALL.out.mono ?_
              clear HCALL t0 t1
              rintro e w2 ⟨o, rfl, hpl, hob, hoc, htk2, hone, hc2⟩
              have HPLN := Lib.hid hpl
              have HOB := Lib.hid hob
              have HTK2 := Lib.hid htk2
              have HONE := Lib.hid hone
              have HC2 := Lib.hid hc2
              have hs2 := hc2.size
              have HO4 := Lib.hid (HRR.out.own.chg hc2 (fun i hi e => by have := HRR.out.new i hi; have : i = bt := e; omega))
              clear hpl hob htk2 hone hc2
              have HOC : Hid (o.cells = #[.int .i64 o.k, .int .i64 o.th, .int .i64 o.a, .int .i64 o.b, .int .i64 o.v, .int .i64 o.n, .int .i64 o.m, .slice o.da o.dn o.dc]) := rfl
              unfold OpV.cells
              go_wp2_with (at_builtin; refine wpList_append_Own _ rfl _ _ 58 rfl 61 i0 _ 8 80 Try.underlying58 hi hz0 hz1 hz2 rfl (by decide) _ j _ g rfl (HO4.out.chg ((Chg.refl Non _).alloc _) (fun _ _ h => h)) _ 1 _ rfl (src_cellsT (size := 8) (Blk.new _ _ _) rfl (by simp [Value.oneCell'])) (by unfold maxLen; omega) (by omega) ?_; intro v' w' g' hown hchg hg'; obtain ⟨a3, c3, rfl, hc3, hm3⟩ := hown.slice; have HO5 := Lib.hid hown; have HC5 := Lib.hid hchg; have HG5 := Lib.hid hg'; clear hown hchg hg')
              go_roundw
              case rel =>
                refine ⟨j + 1, a3, c3, rfl, by go_num, by omega, _, vs ++ [o], g', ⟨by rw [List.length_append, HVL.out]; rfl, rfl, ?_, ?_, ?_, ?_, ?_, ?_⟩⟩
                · rw [HRD.out, List.map_append, HRR.out.plain, ← HPLN.out]; rfl
                · rw [HRD.out]
                  refine (HTK2.out.chg ((Chg.refl Non _).alloc _) (fun h => h) (fun h => h)).chg HC5.out (fun h => ?_) (fun h => ?_)
                  · have := HRR.out.new _ h; omega
                  · have := HRR.out.new _ h; omega
                · rw [cellsOf_snoc]
                  exact HO5.out
                · intro i hi
                  rcases HG5.out i hi with h | h
                  · exact HRR.out.new i h
                  · simp at h; omega
                · intro p hp
                  rcases List.mem_append.1 hp with hp | hp
                  · obtain ⟨q1, q2, q3⟩ := HRR.out.bys p hp
                    refine ⟨((q1.chg0 HC2.out (fun h0 x hx e => by have := (q3 h0 x hx).1; have : x.block = bt := e; omega)).chg ((Chg.refl Non _).alloc _) (fun _ _ h => h)).chg0 HC5.out (fun h0 x hx e => (q3 h0 x hx).2 _ e rfl), q2, fun h0 x hx => ⟨(q3 h0 x hx).1, fun i hi e => ?_⟩⟩
                    rcases HG5.out i hi with h | h
                    · exact (q3 h0 x hx).2 i h e
                    · have := q1.lt h0 x hx
                      simp at h
                      omega
                  · simp at hp
                    subst hp
                    refine ⟨(HOB.out.chg ((Chg.refl Non _).alloc _) (fun _ _ h => h)).chg0 HC5.out (fun h0 x hx e => ?_), hoc, fun h0 x hx => ⟨?_, fun i hi e => ?_⟩⟩
                    · have h1 := HONE.out x hx
                      have h2 := HRR.out.own.lt _ e
                      omega
                    · have h1 := HONE.out x hx
                      omega
                    · have h1 := HONE.out x hx
                      rcases HG5.out i hi with h | h
                      · have h2 := HRR.out.own.lt _ h
                        omega
                      · have := HOB.out.lt h0 x hx
                        simp at h
                        omega
                · exact ((HRR.out.chg.trans HC2.out (fun _ _ h => h) (fun i hi h => by have : i = bt := h; omega)).alloc _).trans HC5.out (fun _ _ h => h) (fun i hi h => by have := HRR.out.new i h; omega)
              case measure => simp [intOf]; omega
            · obtain rfl : j = m := by omega
              by_cases hnb : nb = 0
              · subst hnb
                have HE : Hid (parse l = some (readsS j l1 ok1).1) := by
                  show parse l = _
                  rw [HPE.out]
                  exact end_well HST.out (List.eq_nil_of_length_eq_zero HBN.out)
                go_wp2_with fail
                go_ret2
                refine ⟨(fun h => by rw [HE.out] at h; cases h), fun os hos => ?_⟩
                have hos2 := HE.out.symm.trans hos
                simp only [Option.some.injEq] at hos2
                have hpl := HRR.out.plain
                have hvl := HVL.out
                rw [hos2] at hpl
                have hlen : os.length = j := by rw [← hpl, List.length_map, hvl]
                obtain ⟨q1, q2, q3⟩ := parse_read HB.out hos
                refine ⟨a2, c2, vs, ?_, ?_, hpl, HRR.out.chg⟩
                · rw [hlen]; rfl
                · rw [hlen]
                  refine opl_own hvl (fun o ho => ?_) HRR.out.own
                  obtain ⟨p1, p2, p3⟩ := HRR.out.bys o ho
                  have hin : o.plain ∈ os := by rw [← hpl]; exact List.mem_map_of_mem ho
                  exact op_ok (q2 _ hin).1 (q2 _ hin).2 p1 p2
              · have HN : Hid (parse l = none) := by
                  show parse l = none
                  rw [HPE.out]
                  refine end_more HST.out (fun h => hnb ?_)
                  rw [← HBN.out, h]; rfl
                have hnp : (0 : Int) < nb := by omega
                go_wp2_with fail
                go_ret2
                exact HBAD.out _ _ HN.out rfl HRR.out.chg
  · have HN : Hid (parse l = none) := by show parse l = none; unfold parse; rw [if_neg h3]
    have HM : Hid (markB (strOfNums l) = false) := by show _ = _; rw [hmk]; simp [h3]
    have HCP : Hid (∀ e w', CutPost (strOfNums l) w e w' → e = .returned (.tuple #[.string (strOfNums l), .bool false]) ∧ w = w') := by
      intro e w' h
      unfold CutPost at h
      rw [HM.out] at h
      exact h
    clear h3 hmk HM
    generalize strOfNums l = sl at *
    go_enter Try.func46, Try.ntmps46
    go_wp2_with fail
    refine HCUT.out.mono ?_
    clear hcv
    intro e w' h
    obtain ⟨rfl, rfl⟩ := HCP.out e w' h
    clear h HCP HCUT
    go_wp2_with fail
    go_ret2
    exact ⟨fun _ => ⟨rfl, Chg.refl _ _⟩, fun os h => by rw [HN.out] at h; cases h⟩

end Go.Proofs.Ytabeolmfgmbfaaa
