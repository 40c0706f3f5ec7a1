/- taker: num, bytes, op, by what is left to be read. -/
import Derived.Test.YtabeolmfgmbfaaaTaker
import Derived.Test.YtabeolmfgmbfaaaParse
import Derived.Lib.ConvBytes
import Derived.Laws.BytesArg
import Derived.Lib.LazyBuf
namespace Go.Proofs.Ytabeolmfgmbfaaa
open Go.RowKit
set_option linter.unusedVariables false
set_option linter.unusedSimpArgs false

/-- A taker, with bytes that are left. -/
def Tk (w : World) (bt b0 : Nat) (l : List Int) (ok : Bool) : Prop :=
  ∃ (a : Option Addr) (n c : Nat), Blk w bt #[.slice a n c, .bool ok] 112 ∧ Bys w a n l ∧ n ≤ c ∧ Byte l ∧ n ≤ 140737488351232 ∧ (ok = true → ∃ o, a = some ⟨b0, o, none⟩) ∧ (∀ x, a = some x → x.block = b0)

theorem tk_apart {w : World} {bt : Nat} {a : Option Addr} {n c : Nat} {ok : Bool} {l : List Int} (hb : Blk w bt #[.slice a n c, .bool ok] 112) (hl : Bys w a n l) (hn : 0 < n) : ∀ x, a = some x → x.block ≠ bt := by
  intro x hx e
  obtain ⟨b, off, ha, hc⟩ := hl.at hn
  rw [hx] at ha
  cases ha
  subst e
  rw [hb.cell] at hc
  match off, hc with
  | 0, hc => cases hc
  | 1, hc => cases hc
  | k + 2, hc => simp at hc

def numS (l : List Int) (ok : Bool) : Int × List Int × Bool := match readN 0 0 l with
  | some (v, k) => (unzig v, l.drop k, ok)
  | none => (0, [], false)

theorem numS_range (l : List Int) (ok : Bool) (hb : Byte l) : I64 (numS l ok).1 := by
  unfold numS
  cases hn : readN 0 0 l with
  | none => show I64 0; unfold I64; omega
  | some p => exact unzig_range p.1 (readN_len hb hn).2.2.2.2.1

theorem num_tk (bt b0 : Nat) (l : List Int) (ok : Bool) (w : World) (h : Tk w bt b0 l ok) :
    Calls Try.prog 68 #[.pointer (some ⟨bt, 0, none⟩)] w fun e w' => e = .returned (.int .i64 (numS l ok).1) ∧ Tk w' bt b0 (numS l ok).2.1 (numS l ok).2.2 ∧ Chg (One bt) w w' := by
  obtain ⟨a, n, c, hb, hl, hc, hr, hf, hs, hbl⟩ := h
  refine (num_take bt a n c l ok w hb hl hr hc (fun hn => tk_apart hb hl hn)).mono ?_
  intro e w' h
  unfold NumPost at h
  unfold numS
  cases hn : readN 0 0 l with
  | none =>
    rw [hn] at h
    obtain ⟨rfl, hb', hch⟩ := h
    exact ⟨rfl, ⟨none, 0, 0, hb', ⟨rfl, fun _ => rfl, fun x hx => by cases hx⟩, Nat.le_refl _, (fun x hx => by cases hx), Nat.zero_le _, (fun h => by cases h), fun x hx => by cases hx⟩, hch⟩
  | some p =>
    obtain ⟨v, k⟩ := p
    rw [hn] at h
    obtain ⟨rfl, b', o', c', hbb, hb', hl', hc', hch⟩ := h
    have hbe : b' = b0 := by
      cases a with
      | none =>
        have h0 := hl.2.1 rfl
        have hl0 := hl.1
        have : l = [] := List.eq_nil_of_length_eq_zero (by omega)
        subst this
        simp [readN] at hn
      | some x => exact (hbb x rfl).symm.trans (hbl x rfl)
    subst hbe
    exact ⟨rfl, ⟨_, n - k, c', hb', hl', hc', hr.drop k, by omega, fun _ => ⟨o', rfl⟩, fun x hx => by cases hx; rfl⟩, hch⟩

/-- What bytes answers: bytes of its own, or none; what is left. -/
def dataS (l : List Int) (ok : Bool) : List Int × List Int × Bool :=
  let x := numS l ok
  if x.2.2 = true ∧ 0 ≤ x.1 ∧ x.1 ≤ x.2.1.length ∧ x.1 ≤ 4096 then (x.2.1.take x.1.toNat, x.2.1.drop x.1.toNat, true) else ([], x.2.1, false)

def DataPost (bt b0 : Nat) (l : List Int) (ok : Bool) (w : World) (e : Ending) (w' : World) : Prop :=
  ∃ (a : Option Addr) (n c : Nat), e = .returned (.slice a n c) ∧ Bys w' a n (dataS l ok).1 ∧ n ≤ c ∧ Tk w' bt b0 (dataS l ok).2.1 (dataS l ok).2.2 ∧ (∀ x, a = some x → w.heap.size ≤ x.block) ∧ Chg (One bt) w w'

set_option maxHeartbeats 1000000 in
set_option maxRecDepth 100000 in
theorem clone_bytes (b off n c : Nat) (l : List Int) (w : World) (hl : Bys w (some ⟨b, off, none⟩) n l) (hn : n ≤ 140737488351232) :
    Calls Try.prog 89 #[.slice (some ⟨b, off, none⟩) n c] w (BytesPost w 0 [] none l) := by
  obtain ⟨i0, hi, hz0, hz1, hz2⟩ := info_parts Try.info_byte
  have hlen := hl.1
  have HS := Lib.hid (hl.chg ((Chg.refl Non w).alloc (.cells #[] 5)) (fun _ _ h => h))
  have HO := Lib.hid (own_empty w)
  clear hl
  have hq := Go.Lib.run_eql_slice_nil (P := Try.prog) w 59 5 (some ⟨b, off, none⟩) n c 0 0 Try.underlying59
  go_enter Try.func89, Try.ntmps89
  go_wp2_with (at_builtin; refine wpList_append_Own _ rfl _ _ 59 rfl 5 i0 (.int .u8 0) 1 1 Try.underlying59 hi hz0 hz1 hz2 rfl (by decide) _ 0 _ _ rfl HO.out _ n _ rfl (HS.out.srcAll c) (by unfold maxLen; omega) (by omega) ?_; intro v' w' g' hown hchg hg'; obtain ⟨a5, c5, rfl, hc5, hm5⟩ := hown.slice; have HO5 := Lib.hid hown; have HC5 := Lib.hid hchg; have HG5 := Lib.hid hg'; clear hown hchg hg')
  go_ret
  refine ⟨a5, c5, g', ?_, ?_, fun i hi => ?_, ?_⟩
  · rw [hlen, Nat.zero_add]; rfl
  · have h := HO5.out
    rw [hlen]
    simpa using h
  · rcases HG5.out i hi with h | h
    · cases h; exact .inr (Nat.le_refl _)
    · simp at h; exact .inr (by omega)
  · exact (((Chg.refl Non w).alloc _).trans HC5.out (fun _ _ h => h) (fun i hi h => by cases h; omega)).mono (fun _ _ h => h.elim)

def Two2 (a b : Nat) : Nat → Prop := fun k => k = a ∨ k = b

theorem bys_nil (w : World) : Bys w none 0 [] := ⟨rfl, fun _ => rfl, fun x hx => by cases hx⟩

set_option maxHeartbeats 1000000 in
set_option maxRecDepth 100000 in
theorem bytes_tk (bt b0 : Nat) (l : List Int) (ok : Bool) (w : World) (h : Tk w bt b0 l ok) :
    Calls Try.prog 84 #[.pointer (some ⟨bt, 0, none⟩)] w (DataPost bt b0 l ok w) := by
  have hr := numS_range l ok (by obtain ⟨a, n, c, hb, hl, hc, hr, hf, hs, hbl⟩ := h; exact hr)
  unfold I64 at hr
  have HN := Lib.hid (num_tk bt b0 l ok w h)
  have HD : Hid (dataS l ok = if (numS l ok).2.2 = true ∧ 0 ≤ (numS l ok).1 ∧ (numS l ok).1 ≤ (numS l ok).2.1.length ∧ (numS l ok).1 ≤ 4096 then ((numS l ok).2.1.take (numS l ok).1.toNat, (numS l ok).2.1.drop (numS l ok).1.toNat, true) else ([], (numS l ok).2.1, false)) := rfl
  clear h
  generalize (numS l ok).1 = x at *
  generalize (numS l ok).2.1 = l1 at *
  generalize (numS l ok).2.2 = ok1 at *
  generalize hg : dataS l ok = ds at *
  have HG := Lib.hid hg
  clear hg
  go_enter Try.func84, Try.ntmps84
  go_wp2_with fail
  refine HN.out.mono ?_
  rintro e w1 ⟨rfl, ⟨a, n, c, hb, hl, hc, hby, hf, hs, hbl⟩, hch⟩
  have t0 : w1.cell? ⟨bt, 0, none⟩ = some (.slice a n c) := hb.cell 0
  have f0 := hb.free 0
  have f1 := hb.free 1
  have t1 : w1.cell? ⟨bt, 1, none⟩ = some (.bool ok1) := hb.cell 1
  have hln := hl.1
  rw [← hln] at hc hf
  have HB := Lib.hid hb
  have HL := Lib.hid hl
  have HY := Lib.hid hby
  have HS := Lib.hid hs
  have HBL := Lib.hid hbl
  have HC := Lib.hid hch
  clear hb hl hby hs hbl hch HN
  have bad : ∀ w2, Hid (ds = ([], l1, false)) → w2 = w1.setCell ⟨bt, 1, none⟩ (.bool false) → DataPost bt b0 l ok w (.returned (.slice none 0 0)) w2 := by
    intro w2 he hw
    subst hw
    unfold DataPost
    rw [HG.out, he.out]
    refine ⟨none, 0, 0, rfl, bys_nil _, Nat.le_refl _, ⟨a, n, c, HB.out.set 1 _, ?_, by omega, HY.out, by omega, (fun h => by cases h), HBL.out⟩, fun x hx => (by cases hx), HC.out.setCell (p := ⟨bt, 1, none⟩) (.inl rfl) _⟩
    rcases Nat.eq_zero_or_pos n with h | h
    · subst h
      have : l1 = [] := List.eq_nil_of_length_eq_zero hln
      subst this
      exact ⟨rfl, fun _ => rfl, fun x hx j hj => by simp at hj⟩
    · exact HL.out.chgAt (Chg.set1 w1 bt 1 _) (fun y hy e => tk_apart HB.out HL.out h y hy e)
  have BAD := Lib.hid bad
  clear bad
  cases ok1 with
  | false =>
    have hds : ds = ([], l1, false) := by rw [HD.out]; simp
    have HDS := Lib.hid hds
    clear hds
    go_wp2_with fail
    go_ret
    exact BAD.out _ HDS rfl
  | true =>
    obtain ⟨off, rfl⟩ := HS.out rfl
    obtain ⟨b, hb0⟩ : ∃ b, b = b0 := ⟨b0, rfl⟩
    subst hb0
    by_cases h1 : x < 0
    · have hds : ds = ([], l1, false) := by rw [HD.out, if_neg (by omega)]
      have HDS := Lib.hid hds
      clear hds
      go_wp2_with fail
      go_ret
      exact BAD.out _ HDS rfl
    · by_cases h2 : (n : Int) < x
      · have hds : ds = ([], l1, false) := by rw [HD.out, if_neg (by omega)]
        have HDS := Lib.hid hds
        clear hds
        go_wp2_with fail
        go_ret
        exact BAD.out _ HDS rfl
      · by_cases h3 : 4096 < x
        · have hds : ds = ([], l1, false) := by rw [HD.out, if_neg (by omega)]
          have HDS := Lib.hid hds
          clear hds
          go_wp2_with fail
          go_ret
          exact BAD.out _ HDS rfl
        · have hds : ds = (l1.take x.toNat, l1.drop x.toNat, true) := by rw [HD.out, if_pos (by simp; omega)]
          have HDS := Lib.hid hds
          clear hds HD BAD
          obtain ⟨k, rfl⟩ := Int.eq_ofNat_of_zero_le (show 0 ≤ x by omega)
          rw [Int.toNat_natCast] at HDS
          have HT : Hid (Bys w1 (some ⟨b, off, none⟩) k (l1.take k)) := ⟨by rw [List.length_take]; omega, fun e => (by cases e), fun y hy j hj => by
            rw [List.length_take] at hj
            have := HL.out.2.2 y hy j (by omega)
            rw [this]
            simp [List.getD_eq_getElem?_getD, show j < k by omega]⟩
          have HCL := Lib.hid (clone_bytes b off k c _ w1 HT.out (by omega))
          have hlt : bt < w1.heap.size := HB.out.lt
          go_wp2_with fail
          refine HCL.out.mono ?_
          clear HCL
          rintro e w2 ⟨a5, c5, g5, rfl, ho5, hg5, hc5⟩
          have hlk : (l1.take k).length = k := HT.out.1
          rw [hlk, Nat.zero_add, List.nil_append] at ho5
          simp only [hlk, Nat.zero_add]
          obtain ⟨a6, c6, he6, hc6, hm6⟩ := ho5.slice
          cases he6
          have HB2 := Lib.hid (HB.out.chg hc5 (fun h => by cases h))
          have t0 : w2.cell? ⟨bt, 0, none⟩ = some (.slice (some ⟨b, off, none⟩) n c) := HB2.out.cell 0
          have f0 : w2.frozen? ⟨bt, 0, none⟩ = false := HB2.out.free 0
          have HL2 := Lib.hid (HL.out.chg hc5 (fun _ _ h => by cases h))
          have HO5 := Lib.hid ho5
          have HG5 := Lib.hid hg5
          have HC5 := Lib.hid hc5
          clear ho5 hg5 hc5 hlk t1 f1
          have fin : ∀ (o2 : Nat) (w3 : World), w3 = w2.setCell ⟨bt, 0, none⟩ (.slice (some ⟨b, o2, none⟩) (n - k) (c - k)) → Bys w2 (some ⟨b, o2, none⟩) (n - k) (l1.drop k) → DataPost bt b l ok w (.returned (.slice a5 k c5)) w3 := by
            intro o2 w3 hw hbs
            subst hw
            unfold DataPost
            rw [HG.out, HDS.out]
            have hne : ∀ x, a5 = some x → w1.heap.size ≤ x.block := by
              intro x hx
              rcases HO5.out.2 with ⟨h, _⟩ | ⟨b', off', cap', cur, h, hg, _⟩
              · rw [hx] at h; cases h
              · rw [hx] at h; cases h
                rcases HG5.out _ hg with h | h
                · cases h
                · exact h
            have hs1 := HC.out.size
            refine ⟨a5, k, c5, rfl, ?_, hc6, ⟨_, n - k, c - k, HB2.out.set 0 _, ?_, by omega, HY.out.drop k, by omega, (fun _ => ⟨o2, rfl⟩), (fun x hx => by cases hx; rfl)⟩, fun x hx => ?_, ?_⟩
            · have h := bys_own HT.out.1 HO5.out
              exact h.chgAt (Chg.set1 w2 bt 0 _) (fun y hy e => by have := hne y hy; have e' : y.block = bt := e; omega)
            · rcases Nat.eq_zero_or_pos (n - k) with h | h
              · rw [h, List.drop_of_length_le (by omega)]
                exact bys_none _
              · refine hbs.chgAt (Chg.set1 w2 bt 0 _) (fun y hy e => by cases hy; exact tk_apart HB2.out HL2.out (by omega) _ rfl e)
            · have := hne x hx
              omega
            · exact (HC.out.tr (HC5.out.mono (fun _ _ h => by cases h))).setCell (p := ⟨bt, 0, none⟩) (.inl rfl) _
          have FIN := Lib.hid fin
          clear fin
          by_cases hck : c = k
          · go_wp2_with fail
            go_ret
            refine FIN.out off _ (by rw [show c - k = 0 from by omega]) ?_
            rw [show n - k = 0 from by omega, List.drop_of_length_le (by omega)]
            exact bys_none _
          · go_wp2_with fail
            go_ret
            exact FIN.out (off + k) _ rfl (HL2.out.drop k (by omega))

/-! ### op -/
/-- What op answers, and what is left. -/
def opS (l : List Int) (ok : Bool) : (List Int × List Int) × List Int × Bool :=
  let x0 := numS l ok
  let x1 := numS x0.2.1 x0.2.2
  let x2 := numS x1.2.1 x1.2.2
  let x3 := numS x2.2.1 x2.2.2
  let x4 := numS x3.2.1 x3.2.2
  let x5 := numS x4.2.1 x4.2.2
  let x6 := numS x5.2.1 x5.2.2
  let d := dataS x6.2.1 x6.2.2
  (([x0.1, x1.1, x2.1, x3.1, x4.1, x5.1, x6.1], d.1), d.2)

def OpPost (bt b0 : Nat) (l : List Int) (ok : Bool) (w : World) (e : Ending) (w' : World) : Prop :=
  ∃ o : OpV, e = .returned (.agg o.cells) ∧ (o.nums.take 7, o.d) = (opS l ok).1 ∧ Bys w' o.da o.dn o.d ∧ o.dn ≤ o.dc ∧ Tk w' bt b0 (opS l ok).2.1 (opS l ok).2.2 ∧ (∀ x, o.da = some x → w.heap.size ≤ x.block) ∧ Chg (One bt) w w'

theorem bys_apart {w : World} {b : Nat} {a : Option Addr} {n : Nat} {cs : Array Value} {t : TypeId} {l : List Int} (hb : Blk w b cs t) (hc : ∀ v ∈ cs.toList, ∀ x, v ≠ .int .u8 x) (hl : Bys w a n l) (hn : 0 < n) : ∀ x, a = some x → x.block ≠ b := by
  intro x hx e
  obtain ⟨b', off, ha, h⟩ := hl.at hn
  rw [hx] at ha
  cases ha
  subst e
  rw [hb.cell] at h
  exact hc _ (Array.mem_toList_iff.2 (Array.mem_of_getElem? h)) _ rfl
theorem Tk.chg {F : Nat → Prop} {w w' : World} {bt b0 : Nat} {l : List Int} {ok : Bool} (h : Tk w bt b0 l ok) (k : Chg F w w') (hF : ¬ F bt) (hA : ¬ F b0) : Tk w' bt b0 l ok := by
  obtain ⟨a, n, c, hb, hl, h3, h4, h5, h6, h7⟩ := h
  exact ⟨a, n, c, hb.chg k hF, hl.chgAt k (fun y hy e => hA (by rw [← h7 y hy]; exact e)), h3, h4, h5, h6, h7⟩
theorem op_cells_no (x0 x1 x2 x3 x4 x5 x6 : Int) (a : Option Addr) (n c : Nat) : ∀ v ∈ (#[.int .i64 x0, .int .i64 x1, .int .i64 x2, .int .i64 x3, .int .i64 x4, .int .i64 x5, .int .i64 x6, .slice a n c] : Array Value).toList, ∀ x, v ≠ .int .u8 x := by
  intro v hv x e
  subst e
  simp at hv

theorem num_rel (bt b0 : Nat) (l : List Int) (ok : Bool) (w : World) (h : Tk w bt b0 l ok) : ∃ (x : Int) (l' : List Int) (ok' : Bool), numS l ok = (x, l', ok') ∧ Calls Try.prog 68 #[.pointer (some ⟨bt, 0, none⟩)] w fun e w' => e = .returned (.int .i64 x) ∧ Tk w' bt b0 l' ok' ∧ Chg (One bt) w w' :=
  ⟨_, _, _, rfl, num_tk bt b0 l ok w h⟩

set_option maxHeartbeats 1000000 in
set_option maxRecDepth 100000 in
theorem op_tk (bt b0 : Nat) (l : List Int) (ok : Bool) (w : World) (h : Tk w bt b0 l ok) (hb0 : b0 < w.heap.size) :
    Calls Try.prog 69 #[.pointer (some ⟨bt, 0, none⟩)] w (OpPost bt b0 l ok w) := by
  have hlt : bt < w.heap.size := by obtain ⟨a, n, c, hb, _⟩ := h; exact hb.lt
  have HT0 : Hid (Tk (w.alloc (.cells #[.int .i64 0, .int .i64 0, .int .i64 0, .int .i64 0, .int .i64 0, .int .i64 0, .int .i64 0, .slice none 0 0] 61)) bt b0 l ok) := by
    exact h.chg ((Chg.refl Non w).alloc _) (fun h => h) (fun h => h)
  have HR0 : Hid (Blk (w.alloc (.cells #[.int .i64 0, .int .i64 0, .int .i64 0, .int .i64 0, .int .i64 0, .int .i64 0, .int .i64 0, .slice none 0 0] 61)) w.heap.size #[.int .i64 0, .int .i64 0, .int .i64 0, .int .i64 0, .int .i64 0, .int .i64 0, .int .i64 0, .slice none 0 0] 61) := Blk.new _ _ _
  have HC0 : Hid (Chg (One bt) w (w.alloc (.cells #[.int .i64 0, .int .i64 0, .int .i64 0, .int .i64 0, .int .i64 0, .int .i64 0, .int .i64 0, .slice none 0 0] 61))) := (Chg.refl _ _).alloc _
  clear h
  go_enter Try.func69, Try.ntmps69
  go_wp2_with fail
  obtain ⟨x0, l1, ok1, hx, hcall⟩ := num_rel bt b0 _ _ _ HT0.out
  have HX0 := Lib.hid hx
  refine hcall.mono ?_
  clear hx hcall
  rintro e w1 ⟨rfl, ht, hc⟩
  have HT1 := Lib.hid ht
  have HR1 := Lib.hid (HR0.out.chg hc (fun h => by have : w.heap.size = bt := h; omega))
  have HC1 := Lib.hid (HC0.out.tr hc)
  clear ht hc HT0 HR0 HC0
  go_wp2_with fail
  obtain ⟨x1, l2, ok2, hx, hcall⟩ := num_rel bt b0 _ _ _ HT1.out
  have HX1 := Lib.hid hx
  refine hcall.mono ?_
  clear hx hcall
  rintro e w2 ⟨rfl, ht, hc⟩
  have HT2 := Lib.hid ht
  have HR2 := Lib.hid (HR1.out.chg hc (fun h => by have : w.heap.size = bt := h; omega))
  have HC2 := Lib.hid (HC1.out.tr hc)
  clear ht hc HT1 HR1 HC1
  go_wp2_with fail
  obtain ⟨x2, l3, ok3, hx, hcall⟩ := num_rel bt b0 _ _ _ HT2.out
  have HX2 := Lib.hid hx
  refine hcall.mono ?_
  clear hx hcall
  rintro e w3 ⟨rfl, ht, hc⟩
  have HT3 := Lib.hid ht
  have HR3 := Lib.hid (HR2.out.chg hc (fun h => by have : w.heap.size = bt := h; omega))
  have HC3 := Lib.hid (HC2.out.tr hc)
  clear ht hc HT2 HR2 HC2
  go_wp2_with fail
  obtain ⟨x3, l4, ok4, hx, hcall⟩ := num_rel bt b0 _ _ _ HT3.out
  have HX3 := Lib.hid hx
  refine hcall.mono ?_
  clear hx hcall
  rintro e w4 ⟨rfl, ht, hc⟩
  have HT4 := Lib.hid ht
  have HR4 := Lib.hid (HR3.out.chg hc (fun h => by have : w.heap.size = bt := h; omega))
  have HC4 := Lib.hid (HC3.out.tr hc)
  clear ht hc HT3 HR3 HC3
  go_wp2_with fail
  obtain ⟨x4, l5, ok5, hx, hcall⟩ := num_rel bt b0 _ _ _ HT4.out
  have HX4 := Lib.hid hx
  refine hcall.mono ?_
  clear hx hcall
  rintro e w5 ⟨rfl, ht, hc⟩
  have HT5 := Lib.hid ht
  have HR5 := Lib.hid (HR4.out.chg hc (fun h => by have : w.heap.size = bt := h; omega))
  have HC5 := Lib.hid (HC4.out.tr hc)
  clear ht hc HT4 HR4 HC4
  go_wp2_with fail
  obtain ⟨x5, l6, ok6, hx, hcall⟩ := num_rel bt b0 _ _ _ HT5.out
  have HX5 := Lib.hid hx
  refine hcall.mono ?_
  clear hx hcall
  rintro e w6 ⟨rfl, ht, hc⟩
  have HT6 := Lib.hid ht
  have HR6 := Lib.hid (HR5.out.chg hc (fun h => by have : w.heap.size = bt := h; omega))
  have HC6 := Lib.hid (HC5.out.tr hc)
  clear ht hc HT5 HR5 HC5
  go_wp2_with fail
  obtain ⟨x6, l7, ok7, hx, hcall⟩ := num_rel bt b0 _ _ _ HT6.out
  have HX6 := Lib.hid hx
  refine hcall.mono ?_
  clear hx hcall
  rintro e w7 ⟨rfl, ht, hc⟩
  have HT7 := Lib.hid ht
  have HR7 := Lib.hid (HR6.out.chg hc (fun h => by have : w.heap.size = bt := h; omega))
  have HC7 := Lib.hid (HC6.out.tr hc)
  clear ht hc HT6 HR6 HC6
  have hs7 := HC7.out.size
  have HOP : Hid (opS l ok = (([x0, x1, x2, x3, x4, x5, x6], (dataS l7 ok7).1), (dataS l7 ok7).2)) := by
    show opS l ok = _
    unfold opS
    simp only [HX0.out, HX1.out, HX2.out, HX3.out, HX4.out, HX5.out, HX6.out]
  clear HX0 HX1 HX2 HX3 HX4 HX5 HX6
  have hbt7 : bt < w7.heap.size := by omega
  have hlt7 : w.heap.size < w7.heap.size := HR7.out.lt
  have HT8 : Hid (Tk (w7.alloc (.cells #[.int .i64 x0, .int .i64 x1, .int .i64 x2, .int .i64 x3, .int .i64 x4, .int .i64 x5, .int .i64 x6, .slice none 0 0] 61)) bt b0 l7 ok7) := by
    exact HT7.out.chg ((Chg.refl Non w7).alloc _) (fun h => h) (fun h => h)
  have HL8 : Hid (Blk (w7.alloc (.cells #[.int .i64 x0, .int .i64 x1, .int .i64 x2, .int .i64 x3, .int .i64 x4, .int .i64 x5, .int .i64 x6, .slice none 0 0] 61)) w7.heap.size #[.int .i64 x0, .int .i64 x1, .int .i64 x2, .int .i64 x3, .int .i64 x4, .int .i64 x5, .int .i64 x6, .slice none 0 0] 61) := Blk.new _ _ _
  have HR8 := Lib.hid (HR7.out.alloc (.cells #[.int .i64 x0, .int .i64 x1, .int .i64 x2, .int .i64 x3, .int .i64 x4, .int .i64 x5, .int .i64 x6, .slice none 0 0] 61))
  have HC8 := Lib.hid (HC7.out.alloc (.cells #[.int .i64 x0, .int .i64 x1, .int .i64 x2, .int .i64 x3, .int .i64 x4, .int .i64 x5, .int .i64 x6, .slice none 0 0] 61))
  clear HT7 HR7 HC7
  go_wp2_with fail
  refine (bytes_tk bt b0 _ _ _ HT8.out).mono ?_
  rintro e w8 ⟨a8, n8, c8, rfl, hb8, hnc, ht8, hne8, hc8⟩
  have HL := Lib.hid (HL8.out.chg hc8 (fun h => by have : w7.heap.size = bt := h; omega))
  have HR := Lib.hid (HR8.out.chg hc8 (fun h => by have : w.heap.size = bt := h; omega))
  have HC := Lib.hid (HC8.out.tr hc8)
  have HB8 := Lib.hid hb8
  have HT9 := Lib.hid ht8
  have HN8 := Lib.hid hne8
  clear hb8 ht8 hne8 hc8 HT8 HL8 HR8 HC8
  have q0 : w8.cell? ⟨w7.heap.size, 0, none⟩ = some (.int .i64 x0) := HL.out.cell 0
  have q1 : w8.cell? ⟨w7.heap.size, 1, none⟩ = some (.int .i64 x1) := HL.out.cell 1
  have q2 : w8.cell? ⟨w7.heap.size, 2, none⟩ = some (.int .i64 x2) := HL.out.cell 2
  have q3 : w8.cell? ⟨w7.heap.size, 3, none⟩ = some (.int .i64 x3) := HL.out.cell 3
  have q4 : w8.cell? ⟨w7.heap.size, 4, none⟩ = some (.int .i64 x4) := HL.out.cell 4
  have q5 : w8.cell? ⟨w7.heap.size, 5, none⟩ = some (.int .i64 x5) := HL.out.cell 5
  have q6 : w8.cell? ⟨w7.heap.size, 6, none⟩ = some (.int .i64 x6) := HL.out.cell 6
  have q7 : w8.cell? ⟨w7.heap.size, 7, none⟩ = some (.slice none 0 0) := HL.out.cell 7
  have qf7 : w8.frozen? ⟨w7.heap.size, 7, none⟩ = false := HL.out.free 7
  have r0 : w8.cell? ⟨w.heap.size, 0, none⟩ = some (.int .i64 0) := HR.out.cell 0
  have r1 : w8.cell? ⟨w.heap.size, 1, none⟩ = some (.int .i64 0) := HR.out.cell 1
  have r2 : w8.cell? ⟨w.heap.size, 2, none⟩ = some (.int .i64 0) := HR.out.cell 2
  have r3 : w8.cell? ⟨w.heap.size, 3, none⟩ = some (.int .i64 0) := HR.out.cell 3
  have r4 : w8.cell? ⟨w.heap.size, 4, none⟩ = some (.int .i64 0) := HR.out.cell 4
  have r5 : w8.cell? ⟨w.heap.size, 5, none⟩ = some (.int .i64 0) := HR.out.cell 5
  have r6 : w8.cell? ⟨w.heap.size, 6, none⟩ = some (.int .i64 0) := HR.out.cell 6
  have r7 : w8.cell? ⟨w.heap.size, 7, none⟩ = some (.slice none 0 0) := HR.out.cell 7
  have rf0 : w8.frozen? ⟨w.heap.size, 0, none⟩ = false := HR.out.free 0
  have rf1 : w8.frozen? ⟨w.heap.size, 1, none⟩ = false := HR.out.free 1
  have rf2 : w8.frozen? ⟨w.heap.size, 2, none⟩ = false := HR.out.free 2
  have rf3 : w8.frozen? ⟨w.heap.size, 3, none⟩ = false := HR.out.free 3
  have rf4 : w8.frozen? ⟨w.heap.size, 4, none⟩ = false := HR.out.free 4
  have rf5 : w8.frozen? ⟨w.heap.size, 5, none⟩ = false := HR.out.free 5
  have rf6 : w8.frozen? ⟨w.heap.size, 6, none⟩ = false := HR.out.free 6
  have rf7 : w8.frozen? ⟨w.heap.size, 7, none⟩ = false := HR.out.free 7
  go_wp2_with fail
  refine bodyPost_ret (v := .agg #[.int .i64 x0, .int .i64 x1, .int .i64 x2, .int .i64 x3, .int .i64 x4, .int .i64 x5, .int .i64 x6, .slice a8 n8 c8]) (by simp [results, Try.results69, go_sem, r0, r1, r2, r3, r4, r5, r6, r7]) rfl ?_
  have hch : Chg (Two2 w7.heap.size w.heap.size) w8 _ := ((((((((((Chg.refl (Two2 w7.heap.size w.heap.size) w8).setCell (p := ⟨w7.heap.size, 7, none⟩) (.inl (.inl rfl)) (.slice a8 n8 c8)).setCell (p := ⟨w.heap.size, 0, none⟩) (.inl (.inr rfl)) (.int .i64 x0)).setCell (p := ⟨w.heap.size, 1, none⟩) (.inl (.inr rfl)) (.int .i64 x1)).setCell (p := ⟨w.heap.size, 2, none⟩) (.inl (.inr rfl)) (.int .i64 x2)).setCell (p := ⟨w.heap.size, 3, none⟩) (.inl (.inr rfl)) (.int .i64 x3)).setCell (p := ⟨w.heap.size, 4, none⟩) (.inl (.inr rfl)) (.int .i64 x4)).setCell (p := ⟨w.heap.size, 5, none⟩) (.inl (.inr rfl)) (.int .i64 x5)).setCell (p := ⟨w.heap.size, 6, none⟩) (.inl (.inr rfl)) (.int .i64 x6)).setCell (p := ⟨w.heap.size, 7, none⟩) (.inl (.inr rfl)) (.slice a8 n8 c8))
  unfold OpPost
  rw [HOP.out]
  refine ⟨⟨x0, x1, x2, x3, x4, x5, x6, a8, n8, c8, (dataS l7 ok7).1⟩, rfl, rfl, ?_, hnc, ?_, fun x hx => ?_, ?_⟩
  · refine HB8.out.chgAt hch (fun y hy e => ?_)
    have h := HN8.out y hy
    simp at h
    rcases e with e | e <;> omega
  · refine HT9.out.chg hch (fun e => ?_) (fun e => ?_)
    · rcases e with e | e <;> omega
    · rcases e with e | e <;> omega
  · have h := HN8.out x hx
    simp at h
    omega
  · exact HC.out.trans hch (fun _ _ h => h) (fun i hi h => by rcases h with h | h <;> omega)

end Go.Proofs.Ytabeolmfgmbfaaa
