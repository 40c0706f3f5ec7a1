/- The laws of the trace: the walks of awake, TraceBack, TraceAny. -/
import Derived.Test.YtabeolmfgmbfaaaSame
namespace Go.Proofs.Ytabeolmfgmbfaaa
open Go.RowKit
set_option linter.unusedVariables false
set_option linter.unusedSimpArgs false

theorem bytes_plain {w : World} {o : OpV} (h : o.ok w) : o.bytes = opB o.plain := by
  have hl := h.bys.1
  unfold OpV.bytes opB
  have e : o.plain.1 ++ [(o.plain.2.length : Int)] = o.nums := by
    show o.nums.take 7 ++ [(o.d.length : Int)] = o.nums
    rw [hl]
    rfl
  rw [e]
  rfl
theorem opok {w : World} {o : OpV} (h : o.ok w) (h4 : o.dn ≤ 4096) : OpOk o.plain := by
  refine ⟨rfl, fun x hx => h.nums x (List.mem_of_mem_take hx), ?_⟩
  have := h.bys.1
  show o.d.length ≤ 4096
  omega
theorem byte_op {w : World} {o : OpV} (h : o.ok w) : Byte o.bytes := by
  intro x hx
  unfold OpV.bytes at hx
  rcases List.mem_append.1 hx with hx | hx
  · obtain ⟨k, hk, hx⟩ := List.mem_flatMap.1 hx
    exact numOf_byte k (h.nums k hk) x hx
  · exact h.byte x hx
theorem flat_plain {w : World} : ∀ {l : List OpV}, (∀ o ∈ l, o.ok w) → flatB l = (l.map OpV.plain).flatMap opB := by
  intro l
  unfold flatB
  induction l with
  | nil => intro _; rfl
  | cons o l ih =>
    intro h
    simp only [List.flatMap_cons, List.map_cons]
    rw [bytes_plain (h o (List.mem_cons_self ..)), ih (fun p hp => h p (List.mem_cons_of_mem _ hp))]
theorem byte_of {w : World} {l : List OpV} (h : ∀ o ∈ l, o.ok w) : Byte (bytesOf l) := by
  unfold bytesOf
  split
  · rename_i hm
    have hl : l.length ≤ 500 := by simp [mayB] at hm; exact hm.1
    intro x hx
    rcases List.mem_append.1 hx with hx | hx
    · rcases List.mem_append.1 hx with hx | hx
      · simp at hx; omega
      · exact numOf_byte _ (by omega) x hx
    · obtain ⟨o, ho, hx⟩ := List.mem_flatMap.1 hx
      exact byte_op (h o ho) x hx
  · intro x hx; cases hx
theorem bytesOf_length {w : World} {l : List OpV} (h : ∀ o ∈ l, o.ok w) : (bytesOf l).length ≤ 3000000 := by
  unfold bytesOf
  split
  · rename_i hm
    have hm2 : l.length ≤ 500 ∧ ∀ o ∈ l, o.dn ≤ 4096 := by simpa [mayB] using hm
    have h1 := flatB_length l (fun o ho => by rw [(h o ho).bys.1]; exact hm2.2 o ho)
    have h2 := numOf_length (l.length : Int)
    simp only [List.length_append, List.length_cons, List.length_nil]
    omega
  · simp
theorem parse_bytes {w : World} {l : List OpV} (h : ∀ o ∈ l, o.ok w) (hm : mayB l = true) : parse (bytesOf l) = some (l.map OpV.plain) := by
  have hm2 : l.length ≤ 500 ∧ ∀ o ∈ l, o.dn ≤ 4096 := by simpa [mayB] using hm
  unfold bytesOf
  rw [if_pos hm, flat_plain h]
  have e : (l.length : Int) = ((l.map OpV.plain).length : Nat) := by simp
  rw [e]
  refine parse_write _ (fun p hp => ?_) (by simpa using hm2.1)
  obtain ⟨o, ho, rfl⟩ := List.mem_map.1 hp
  exact opok (h o ho) (hm2.2 o ho)
theorem bytes_parse {w : World} {b : List Int} {l : List OpV} (h : ∀ o ∈ l, o.ok w) (hb : Byte b) (hp : parse b = some (l.map OpV.plain)) : bytesOf l = b := by
  obtain ⟨q1, q2, q3⟩ := parse_read hb hp
  have hm : mayB l = true := by
    simp only [mayB, Bool.and_eq_true, decide_eq_true_eq, List.all_eq_true]
    refine ⟨by simpa using q3, fun o ho => ?_⟩
    have h1 := (q2 _ (List.mem_map_of_mem ho)).1.2.2
    have h2 := (h o ho).bys.1
    have h3 : o.d.length ≤ 4096 := h1
    omega
  unfold bytesOf
  rw [if_pos hm, flat_plain h, q1]
  simp

theorem opl_one {w : World} {b c : Nat} (o : OpV) (h : Blk w b o.cells 61) (ho : o.ok w) : Opl w (some ⟨b, 0, none⟩) 1 [o] := by
  refine ⟨rfl, fun e => (by cases e), fun p hp => ?_, fun x hx j p hp i hi => ?_⟩
  · simp at hp; subst hp; exact ho
  · cases hx
    have hj : j = 0 := by
      have := (List.getElem?_eq_some_iff.1 hp).1
      simp at this
      omega
    subst hj
    simp at hp
    subst hp
    rw [Addr.add_lit, h.cell]
    simp
theorem opl_nil (w : World) : Opl w none 0 [] := ⟨rfl, fun _ => rfl, (fun o ho => by cases ho), fun x hx => by cases hx⟩

def o70 : OpV := ⟨1, 0, 0, 0, 0, -70, 0, none, 0, 0, []⟩
theorem o70_ok (w : World) : o70.ok w := ⟨by decide, bys_nil w, (fun x hx => by cases hx), Nat.le_refl _, by decide⟩
theorem p70 : parse (bytesOf [o70]) = some [o70.plain] := parse_bytes (w := default) (fun o ho => by simp at ho; subst ho; exact o70_ok _) (by decide)
theorem b0 : bytesOf [] = [67, 84, 49, 0] := by decide

set_option maxHeartbeats 1000000 in
set_option maxRecDepth 100000 in
theorem awake54_any (w : World) : Calls Try.prog 40 #[] w fun e w' => e = .returned (.bool true) ∧ Chg Non w w' := by
  have HL : Hid (Opl (w.alloc (.cells #[.int .i64 1, .int .i64 0, .int .i64 0, .int .i64 0, .int .i64 0, .int .i64 (-70), .int .i64 0, .slice none 0 0] 61)) (some ⟨w.heap.size, 0, none⟩) 1 [o70]) := opl_one (c := 0) o70 (Blk.new _ _ _) (o70_ok _)
  have hbl := bytesOf_length (w := w) (l := [o70]) (fun o ho => by simp at ho; subst ho; exact o70_ok _)
  have HBB := Lib.hid (byte_of (w := w) (l := [o70]) (fun o ho => by simp at ho; subst ho; exact o70_ok _))
  go_enter Try.func40, Try.ntmps40
  go_wp2_with fail
  refine (bytes_any _ 1 1 [o70] _ HL.out).mono ?_
  rintro e w1 ⟨a1, c1, g1, rfl, ho, hg, hch⟩
  simp only [Nat.zero_add, List.nil_append] at ho ⊢
  have HB1 := Lib.hid (bys_own rfl ho)
  have HC1 : Hid (Chg Non w w1) := ((Chg.refl Non w).alloc _).tr (hch.mono (fun _ _ h => by cases h))
  have hP := Lib.hid p70
  obtain ⟨x1, x2, he1, hx2, _⟩ := ho.slice
  cases he1
  clear ho hg hch HL
  generalize bytesOf [o70] = l1 at *
  go_wp2_with fail
  refine (read_any _ _ _ l1 _ HB1.out HBB.out (by omega)).mono ?_
  rintro e w2 ⟨_, h2⟩
  obtain ⟨a2, c2, vs, rfl, hop, hpl, hc2⟩ := h2 _ hP.out
  clear h2
  obtain ⟨v, rfl⟩ : ∃ v, vs = [v] := by
    cases vs with
    | nil => simp at hpl
    | cons v r =>
      cases r with
      | nil => exact ⟨v, rfl⟩
      | cons u r => simp at hpl
  have hvn : v.n = -70 := by
    simp at hpl
    have := congrArg (fun p => p.1.getD 5 0) hpl
    exact this
  have hlen : ([o70.plain] : List (List Int × List Int)).length = 1 := rfl
  rw [hlen] at hop
  rw [hlen]
  have HOP := Lib.hid hop
  have HC2 := Lib.hid (HC1.out.tr hc2)
  clear hop hpl hc2 hlen HB1 HC1 hP
  go_wp2_with fail
  refine (bytes_any none 0 0 [] _ (opl_nil _)).mono ?_
  rintro e w3 ⟨a3, c3, g3, rfl, ho, hg, hch⟩
  rw [b0] at ho
  rw [b0]
  simp only [Nat.zero_add, List.nil_append] at ho
  have hcv := conv_str (c := c3) (bys_own (l := [67, 84, 49, 0]) rfl ho)
  have hch3 : Chg Non w2 w3 := hch.mono (fun _ _ h => by cases h)
  have HC3 := Lib.hid (HC2.out.tr hch3)
  obtain ⟨o, b, off, hov, hok, rfl, z0, z1, z2, z3, z4, z5, z6, z7⟩ := (HOP.out.chg hch3 (fun _ _ h => h)).at (show 0 < 1 by decide)
  simp at hov
  subst hov
  rw [hvn] at z5
  clear ho hg hch hch3 HC2 HOP z0 z1 z2 z3 z4 z6 z7 hok hvn
  simp only [Nat.zero_mul, Nat.add_zero] at z5
  have hl4 : (0 + [67, 84, 49, (0 : Int)].length) = 4 := rfl
  rw [hl4]
  have hcv' : (convert 59 9 (.slice a3 4 c3)).run Try.prog w3 = .ok (.string (strOfNums [67, 84, 49, 0])) w3 := hcv
  have hst : ((strOfNums [67, 84, 49, 0]).toList == [67, 84, 49, 0]) = true := by decide +kernel
  clear hcv hl4
  generalize strOfNums [67, 84, 49, 0] = sm at *
  go_wp2_with fail
  go_ret
  exact ⟨rfl, HC3.out⟩

end Go.Proofs.Ytabeolmfgmbfaaa
