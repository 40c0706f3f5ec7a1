/- The laws of package draw: the walks of DrawOwn and DrawNext, out of the contracts of draw and of the reference. Every list, every number. -/
import Derived.Test.YtabeolmfgmbfaaaDraw
namespace Go.Proofs.Ytabeolmfgmbfaaa
open Go.RowKit
set_option linter.unusedVariables false
set_option linter.unusedSimpArgs false

set_option maxHeartbeats 400000 in
theorem awake22 (w : World) : Calls Try.prog 24 #[] w fun e w' => e = .returned (.bool true) ∧ Chg Non w w' := by
  go_enter Try.func24, Try.ntmps24
  go_wp2_with fail
  refine (new_any [-1] _ _ (src_blk (Blk.new _ _ _) (by simp) rfl) (by simp)).mono ?_
  rintro e w1 ⟨b, g, rfl, hd, hc, hb, hg⟩
  go_wp2_with fail
  refine (next_any b [-1] 0 3 g _ (by omega) hd).mono ?_
  rintro e w2 ⟨rfl, hd2, hc2⟩
  have e1 : (drawOf [-1] 0 3).1 = 2 := by decide
  rw [e1]
  go_wp2_with fail
  refine (new_any [4] _ _ (src_blk (Blk.new _ _ _) (by simp) rfl) (by simp)).mono ?_
  rintro e w3 ⟨b3, g3, rfl, hd3, hc3, hb3, hg3⟩
  go_wp2_with fail
  refine (left_any b3 [4] 0 g3 _ hd3).mono ?_
  rintro e w4 ⟨rfl, rfl⟩
  go_wp2_with fail
  go_ret
  refine ⟨rfl, ?_⟩
  have h1 : Chg Non w w1 := ((Chg.refl Non w).alloc _).tr hc
  have h2 : Chg Non w w2 := h1.trans hc2 (fun _ _ h => h) (fun i hi h => by cases h; have := ((Chg.refl Non w).alloc (.cells #[.int .i64 (-1)] 3)).size; simp at hb; omega)
  exact h2.tr (((Chg.refl Non w2).alloc _).tr hc3)

theorem DrawsAt.chg2 {F : Nat → Prop} {w w' : World} {b : Nat} {l : List Int} {u : Int} {g : Option Nat} (h : DrawsAt w b l u g) (k : Chg F w w') {B : Nat} (hF : ∀ i, F i → i < B) (hb : B ≤ b) (hg : ∀ i, g = some i → B ≤ i) : DrawsAt w' b l u g :=
  h.chg k (fun hf => by have := hF b hf; omega) (fun i hi hf => by have := hF i hf; have := hg i hi; omega)

set_option maxHeartbeats 1000000 in
set_option maxRecDepth 100000 in
theorem drawOwn_walk (a : Option Addr) (len cap : Nat) (l : List Int) (n : Int) (w : World) (hl : Ints w a len l) (_hc : len ≤ cap) (_hm : len ≤ 17592186044415) :
    Calls Try.prog 4 #[.slice a len cap, .int .i64 n] w fun e w' => e = .returned (.bool true) ∧ Below w.heap.size w w' := by
  obtain ⟨i0, hi, hz0, hz1, hz2⟩ := info_parts Try.info_int
  obtain ⟨k, hK, hk1, hk2⟩ := min_cut 10 len (by decide)
  have hs : Src (w.alloc (.cells #[] 3)) 1 (.slice a k cap) (l.take k).length ((l.take k).map (Value.int .i64)) := (hl.chg ((Chg.refl Non w).alloc _) (fun _ _ h => h)).src k cap hk1
  have he : (l.take k).length = k := by rw [List.length_take, hl.1]; omega
  clear hl
  generalize l.take k = X at hs he
  clear l
  have HS := Lib.hid hs
  have HO : Hid (Own (w.alloc (.cells #[] 3)) 3 1 (.slice (some ⟨w.heap.size, 0, none⟩) 0 0) 0 [] (some w.heap.size)) := ⟨by simp, .inr ⟨_, 0, 0, _, rfl, rfl, Blk.new _ _ _, Nat.le_refl _, Nat.zero_le _, by simp, by simp⟩⟩
  have HM : Hid (0 + X.length ≤ maxLen) := by show 0 + X.length ≤ maxLen; unfold maxLen; omega
  have H2 : Hid ((0 + X.length) * 8 ≤ 140737488355328) := by show (0 + X.length) * 8 ≤ 140737488355328; omega
  have H3 : Hid (X.length * 8 ≤ 140737488355328) := by show X.length * 8 ≤ 140737488355328; omega
  have hX : X.length ≤ 10 := by omega
  clear hs he
  have hand := and255 n
  have hn0 : 0 ≤ n % 256 := by omega
  have hn1 : n % 256 < 256 := by omega
  go_enter Try.func4, Try.ntmps4
  go_wp2_with (at_builtin; refine wpList_append_Own _ rfl _ _ 22 rfl 3 i0 (.int .i64 0) 1 8 Try.underlying22 hi hz0 hz1 hz2 rfl (by decide) _ 0 _ _ rfl HO.out _ _ _ rfl HS.out HM.out H2.out ?_; intro v1 w1 g1 hown hchg hg1; simp only [Nat.zero_add, List.nil_append] at hown; obtain ⟨a1, c1, rfl, hc1, hm1⟩ := hown.slice; have HO1 := Lib.hid hown; have HC1 := Lib.hid hchg; have HG1 := Lib.hid hg1; clear hown hchg hg1)
  refine (new_any X _ _ HO1.out.src H3.out).mono ?_
  rintro e w2 ⟨bd, gd, rfl, hd, hc2, hb2, hg2⟩
  have HO2 := Lib.hid (HO1.out.chg hc2 (fun _ _ h => h))
  have HD := Lib.hid hd
  have HC2 := Lib.hid hc2
  have HG2 := Lib.hid hg2
  clear hd hc2 hg2
  go_wp2_with fail
  refine (new_any X _ _ HO2.out.src H3.out).mono ?_
  rintro e w3 ⟨be, ge, rfl, hd3, hc3, hb3, hg3⟩
  have HO3 := Lib.hid (HO2.out.chg hc3 (fun _ _ h => h))
  have HD2 := Lib.hid (HD.out.chg hc3 (fun h => h) (fun _ _ h => h))
  have HE := Lib.hid hd3
  have HC3 := Lib.hid hc3
  have HG3 := Lib.hid hg3
  clear hd3 hc3 hg3
  have HW : Hid (Chg Non w w3) := by
    show Chg Non w w3
    have h1 : Chg Non w w1 := ((Chg.refl Non w).alloc (.cells #[] 3)).trans HC1.out (fun _ _ h => h) (fun i hi h => by cases h; omega)
    exact (h1.tr HC2.out).tr HC3.out
  have hg1w : Hid (∀ i, g1 = some i → w.heap.size ≤ i ∧ i < w1.heap.size) := fun i hi => ⟨by
    rcases HG1.out i hi with h | h
    · cases h; exact Nat.le_refl _
    · simp at h; omega, HO1.out.lt i hi⟩
  have hw21 := HC2.out.size
  have hgd : Hid (∀ i, gd = some i → w1.heap.size ≤ i ∧ i < w2.heap.size) := fun i hi => ⟨HG2.out i hi, HD.out.glt i hi⟩
  have hbd := HD.out.lt
  have hww1 : w.heap.size ≤ w1.heap.size := by have := HC1.out.size; simp at this; omega
  clear HC1 HC2 HC3 HO1 HO2 HD HO HS HM H2 H3 HG1
  go_wp2_with fail
  go_loopw [8] (fun i wr => ∃ j : Nat, j ≤ X.length ∧ i = .int .i64 j ∧ Hid (∃ xs, Own wr 3 1 (.slice a1 X.length c1) X.length xs g1) ∧ Hid (Chg (Opt g1) w3 wr)) (fun i _ => X.length - (intOf i).toNat)
  case atStart => exact ⟨0, Nat.zero_le _, rfl, ⟨_, HO3.out⟩, Chg.refl _ _⟩
  case round =>
    obtain ⟨j, hj, rfl, hxs, hch⟩ := hrel
    by_cases hlt : j < X.length
    · obtain ⟨xs, ho⟩ := hxs.out
      obtain ⟨b, off, rfl, hgb, hcell, hfr⟩ := ho.at (j := j) (by omega)
      have hsome : ∃ v, xs[j]? = some v := ⟨_, List.getElem?_eq_getElem (by rw [ho.1]; omega)⟩
      obtain ⟨v, hv⟩ := hsome
      rw [hv] at hcell
      have HOr := Lib.hid ho
      have HGB := Lib.hid hgb
      have HCH := Lib.hid hch
      clear hxs hv ho hgb hch
      go_wp2_with fail
      go_roundw
      case rel => exact ⟨j + 1, by omega, by go_num, ⟨_, HOr.out.store j _⟩, HCH.out.out.setCell (p := ⟨b, off + j, none⟩) (.inl HGB.out) _⟩
      case measure => simp [intOf]; omega
    · have hB : Below w.heap.size w wr := by
        refine HW.out.below.trans (hch.out.belowAt HW.out.size fun i hi => (hg1w.out i hi).1)
      have hd : DrawsAt wr bd X 0 gd := HD2.out.chg hch.out (fun h => by have := (hg1w.out _ h).2; omega) (fun i hi h => by have := (hg1w.out _ h).2; have := (hgd.out _ hi).1; omega)
      have he : DrawsAt wr be X 0 ge := HE.out.chg hch.out (fun h => by have := (hg1w.out _ h).2; omega) (fun i hi h => by have := (hg1w.out _ h).2; have := HG3.out _ hi; omega)
      have HR : Hid (∃ (l : List Int) (u : Int), DrawsAt wr bd l u gd ∧ DrawsAt wr be l u ge) := ⟨X, 0, hd, he⟩
      have HB := Lib.hid hB
      clear hB hd he hxs hch HD2 HE HO3 HW
      go_wp2_with fail
      go_loopw [10] (fun i ws => ∃ j : Nat, j ≤ 15 ∧ i = .int .i64 j ∧ Hid (∃ (l : List Int) (u : Int), DrawsAt ws bd l u gd ∧ DrawsAt ws be l u ge) ∧ Hid (Below w.heap.size w ws)) (fun i _ => 15 - (intOf i).toNat)
      case atStart => exact ⟨0, Nat.zero_le _, rfl, HR, HB⟩
      case round =>
        obtain ⟨m, hm, rfl, hR, hB⟩ := hrel
        obtain ⟨l, u, hd, he⟩ := hR.out
        have hwr := hB.out.size
        clear HR HB
        by_cases hlt2 : m < 15
        · have HE := Lib.hid he
          have HD1 := Lib.hid hd
          clear he hd hR
          go_wp2_with fail
          have hd := HD1.out
          refine (next_any bd l u (n % 256 + 1) gd _ (by omega) hd).mono ?_
          rintro e wa ⟨rfl, hd2, hca⟩
          have he2 := HE.out.chg hca (fun h => by have : be = bd := h; omega) (fun i hi h => by have : i = bd := h; have := HG3.out i hi; omega)
          have HD2 := Lib.hid hd2
          have HCA := Lib.hid hca
          clear hd2 hca HE hd HD1
          go_wp2_with fail
          refine (next_any be l u (n % 256 + 1) ge _ (by omega) he2).mono ?_
          rintro e wb ⟨rfl, he3, hcb⟩
          have hd3 := HD2.out.chg hcb (fun h => by have : bd = be := h; omega) (fun i hi h => by have : i = be := h; have := (hgd.out i hi).2; omega)
          obtain ⟨hr0, hr1⟩ := drawOf_range l u (n % 256 + 1) (by omega) (by omega)
          have HB3 : Hid (Below w.heap.size w wb) := (hB.out.trans (HCA.out.belowAt hwr fun i hi => by have : i = bd := hi; omega)).trans (hcb.belowAt (Nat.le_trans hwr HCA.out.size) fun i hi => by have : i = be := hi; omega)
          have HDE : Hid (∃ (l : List Int) (u : Int), DrawsAt wb bd l u gd ∧ DrawsAt wb be l u ge) := ⟨_, _, hd3, he3⟩
          clear hd3 he3 hcb HD2 HCA he2
          generalize drawOf l u (n % 256 + 1) = R at *
          go_wp2_with fail
          go_roundw
          case rel => exact ⟨m + 1, by omega, by go_num, HDE, HB3⟩
          case measure => simp [intOf]; omega
        · go_wp2_with fail
          refine (awake22 _).mono ?_
          rintro e wa ⟨rfl, hca⟩
          have HB4 : Hid (Below w.heap.size w wa) := hB.out.trans (hca.belowAt hwr fun i hi => hi.elim)
          clear hca hd he
          go_wp2_with fail
          refine (next_low _ _ _ (by omega)).mono ?_
          rintro e wb ⟨rfl, rfl⟩
          go_wp2_with fail
          go_ret
          exact ⟨rfl, HB4.out⟩

end Go.Proofs.Ytabeolmfgmbfaaa
