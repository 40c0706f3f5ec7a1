/- The law ShufBack's walk, out of the contracts of shuf and of the plain laws on orders. Every number, every two lists. -/
import Derived.Test.YtabeolmfgmbfaaaLaw23
import Derived.Test.YtabeolmfgmbfaaaPerm
namespace Go.Proofs.Ytabeolmfgmbfaaa
open Go.RowKit
set_option linter.unusedVariables false
set_option linter.unusedSimpArgs false

/-- Is a number in a list? -/
def hasB (l : List Int) (i : Int) : Bool := l.any (· == i)
theorem hasB_iff (l : List Int) (i : Int) : hasB l i = true ↔ i ∈ l := by simp [hasB]
theorem hasB_snoc (l : List Int) (x i : Int) : hasB (l ++ [x]) i = (hasB l i || (x == i)) := by simp [hasB]
/-- Are all numbers below k in it? -/
def allB (l : List Int) (k : Nat) : Bool := (List.range k).all fun i => hasB l i
theorem allB_succ (l : List Int) (k : Nat) : allB l (k + 1) = (allB l k && hasB l k) := by simp [allB, List.range_succ]
theorem allB_iff (l : List Int) (k : Nat) : allB l k = true ↔ ∀ i : Nat, i < k → (i : Int) ∈ l := by simp [allB, hasB_iff]

set_option maxHeartbeats 2000000 in
set_option maxRecDepth 100000 in
theorem shufBack_walk (N : Int) (a1 a2 : Option Addr) (len1 cap1 len2 cap2 : Nat) (l1 l2 : List Int) (w : World) (h1 : Ints w a1 len1 l1) (h2 : Ints w a2 len2 l2) (hc1 : len1 ≤ cap1) (hc2 : len2 ≤ cap2) :
    Calls Try.prog 9 #[.int .i64 N, .slice a1 len1 cap1, .slice a2 len2 cap2] w fun e w' => e = .returned (.bool true) ∧ Below w.heap.size w w' := by
  obtain ⟨m, hM, hm1, hm2⟩ := min_cut 40 len1 (by decide)
  obtain ⟨k6, hK6, hk61, hk62⟩ := min_cut 6 len2 (by decide)
  have hy := h1.take m hm1
  have hx := h2.take k6 hk61
  clear h1 h2
  generalize l1.take m = D at *
  generalize l2.take k6 = X at *
  clear l1 l2
  obtain ⟨hxl, hx0, hx1⟩ := hx
  obtain ⟨hyl, hy0, hy1⟩ := hy
  subst hxl
  subst hyl
  have HX : Hid (Ints w a2 X.length X) := ⟨rfl, hx0, hx1⟩
  have HSD : Hid (Src w 1 (.slice a1 D.length cap1) D.length (D.map (Value.int .i64))) := by
    have h := (show Ints w a1 D.length D from ⟨rfl, hy0, hy1⟩).src D.length cap1 (Nat.le_refl _)
    rw [List.take_length] at h
    exact h
  have hX6 : X.length ≤ 6 := by omega
  have hD40 : D.length ≤ 40 := by omega
  clear hx0 hx1 hy0 hy1
  have hand := and31 N
  obtain ⟨k, hk⟩ : ∃ k : Nat, N % 32 = (k : Int) := ⟨(N % 32).toNat, by omega⟩
  rw [hk] at hand
  have hk32 : k < 32 := by omega
  clear hk
  go_enter Try.func9, Try.ntmps9
  go_wp2_with fail
  refine (new_any D _ _ HSD.out (by omega)).mono ?_
  rintro e w1 ⟨bd, gd, rfl, hd, hc1', hb1, hg1⟩
  have HD := Lib.hid hd
  have HB1 : Hid (Below w.heap.size w w1) := hc1'.below
  clear hd hc1' hg1 HSD
  go_wp2_with fail
  refine (order_any k bd gd D 0 _ (by omega) HD.out).mono ?_
  rintro e w2 ⟨b, c, g, rfl, ho, hd2, hcc, hgg⟩
  have hperm : (shufOf (k - 1) (rangeI k) D 0).1.Perm (rangeI k) := shufOf_perm _ _ _ _ (by rw [length_rangeI]; omega) (by omega)
  have hLl : (shufOf (k - 1) (rangeI k) D 0).1.length = k := by rw [hperm.length_eq, length_rangeI]
  change Own w2 3 1 (.slice b k c) k ((shufOf (k - 1) (rangeI k) D 0).1.map (Value.int .i64)) g at ho
  generalize (shufOf (k - 1) (rangeI k) D 0).1 = L at *
  have HP := Lib.hid hperm
  have HLL := Lib.hid hLl
  have HO := Lib.hid ho
  have HB2 : Hid (Below w.heap.size w w2) := HB1.out.trans (hcc.belowAt HB1.out.size fun i e => by have : i = bd := e; omega)
  clear hperm hLl ho hd2 hcc hgg HD HB1
  go_wp2_with fail
  refine (back_any b c k L _ HLL.out (ints_own HLL.out HO.out) (by omega)).mono ?_
  rintro e w3 ⟨hc3, hres⟩
  obtain ⟨out, hbo, hback⟩ := backOf_perm HP.out
  rw [hbo] at hres
  obtain ⟨b3, g3, rfl, ho3, hol⟩ := hres
  have HB3 : Hid (Below w.heap.size w w3) := HB2.out.trans (hc3.belowAt HB2.out.size fun _ h => h.elim)
  have HO2 := Lib.hid (HO.out.chg hc3 (fun _ _ h => h))
  have HO3 := Lib.hid ho3
  have HOL := Lib.hid hol
  have HBK := Lib.hid hback
  clear hc3 ho3 hol hback hbo HO HB2
  have hne : (k != k) = false := by simp
  go_wp2_with fail
  go_loop [10] (fun i => ∃ j : Nat, j ≤ k ∧ i = .int .i64 j) (fun i => k - (intOf i).toNat)
  case atStart => exact ⟨0, Nat.zero_le _, rfl⟩
  case round =>
    obtain ⟨j, hj, rfl⟩ := hrel
    by_cases hlt : j < k
    · obtain ⟨q1, o1, rfl, _, hx1, _⟩ := HO2.out.at (j := j) (by omega)
      rw [map_getD (by rw [HLL.out]; exact hlt)] at hx1
      have hmem : L.getD j 0 ∈ L := by
        rw [List.getD_eq_getElem?_getD, List.getElem?_eq_getElem (by rw [HLL.out]; exact hlt)]
        exact List.getElem_mem _
      obtain ⟨hr0, hr1⟩ := mem_rangeI.1 (HP.out.mem_iff.1 hmem)
      have hbk := HBK.out j hlt
      clear hmem
      generalize L.getD j 0 = x at *
      obtain ⟨xx, rfl⟩ : ∃ xx : Nat, x = (xx : Int) := ⟨x.toNat, by omega⟩
      obtain ⟨q2, o2, rfl, _, hx2, _⟩ := HO3.out.at (j := xx) (by omega)
      rw [map_getD (by rw [HOL.out]; omega)] at hx2
      rw [Int.toNat_natCast] at hbk
      rw [hbk] at hx2
      clear hbk
      go_wp2_with fail
      go_round
      case rel => exact ⟨j + 1, by omega, by go_num⟩
      case measure => simp [intOf]; omega
    · have HX2 : Hid (Ints w3 a2 X.length X) := HX.out.below HB3.out (fun h x hx => (HX.out.spot h x hx).2)
      clear HO2 HO3 HP HLL HBK HOL
      have HA0 : Hid (allB X 0 = true) := rfl
      go_wp2_with fail
      go_loop [12, 13] (fun s i => ∃ q : Nat, q ≤ X.length ∧ i = .int .i64 q ∧ s = .bool (allB X q)) (fun _ i => X.length - (intOf i).toNat)
      case atStart => exact ⟨0, Nat.zero_le _, rfl, rfl⟩
      case round =>
        obtain ⟨q, hq, rfl, rfl⟩ := hrel
        by_cases hlt2 : q < X.length
        · obtain ⟨y, rfl⟩ : ∃ y, a2 = some y := by
            cases a2 with
            | none => have := HX.out.2.1 rfl; omega
            | some y => exact ⟨y, rfl⟩
          go_wp2_with fail
          go_loop [14, 15] (fun s i => ∃ z : Nat, z ≤ X.length ∧ i = .int .i64 z ∧ s = .bool (hasB (X.take z) q)) (fun _ i => X.length - (intOf i).toNat)
          case atStart => exact ⟨0, Nat.zero_le _, rfl, rfl⟩
          case round =>
            obtain ⟨z, hz, rfl, rfl⟩ := hrel
            by_cases hlt3 : z < X.length
            · have hcell := HX2.out.2.2 y rfl z hlt3
              have HT : Hid (hasB (X.take (z + 1)) q = (hasB (X.take z) q || (X.getD z 0 == (q : Int)))) := by
                show _ = _
                rw [← hasB_snoc]
                congr 1
                rw [List.take_succ_eq_append_getElem hlt3]
                simp [List.getD_eq_getElem?_getD, hlt3]
              generalize X.getD z 0 = xz at *
              generalize hhb : hasB (X.take z) q = hb at *
              clear hhb
              cases hb with
              | true =>
                go_wp2_with fail
                go_round
                case rel => exact ⟨z + 1, by omega, by go_num, by rw [HT.out]; rfl⟩
                case measure => simp [intOf]; omega
              | false =>
                go_wp2_with fail
                go_round
                case rel => exact ⟨z + 1, by omega, by go_num, by rw [HT.out]; rfl⟩
                case measure => simp [intOf]; omega
            · obtain rfl : z = X.length := by omega
              have HAS : Hid (allB X (q + 1) = (allB X q && hasB (X.take X.length) q)) := by
                show _ = _
                rw [List.take_length]
                exact allB_succ X q
              generalize hasB (X.take X.length) q = hb at *
              generalize hab : allB X q = ab at *
              clear hab
              cases ab
              all_goals
                go_wp2_with fail
                go_round
                case rel => exact ⟨q + 1, by omega, by go_num, by rw [HAS.out]; rfl⟩
                case measure => simp [intOf]; omega
        · obtain rfl : q = X.length := by omega
          go_wp2_with fail
          refine (awake23 _).mono ?_
          rintro e w5 ⟨rfl, hc5⟩
          have HX3 : Hid (Ints w5 a2 X.length X) := HX2.out.chg hc5 (fun _ _ h => h)
          have HB5 : Hid (Below w.heap.size w w5) := HB3.out.trans (hc5.belowAt HB3.out.size fun _ h => h.elim)
          clear hc5
          go_wp2_with fail
          refine (back_any a2 cap2 X.length X _ rfl HX3.out (by omega)).mono ?_
          rintro e w6 ⟨hc6, hres⟩
          have HB6 : Hid (Below w.heap.size w w6) := HB5.out.trans (hc6.belowAt HB5.out.size fun _ h => h.elim)
          have hiff := backOf_iff X
          have hall := allB_iff X X.length
          clear hc6 HX3 HB5 HX2
          cases hbo : backOf X with
          | none =>
            rw [hbo] at hres hiff
            subst hres
            have hf : allB X X.length = false := by
              cases hx : allB X X.length with
              | false => rfl
              | true => exact absurd (hiff.2 (hall.1 hx)) (by simp)
            rw [hf]
            clear hiff hall hbo hf
            go_wp2_with fail
            go_ret
            exact ⟨rfl, HB6.out⟩
          | some out =>
            rw [hbo] at hres hiff
            obtain ⟨b7, g7, rfl, _, _⟩ := hres
            have ht : allB X X.length = true := hall.2 (hiff.1 rfl)
            rw [ht]
            clear hiff hall hbo ht
            by_cases h0 : 0 < X.length
            · go_wp2_with fail
              go_ret
              exact ⟨rfl, HB6.out⟩
            · go_wp2_with fail
              go_ret
              exact ⟨rfl, HB6.out⟩

end Go.Proofs.Ytabeolmfgmbfaaa
