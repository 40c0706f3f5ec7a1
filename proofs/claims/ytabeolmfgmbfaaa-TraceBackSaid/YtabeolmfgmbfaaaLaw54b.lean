/- TraceBack: what is written is read as it was: the walk. -/
import Derived.Test.YtabeolmfgmbfaaaLaw54
namespace Go.Proofs.Ytabeolmfgmbfaaa
open Go.RowKit
set_option linter.unusedVariables false
set_option linter.unusedSimpArgs false

set_option maxHeartbeats 2000000 in
set_option maxRecDepth 100000 in
theorem traceBack_walk (a : Option Addr) (n c : Nat) (l : List OpV) (w : World) (hl : Opl w a n l) (hn : n ≤ 1759218604390) :
    Calls Try.prog 12 #[.slice a n c] w fun e w' => e = .returned (.bool true) ∧ Below w.heap.size w w' := by
  have HL := Lib.hid hl
  have hlen := hl.len
  clear hl
  go_enter Try.func12, Try.ntmps12
  go_wp2_with fail
  refine (awake54_any _).mono ?_
  rintro e w1 ⟨rfl, hc⟩
  have HC1 := Lib.hid hc
  have HL1 := Lib.hid (HL.out.chg hc (fun _ _ h => h))
  clear hc HL
  go_wp2_with fail
  refine (may_any a n c l _ HL1.out).mono ?_
  rintro e wx ⟨rfl, rfl⟩
  cases hm : mayB l
  · clear hm
    go_wp2_with fail
    go_ret
    exact ⟨rfl, HC1.out.below⟩
  · have HP := Lib.hid (parse_bytes HL1.out.ok hm)
    have HBB := Lib.hid (byte_of HL1.out.ok)
    have hbl := bytesOf_length HL1.out.ok
    clear hm
    go_wp2_with fail
    refine (bytes_any a n c l _ HL1.out).mono ?_
    rintro e w2 ⟨a2, c2, g2, rfl, ho, hg, hch⟩
    simp only [Nat.zero_add, List.nil_append] at ho ⊢
    have hch2 : Chg Non w1 w2 := hch.mono (fun _ _ h => by cases h)
    have HB2 := Lib.hid (bys_own rfl ho)
    have HC2 := Lib.hid (HC1.out.tr hch2)
    have HL2 := Lib.hid (HL1.out.chg hch2 (fun _ _ h => h))
    obtain ⟨x1, x2, he1, hx2, _⟩ := ho.slice
    cases he1
    clear ho hg hch hch2 HL1 HC1
    generalize bytesOf l = bs at *
    go_wp2_with fail
    refine (read_any _ _ _ bs _ HB2.out HBB.out (by omega)).mono ?_
    rintro e w3 ⟨_, h2⟩
    obtain ⟨a3, c3, vs, rfl, hop, hpl, hc3⟩ := h2 _ HP.out
    clear h2
    rw [List.length_map, hlen] at hop
    rw [List.length_map, hlen]
    have HV := Lib.hid hop
    have HC3 := Lib.hid (HC2.out.tr hc3)
    have HL3 := Lib.hid (HL2.out.chg hc3 (fun _ _ h => h))
    have HPL := Lib.hid hpl
    clear hop hpl hc3 HC2 HL2 HB2 HP HBB
    go_wp2_with fail
    go_loopw [5] (fun i wr => ∃ j : Nat, i = .int .i64 j ∧ j ≤ n ∧ Hid (Chg Non w wr) ∧ Hid (Opl wr a3 n vs) ∧ Hid (Opl wr a n l)) (fun i _ => n - (intOf i).toNat)
    case atStart => exact ⟨0, rfl, by omega, HC3, HV, HL3⟩
    case round =>
      obtain ⟨j, rfl, hj, HC, HVr, HLr⟩ := hrel
      by_cases hlt : j < n
      · obtain ⟨p, b1, off1, hp, hpok, rfl, z0, z1, z2, z3, z4, z5, z6, z7⟩ := HVr.out.at hlt
        obtain ⟨q, b2, off2, hq, hqok, rfl, y0, y1, y2, y3, y4, y5, y6, y7⟩ := HLr.out.at hlt
        have hpq : p.plain = q.plain := by
          have h := congrArg (fun x => x[j]?) HPL.out
          simp only [List.getElem?_map, hp, hq, Option.map_some, Option.some.injEq] at h
          exact h
        have hsm := same_any p q wr.drew (hpok.chg (Chg.refl Non wr).drew (fun _ _ h => h)) (hqok.chg (Chg.refl Non wr).drew (fun _ _ h => h))
        rw [sameB_yes hpq] at hsm
        unfold OpV.cells at hsm
        have HSM := Lib.hid hsm
        clear hp hq hpok hqok hpq hsm
        go_wp2_with fail
        go_region_with (go_at_call 47; refine HSM.out.mono ?_; rintro e w4 ⟨rfl, hc4⟩; have HC4 := Lib.hid hc4.of_drew; clear hc4)
        all_goals
          go_wp2_with fail
          go_roundw
          case rel => exact ⟨j + 1, by go_num, by omega, HC.out.tr HC4.out, HVr.out.chg HC4.out (fun _ _ h => h), HLr.out.chg HC4.out (fun _ _ h => h)⟩
          case measure => simp [intOf]; omega
      · obtain rfl : j = n := by omega
        go_wp2_with fail
        go_ret
        exact ⟨rfl, HC.out.below⟩

end Go.Proofs.Ytabeolmfgmbfaaa
