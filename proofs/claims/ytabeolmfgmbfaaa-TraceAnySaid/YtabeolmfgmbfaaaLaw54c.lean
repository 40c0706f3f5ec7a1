/- TraceAny: any bytes are those of what they tell, or none's: the walk. -/
import Derived.Test.YtabeolmfgmbfaaaLaw54
namespace Go.Proofs.Ytabeolmfgmbfaaa
open Go.RowKit
set_option linter.unusedVariables false
set_option linter.unusedSimpArgs false

theorem str_eq_self (s : ByteArray) : (s.toList == s.toList) = true := by simp

set_option maxHeartbeats 2000000 in
set_option maxRecDepth 100000 in
theorem traceAny_walk (a : Option Addr) (n c : Nat) (l : List Int) (w : World) (hl : Bys w a n l) (hb : Byte l) (hn : n ≤ 140737488351232) (hc : n ≤ c) :
    Calls Try.prog 13 #[.slice a n c] w fun e w' => e = .returned (.bool true) ∧ Below w.heap.size w w' := by
  have HL := Lib.hid hl
  have HB := Lib.hid hb
  clear hl hb
  go_enter Try.func13, Try.ntmps13
  go_wp2_with fail
  refine (awake54_any _).mono ?_
  rintro e w1 ⟨rfl, hch⟩
  have HC1 := Lib.hid hch
  have HL1 := Lib.hid (HL.out.chg hch (fun _ _ h => h))
  clear hch
  go_wp2_with fail
  refine (read_any a n c l _ HL1.out HB.out hn).mono ?_
  rintro e w2 ⟨h1, h2⟩
  cases hp : parse l with
  | none =>
    obtain ⟨rfl, hch⟩ := h1 hp
    have HP : Hid (parse l = none) := hp
    have HC2 := Lib.hid (HC1.out.tr hch)
    have HL2 := Lib.hid (HL1.out.chg hch (fun _ _ h => h))
    clear h1 h2 hp hch HL1 HC1
    go_wp2_with fail
    refine (readRef_any a n c l _ HL2.out HB.out hn hc).mono ?_
    rintro e w3 ⟨h1, h2⟩
    obtain ⟨rfl, hch⟩ := h1 HP.out
    have HC3 := Lib.hid (HC2.out.tr hch)
    clear h1 h2 hch HL2 HC2 HP
    go_wp2_with fail
    go_loop [7] (fun i => i = .int .i64 0) (fun _ => 0)
    case atStart => rfl
    case round =>
      obtain rfl := hrel
      go_wp2_with fail
      go_quiet (fail)
      go_wp2_with fail
      go_ret
      exact ⟨rfl, (HC3.out.drewN _).below⟩
  | some os =>
    obtain ⟨a2, c2, vs, rfl, hop, hpl, hch⟩ := h2 os hp
    have HP : Hid (parse l = some os) := hp
    have HM5 : Hid (os.length ≤ 500) := (parse_read HB.out hp).2.2
    have HC2 := Lib.hid (HC1.out.tr hch)
    have HL2 := Lib.hid (HL1.out.chg hch (fun _ _ h => h))
    have HV2 := Lib.hid hop
    have HPV := Lib.hid hpl
    clear h1 h2 hp hch HL1 HC1 hop hpl
    go_wp2_with fail
    refine (readRef_any a n c l _ HL2.out HB.out hn hc).mono ?_
    rintro e w3 ⟨h1, h2⟩
    obtain ⟨a3, c3, us, rfl, hop, hpl, hch⟩ := h2 os HP.out
    have HC3 := Lib.hid (HC2.out.tr hch)
    have HL3 := Lib.hid (HL2.out.chg hch (fun _ _ h => h))
    have HV3 := Lib.hid (HV2.out.chg hch (fun _ _ h => h))
    have HU3 := Lib.hid hop
    have HPU := Lib.hid hpl
    have HBO : Hid (bytesOf vs = l) := by
      show bytesOf vs = l
      have h := HP.out
      rw [← HPV.out] at h
      exact bytes_parse HV3.out.ok HB.out h
    clear h1 h2 hch HL2 HC2 HV2 hop hpl HP
    have hm5 : os.length ≤ 500 := HM5.out
    clear HM5
    generalize os.length = m at *
    go_wp2_with fail
    go_loopw [7] (fun i wr => ∃ j : Nat, i = .int .i64 j ∧ j ≤ m ∧ Hid (Chg Non w wr) ∧ Hid (Opl wr a2 m vs) ∧ Hid (Opl wr a3 m us) ∧ Hid (Bys wr a n l)) (fun i _ => m - (intOf i).toNat)
    case atStart => exact ⟨0, rfl, by omega, HC3, HV3, HU3, HL3⟩
    case round =>
      obtain ⟨j, rfl, hj, HC, HVr, HUr, HLr⟩ := hrel
      by_cases hlt : j < m
      · obtain ⟨p, b1, off1, hp, hpok, rfl, z0, z1, z2, z3, z4, z5, z6, z7⟩ := HVr.out.at hlt
        obtain ⟨q, b2, off2, hq, hqok, rfl, y0, y1, y2, y3, y4, y5, y6, y7⟩ := HUr.out.at hlt
        have hpq : p.plain = q.plain := by
          have h := congrArg (fun x => x[j]?) (HPV.out.trans HPU.out.symm)
          simp only [List.getElem?_map, hp, hq, Option.map_some, Option.some.injEq] at h
          exact h
        have hsm := same_any p q wr.drew (hpok.chg (Chg.refl Non wr).drew (fun _ _ h => h)) (hqok.chg (Chg.refl Non wr).drew (fun _ _ h => h))
        rw [sameB_yes hpq] at hsm
        unfold OpV.cells at hsm
        have HSM := Lib.hid hsm
        clear hp hq hpok hqok hpq hsm
        go_wp2_with fail
        go_region_with (go_at_call 47; refine HSM.out.mono ?_; rintro e w4 ⟨rfl, hc4⟩; have HC4 := Lib.hid hc4.of_drew; clear hc4)
        all_goals
          go_wp2_with fail
          go_roundw
          case rel => exact ⟨j + 1, by go_num, by omega, HC.out.tr HC4.out, HVr.out.chg HC4.out (fun _ _ h => h), HUr.out.chg HC4.out (fun _ _ h => h), HLr.out.chg HC4.out (fun _ _ h => h)⟩
          case measure => simp [intOf]; omega
      · obtain rfl : j = m := by omega
        have hcv := conv_str (c := c) (HLr.out.chg (Chg.refl Non wr).drew (fun _ _ h => h))
        have HVd := Lib.hid (HVr.out.chg (Chg.refl Non wr).drew (fun _ _ h => h))
        have hss := str_eq_self (strOfNums l)
        go_wp2_with fail
        go_region_with (go_at_call 41; refine (bytes_any a2 j c2 vs _ HVd.out).mono ?_; rintro e w4 ⟨a5, c5, g5, rfl, ho, hg, hc4⟩; (rw [HBO.out] at ho); (rw [HBO.out]); have hc5 := (hc4.mono (G := Non) (fun _ _ h => by cases h)).of_drew; have hcv2 := conv_str (c := c) (HLr.out.chg hc5 (fun _ _ h => h)); (simp only [Nat.zero_add, List.nil_append] at ho); (simp only [Nat.zero_add]); have hcv3 := conv_str (c := c5) (bys_own rfl ho); have HC5 := Lib.hid hc5; clear ho hg hc4 hc5)
        all_goals
          go_wp2_with fail
          go_ret
          exact ⟨rfl, (HC.out.tr HC5.out).below⟩

end Go.Proofs.Ytabeolmfgmbfaaa
