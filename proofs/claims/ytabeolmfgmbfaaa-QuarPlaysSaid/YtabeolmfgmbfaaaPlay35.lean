/- QuarPlays: the walk. -/
import Derived.Test.YtabeolmfgmbfaaaPut35
import Derived.Test.YtabeolmfgmbfaaaChk35
import Derived.Test.YtabeolmfgmbfaaaTake35
namespace Go.Proofs.Ytabeolmfgmbfaaa
open Go.RowKit
set_option linter.unusedVariables false
set_option linter.unusedSimpArgs false
attribute [local go_sem ↓] Go.wp_at_zero Go.wp_at_succ

set_option maxHeartbeats 40000000 in
set_option maxRecDepth 100000 in
theorem quarPlays_walk (a : Option Addr) (len cap : Nat) (l : List (Int × Int)) (w : World) (hl : Acts w a len l) (hw : ∀ p ∈ l, (-9223372036854775808 ≤ p.1 ∧ p.1 ≤ 9223372036854775807) ∧ (-9223372036854775808 ≤ p.2 ∧ p.2 ≤ 9223372036854775807)) (hlen : len ≤ 9000000000000000000) :
    Calls Try.prog 14 #[.slice a len cap] w fun e w' => e = .returned (.bool true) ∧ Chg Non w w' := by
  have HL := Lib.hid hl
  have HW := Lib.hid hw
  clear hl hw
  go_enter Try.func14, Try.ntmps14
  go_wp2_with fail
  have hq0 : Hid (LR w.heap.size (w.heap.size + 1 + 1) w 0 (some ⟨w.heap.size + 1, 0, none⟩) 0 0 (((w.alloc (.cells #[.slice none 0 0, .int .i64 0] 74)).alloc (.cells #[] 79)).alloc (.cells #[.int .i64 0, .bool false] 24))) := by
    obtain ⟨F1, h1, u1⟩ := quar_new w
    obtain ⟨F2, h2, u2⟩ := (Sep.one h1).pushOwnAt ((Chg.refl Non _).alloc (.cells #[] 79)) (v := .slice (some ⟨w.heap.size + 1, 0, none⟩) 0 0) (n := 0) (xs := []) (size := 5) (e := 79) (g := some (w.heap.size + 1)) ⟨rfl, .inr ⟨w.heap.size + 1, 0, 0, #[], rfl, rfl, Blk.newAt _ _ _ (by simp), Nat.le_refl _, by simp [maxLen], by simp, rfl⟩⟩ (fun k hk => by cases hk; simp)
    obtain ⟨F3, h3, u3⟩ := h2.pushBlkAt ((Chg.refl Non _).alloc (.cells #[.int .i64 0, .bool false] 24)) (b := w.heap.size + 1 + 1) (by simp) (Blk.newAt _ _ _ (by simp))
    exact ⟨[], [], 0, 0, false, F3, qinv_nil, rfl, h3.perm (((List.Perm.swap ..).trans ((List.Perm.swap ..).cons _)).trans (List.Perm.swap ..) |>.trans (by exact List.Perm.refl _)), (u1.trans u2).trans u3⟩
  go_loopw [4, 6] (fun v i wr => ∃ (j mn mc : Nat) (ma : Option Addr), i = .int .i64 j ∧ v = .slice ma mn mc ∧ j ≤ len ∧ j ≤ 60 ∧ Hid (LR w.heap.size (w.heap.size + 1 + 1) w j ma mn mc wr)) (fun _ i _ => len - (intOf i).toNat)
  case atStart => exact ⟨0, 0, 0, _, rfl, rfl, by omega, by omega, hq0.out⟩
  case round =>
    obtain ⟨j, mn, mc, ma, rfl, rfl, hj, hj6, HR⟩ := hrel
    clear hq0
    generalize hbq : w.heap.size = bq at *
    generalize hbe : bq + 1 + 1 = be at *
    by_cases hlt : j < len
    · by_cases hlt6 : j < 60
      · obtain ⟨p, hp⟩ : ∃ p, l[j]? = some p := ⟨_, List.getElem?_eq_getElem (by rw [HL.out.1]; exact hlt)⟩
        have hchg : Chg Non w wr := by obtain ⟨_, _, _, _, _, _, _, _, _, h⟩ := HR.out; exact h.chg
        obtain ⟨b, off, rfl, z0, z1⟩ := (HL.out.chg hchg).2 j p hp
        obtain ⟨⟨hp1, hp2⟩, hp3, hp4⟩ := HW.out p (List.mem_of_getElem? hp)
        clear hp hchg
        go_upto_block 2 with fail
        rw [and7]
        generalize ht : p.1 % 8 = t
        clear z0
        go_cut [4] (fun v wx => ∃ (ma' : Option Addr) (mn' mc' : Nat), v = .slice ma' mn' mc' ∧ Hid (LR bq be w (j + 1) ma' mn' mc' wx))
        case first =>
          as_aux_lemma =>
            by_cases t4 : t = 4
            · subst t4
              as_aux_lemma =>
                go_upto_if 99 with fail
                refine wp_cond_true rfl ?_
                refine Code.wp_mono (OnlyN.then (fun _ _ h => h)) (take_piece b off len cap bq be j j mn mc ma w wr _ (by omega) HR.out ?_)
                intros
                rename_i a6 n6 c6 w' hL
                have HL2 := Lib.hid hL
                clear hL
                go_wp2_with fail
                go_meet
                exact ⟨a6, n6, c6, rfl, HL2.out⟩
            · have t4b : (t == 4) = false := by simp; exact t4
              by_cases t5 : t = 5
              · subst t5
                as_aux_lemma => --S
                  obtain ⟨ls, ms, bytes, n, on, F, inv, hmn, hs, hu⟩ := HR.out
                  have e0 := (hs.blkAt 2 rfl).cell 0
                  have e1 := (hs.blkAt 2 rfl).cell 1
                  simp only [List.getElem?_toArray, List.getElem?_cons_zero, List.getElem?_cons_succ] at e0 e1
                  have hn : EpOk n := ⟨inv.n0, by have := inv.n1; omega⟩
                  have HS := Lib.hid hs
                  have HU := Lib.hid hu
                  have HV := Lib.hid inv
                  have HN := Lib.hid hn
                  have HMN := Lib.hid hmn
                  clear hs hu inv hmn hn z1
                  go_wp2_with fail
                  (with_reducible refine (epBegin n on _ HN.out).mono ?_)
                  rintro e w1 ⟨xe, rfl, hc⟩
                  have HC := Lib.hid hc
                  clear hc
                  generalize hr : epB n on = r at *
                  obtain ⟨r1, r2⟩ := r
                  have HR2 := Lib.hid hr
                  clear hr e0 e1
                  have hs1 := HS.out.non HC.out
                  have e0 := (hs1.blkAt 2 rfl).cell 0
                  have e1 := (hs1.blkAt 2 rfl).cell 1
                  have f0 := (hs1.blkAt 2 rfl).free 0
                  have f1 := (hs1.blkAt 2 rfl).free 1
                  simp only [List.getElem?_toArray, List.getElem?_cons_zero, List.getElem?_cons_succ] at e0 e1
                  clear hs1
                  go_wp2_with fail
                  go_meet
                  have hr1 : 0 ≤ r1 ∧ r1 ≤ n + 1 := by
                    have h := HR2.out
                    have hn := HN.out
                    unfold EpOk at hn
                    unfold epB at h
                    split at h
                    · cases h; omega
                    · split at h <;> cases h <;> omega
                  exact ⟨ma, mn, mc, rfl, lr_epoch HV.out HMN.out (HS.out.non HC.out) (HU.out.chgNon HC.out) hr1.1 hr1.2⟩
              · have t5b : (t == 5) = false := by simp; exact t5
                by_cases t6 : t = 6
                · subst t6
                  as_aux_lemma => --S
                    obtain ⟨ls, ms, bytes, n, on, F, inv, hmn, hs, hu⟩ := HR.out
                    have e0 := (hs.blkAt 2 rfl).cell 0
                    have e1 := (hs.blkAt 2 rfl).cell 1
                    simp only [List.getElem?_toArray, List.getElem?_cons_zero, List.getElem?_cons_succ] at e0 e1
                    have HS := Lib.hid hs
                    have HU := Lib.hid hu
                    have HV := Lib.hid inv
                    have HMN := Lib.hid hmn
                    have HE : Hid (∀ W, Calls Try.prog 17 #[.agg #[.int .i64 n, .bool on]] W (EpPost (n, false) W)) := fun W => epEnd n on W
                    clear hs hu inv hmn z1
                    go_wp2_with fail
                    (with_reducible refine (HE.out _).mono ?_)
                    rintro e w1 ⟨xe, rfl, hc⟩
                    have HC := Lib.hid hc
                    clear hc e0 e1
                    have hs1 := HS.out.non HC.out
                    have e0 := (hs1.blkAt 2 rfl).cell 0
                    have e1 := (hs1.blkAt 2 rfl).cell 1
                    have f0 := (hs1.blkAt 2 rfl).free 0
                    have f1 := (hs1.blkAt 2 rfl).free 1
                    simp only [List.getElem?_toArray, List.getElem?_cons_zero, List.getElem?_cons_succ] at e0 e1
                    clear hs1
                    go_wp2_with fail
                    go_meet
                    have hn0 := HV.out.n0
                    exact ⟨ma, mn, mc, rfl, lr_epoch HV.out HMN.out (HS.out.non HC.out) (HU.out.chgNon HC.out) hn0 (by omega)⟩
                · have t6b : (t == 6) = false := by simp; exact t6
                  as_aux_lemma => --S
                    go_upto_if 167 with fail
                    refine wp_cond_false rfl ?_
                    refine Code.wp_mono (OnlyN.then (fun _ _ h => h)) (put_piece b off len cap bq be j mn mc ma p w wr _ hlt6 z1 hp3 hp4 hlt hlen HR.out ?_)
                    intros
                    rename_i a6 n6 c6 w' hL
                    have HL2 := Lib.hid hL
                    clear hL
                    go_wp2_with fail
                    go_meet
                    exact ⟨a6, n6, c6, rfl, HL2.out⟩
        case rest =>
          as_aux_lemma =>
            obtain ⟨ma', mn', mc', rfl, HR1⟩ := hcut
            clear HR z1
            apply_assumption
            refine Code.wp_mono (OnlyN.then (fun _ _ h => h)) (chk_piece b off len cap bq be j (j + 1) mn' mc' ma' w wc _ (by omega) HR1.out ?_)
            intros
            rename_i w' hL
            have HL2 := Lib.hid hL
            clear hL
            go_wp2_with fail
            go_roundw
            case rel => exact ⟨j + 1, mn', mc', ma', by go_num, rfl, by omega, by omega, HL2.out⟩
            case measure => simp [intOf]; omega
      · obtain rfl : j = 60 := by omega
        as_aux_lemma =>
          obtain ⟨ls, ms, bytes, n, on, F, inv, hmn, hs, hu⟩ := HR.out
          have HS := Lib.hid hs
          have HU := Lib.hid hu
          have HH : Hid (∀ W, Chg Non wr W → Calls Try.prog 53 #[.pointer (some ⟨bq, 0, none⟩), .int .i64 7] W fun e w' => e = .returned (.bool false) ∧ Chg Non W w') := fun W hc => by
            obtain ⟨G, hq, _⟩ := (hs.non hc).head
            have h := (qReads bq ls ms bytes n _ G W hq inv (by omega)).2.2.2.2 7
            have e7 : atB ms 7 = false := by
              rw [Bool.eq_false_iff]
              intro h7
              simp only [atB, List.any_eq_true] at h7
              obtain ⟨y, hy, h8⟩ := h7
              have := inv.at16 y hy
              simp at h8
              omega
            rw [e7] at h
            exact h
          clear hs hu inv hmn
          go_wp2_with fail
          (with_reducible refine (awake35_any _).mono ?_)
          rintro e w1 ⟨rfl, hc⟩
          have HC1 := Lib.hid hc
          clear hc
          go_wp2_with fail
          (with_reducible refine (HH.out _ HC1.out).mono ?_)
          rintro e w2 ⟨rfl, hc⟩
          have HC2 : Hid (Chg Non wr w2) := HC1.out.tr hc
          clear hc
          have HNP : Hid (∀ W, Calls Try.prog 50 #[.pointer none, .agg #[.int .i64 0, .int .i64 0, .int .i64 0, .int .i64 0, .int .i64 0]] W fun e w' => e = .returned (.bool false) ∧ Chg Non W w') := fun W => none_put ⟨0, 0, 0, 0, 0⟩ W
          go_wp2_with fail
          (with_reducible refine (HNP.out _).mono ?_)
          rintro e w3 ⟨rfl, hc⟩
          have HC3 : Hid (Chg Non wr w3) := HC2.out.tr hc
          clear hc
          have hbe3 := (HS.out.non HC3.out).blkAt 2 rfl
          have e0 := hbe3.cell 0
          have e1 := hbe3.cell 1
          simp only [List.getElem?_toArray, List.getElem?_cons_zero, List.getElem?_cons_succ] at e0 e1
          clear hbe3
          go_wp2_with fail
          (with_reducible refine (none_take n on _).mono ?_)
          rintro e w4 ⟨rfl, hc⟩
          have HC4 : Hid (Chg Non wr w4) := HC3.out.tr hc
          clear hc e0 e1
          go_wp2_with fail
          (with_reducible refine (none_len _).mono ?_)
          rintro e w' ⟨rfl, rfl⟩
          go_wp2_with fail
          (with_reducible refine (none_bytes _).mono ?_)
          rintro e w' ⟨rfl, rfl⟩
          go_wp2_with fail
          (with_reducible refine (none_batches _).mono ?_)
          rintro e w' ⟨rfl, rfl⟩
          go_wp2_with fail
          (with_reducible refine (none_list _).mono ?_)
          rintro e w' ⟨rfl, rfl⟩
          go_wp2_with fail
          (with_reducible refine (none_has 0 _).mono ?_)
          rintro e w5 ⟨rfl, hc⟩
          have HC5 : Hid (Chg Non wr w5) := HC4.out.tr hc
          clear hc
          go_wp2_with fail
          go_ret
          exact ⟨rfl, HU.out.chg.tr HC5.out⟩
    · obtain rfl : j = len := by omega
      as_aux_lemma =>
        obtain ⟨ls, ms, bytes, n, on, F, inv, hmn, hs, hu⟩ := HR.out
        have HS := Lib.hid hs
        have HU := Lib.hid hu
        have HH : Hid (∀ W, Chg Non wr W → Calls Try.prog 53 #[.pointer (some ⟨bq, 0, none⟩), .int .i64 7] W fun e w' => e = .returned (.bool false) ∧ Chg Non W w') := fun W hc => by
          obtain ⟨G, hq, _⟩ := (hs.non hc).head
          have h := (qReads bq ls ms bytes n _ G W hq inv (by omega)).2.2.2.2 7
          have e7 : atB ms 7 = false := by
            rw [Bool.eq_false_iff]
            intro h7
            simp only [atB, List.any_eq_true] at h7
            obtain ⟨y, hy, h8⟩ := h7
            have := inv.at16 y hy
            simp at h8
            omega
          rw [e7] at h
          exact h
        clear hs hu inv hmn
        go_wp2_with fail
        (with_reducible refine (awake35_any _).mono ?_)
        rintro e w1 ⟨rfl, hc⟩
        have HC1 := Lib.hid hc
        clear hc
        go_wp2_with fail
        (with_reducible refine (HH.out _ HC1.out).mono ?_)
        rintro e w2 ⟨rfl, hc⟩
        have HC2 : Hid (Chg Non wr w2) := HC1.out.tr hc
        clear hc
        have HNP : Hid (∀ W, Calls Try.prog 50 #[.pointer none, .agg #[.int .i64 0, .int .i64 0, .int .i64 0, .int .i64 0, .int .i64 0]] W fun e w' => e = .returned (.bool false) ∧ Chg Non W w') := fun W => none_put ⟨0, 0, 0, 0, 0⟩ W
        go_wp2_with fail
        (with_reducible refine (HNP.out _).mono ?_)
        rintro e w3 ⟨rfl, hc⟩
        have HC3 : Hid (Chg Non wr w3) := HC2.out.tr hc
        clear hc
        have hbe3 := (HS.out.non HC3.out).blkAt 2 rfl
        have e0 := hbe3.cell 0
        have e1 := hbe3.cell 1
        simp only [List.getElem?_toArray, List.getElem?_cons_zero, List.getElem?_cons_succ] at e0 e1
        clear hbe3
        go_wp2_with fail
        (with_reducible refine (none_take n on _).mono ?_)
        rintro e w4 ⟨rfl, hc⟩
        have HC4 : Hid (Chg Non wr w4) := HC3.out.tr hc
        clear hc e0 e1
        go_wp2_with fail
        (with_reducible refine (none_len _).mono ?_)
        rintro e w' ⟨rfl, rfl⟩
        go_wp2_with fail
        (with_reducible refine (none_bytes _).mono ?_)
        rintro e w' ⟨rfl, rfl⟩
        go_wp2_with fail
        (with_reducible refine (none_batches _).mono ?_)
        rintro e w' ⟨rfl, rfl⟩
        go_wp2_with fail
        (with_reducible refine (none_list _).mono ?_)
        rintro e w' ⟨rfl, rfl⟩
        go_wp2_with fail
        (with_reducible refine (none_has 0 _).mono ?_)
        rintro e w5 ⟨rfl, hc⟩
        have HC5 : Hid (Chg Non wr w5) := HC4.out.tr hc
        clear hc
        go_wp2_with fail
        go_ret
        exact ⟨rfl, HU.out.chg.tr HC5.out⟩

end Go.Proofs.Ytabeolmfgmbfaaa
