/- The reference of chapter 54: One, May, Bytes. -/
import Derived.Test.YtabeolmfgmbfaaaBys
namespace Go.Proofs.Ytabeolmfgmbfaaa
open Go.RowKit
set_option linter.unusedVariables false
set_option linter.unusedSimpArgs false

/-- Behind the first statement of the reference's One. -/
def One45 (w : World) (o : OpV) (x y : Value) (wx : World) : Prop := ∃ bx bz : Nat, x = .slice (some ⟨bx, 0, none⟩) 0 0 ∧ y = .slice (some ⟨bz, 0, none⟩) 8 8 ∧ Blk wx bx #[] 5 ∧ Blk wx bz (o.nums.map (Value.int .i64)).toArray 3 ∧ w.heap.size < bx ∧ w.heap.size < bz ∧ bx ≠ bz ∧ Chg Non w wx ∧ Blk wx w.heap.size o.cells 61

set_option maxHeartbeats 1000000 in
set_option maxRecDepth 100000 in
theorem one_ref (o : OpV) (w : World) (ho : o.ok w) :
    Calls Try.prog 45 #[.agg o.cells] w (BytesPost w 0 [] none o.bytes) := by
  obtain ⟨i0, hi, hz0, hz1, hz2⟩ := info_parts Try.info_byte
  have HO := Lib.hid ho
  have hfew := ho.few
  clear ho
  have HC0 : Hid (Chg Non w (w.alloc (.cells o.cells 61))) := (Chg.refl _ _).alloc _
  have HB : Hid (Blk (w.alloc (.cells o.cells 61)) w.heap.size o.cells 61) := Blk.new _ _ _
  have HX : Hid (o.nums.map (Value.int .i64) = [.int .i64 o.k, .int .i64 o.th, .int .i64 o.a, .int .i64 o.b, .int .i64 o.v, .int .i64 o.n, .int .i64 o.m, .int .i64 o.dn]) := rfl
  go_enter Try.func45, Try.ntmps45
  go_upto_region 1 with fail
  go_cut [3, 4] (fun x y wx => Hid (One45 w o x y wx))
  case first =>
    have z0 : (w.alloc (.cells o.cells 61)).cell? ⟨w.heap.size, 0, none⟩ = some (.int .i64 o.k) := HB.out.cell 0
    have z1 : (w.alloc (.cells o.cells 61)).cell? ⟨w.heap.size, 1, none⟩ = some (.int .i64 o.th) := HB.out.cell 1
    have z2 : (w.alloc (.cells o.cells 61)).cell? ⟨w.heap.size, 2, none⟩ = some (.int .i64 o.a) := HB.out.cell 2
    have z3 : (w.alloc (.cells o.cells 61)).cell? ⟨w.heap.size, 3, none⟩ = some (.int .i64 o.b) := HB.out.cell 3
    have z4 : (w.alloc (.cells o.cells 61)).cell? ⟨w.heap.size, 4, none⟩ = some (.int .i64 o.v) := HB.out.cell 4
    have z5 : (w.alloc (.cells o.cells 61)).cell? ⟨w.heap.size, 5, none⟩ = some (.int .i64 o.n) := HB.out.cell 5
    have z6 : (w.alloc (.cells o.cells 61)).cell? ⟨w.heap.size, 6, none⟩ = some (.int .i64 o.m) := HB.out.cell 6
    have z7 : (w.alloc (.cells o.cells 61)).cell? ⟨w.heap.size, 7, none⟩ = some (.slice o.da o.dn o.dc) := HB.out.cell 7
    have hsz : (w.alloc (.cells o.cells 61)).heap.size = w.heap.size + 1 := by simp
    generalize w.alloc (.cells o.cells 61) = wa at *
    have hlt : w.heap.size < wa.heap.size := by omega
    have HSZ := Lib.hid hsz
    clear hsz
    go_region_held3 (fun w' => w'.cell? ⟨w.heap.size, 0, none⟩ = some (.int .i64 o.k) ∧ w'.cell? ⟨w.heap.size, 1, none⟩ = some (.int .i64 o.th) ∧ w'.cell? ⟨w.heap.size, 2, none⟩ = some (.int .i64 o.a) ∧ w'.cell? ⟨w.heap.size, 3, none⟩ = some (.int .i64 o.b) ∧ w'.cell? ⟨w.heap.size, 4, none⟩ = some (.int .i64 o.v) ∧ w'.cell? ⟨w.heap.size, 5, none⟩ = some (.int .i64 o.n) ∧ w'.cell? ⟨w.heap.size, 6, none⟩ = some (.int .i64 o.m) ∧ w'.cell? ⟨w.heap.size, 7, none⟩ = some (.slice o.da o.dn o.dc)) (go_keep) (fail)
    · go_wp2_with fail
      go_meet
      have hs := HSZ.out
      refine ⟨_, _, rfl, rfl, (Blk.new _ _ _).alloc _, ?_, by omega, by omega, by omega, ((HC0.out.alloc _).alloc _).drew, (HB.out.alloc _).alloc _⟩
      rw [HX.out]
      exact Blk.newAt _ _ _ (by simp)
    · go_wp2_with fail
      go_meet
      have hs := HSZ.out
      refine ⟨_, _, rfl, rfl, Blk.newAt _ _ _ (by simp), ?_, by omega, by omega, by omega, ((HC0.out.alloc _).alloc _).drew, (HB.out.alloc _).alloc _⟩
      rw [HX.out]
      exact (Blk.new _ _ _).alloc _
  case rest =>
    clear HC0 HB
    obtain ⟨bx, bz, rfl, rfl, hbx, hbz, h1, h2, h3, hc, hop⟩ := hcut.out
    have HBX := Lib.hid hbx
    have HBZ := Lib.hid hbz
    have HC0 := Lib.hid hc
    have HB := Lib.hid hop
    clear hbx hbz hc hop hcut
    have HO0 : Hid (Own wc 5 1 (.slice (some ⟨bx, 0, none⟩) 0 0) 0 [] (some bx)) := ⟨by simp, .inr ⟨_, 0, 0, _, rfl, rfl, HBX.out, Nat.le_refl _, Nat.zero_le _, by simp, by simp⟩⟩
    go_wp2_with fail
    go_loopw [3, 5] (fun x i wr => ∃ (a2 : Option Addr) (c2 j : Nat), x = .slice a2 ((o.nums.take j).flatMap numOf).length c2 ∧ i = .int .i64 j ∧ j ≤ 8 ∧ Hid (∃ g2, Own wr 5 1 (.slice a2 ((o.nums.take j).flatMap numOf).length c2) ((o.nums.take j).flatMap numOf).length (bytesV ((o.nums.take j).flatMap numOf)) g2 ∧ (∀ i, g2 = some i → w.heap.size < i ∧ i ≠ bz)) ∧ Hid (Chg Non w wr) ∧ Hid (Blk wr w.heap.size o.cells 61) ∧ Hid (Blk wr bz (o.nums.map (Value.int .i64)).toArray 3)) (fun _ i _ => 8 - (intOf i).toNat)
    case atStart => exact ⟨_, _, 0, rfl, rfl, by omega, ⟨_, HO0.out, fun i hi => by cases hi; exact ⟨h1, h3⟩⟩, HC0, HB, HBZ⟩
    case round =>
      obtain ⟨a2, c2, j, rfl, rfl, hj, HO2, HC, HB2, HZ2⟩ := hrel
      have hl : ((o.nums.take j).flatMap numOf).length ≤ 80 := by
        have h1 := flat_length (o.nums.take j)
        have h2 : (o.nums.take j).length ≤ 8 := by rw [List.length_take]; show min j 8 ≤ 8; omega
        omega
      obtain ⟨g2, ho2, hg2⟩ := HO2.out
      have HOa := Lib.hid ho2
      have HG2 := Lib.hid hg2
      have hs2 := HC.out.size
      clear ho2 hg2 HO2
      by_cases h8 : j < 8
      · have hnum := HO.out.nums (o.nums.getD j 0) (by
          rw [List.getD_eq_getElem?_getD, List.getElem?_eq_getElem (show j < o.nums.length from h8)]
          exact List.getElem_mem _)
        have HT := Lib.hid (take_flat o.nums j h8)
        have hcell : wr.cell? ⟨bz, j, none⟩ = some (.int .i64 (o.nums.getD j 0)) := by
          rw [HZ2.out.cell]
          simp [List.getD_eq_getElem?_getD, show j < o.nums.length from h8]
        generalize o.nums.getD j 0 = x at *
        generalize (o.nums.take j).flatMap numOf = done at *
        go_wp2_with fail
        refine (num_any x _ hnum).mono ?_
        clear hcell
        rintro e w2 ⟨a3, c3, g3, rfl, ho3, hg3, hc3⟩
        simp only [Nat.zero_add, List.nil_append] at ho3
        simp only [Nat.zero_add]
        have hnl := numOf_length x
        have HS := Lib.hid ((bys_own rfl ho3).srcAll c3)
        have HG3 := Lib.hid hg3
        have HC3 := Lib.hid hc3
        have HO4 := Lib.hid (HOa.out.chg hc3 (fun _ _ h => by cases h))
        have hs3 := hc3.size
        clear ho3 hg3 hc3
        go_wp2_with (at_builtin; refine wpList_append_Own _ rfl _ _ 59 rfl 5 i0 (.int .u8 0) 1 1 Try.underlying59 hi hz0 hz1 hz2 rfl (by decide) _ done.length _ g2 rfl HO4.out _ (numOf x).length _ rfl HS.out (by unfold maxLen; omega) (by omega) ?_; intro v' w' g' hown hchg hg'; obtain ⟨a5, c5, rfl, hc5, hm5⟩ := hown.slice; have HO5 := Lib.hid hown; have HC5 := Lib.hid hchg; have HG5 := Lib.hid hg'; clear hown hchg hg')
        go_roundw
        case rel =>
          refine ⟨a5, c5, j + 1, by rw [HT.out]; simp, by go_num, by omega, ⟨g', ?_, fun i hi => ?_⟩, (HC.out.tr (HC3.out.mono (fun _ _ h => by cases h))).trans HC5.out (fun _ _ h => h) (fun i hi h => ?_), ((HB2.out.chg HC3.out (fun h => by cases h)).chg HC5.out (fun h => ?_)), ((HZ2.out.chg HC3.out (fun h => by cases h)).chg HC5.out (fun h => ?_))⟩
          · rw [HT.out, bytesV_append]
            simpa using HO5.out
          · rcases HG5.out i hi with h | h
            · exact HG2.out i h
            · have := HB2.out.lt
              have := HZ2.out.lt
              omega
          · have := HG2.out i h
            omega
          · have := HG2.out _ h
            omega
          · have := HG2.out _ h
            omega
        case measure => simp [intOf]; omega
      · obtain rfl : j = 8 := by omega
        have e8 : o.nums.take 8 = o.nums := List.take_of_length_le (Nat.le_refl _)
        have HS := Lib.hid ((HO.out.chg HC.out (fun _ _ h => h)).bys.srcAll o.dc)
        have c7 : wr.cell? ⟨w.heap.size, 7, none⟩ = some (.slice o.da o.dn o.dc) := HB2.out.cell 7
        generalize hnf : (o.nums.take 8).flatMap numOf = done at *
        rw [e8] at hnf
        have HNF := Lib.hid hnf
        clear hnf e8
        go_wp2_with (at_builtin; refine wpList_append_Own _ rfl _ _ 59 rfl 5 i0 (.int .u8 0) 1 1 Try.underlying59 hi hz0 hz1 hz2 rfl (by decide) _ done.length _ g2 rfl HOa.out _ o.dn _ rfl HS.out (by unfold maxLen; omega) (by omega) ?_; intro v' w' g' hown hchg hg'; obtain ⟨a3, c3, rfl, hc3, hm3⟩ := hown.slice; have HO3 := Lib.hid hown; have HC3 := Lib.hid hchg; have HG3 := Lib.hid hg'; clear hown hchg hg')
        go_ret
        have hdl := HO.out.bys.1
        refine ⟨a3, c3, g', ?_, ?_, fun i hi => ?_, ((HC.out.trans HC3.out (fun _ _ h => h) (fun i hi h => ?_)).mono (fun _ _ h => False.elim h))⟩
        · simp [OpV.bytes, HNF.out, hdl]
        · have h := HO3.out
          simpa [OpV.bytes, HNF.out, hdl, bytesV_append] using h
        · rcases HG3.out i hi with h | h
          · exact .inr (Nat.le_of_lt (HG2.out i h).1)
          · exact .inr (by omega)
        · have := HG2.out i h
          omega

end Go.Proofs.Ytabeolmfgmbfaaa
