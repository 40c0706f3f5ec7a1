/- The law DrawNext's walk, out of the contracts of draw and of the reference. Every three lists. -/
import Derived.Test.YtabeolmfgmbfaaaLaw22
import Derived.Test.YtabeolmfgmbfaaaRef16
namespace Go.Proofs.Ytabeolmfgmbfaaa
open Go.RowKit
set_option linter.unusedVariables false
set_option linter.unusedSimpArgs false

/-- The draws (l, u) in block bd, and the reference's (l', u'), by value in block B. -/
structure Both2 (w : World) (bd B : Nat) (gd : Option Nat) (base : Nat) (l : List Int) (u : Int) (l' : List Int) (u' : Int) : Prop where mk ::
  d : DrawsAt w bd l u gd
  r : ∃ (a : Option Addr) (c : Nat), Blk w B #[.slice a l'.length c, .int .u64 u'] 37 ∧ Ints w a l'.length l' ∧ l'.length ≤ c ∧ (0 < l'.length → ∀ x, a = some x → x.block ≠ bd ∧ x.block ≠ B ∧ gd ≠ some x.block)
  bB : bd ≠ B
  gB : gd ≠ some B
  b0 : base ≤ bd
  b1 : base ≤ B
  b2 : ∀ k, gd = some k → base ≤ k
def Both (w : World) (bd B base m : Nat) : Prop := ∃ gd l u, Both2 w bd B gd base l u l u ∧ l.length ≤ m

/-- The reference draws: its block holds what is left; the draws are as they were. -/
theorem Both2.ref {w wa w3 : World} {bd B base : Nat} {gd : Option Nat} {l l' m : List Int} {u u' v : Int} {a a' : Option Addr} {c' : Nat} (h : Both2 w bd B gd base l u l' u')
    (hne : 0 < l'.length → ∀ x, a = some x → x.block ≠ bd ∧ x.block ≠ B ∧ gd ≠ some x.block) (hml : m.length ≤ l'.length) (hch : Chg Non w wa) (h3 : Chg (One B) wa w3) (hb : Blk w3 B #[.slice a' m.length c', .int .u64 v] 37) (hi : Ints wa a' m.length m) (hc : m.length ≤ c')
    (hA : ∀ x, a' = some x → ∃ y, a = some y ∧ x.block = y.block) : Both2 w3 bd B gd base l u m v := by
  have hd : DrawsAt w3 bd l u gd := (h.d.chg hch (fun h => h) (fun _ _ h => h)).chg h3 (fun e => h.bB e) (fun i hi e => h.gB (by rw [hi, e]))
  have hA2 : 0 < m.length → ∀ x, a' = some x → x.block ≠ bd ∧ x.block ≠ B ∧ gd ≠ some x.block := fun hm x hx => by
    obtain ⟨y, hy, he⟩ := hA x hx
    rw [he]; exact hne (by omega) y hy
  refine ⟨hd, ⟨a', c', hb, ⟨hi.1, hi.2.1, fun x hx j hj => ?_⟩, hc, hA2⟩, h.bB, h.gB, h.b0, h.b1, h.b2⟩
  have hcell := hi.2.2 x hx j hj
  have hbl : (x.add j).block = x.block := by unfold Addr.add; split <;> rfl
  rw [World.cell?_of_block (h3.block _ (World.block_lt_of_cell? wa _ hcell) (fun e => (hA2 (by omega) x hx).2.1 (by rw [← hbl]; exact e)))]
  exact hcell

/-- The draws draw; the reference's are as they were. -/
theorem Both2.next {w w3 : World} {bd B base : Nat} {gd : Option Nat} {l l' m : List Int} {u u' v : Int} (h : Both2 w bd B gd base l u l' u')
    (hch : Chg (One bd) w w3) (hd : DrawsAt w3 bd m v gd) : Both2 w3 bd B gd base m v l' u' := by
  obtain ⟨a, c, hb, hi, hc, hne⟩ := h.r
  refine ⟨hd, ⟨a, c, hb.chg hch (fun e => h.bB e.symm), ⟨hi.1, hi.2.1, fun x hx j hj => ?_⟩, hc, hne⟩, h.bB, h.gB, h.b0, h.b1, h.b2⟩
  have hcell := hi.2.2 x hx j hj
  have hbl : (x.add j).block = x.block := by unfold Addr.add; split <;> rfl
  rw [World.cell?_of_block (hch.block _ (World.block_lt_of_cell? w _ hcell) (fun e => (hne (by omega) x hx).1 (by rw [← hbl]; exact e)))]
  exact hcell
theorem Both2.drew {w : World} {bd B base : Nat} {gd : Option Nat} {l l' : List Int} {u u' : Int} (h : Both2 w bd B gd base l u l' u') : Both2 w.drew bd B gd base l u l' u' :=
  ⟨h.d.drew, h.r, h.bB, h.gB, h.b0, h.b1, h.b2⟩

/-- More is put behind the draws' list; the reference's are as they were. -/
theorem Both2.add {w w3 : World} {bd B base : Nat} {gd gd' : Option Nat} {l l' m : List Int} {u u' : Int} (h : Both2 w bd B gd base l u l' u') (hw : base ≤ w.heap.size)
    (hch : Chg (Two (One bd) (Opt gd)) w w3) (hd : DrawsAt w3 bd m u gd') (hg : ∀ k, gd' = some k → gd = some k ∨ w.heap.size ≤ k) : Both2 w3 bd B gd' base m u l' u' := by
  obtain ⟨a, c, hb, hi, hc, hne⟩ := h.r
  have hBF : ¬ Two (One bd) (Opt gd) B := fun e => by
    rcases e with e | e
    · exact h.bB e.symm
    · exact h.gB e
  refine ⟨hd, ⟨a, c, hb.chg hch hBF, ⟨hi.1, hi.2.1, fun x hx j hj => ?_⟩, hc, fun hp x hx => ⟨(hne hp x hx).1, (hne hp x hx).2.1, fun e => ?_⟩⟩, h.bB, fun e => ?_, h.b0, h.b1, fun k hk => ?_⟩
  · have hcell := hi.2.2 x hx j hj
    have hbl : (x.add j).block = x.block := by unfold Addr.add; split <;> rfl
    rw [World.cell?_of_block (hch.block _ (World.block_lt_of_cell? w _ hcell) (fun e => by
      rw [hbl] at e
      rcases e with e | e
      · exact (hne (by omega) x hx).1 e
      · exact (hne (by omega) x hx).2.2 e))]
    exact hcell
  · rcases hg _ e with h2 | h2
    · exact (hne hp x hx).2.2 h2
    · have hcell := hi.2.2 x hx 0 hp
      have hbl : (x.add 0).block = x.block := by unfold Addr.add; split <;> rfl
      have := World.block_lt_of_cell? w _ hcell
      omega
  · rcases hg _ e with h2 | h2
    · exact h.gB h2
    · have := hb.lt; omega
  · rcases hg _ hk with h2 | h2
    · exact h.b2 k h2
    · omega

/-- The reference's list is laid anew, in memory of its own. -/
theorem Both2.put {w w3 : World} {bd B base : Nat} {gd g : Option Nat} {l l' m : List Int} {u u' : Int} {a : Option Addr} {c : Nat} {e : TypeId} (h : Both2 w bd B gd base l u l' u')
    (hch : Chg Non w w3) (ho : Own w3 e 1 (.slice a m.length c) m.length (m.map (Value.int .i64)) g) (hg : ∀ k, g = some k → w.heap.size ≤ k) : Both2 (w3.setCell ⟨B, 0, none⟩ (.slice a m.length c)) bd B gd base l u m u' := by
  obtain ⟨a0, c0, hb, hi, hc, hne⟩ := h.r
  have hs := Chg.set1 w3 B 0 (.slice a m.length c)
  have hgB : ∀ k, g = some k → ¬ One B k := fun k hk e => by have := hg k hk; have := hb.lt; have : k = B := e; omega
  have ho2 := ho.chg hs hgB
  have hd := (h.d.chg hch (fun h => h) (fun _ _ h => h)).chg hs (fun e => h.bB e) (fun i hi e => h.gB (by rw [hi, e]))
  obtain ⟨_, hao⟩ := ho2
  have hA : ∀ x, a = some x → x.spot = none ∧ g = some x.block := by
    rcases hao with ⟨e1, _⟩ | ⟨b, off, cap, cur, e1, e2, _⟩
    · intro x hx; rw [hx] at e1; cases e1
    · intro x hx; rw [hx] at e1; injection e1 with e3; cases e3; exact ⟨rfl, e2⟩
  obtain ⟨a', c', e1, e2, _⟩ := ho.slice
  cases e1
  refine ⟨hd, ⟨a, c, (hb.chg hch (fun h => h)).set 0 _, ⟨rfl, fun e0 => ?_, fun x hx j hj => ?_⟩, e2, fun _ x hx => ?_⟩, h.bB, h.gB, h.b0, h.b1, h.b2⟩
  · subst e0
    cases m with
    | nil => rfl
    | cons x r =>
      obtain ⟨b, off, hb, _⟩ := ho.at (j := 0) (by simp)
      cases hb
  · subst hx
    obtain ⟨b, off, hb, hgb, hcell, _⟩ := (ho.chg hs hgB).at (j := j) (by omega)
    cases hb
    rw [Addr.add_lit, hcell]
    simp [List.getD_eq_getElem?_getD, hj]
  · have h1 := hg _ (hA x hx).2
    have h2 := hb.lt
    have h3 := h.d.lt
    refine ⟨by omega, by omega, fun e => ?_⟩
    have := h.d.glt _ e
    omega

set_option maxHeartbeats 2000000 in
set_option maxRecDepth 100000 in
theorem drawNext_walk (a a1 a2 : Option Addr) (len cap len1 cap1 len2 cap2 : Nat) (l l1 l2 : List Int) (w : World) (hl : Ints w a len l) (h1 : Ints w a1 len1 l1) (h2 : Ints w a2 len2 l2)
    (hc : len ≤ cap) (hc1 : len1 ≤ cap1) (hc2 : len2 ≤ cap2) (hw : ∀ n ∈ l1, (Lit.int .i64 n).wf = true) (hm : len ≤ 17592186044415) (hm1 : len1 ≤ 17592186044415) (hm2 : len2 ≤ 17592186044415) :
    Calls Try.prog 5 #[.slice a len cap, .slice a1 len1 cap1, .slice a2 len2 cap2] w fun e w' => e = .returned (.bool true) ∧ Below w.heap.size w w' := by
  obtain ⟨i0, hi, hz0, hz1, hz2⟩ := info_parts Try.info_int
  obtain ⟨k, hK, hk1, hk2⟩ := min_cut 10 len (by decide)
  obtain ⟨k5, hK5, hk51, hk52⟩ := min_cut 5 len2 (by decide)
  have HS : Hid (Src w 1 (.slice a k cap) (l.take k).length ((l.take k).map (Value.int .i64))) := hl.src k cap hk1
  have he : (l.take k).length = k := by rw [List.length_take, hl.1]; omega
  have H3 : Hid ((l.take k).length * 8 ≤ 140737488355328) := by show (l.take k).length * 8 ≤ 140737488355328; rw [he]; omega
  have HTI : Hid (Ints w a k (l.take k)) := by
    refine ⟨he, fun e => ?_, fun x hx j hj => ?_⟩
    · have := hl.2.1 e; omega
    · rw [hl.2.2 x hx j (by rw [hl.1]; omega)]
      simp [List.getD_eq_getElem?_getD, show j < k by omega]
  have HL1 := Lib.hid h1
  have HL2 := Lib.hid h2
  have HHE := Lib.hid he
  have HS1 : Hid (0 < k → ∀ x, a = some x → x.block < w.heap.size) := fun h x hx => (hl.spot (by rw [hl.1]; omega) x hx).2
  have HW := Lib.hid hw
  clear hl h1 h2 he hw
  go_enter Try.func5, Try.ntmps5
  go_wp2_with fail
  refine (new_any (l.take k) _ _ HS.out H3.out).mono ?_
  rintro e w2 ⟨bd, gd, rfl, hd, hc2', hb2, hg2⟩
  have HB : Hid (Both (w2.alloc (.cells #[.slice a k cap, .int .u64 0] 37)) bd w2.heap.size w.heap.size (10 + 5 * 0)) := by
    have hal : Chg Non w2 (w2.alloc (.cells #[.slice a k cap, .int .u64 0] 37)) := (Chg.refl _ _).alloc _
    have hsz := hc2'.size
    refine ⟨gd, l.take k, 0, ⟨hd.chg hal (fun h => h) (fun _ _ h => h), ⟨a, cap, ?_, ?_, ?_, fun hp x hx => ⟨?_, ?_, fun e => ?_⟩⟩, ?_, fun e => ?_, hb2, hsz, hg2⟩, ?_⟩
    · rw [HHE.out]; exact Blk.new _ _ _
    · rw [HHE.out]; exact (HTI.out.chg hc2' (fun _ _ h => h)).chg hal (fun _ _ h => h)
    · rw [HHE.out]; omega
    · have := HS1.out (by rw [HHE.out] at hp; exact hp) x hx; omega
    · have := HS1.out (by rw [HHE.out] at hp; exact hp) x hx; omega
    · have := HS1.out (by rw [HHE.out] at hp; exact hp) x hx; have := hg2 _ e; omega
    · have := hd.lt; omega
    · have := hd.glt _ e; omega
    · rw [HHE.out]; omega
  have HC : Hid (Below w.heap.size w (w2.alloc (.cells #[.slice a k cap, .int .u64 0] 37))) := by
    exact hc2'.below.alloc hc2'.size _
  have hsz2 := hc2'.size
  clear hd hc2' hg2
  go_wp2_with fail
  go_loopw [10] (fun i wr => ∃ j : Nat, j ≤ 30 ∧ j ≤ len1 ∧ i = .int .i64 j ∧ Hid (Both wr bd w2.heap.size w.heap.size (10 + 5 * j)) ∧ Hid (Below w.heap.size w wr)) (fun i _ => 30 - (intOf i).toNat)
  case atStart => exact ⟨0, by omega, by omega, rfl, HB, HC⟩
  case round =>
    obtain ⟨j, hj, hj1, rfl, hB, hC⟩ := hrel
    by_cases hlt : j < len1 ∧ j < 30
    · obtain ⟨hlt1, hlt2⟩ := hlt
      obtain ⟨gd2, L, U, hbb, hLm⟩ := hB.out
      obtain ⟨A, C, hblk, hints, hLC, hne⟩ := hbb.r
      obtain ⟨y, rfl⟩ : ∃ y, a1 = some y := by
        cases a1 with
        | none => have := HL1.out.2.1 rfl; omega
        | some y => exact ⟨y, rfl⟩
      obtain ⟨N, hN⟩ : ∃ N, l1.getD j 0 = N := ⟨_, rfl⟩
      have hNw : (Lit.int .i64 N).wf = true := by
        rw [← hN]
        have hjl : j < l1.length := by rw [HL1.out.1]; exact hlt1
        exact HW.out _ (by rw [List.getD_eq_getElem?_getD, List.getElem?_eq_getElem hjl]; exact List.getElem_mem hjl)
      have hN2 : N ≤ 9223372036854775807 := by
        have := bounds_i64 hNw
        omega
      have hcell0 := HL1.out.2.2 y rfl j (by rw [HL1.out.1]; exact hlt1)
      rw [hN] at hcell0
      have hybl := World.block_lt_of_cell? w _ hcell0
      have hcell : wr.cell? (y.add j) = some (.int .i64 N) := (hC.out.cell hybl).trans hcell0
      have HCY : Hid (∀ wx, Below w.heap.size w wx → wx.cell? (y.add j) = some (.int .i64 N)) := fun wx hx => (hx.cell hybl).trans hcell0
      have hB0 := hblk.cell 0
      have hB1 := hblk.cell 1
      simp at hB0 hB1
      have HBB := Lib.hid hbb
      have HBL := Lib.hid hblk
      have HIN := Lib.hid hints
      have HNE := Lib.hid hne
      clear hN hNw hcell0 hbb hblk hints hB hne hybl
      have hch2 : ∀ w' : World, Chg Non wr w' → Blk w' w2.heap.size #[.slice A L.length C, .int .u64 U] 37 := fun w' h => HBL.out.chg h (fun h => h)
      have HCH2 := Lib.hid hch2
      clear hch2
      have HLN : Hid ((drawOf L U N).2.1.length ≤ L.length) := by
        show (drawOf L U N).2.1.length ≤ L.length
        unfold drawOf
        split
        · exact Nat.le_refl _
        · cases L with
          | nil => exact Nat.le_refl _
          | cons x r => simp
      go_upto_region 7 with fail
      go_cut [11] (fun s wx => s = .int .i64 (drawOf L U N).1 ∧ Hid (Both2 wx bd w2.heap.size gd2 w.heap.size L U (drawOf L U N).2.1 (drawOf L U N).2.2) ∧ Hid (Below w.heap.size w wx))
      case first =>
        go_region_with (go_at_call 25; refine (refNext_any A C L U N _ hN2 ?_ hLC).mono ?_; exact HIN.out; rintro e wa ⟨A', C', rfl, hI', hL', hA', hch'⟩; have hBD := HCH2.out wa hch'.of_drew; have c0 := hBD.cell 0; have c1 := hBD.cell 1; have f0 := hBD.free 0; have f1 := hBD.free 1; simp at c0 c1; have HBD := Lib.hid hBD; have HI' := Lib.hid hI'; have HCC := Lib.hid hch'.of_drew; have HA' := Lib.hid hA'; clear hI' hch' hA' hBD)
        all_goals
          go_wp2_with fail
          go_meet
          refine ⟨rfl, HBB.out.ref HNE.out HLN.out HCC.out (((Chg.refl _ _).tr (Chg.set1 _ _ _ _)).tr (Chg.set1 _ _ _ _)) ((HBD.out.set 0 _).set 1 _) HI'.out hL' HA'.out, ?_⟩
          have hsz := hC.out.size
          have h1 : Below w.heap.size w wa := hC.out.trans (HCC.out.belowAt hsz (fun _ h => h.elim))
          exact (h1.setCell (p := ⟨w2.heap.size, 0, none⟩) hsz2 _).setCell (p := ⟨w2.heap.size, 1, none⟩) hsz2 _
      case rest =>
        obtain ⟨rfl, hb2, hw2⟩ := hcut
        obtain ⟨A2, C2, hblk2, hints2, hLC2, hne2⟩ := hb2.out.r
        have hD := Lib.hid hb2.out.d
        have hcell2 := HCY.out _ hw2.out
        clear hcell HCH2 HBB HBL HIN HNE hLC
        have hq0 := hblk2.cell 0
        simp at hq0
        have H2 := Lib.hid hblk2
        clear hblk2 hints2 hne2
        have hLN := HLN.out
        have hne2 : Hid (¬ One bd w2.heap.size) := fun e => hb2.out.bB e.symm
        generalize hR : drawOf L U N = R at *
        have HR := Lib.hid hR
        clear hR
        go_upto_region 8 with fail
        go_cut [57] (fun s wx => s = .bool false ∧ Hid (Both2 wx bd w2.heap.size gd2 w.heap.size R.2.1 R.2.2 R.2.1 R.2.2) ∧ Hid (Below w.heap.size w wx))
        case first =>
          have HNX : Hid (∀ w, DrawsAt w bd L U gd2 → Calls Try.prog 23 #[.pointer (some ⟨bd, 0, none⟩), .int .i64 N] w fun e w' => e = .returned (.int .i64 R.1) ∧ DrawsAt w' bd R.2.1 R.2.2 gd2 ∧ Chg (One bd) w w') := by
            intro w hw
            have h := next_any bd L U N gd2 w hN2 hw
            rw [HR.out] at h
            exact h
          go_region_with (first | (go_at_call 23; refine (HNX.out _ hD.out.drew).mono ?_; rintro e wa ⟨rfl, hda, hca⟩; have hq := (H2.out.chg hca.of_drew hne2.out).cell 0; simp at hq; have HDA := Lib.hid hda; have HCA := Lib.hid hca.of_drew; clear hda hca) | (go_at_call 26; refine (left_any bd R.2.1 R.2.2 gd2 _ HDA.out).mono ?_; rintro e wb ⟨rfl, rfl⟩))
          all_goals
            go_wp2_with fail
            go_meet
            exact ⟨rfl, hb2.out.next HCA.out HDA.out, hw2.out.trans (HCA.out.belowAt hw2.out.size (fun i hi => by have : i = bd := hi; omega))⟩
        case rest =>
          obtain ⟨rfl, hb3, hw3⟩ := hcut
          have hbl := hLm
          clear hcell2 hq0 hw2 hb2 hD H2 hne2
          by_cases hj5 : j = 5
          · subst hj5
            go_wp2_with fail
            have hTL : Hid ((l2.take k5).length ≤ 5) := by show (l2.take k5).length ≤ 5; rw [List.length_take]; omega
            have hsrc : ∀ wx, Below w.heap.size w wx → Src wx 1 (.slice a2 k5 cap2) (l2.take k5).length ((l2.take k5).map (Value.int .i64)) := fun wx hx => (HL2.out.chg (Chg.of_below (F := Non) hx) (fun _ _ h => h)).src k5 cap2 hk51
            have HSR := Lib.hid hsrc
            clear hsrc
            generalize l2.take k5 = T at hTL HSR
            refine (add_any bd R.2.1 T R.2.2 gd2 _ _ hb3.out.d (HSR.out _ hw3.out) (by have := hTL.out; omega)).mono ?_
            rintro e wa ⟨rfl, gd3, hd3, hc3, hg3⟩
            have hwsz := hw3.out.size
            have HB4 := Lib.hid (hb3.out.add hwsz hc3 hd3 hg3)
            have hw4 : Below w.heap.size w wa := hw3.out.trans (hc3.belowAt hwsz (fun i hi => by
              rcases hi with hi | hi
              · have : i = bd := hi; omega
              · exact hb3.out.b2 i hi))
            have HW4 := Lib.hid hw4
            clear hd3 hc3 hg3 hw4
            obtain ⟨A4, C4, hq4, hi4, hl4, hn4⟩ := HB4.out.r
            have q0 := hq4.cell 0
            simp at q0
            have HQ4 := Lib.hid hq4
            have HI4 := Lib.hid hi4
            clear hq4 hi4 hn4 hb3 hw3
            have hql := HQ4.out.lt
            have HO5 : Hid (Own (wa.alloc (.cells #[] 3)) 3 1 (.slice (some ⟨wa.heap.size, 0, none⟩) 0 0) 0 [] (some wa.heap.size)) := ⟨by simp, .inr ⟨_, 0, 0, _, rfl, rfl, Blk.new _ _ _, Nat.le_refl _, Nat.zero_le _, by simp, by simp⟩⟩
            have HS5 : Hid (Src (wa.alloc (.cells #[] 3)) 1 (.slice A4 R.2.1.length C4) R.2.1.length (R.2.1.map (Value.int .i64))) := by
              have h := (HI4.out.chg ((Chg.refl Non wa).alloc (.cells #[] 3)) (fun _ _ h => h)).src R.2.1.length C4 (Nat.le_refl _)
              rw [List.take_length] at h
              exact h
            have HM5 : Hid (0 + R.2.1.length ≤ maxLen) := by show 0 + R.2.1.length ≤ maxLen; unfold maxLen; omega
            have HZ5 : Hid ((0 + R.2.1.length) * 8 ≤ 140737488355328) := by show (0 + R.2.1.length) * 8 ≤ 140737488355328; omega
            have HM6 : Hid (R.2.1.length + T.length ≤ maxLen) := by show R.2.1.length + T.length ≤ maxLen; have := hTL.out; unfold maxLen; omega
            have HZ6 : Hid ((R.2.1.length + T.length) * 8 ≤ 140737488355328) := by show (R.2.1.length + T.length) * 8 ≤ 140737488355328; have := hTL.out; omega
            have hk5e : Hid (∀ wx, Src wx 1 (.slice a2 k5 cap2) T.length (T.map (Value.int .i64)) → True) := fun _ _ => trivial
            go_wp2_with (first | (at_builtin; refine wpList_append_Own _ rfl (.tmp 68) (.tmp 70) 22 rfl 3 i0 (.int .i64 0) 1 8 Try.underlying22 hi hz0 hz1 hz2 rfl (by decide) _ 0 _ _ rfl HO5.out _ R.2.1.length _ rfl HS5.out HM5.out HZ5.out ?_; intro v5 w5 g5 hown hchg hg5; simp only [Nat.zero_add, List.nil_append] at hown; obtain ⟨a5, c5, rfl, hc5, hm5⟩ := hown.slice; have HO6 := Lib.hid hown; have HC5 := Lib.hid hchg; have HG5 := Lib.hid hg5; clear hown hchg hg5; have HW5 : Hid (Below w.heap.size w w5) := HW4.out.trans ((((Chg.refl Non wa).alloc (.cells #[] 3)).trans HC5.out (fun _ _ h => h) (H := Non) (fun i hi h => by cases h; omega)).belowAt HW4.out.size (fun _ h => h.elim))) | (at_builtin; refine wpList_append_Own _ rfl (.tmp 71) (.tmp 72) 22 rfl 3 i0 (.int .i64 0) 1 8 Try.underlying22 hi hz0 hz1 hz2 rfl (by decide) _ R.2.1.length _ _ rfl HO6.out _ T.length _ rfl (HSR.out _ HW5.out) HM6.out HZ6.out ?_; intro v6 w6 g6 hown hchg hg6; obtain ⟨a6, c6, rfl, hc6, hm6⟩ := hown.slice; have HO7 := Lib.hid hown; have HC6 := Lib.hid hchg; have HG6 := Lib.hid hg6; clear hown hchg hg6; have HW6 : Hid (Chg Non wa w6) := ((((Chg.refl Non wa).alloc (.cells #[] 3)).trans HC5.out (fun _ _ h => h) (H := Non) (fun i hi h => by cases h; omega)).trans HC6.out (fun _ _ h => h) (fun i hi h => by rcases HG5.out i h with h2 | h2; (cases h2; omega); (simp at h2; omega))); have q6 := (HQ4.out.chg HW6.out (fun h => h)).cell 0; have f6 := (HQ4.out.chg HW6.out (fun h => h)).free 0; simp at q6))
            go_roundw
            case rel =>
              have hg7 : ∀ k, g6 = some k → wa.heap.size ≤ k := fun k hk => by
                rcases HG6.out k hk with h | h
                · rcases HG5.out k h with h2 | h2
                  · cases h2; exact Nat.le_refl _
                  · simp at h2; omega
                · have := HC5.out.size; simp at this; omega
              have ho7 : Own w6 3 1 (.slice a6 (R.2.1 ++ T).length c6) (R.2.1 ++ T).length ((R.2.1 ++ T).map (Value.int .i64)) g6 := by
                have h := HO7.out
                rw [← List.map_append, ← List.length_append] at h
                exact h
              have hput := HB4.out.put HW6.out ho7 hg7
              rw [List.length_append] at hput
              exact ⟨6, by omega, by omega, rfl, ⟨gd3, _, _, hput, by rw [List.length_append]; have := hTL.out; omega⟩, (HW4.out.trans (HW6.out.belowAt HW4.out.size (fun _ h => h.elim))).setCell (p := ⟨w2.heap.size, 0, none⟩) hsz2 _⟩
            case measure => simp [intOf]
          · have hj5' : ((j : Int) == 5) = false := by simp; omega
            go_wp2_with fail
            go_roundw
            case rel => exact ⟨j + 1, by omega, by omega, by go_num, ⟨gd2, _, _, hb3.out, by omega⟩, hw3⟩
            case measure => simp [intOf]; omega
    · have hwsz := hC.out.size
      have HFIN : Hid (∀ wx wy, Chg Non wr wx → Chg Non wx wy → Below w.heap.size w wy) := fun wx wy h1 h2 => hC.out.trans ((h1.tr h2).belowAt hwsz (fun _ h => h.elim))
      have hcase : (j < len1 ∧ ¬ j < 30) ∨ ¬ j < len1 := by omega
      clear hlt
      rcases hcase with ⟨hx1, hx2⟩ | hx1
      all_goals
        go_wp2_with fail
        refine (add_none _ _).mono ?_
        rintro e wa ⟨rfl, rfl⟩
        go_wp2_with fail
        refine (awake22 _).mono ?_
        rintro e wb ⟨rfl, hcb⟩
        have HCB := Lib.hid hcb
        clear hcb
        go_wp2_with fail
        refine (next_none _ _).mono ?_
        rintro e wc ⟨rfl, rfl⟩
        go_wp2_with fail
        refine (left_none _).mono ?_
        rintro e wd ⟨rfl, rfl⟩
        go_wp2_with fail
        go_ret
        exact ⟨rfl, HFIN.out _ _ ((Chg.refl _ _).alloc _) HCB.out⟩

end Go.Proofs.Ytabeolmfgmbfaaa
