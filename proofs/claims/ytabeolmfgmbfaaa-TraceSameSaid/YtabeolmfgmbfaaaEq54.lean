/- trace.Same, and the library's functions beneath it. -/
import Derived.Test.YtabeolmfgmbfaaaLaw54
import Derived.Deep.DrawnRows
namespace Go.Proofs.Ytabeolmfgmbfaaa
open Go.RowKit
set_option linter.unusedVariables false
set_option linter.unusedSimpArgs false

attribute [local go_sem ↓] Go.wp_at_zero Go.wp_at_succ
def EqB (k l : List Int) : Bool := decide (k = l)
theorem EqB_yes {k l : List Int} (h : k = l) : EqB k l = true := by simp [EqB, h]
theorem EqB_no {k l : List Int} (h : k ≠ l) : EqB k l = false := by simp [EqB, h]
theorem EqB_at {k l : List Int} {j : Nat} (hj : j < k.length) (hl : j < l.length) (h : k.getD j 0 ≠ l.getD j 0) : EqB k l = false := EqB_no (fun e => h (by rw [e]))
theorem EqB_all {k l : List Int} (hl : k.length = l.length) (h : ∀ j, j < k.length → k.getD j 0 = l.getD j 0) : EqB k l = true := EqB_yes (List.ext_getElem hl (fun j h1 h2 => by
  have := h j h1
  simpa [List.getD_eq_getElem?_getD, h1, h2] using this))

set_option maxHeartbeats 1000000 in
set_option maxRecDepth 100000 in
theorem equal_bytes (a b : Option Addr) (n m c d : Nat) (k l : List Int) (w : World) (hk : Bys w a n k) (hl : Bys w b m l) (hn : n ≤ 140737488355328) (hm : m ≤ 140737488355328) :
    Calls Try.prog 76 #[.slice a n c, .slice b m d] w fun e w' => e = .returned (.bool (EqB k l)) ∧ Chg Non w w' := by
  have hkl := hk.1
  have hll := hl.1
  by_cases hnm : n = m
  · subst hnm
    have HK := Lib.hid hk
    have HL := Lib.hid hl
    have HKL := Lib.hid hkl
    have HLL := Lib.hid hll
    clear hk hl hkl hll
    go_enter Try.func76, Try.ntmps76
    go_wp2_with fail
    go_loopw [13] (fun i wr => ∃ j : Nat, i = .int .i64 j ∧ j ≤ n ∧ Hid (∀ i, i < j → k.getD i 0 = l.getD i 0) ∧ Hid (Chg Non w wr)) (fun i _ => n - (intOf i).toNat)
    case atStart => exact ⟨0, rfl, by omega, fun i hi => by omega, Chg.refl _ _⟩
    case round =>
      obtain ⟨j, rfl, hj, HS, HC⟩ := hrel
      by_cases hlt : j < n
      · obtain ⟨x, o, rfl, z⟩ := (HK.out.chg HC.out (fun _ _ h => h)).at hlt
        obtain ⟨y, o2, rfl, z2⟩ := (HL.out.chg HC.out (fun _ _ h => h)).at hlt
        by_cases he : k.getD j 0 = l.getD j 0
        · have HS2 : Hid (∀ i, i < j + 1 → k.getD i 0 = l.getD i 0) := fun i hi => by
            by_cases e : i = j
            · subst e; exact he
            · exact HS.out i (by omega)
          rw [← he] at z2
          clear he HS
          generalize k.getD j 0 = u at *
          go_wp2_with fail
          go_quiet (fail)
          all_goals
            go_wp2_with fail
            go_roundw
            case rel => exact ⟨j + 1, by go_num, by omega, HS2, HC.out.drewN _⟩
            case measure => simp [intOf]; omega
        · have HE : Hid (EqB k l = false) := EqB_at (by have := HKL.out; omega) (by have := HLL.out; omega) he
          have h1 : (k.getD j 0 != l.getD j 0) = true := by simpa using he
          have h2 : (k.getD j 0 == l.getD j 0) = false := by simpa using he
          clear he HS
          generalize k.getD j 0 = u at *
          generalize l.getD j 0 = v at *
          go_wp2_with fail
          go_quiet (fail)
          all_goals
            go_wp2_with fail
            go_ret
            exact ⟨by rw [HE.out]; rfl, HC.out.drewN _⟩
      · obtain rfl : j = n := by omega
        have HE : Hid (EqB k l = true) := EqB_all (HKL.out.trans HLL.out.symm) (fun i hi => HS.out i (by rw [HKL.out] at hi; exact hi))
        go_wp2_with fail
        go_ret
        exact ⟨by rw [HE.out]; rfl, HC.out⟩
  · have HE : Hid (EqB k l = false) := EqB_no (fun e => hnm (by rw [← hkl, ← hll, e]))
    have h1 : ((n : Int) != m) = true := by simp; omega
    have h2 : ((n : Int) == m) = false := by simp; omega
    clear hk hl hkl hll
    go_enter Try.func76, Try.ntmps76
    go_wp2_with fail
    go_ret
    exact ⟨by rw [HE.out]; rfl, Chg.refl _ _⟩

/-- The bytes of two things are alike, just if they are. -/
theorem bytes_eq_plain {w : World} {p q : OpV} (hp : p.ok w) (hq : q.ok w) : EqB p.bytes q.bytes = sameB p q := by
  by_cases h : p.plain = q.plain
  · rw [sameB_yes h, bytes_plain hp, bytes_plain hq, h]
    exact EqB_yes rfl
  · rw [sameB_no h]
    refine EqB_no (fun e => h ?_)
    have h1 := takeK_write p.nums p.d hp.nums
    have h2 := takeK_write q.nums q.d hq.nums
    have e' : p.nums.flatMap numOf ++ p.d = q.nums.flatMap numOf ++ q.d := e
    have hl1 : p.nums.length = 8 := rfl
    have hl2 : q.nums.length = 8 := rfl
    rw [hl1, e'] at h1
    rw [hl2] at h2
    rw [h1] at h2
    simp only [Option.some.injEq, Prod.mk.injEq] at h2
    show (p.nums.take 7, p.d) = (q.nums.take 7, q.d)
    rw [h2.1, h2.2]

set_option maxHeartbeats 6000000 in
set_option maxRecDepth 100000 in
theorem same1_any (p q : OpV) (w : World) (hp : p.ok w) (hq : q.ok w) :
    Calls Try.prog 75 #[.agg p.cells, .agg q.cells] w fun e w' => e = .returned (.bool (sameB p q)) ∧ Chg Non w w' := by
  have HBP := Lib.hid (bytes_eq_plain hp hq)
  have hlp : p.bytes.length ≤ 80 + p.dn := by
    have := flat_length p.nums
    have h8 : p.nums.length = 8 := rfl
    have := hp.bys.1
    simp only [OpV.bytes, List.length_append]
    omega
  have hlq : q.bytes.length ≤ 80 + q.dn := by
    have := flat_length q.nums
    have h8 : q.nums.length = 8 := rfl
    have := hq.bys.1
    simp only [OpV.bytes, List.length_append]
    omega
  have hfp := hp.few
  have hfq := hq.few
  have HC0 : Hid (Chg Non w ((w.alloc (.cells p.cells 61)).alloc (.cells q.cells 61))) := ((Chg.refl _ _).alloc _).alloc _
  have HP0 : Hid (Blk ((w.alloc (.cells p.cells 61)).alloc (.cells q.cells 61)) w.heap.size p.cells 61) := (Blk.new _ _ _).alloc _
  have HQ0 : Hid (Blk ((w.alloc (.cells p.cells 61)).alloc (.cells q.cells 61)) (w.heap.size + 1) q.cells 61) := Blk.newAt _ _ _ (by simp)
  have HPG : Hid (∀ wz, Chg Non w wz → p.ok wz) := fun wz h => hp.chg h (fun _ _ h => h)
  have HQG : Hid (∀ wz, Chg Non w wz → q.ok wz) := fun wz h => hq.chg h (fun _ _ h => h)
  clear hp hq
  go_enter Try.func75, Try.ntmps75
  go_wp2_with fail
  have HK0 : Hid (∀ wz, Chg Non ((w.alloc (.cells p.cells 61)).alloc (.cells q.cells 61)) wz → Blk wz w.heap.size p.cells 61 ∧ Blk wz (w.heap.size + 1) q.cells 61 ∧ Chg Non w wz) := fun wz h => ⟨HP0.out.chg h (fun h => h), HQ0.out.chg h (fun h => h), HC0.out.tr h⟩
  clear HC0 HP0 HQ0
  generalize (w.alloc (.cells p.cells 61)).alloc (.cells q.cells 61) = wa at *
  have hw0 := HK0.out wa.drew (Chg.refl Non wa).drew
  have z0 := hw0.1.cell 0; have z1 := hw0.1.cell 1; have z2 := hw0.1.cell 2; have z3 := hw0.1.cell 3; have z4 := hw0.1.cell 4; have z5 := hw0.1.cell 5; have z6 := hw0.1.cell 6; have z7 := hw0.1.cell 7
  have y0 := hw0.2.1.cell 0; have y1 := hw0.2.1.cell 1; have y2 := hw0.2.1.cell 2; have y3 := hw0.2.1.cell 3; have y4 := hw0.2.1.cell 4; have y5 := hw0.2.1.cell 5; have y6 := hw0.2.1.cell 6; have y7 := hw0.2.1.cell 7
  simp [OpV.cells] at z0 z1 z2 z3 z4 z5 z6 z7 y0 y1 y2 y3 y4 y5 y6 y7
  have hop : ∀ wz, Chg Non wa wz → Calls Try.prog 44 #[.agg p.cells] wz (BytesPost wz 0 [] none p.bytes) := fun wz h => one_bytes p wz (HPG.out _ (HK0.out _ h).2.2)
  have hoq : ∀ wz, Chg Non wa wz → Calls Try.prog 44 #[.agg q.cells] wz (BytesPost wz 0 [] none q.bytes) := fun wz h => one_bytes q wz (HQG.out _ (HK0.out _ h).2.2)
  have HCX : Hid (Chg Non wa wa.drew) := (Chg.refl Non wa).drew
  unfold OpV.cells at hop hoq
  have HOP := Lib.hid hop
  have HOQ := Lib.hid hoq
  clear hw0 hop hoq
  go_region_held3 (fun w' => w'.cell? ⟨w.heap.size, 0, none⟩ = some (.int .i64 p.k) ∧ w'.cell? ⟨w.heap.size, 1, none⟩ = some (.int .i64 p.th) ∧ w'.cell? ⟨w.heap.size, 2, none⟩ = some (.int .i64 p.a) ∧ w'.cell? ⟨w.heap.size, 3, none⟩ = some (.int .i64 p.b) ∧ w'.cell? ⟨w.heap.size, 4, none⟩ = some (.int .i64 p.v) ∧ w'.cell? ⟨w.heap.size, 5, none⟩ = some (.int .i64 p.n) ∧ w'.cell? ⟨w.heap.size, 6, none⟩ = some (.int .i64 p.m) ∧ w'.cell? ⟨w.heap.size, 7, none⟩ = some (.slice p.da p.dn p.dc) ∧ w'.cell? ⟨w.heap.size + 1, 0, none⟩ = some (.int .i64 q.k) ∧ w'.cell? ⟨w.heap.size + 1, 1, none⟩ = some (.int .i64 q.th) ∧ w'.cell? ⟨w.heap.size + 1, 2, none⟩ = some (.int .i64 q.a) ∧ w'.cell? ⟨w.heap.size + 1, 3, none⟩ = some (.int .i64 q.b) ∧ w'.cell? ⟨w.heap.size + 1, 4, none⟩ = some (.int .i64 q.v) ∧ w'.cell? ⟨w.heap.size + 1, 5, none⟩ = some (.int .i64 q.n) ∧ w'.cell? ⟨w.heap.size + 1, 6, none⟩ = some (.int .i64 q.m) ∧ w'.cell? ⟨w.heap.size + 1, 7, none⟩ = some (.slice q.da q.dn q.dc)) (go_keep) (first
    | (go_at_call 44; (with_reducible refine (HOP.out _ HCX.out).mono ?_); rintro e w3 ⟨a3, c3, g3, rfl, ho, hg, hc3⟩; (simp only [Nat.zero_add, List.nil_append] at ho); (simp only [Nat.zero_add]); have hc4 := HCX.out.tr (hc3.mono (G := Non) (fun _ _ h => by cases h)); clear HCX z0 z1 z2 z3 z4 z5 z6 z7 y0 y1 y2 y3 y4 y5 y6 y7; have HCX := Lib.hid hc4; have HYP := Lib.hid (bys_own rfl ho); have z0 := (HK0.out _ HCX.out).1.cell 0; have z1 := (HK0.out _ HCX.out).1.cell 1; have z2 := (HK0.out _ HCX.out).1.cell 2; have z3 := (HK0.out _ HCX.out).1.cell 3; have z4 := (HK0.out _ HCX.out).1.cell 4; have z5 := (HK0.out _ HCX.out).1.cell 5; have z6 := (HK0.out _ HCX.out).1.cell 6; have z7 := (HK0.out _ HCX.out).1.cell 7; simp [OpV.cells] at z0 z1 z2 z3 z4 z5 z6 z7; have y0 := (HK0.out _ HCX.out).2.1.cell 0; have y1 := (HK0.out _ HCX.out).2.1.cell 1; have y2 := (HK0.out _ HCX.out).2.1.cell 2; have y3 := (HK0.out _ HCX.out).2.1.cell 3; have y4 := (HK0.out _ HCX.out).2.1.cell 4; have y5 := (HK0.out _ HCX.out).2.1.cell 5; have y6 := (HK0.out _ HCX.out).2.1.cell 6; have y7 := (HK0.out _ HCX.out).2.1.cell 7; simp [OpV.cells] at y0 y1 y2 y3 y4 y5 y6 y7; clear ho hg hc3 hc4)
    | (go_at_call 44; (with_reducible refine (HOQ.out _ HCX.out).mono ?_); rintro e w4 ⟨a4, c4, g4, rfl, ho, hg, hc3⟩; (simp only [Nat.zero_add, List.nil_append] at ho); (simp only [Nat.zero_add]); have HYP2 := Lib.hid (HYP.out.chg (hc3.mono (G := Non) (fun _ _ h => by cases h)) (fun _ _ h => h)); have HYQ := Lib.hid (bys_own rfl ho); have hc4 := HCX.out.tr (hc3.mono (G := Non) (fun _ _ h => by cases h)); have HCY := Lib.hid hc4; clear z0 z1 z2 z3 z4 z5 z6 z7 y0 y1 y2 y3 y4 y5 y6 y7; have z0 := (HK0.out _ HCY.out).1.cell 0; have z1 := (HK0.out _ HCY.out).1.cell 1; have z2 := (HK0.out _ HCY.out).1.cell 2; have z3 := (HK0.out _ HCY.out).1.cell 3; have z4 := (HK0.out _ HCY.out).1.cell 4; have z5 := (HK0.out _ HCY.out).1.cell 5; have z6 := (HK0.out _ HCY.out).1.cell 6; have z7 := (HK0.out _ HCY.out).1.cell 7; simp [OpV.cells] at z0 z1 z2 z3 z4 z5 z6 z7; have y0 := (HK0.out _ HCY.out).2.1.cell 0; have y1 := (HK0.out _ HCY.out).2.1.cell 1; have y2 := (HK0.out _ HCY.out).2.1.cell 2; have y3 := (HK0.out _ HCY.out).2.1.cell 3; have y4 := (HK0.out _ HCY.out).2.1.cell 4; have y5 := (HK0.out _ HCY.out).2.1.cell 5; have y6 := (HK0.out _ HCY.out).2.1.cell 6; have y7 := (HK0.out _ HCY.out).2.1.cell 7; simp [OpV.cells] at y0 y1 y2 y3 y4 y5 y6 y7; clear ho hg hc3 hc4)
    | (go_at_call 76; refine (equal_bytes _ _ _ _ _ _ p.bytes q.bytes _ HYP2.out HYQ.out (by omega) (by omega)).mono ?_; rintro e w5 ⟨rfl, hc5⟩; rw [HBP.out]; have HCZ := Lib.hid (HCY.out.tr hc5); clear z0 z1 z2 z3 z4 z5 z6 z7 y0 y1 y2 y3 y4 y5 y6 y7; have z0 := (HK0.out _ HCZ.out).1.cell 0; have z1 := (HK0.out _ HCZ.out).1.cell 1; have z2 := (HK0.out _ HCZ.out).1.cell 2; have z3 := (HK0.out _ HCZ.out).1.cell 3; have z4 := (HK0.out _ HCZ.out).1.cell 4; have z5 := (HK0.out _ HCZ.out).1.cell 5; have z6 := (HK0.out _ HCZ.out).1.cell 6; have z7 := (HK0.out _ HCZ.out).1.cell 7; simp [OpV.cells] at z0 z1 z2 z3 z4 z5 z6 z7; have y0 := (HK0.out _ HCZ.out).2.1.cell 0; have y1 := (HK0.out _ HCZ.out).2.1.cell 1; have y2 := (HK0.out _ HCZ.out).2.1.cell 2; have y3 := (HK0.out _ HCZ.out).2.1.cell 3; have y4 := (HK0.out _ HCZ.out).2.1.cell 4; have y5 := (HK0.out _ HCZ.out).2.1.cell 5; have y6 := (HK0.out _ HCZ.out).2.1.cell 6; have y7 := (HK0.out _ HCZ.out).2.1.cell 7; simp [OpV.cells] at y0 y1 y2 y3 y4 y5 y6 y7; clear hc5))
  all_goals
    go_wp2_with fail
    go_ret
    exact ⟨rfl, (HK0.out _ HCZ.out).2.2⟩

def eqOps (vs us : List OpV) : Bool := decide (vs.map OpV.plain = us.map OpV.plain)
theorem eqOps_yes {vs us : List OpV} (h : vs.map OpV.plain = us.map OpV.plain) : eqOps vs us = true := by simp [eqOps, h]
theorem eqOps_no {vs us : List OpV} (h : vs.map OpV.plain ≠ us.map OpV.plain) : eqOps vs us = false := by simp [eqOps, h]

set_option maxHeartbeats 6000000 in
set_option maxRecDepth 100000 in
theorem equalFunc_any (a b : Option Addr) (n m c d : Nat) (vs us : List OpV) (w : World) (hv : Opl w a n vs) (hu : Opl w b m us) (hn : n ≤ 1759218604390) (hm : m ≤ 1759218604390) :
    Calls Try.prog 74 #[.slice a n c, .slice b m d, .func (.func 75) #[] #[]] w fun e w' => e = .returned (.bool (eqOps vs us)) ∧ Chg Non w w' := by
  have hvl := hv.len
  have hul := hu.len
  by_cases hnm : n = m
  · subst hnm
    have HV := Lib.hid hv
    have HU := Lib.hid hu
    have HVL := Lib.hid hvl
    have HUL := Lib.hid hul
    clear hv hu hvl hul
    go_enter Try.func74, Try.ntmps74
    go_wp2_with fail
    go_loopw [17] (fun i wr => ∃ j : Nat, i = .int .i64 j ∧ j ≤ n ∧ Hid (∀ i, i < j → (vs.map OpV.plain)[i]? = (us.map OpV.plain)[i]?) ∧ Hid (Chg Non w wr)) (fun i _ => n - (intOf i).toNat)
    case atStart => exact ⟨0, rfl, by omega, fun i hi => by omega, Chg.refl _ _⟩
    case round =>
      obtain ⟨j, rfl, hj, HS, HC⟩ := hrel
      by_cases hlt : j < n
      · obtain ⟨p, b1, off1, hp, hpok, rfl, z0, z1, z2, z3, z4, z5, z6, z7⟩ := (HV.out.chg HC.out (fun _ _ h => h)).at hlt
        obtain ⟨q, b2, off2, hq, hqok, rfl, y0, y1, y2, y3, y4, y5, y6, y7⟩ := (HU.out.chg HC.out (fun _ _ h => h)).at hlt
        have HSP : Hid (∀ wz, Chg Non wr wz → Calls Try.prog 75 #[.agg p.cells, .agg q.cells] wz fun e w' => e = .returned (.bool (sameB p q)) ∧ Chg Non wz w') := fun wz h => same1_any p q wz (hpok.chg h (fun _ _ h => h)) (hqok.chg h (fun _ _ h => h))
        have hb2 : b2 < wr.heap.size := World.block_lt_of_cell? wr _ y0
        have hb1 : b1 < wr.heap.size := World.block_lt_of_cell? wr _ z0
        have hpm : (vs.map OpV.plain)[j]? = some p.plain := by rw [List.getElem?_map, hp]; rfl
        have hqm : (us.map OpV.plain)[j]? = some q.plain := by rw [List.getElem?_map, hq]; rfl
        by_cases he : p.plain = q.plain
        · have HS2 : Hid (∀ i, i < j + 1 → (vs.map OpV.plain)[i]? = (us.map OpV.plain)[i]?) := fun i hi => by
            by_cases e : i = j
            · subst e; rw [hpm, hqm, he]
            · exact HS.out i (by omega)
          rw [sameB_yes he] at HSP
          clear he HS hpm hqm hp hq hpok hqok
          go_wp2_with fail
          refine (HSP.out _ (((Chg.refl Non wr).alloc _).alloc _)).mono ?_
          rintro e w3 ⟨rfl, hc3⟩
          have HC3 := Lib.hid (HC.out.tr ((((Chg.refl Non wr).alloc _).alloc _).tr hc3))
          clear hc3
          go_wp2_with fail
          go_roundw
          case rel => exact ⟨j + 1, by go_num, by omega, HS2, HC3.out⟩
          case measure => simp [intOf]; omega
        · have HE : Hid (eqOps vs us = false) := eqOps_no (fun e => he (by
            have h := congrArg (fun x => x[j]?) e
            simp only [hpm, hqm, Option.some.injEq] at h
            exact h))
          rw [sameB_no he] at HSP
          clear he HS hpm hqm hp hq hpok hqok
          go_wp2_with fail
          refine (HSP.out _ (((Chg.refl Non wr).alloc _).alloc _)).mono ?_
          rintro e w3 ⟨rfl, hc3⟩
          have HC3 := Lib.hid (HC.out.tr ((((Chg.refl Non wr).alloc _).alloc _).tr hc3))
          clear hc3
          go_wp2_with fail
          go_ret
          exact ⟨by rw [HE.out]; rfl, HC3.out⟩
      · obtain rfl : j = n := by omega
        have HE : Hid (eqOps vs us = true) := eqOps_yes (by
          refine List.ext_getElem? (fun i => ?_)
          by_cases hi : i < j
          · exact HS.out i hi
          · rw [List.getElem?_eq_none (by rw [List.length_map, HVL.out]; omega), List.getElem?_eq_none (by rw [List.length_map, HUL.out]; omega)])
        go_wp2_with fail
        go_ret
        exact ⟨by rw [HE.out]; rfl, HC.out⟩
  · have HE : Hid (eqOps vs us = false) := eqOps_no (fun e => hnm (by
      have := congrArg List.length e
      simpa [hvl, hul] using this))
    have h1 : ((n : Int) != m) = true := by simp; omega
    have h2 : ((n : Int) == m) = false := by simp; omega
    clear hv hu hvl hul
    go_enter Try.func74, Try.ntmps74
    go_wp2_with fail
    go_ret
    exact ⟨by rw [HE.out]; rfl, Chg.refl _ _⟩

set_option maxHeartbeats 6000000 in
theorem sameOps_any (a b : Option Addr) (n m c d : Nat) (vs us : List OpV) (w : World) (hv : Opl w a n vs) (hu : Opl w b m us) (hn : n ≤ 1759218604390) (hm : m ≤ 1759218604390) :
    Calls Try.prog 57 #[.slice a n c, .slice b m d] w fun e w' => e = .returned (.bool (eqOps vs us)) ∧ Chg Non w w' := by
  have HX := Lib.hid (equalFunc_any a b n m c d vs us w hv hu hn hm)
  clear hv hu
  go_enter Try.func57, Try.ntmps57
  go_wp2_with fail
  refine HX.out.mono ?_
  rintro e w1 ⟨rfl, hc⟩
  have HC := Lib.hid hc
  clear hc
  go_wp2_with fail
  go_ret
  exact ⟨rfl, HC.out⟩

end Go.Proofs.Ytabeolmfgmbfaaa
