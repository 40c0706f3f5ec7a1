/- The reference's Same. -/
import Derived.Test.YtabeolmfgmbfaaaRefRead
namespace Go.Proofs.Ytabeolmfgmbfaaa
open Go.RowKit
set_option linter.unusedVariables false
set_option linter.unusedSimpArgs false

def sameB (p q : OpV) : Bool := decide (p.plain = q.plain)
theorem sameB_yes {p q : OpV} (h : p.plain = q.plain) : sameB p q = true := by simp [sameB, h]
theorem sameB_no {p q : OpV} (h : p.plain ≠ q.plain) : sameB p q = false := by simp [sameB, h]
theorem plain_eq (p : OpV) : p.plain = ([p.k, p.th, p.a, p.b, p.v, p.n, p.m], p.d) := rfl

set_option maxHeartbeats 2000000 in
set_option maxRecDepth 100000 in
theorem same_any (p q : OpV) (w : World) (hp : p.ok w) (hq : q.ok w) :
    Calls Try.prog 47 #[.agg p.cells, .agg q.cells] w fun e w' => e = .returned (.bool (sameB p q)) ∧ Chg Non w w' := by
  have hcp : ∀ w', Chg Non w w' → (convert 59 9 (.slice p.da p.dn p.dc)).run Try.prog w' = .ok (.string (strOfNums p.d)) w' := fun w' h => conv_str (hp.bys.chg h (fun _ _ h => h))
  have hcq : ∀ w', Chg Non w w' → (convert 59 9 (.slice q.da q.dn q.dc)).run Try.prog w' = .ok (.string (strOfNums q.d)) w' := fun w' h => conv_str (hq.bys.chg h (fun _ _ h => h))
  have hst := @str_inj p.d q.d hp.byte hq.byte
  have hcp1 := hcp ((w.alloc (.cells p.cells 61)).alloc (.cells q.cells 61)) (((Chg.refl _ _).alloc _).alloc _)
  have hcq1 := hcq ((w.alloc (.cells p.cells 61)).alloc (.cells q.cells 61)) (((Chg.refl _ _).alloc _).alloc _)
  clear hcp hcq hp hq
  obtain ⟨k, th, a, b, v, n, m, da, dn, dc, d⟩ := p
  obtain ⟨k', th', a', b', v', n', m', da', dn', dc', d'⟩ := q
  unfold OpV.cells at *
  simp only at hst hcp1 hcq1
  by_cases h0 : k = k'
  case' neg =>
    have HS : Hid (sameB ⟨k, th, a, b, v, n, m, da, dn, dc, d⟩ ⟨k', th', a', b', v', n', m', da', dn', dc', d'⟩ = false) := sameB_no (by rw [plain_eq, plain_eq]; intro h; simp only [Prod.mk.injEq, List.cons.injEq] at h; exact h0 (by simp only [h]))
    have hb0 : (k == k') = false := by simp [h0]
    clear hst
    go_enter Try.func47, Try.ntmps47
    go_wp2_with fail
    go_ret
    exact ⟨by rw [HS.out]; rfl, ((Chg.refl _ _).alloc _).alloc _⟩
  subst h0
  by_cases h1 : th = th'
  case' neg =>
    have HS : Hid (sameB ⟨k, th, a, b, v, n, m, da, dn, dc, d⟩ ⟨k, th', a', b', v', n', m', da', dn', dc', d'⟩ = false) := sameB_no (by rw [plain_eq, plain_eq]; intro h; simp only [Prod.mk.injEq, List.cons.injEq] at h; exact h1 (by simp only [h]))
    have hb1 : (th == th') = false := by simp [h1]
    clear hst
    go_enter Try.func47, Try.ntmps47
    go_wp2_with fail
    go_ret
    exact ⟨by rw [HS.out]; rfl, ((Chg.refl _ _).alloc _).alloc _⟩
  subst h1
  by_cases h2 : a = a'
  case' neg =>
    have HS : Hid (sameB ⟨k, th, a, b, v, n, m, da, dn, dc, d⟩ ⟨k, th, a', b', v', n', m', da', dn', dc', d'⟩ = false) := sameB_no (by rw [plain_eq, plain_eq]; intro h; simp only [Prod.mk.injEq, List.cons.injEq] at h; exact h2 (by simp only [h]))
    have hb2 : (a == a') = false := by simp [h2]
    clear hst
    go_enter Try.func47, Try.ntmps47
    go_wp2_with fail
    go_ret
    exact ⟨by rw [HS.out]; rfl, ((Chg.refl _ _).alloc _).alloc _⟩
  subst h2
  by_cases h3 : b = b'
  case' neg =>
    have HS : Hid (sameB ⟨k, th, a, b, v, n, m, da, dn, dc, d⟩ ⟨k, th, a, b', v', n', m', da', dn', dc', d'⟩ = false) := sameB_no (by rw [plain_eq, plain_eq]; intro h; simp only [Prod.mk.injEq, List.cons.injEq] at h; exact h3 (by simp only [h]))
    have hb3 : (b == b') = false := by simp [h3]
    clear hst
    go_enter Try.func47, Try.ntmps47
    go_wp2_with fail
    go_ret
    exact ⟨by rw [HS.out]; rfl, ((Chg.refl _ _).alloc _).alloc _⟩
  subst h3
  by_cases h4 : v = v'
  case' neg =>
    have HS : Hid (sameB ⟨k, th, a, b, v, n, m, da, dn, dc, d⟩ ⟨k, th, a, b, v', n', m', da', dn', dc', d'⟩ = false) := sameB_no (by rw [plain_eq, plain_eq]; intro h; simp only [Prod.mk.injEq, List.cons.injEq] at h; exact h4 (by simp only [h]))
    have hb4 : (v == v') = false := by simp [h4]
    clear hst
    go_enter Try.func47, Try.ntmps47
    go_wp2_with fail
    go_ret
    exact ⟨by rw [HS.out]; rfl, ((Chg.refl _ _).alloc _).alloc _⟩
  subst h4
  by_cases h5 : n = n'
  case' neg =>
    have HS : Hid (sameB ⟨k, th, a, b, v, n, m, da, dn, dc, d⟩ ⟨k, th, a, b, v, n', m', da', dn', dc', d'⟩ = false) := sameB_no (by rw [plain_eq, plain_eq]; intro h; simp only [Prod.mk.injEq, List.cons.injEq] at h; exact h5 (by simp only [h]))
    have hb5 : (n == n') = false := by simp [h5]
    clear hst
    go_enter Try.func47, Try.ntmps47
    go_wp2_with fail
    go_ret
    exact ⟨by rw [HS.out]; rfl, ((Chg.refl _ _).alloc _).alloc _⟩
  subst h5
  by_cases h6 : m = m'
  case' neg =>
    have HS : Hid (sameB ⟨k, th, a, b, v, n, m, da, dn, dc, d⟩ ⟨k, th, a, b, v, n, m', da', dn', dc', d'⟩ = false) := sameB_no (by rw [plain_eq, plain_eq]; intro h; simp only [Prod.mk.injEq, List.cons.injEq] at h; exact h6 (by simp only [h]))
    have hb6 : (m == m') = false := by simp [h6]
    clear hst
    go_enter Try.func47, Try.ntmps47
    go_wp2_with fail
    go_ret
    exact ⟨by rw [HS.out]; rfl, ((Chg.refl _ _).alloc _).alloc _⟩
  subst h6
  generalize hs : strOfNums d = s at *
  generalize hs' : strOfNums d' = s' at *
  by_cases hd : d = d'
  case' neg =>
    have HS : Hid (sameB ⟨k, th, a, b, v, n, m, da, dn, dc, d⟩ ⟨k, th, a, b, v, n, m, da', dn', dc', d'⟩ = false) := sameB_no (by rw [plain_eq, plain_eq]; intro h; simp at h; exact hd h)
    have hne : (s.toList == s'.toList) = false := by rw [ByteArray.toList_eq, ByteArray.toList_eq, beq_eq_false_iff_ne]; intro h; exact hd (hst.1 (Go.WideShapes.bytes_inj h))
    clear hst hs hs'
    go_enter Try.func47, Try.ntmps47
    go_wp2_with fail
    go_ret
    exact ⟨by rw [HS.out]; rfl, ((Chg.refl _ _).alloc _).alloc _⟩
  have HS : Hid (sameB ⟨k, th, a, b, v, n, m, da, dn, dc, d⟩ ⟨k, th, a, b, v, n, m, da', dn', dc', d'⟩ = true) := sameB_yes (by rw [plain_eq, plain_eq, hd])
  have hss : s = s' := hst.2 hd
  subst hss
  clear hst hs hs'
  go_enter Try.func47, Try.ntmps47
  go_wp2_with fail
  go_ret
  exact ⟨by rw [HS.out]; rfl, ((Chg.refl _ _).alloc _).alloc _⟩

end Go.Proofs.Ytabeolmfgmbfaaa
