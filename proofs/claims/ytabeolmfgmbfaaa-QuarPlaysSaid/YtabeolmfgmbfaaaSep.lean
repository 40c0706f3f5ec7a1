/- Assertions with a footprint (As), lists of them whose footprints are apart (sep), and what a call has done to one (Upd). They hold of every program and world; no condition beyond those that each lemma names. -/
import Derived.Test.YtabeolmfgmbfaaaBase
namespace Go.Proofs.Ytabeolmfgmbfaaa
open Go.RowKit
set_option linter.unusedVariables false
set_option linter.unusedSimpArgs false

/-- An assertion on a world, that holds by the blocks F alone. -/
structure As where mk ::
  on : World → (Nat → Prop) → Prop
  lt : ∀ {w : World} {F : Nat → Prop}, on w F → ∀ k, F k → k < w.heap.size
  chg : ∀ {w w' : World} {F G : Nat → Prop}, on w F → Chg G w w' → (∀ k, F k → ¬ G k) → on w' F

/-- What had the blocks F has the blocks F' now: no others have turned; what was got is new. -/
structure Upd (w w' : World) (F F' : Nat → Prop) : Prop where mk ::
  chg : Chg F w w'
  new : ∀ k, F' k → F k ∨ w.heap.size ≤ k

theorem Upd.refl (w : World) (F : Nat → Prop) : Upd w w F F := ⟨Chg.refl _ _, fun _ h => .inl h⟩
theorem Upd.trans {w w1 w2 : World} {F F1 F2 : Nat → Prop} (h : Upd w w1 F F1) (k : Upd w1 w2 F1 F2) : Upd w w2 F F2 :=
  ⟨h.chg.trans k.chg (fun _ _ h => h) (fun i hi hf => by rcases h.new i hf with h | h; exact h; omega),
   fun i hi => by
     rcases k.new i hi with e | e
     · exact h.new i e
     · exact .inr (Nat.le_trans h.chg.size e)⟩
theorem Upd.of {w w' : World} {F : Nat → Prop} (h : Chg F w w') : Upd w w' F F := ⟨h, fun _ h => .inl h⟩
theorem Upd.chgNon {w w1 w2 : World} {F F1 : Nat → Prop} (h : Upd w w1 F F1) (k : Chg Non w1 w2) : Upd w w2 F F1 :=
  h.trans ⟨k.mono (fun _ _ h => h.elim), fun _ h => .inl h⟩
theorem Upd.less {w w1 : World} {F F1 F2 : Nat → Prop} (h : Upd w w1 F F1) (k : ∀ i, F2 i → F1 i) : Upd w w1 F F2 := ⟨h.chg, fun i hi => h.new i (k i hi)⟩
theorem Upd.pre {w w1 w2 : World} {F F1 : Nat → Prop} (k : Chg Non w w1) (h : Upd w1 w2 F F1) : Upd w w2 F F1 :=
  Upd.trans ⟨k.mono (fun _ _ h => h.elim), fun _ h => .inl h⟩ h

theorem As.non (A : As) {w w' : World} {F : Nat → Prop} (h : A.on w F) (k : Chg Non w w') : A.on w' F := A.chg h k (fun _ _ h => h)

/-! ### Lists of assertions -/

def Sep : List As → World → (Nat → Prop) → Prop
  | [], _, F => ∀ k, ¬ F k
  | A :: l, w, F => ∃ G H : Nat → Prop, A.on w G ∧ Sep l w H ∧ (∀ k, F k ↔ G k ∨ H k) ∧ ∀ k, G k → ¬ H k

theorem Sep.lt : ∀ {l : List As} {w : World} {F : Nat → Prop}, Sep l w F → ∀ k, F k → k < w.heap.size
  | [], _, _, h, k, hk => (h k hk).elim
  | A :: l, w, F, ⟨G, H, a, b, e, _⟩, k, hk => by
    rcases (e k).1 hk with h | h
    · exact A.lt a k h
    · exact Sep.lt b k h
theorem Sep.chg : ∀ {l : List As} {w w' : World} {F X : Nat → Prop}, Sep l w F → Chg X w w' → (∀ k, F k → ¬ X k) → Sep l w' F
  | [], _, _, _, _, h, _, _ => h
  | A :: l, w, w', F, X, ⟨G, H, a, b, e, d⟩, c, hX =>
    ⟨G, H, A.chg a c (fun k hk => hX k ((e k).2 (.inl hk))), Sep.chg b c (fun k hk => hX k ((e k).2 (.inr hk))), e, d⟩
theorem Sep.non {l : List As} {w w' : World} {F : Nat → Prop} (h : Sep l w F) (k : Chg Non w w') : Sep l w' F := h.chg k (fun _ _ h => h)

/-- A list of assertions, as one. -/
def sep (l : List As) : As := ⟨Sep l, Sep.lt, Sep.chg⟩
theorem sep_on {l : List As} {w : World} {F : Nat → Prop} : (sep l).on w F ↔ Sep l w F := Iff.rfl

theorem Sep.congr : ∀ {l : List As} {w : World} {F F' : Nat → Prop}, Sep l w F → (∀ k, F' k ↔ F k) → Sep l w F'
  | [], _, _, _, h, e => fun k hk => h k ((e k).1 hk)
  | _ :: _, _, _, _, ⟨G, H, a, b, e, d⟩, e' => ⟨G, H, a, b, fun k => (e' k).trans (e k), d⟩

theorem Sep.one {A : As} {w : World} {F : Nat → Prop} (h : A.on w F) : Sep [A] w F :=
  ⟨F, fun _ => False, h, fun _ h => h, fun k => ⟨.inl, fun h => h.elim id False.elim⟩, fun _ _ h => h⟩
theorem Sep.head {A : As} {l : List As} {w : World} {F : Nat → Prop} (h : Sep (A :: l) w F) : ∃ G, A.on w G ∧ ∀ k, G k → F k := by
  obtain ⟨G, H, a, b, e, d⟩ := h
  exact ⟨G, a, fun k hk => (e k).2 (.inl hk)⟩
theorem Sep.tail {A : As} {l : List As} {w : World} {F : Nat → Prop} (h : Sep (A :: l) w F) : ∃ G, Sep l w G ∧ ∀ k, G k → F k := by
  obtain ⟨G, H, a, b, e, d⟩ := h
  exact ⟨H, b, fun k hk => (e k).2 (.inr hk)⟩

theorem Sep.swap {A B : As} {l : List As} {w : World} {F : Nat → Prop} (h : Sep (A :: B :: l) w F) : Sep (B :: A :: l) w F := by
  obtain ⟨G, H, a, ⟨G2, H2, b, r, e2, d2⟩, e, d⟩ := h
  refine ⟨G2, fun k => G k ∨ H2 k, b, ⟨G, H2, a, r, fun k => Iff.rfl, fun k hk h2 => d k hk ((e2 k).2 (.inr h2))⟩, fun k => ?_, fun k hk h => ?_⟩
  · rw [e k, e2 k]
    exact ⟨fun h => by rcases h with h | h | h; exact .inr (.inl h); exact .inl h; exact .inr (.inr h), fun h => by rcases h with h | h | h; exact .inr (.inl h); exact .inl h; exact .inr (.inr h)⟩
  · rcases h with h | h
    · exact d k h ((e2 k).2 (.inl hk))
    · exact d2 k hk h
theorem Sep.cons {A : As} {l l' : List As} {w w' : World} {F : Nat → Prop} (h : Sep (A :: l) w F) (f : ∀ H, Sep l w H → Sep l' w H) : Sep (A :: l') w F := by
  obtain ⟨G, H, a, b, e, d⟩ := h
  exact ⟨G, H, a, f H b, e, d⟩
theorem Sep.perm {l l' : List As} (p : l.Perm l') : ∀ {w : World} {F : Nat → Prop}, Sep l w F → Sep l' w F := by
  induction p with
  | nil => intro w F h; exact h
  | cons x _ ih => intro w F ⟨G, H, a, b, e, d⟩; exact ⟨G, H, a, ih b, e, d⟩
  | swap x y l => intro w F h; exact h.swap
  | trans _ _ ih1 ih2 => intro w F h; exact ih2 (ih1 h)

/-- Number i to the front. -/
theorem bring_perm : ∀ {l : List As} (i : Nat) {A : As}, l[i]? = some A → l.Perm (A :: l.eraseIdx i)
  | [], i, A, h => by simp at h
  | B :: l, 0, A, h => by simp at h; subst h; exact List.Perm.refl _
  | B :: l, i + 1, A, h => by
    simp only [List.getElem?_cons_succ] at h
    simp only [List.eraseIdx_cons_succ]
    exact ((bring_perm i h).cons B).trans (List.Perm.swap ..)
theorem Sep.bring {l : List As} {w : World} {F : Nat → Prop} (h : Sep l w F) (i : Nat) {A : As} (hi : l[i]? = some A) : Sep (A :: l.eraseIdx i) w F := h.perm (bring_perm i hi)

/-- The first ones, taken out: whatever is done to them, the others stay. -/
theorem Sep.frame : ∀ {l r : List As} {w : World} {F : Nat → Prop}, Sep (l ++ r) w F → ∃ G, Sep l w G ∧ (∀ k, G k → F k) ∧ ∀ {w' : World} {l' : List As} {G' : Nat → Prop}, Sep l' w' G' → Upd w w' G G' → ∃ F', Sep (l' ++ r) w' F' ∧ Upd w w' F F' := by
  have split : ∀ {l r : List As} {w : World} {F : Nat → Prop}, Sep (l ++ r) w F → ∃ G H, Sep l w G ∧ Sep r w H ∧ (∀ k, F k ↔ G k ∨ H k) ∧ ∀ k, G k → ¬ H k := by
    intro l
    induction l with
    | nil => intro r w F h; exact ⟨fun _ => False, F, fun _ h => h, h, fun k => ⟨.inr, fun h => h.elim False.elim id⟩, fun _ h => h.elim⟩
    | cons A l ih =>
      intro r w F ⟨G, H, a, b, e, d⟩
      obtain ⟨G1, H1, b1, b2, e1, d1⟩ := ih b
      refine ⟨fun k => G k ∨ G1 k, H1, ⟨G, G1, a, b1, fun k => Iff.rfl, fun k hk h => d k hk ((e1 k).2 (.inl h))⟩, b2, fun k => ?_, fun k hk h => ?_⟩
      · rw [e k, e1 k, or_assoc]
      · rcases hk with hk | hk
        · exact d k hk ((e1 k).2 (.inr h))
        · exact d1 k hk h
  have join : ∀ {l r : List As} {w : World} {G H F : Nat → Prop}, Sep l w G → Sep r w H → (∀ k, F k ↔ G k ∨ H k) → (∀ k, G k → ¬ H k) → Sep (l ++ r) w F := by
    intro l
    induction l with
    | nil => intro r w G H F a b e d; exact b.congr (fun k => by rw [e k]; exact ⟨fun h => h.elim (fun h => (a k h).elim) id, .inr⟩)
    | cons A l ih =>
      intro r w G H F ⟨G1, H1, a, b, e1, d1⟩ c e d
      refine ⟨G1, fun k => H1 k ∨ H k, a, ih b c (fun k => Iff.rfl) (fun k hk h => d k ((e1 k).2 (.inr hk)) h), fun k => ?_, fun k hk h => ?_⟩
      · rw [e k, e1 k, or_assoc]
      · rcases h with h | h
        · exact d1 k hk h
        · exact d k ((e1 k).2 (.inl hk)) h
  intro l r w F h
  obtain ⟨G, H, a, b, e, d⟩ := split h
  refine ⟨G, a, fun k hk => (e k).2 (.inl hk), fun {w' l' G'} a' u => ?_⟩
  have hb : Sep r w' H := b.chg u.chg (fun k hk hg => d k hg hk)
  have hd : ∀ k, G' k → ¬ H k := fun k hk hh => by
    rcases u.new k hk with hg | hg
    · exact d k hg hh
    · have := Sep.lt b k hh; omega
  refine ⟨fun k => G' k ∨ H k, join a' hb (fun k => Iff.rfl) hd, u.chg.mono (fun k _ hk => (e k).2 (.inl hk)), fun k hk => ?_⟩
  rcases hk with hk | hk
  · rcases u.new k hk with hg | hg
    · exact .inl ((e k).2 (.inl hg))
    · exact .inr hg
  · exact .inl ((e k).2 (.inr hk))
/-- The first one. -/
theorem Sep.focus {A : As} {r : List As} {w : World} {F : Nat → Prop} (h : Sep (A :: r) w F) : ∃ G, A.on w G ∧ (∀ k, G k → F k) ∧ ∀ {w' : World} {A' : As} {G' : Nat → Prop}, A'.on w' G' → Upd w w' G G' → ∃ F', Sep (A' :: r) w' F' ∧ Upd w w' F F' := by
  obtain ⟨G, a, hG, k⟩ := Sep.frame (l := [A]) h
  obtain ⟨G2, H2, a2, b2, e2, d2⟩ := a
  have hh : ∀ i, G i ↔ G2 i := fun i => by rw [e2 i]; exact ⟨fun h => h.elim id (fun h => (b2 i h).elim), .inl⟩
  refine ⟨G2, a2, fun i hi => hG i ((hh i).2 hi), fun {w' A' G'} a' u => ?_⟩
  exact k (l' := [A']) (Sep.one a') ⟨u.chg.mono (fun i _ hi => (hh i).2 hi), fun i hi => by rw [hh i]; exact u.new i hi⟩

/-- A new one, of new blocks, in front. -/
theorem Sep.push {A : As} {l : List As} {w w' : World} {F G : Nat → Prop} (h : Sep l w F) (c : Chg Non w w') (a : A.on w' G) (n : ∀ k, G k → w.heap.size ≤ k) : ∃ F', Sep (A :: l) w' F' ∧ Upd w w' F F' :=
  ⟨fun k => G k ∨ F k, ⟨G, F, a, h.non c, fun k => Iff.rfl, fun k hk hf => by have := h.lt k hf; have := n k hk; omega⟩, c.mono (fun _ _ h => h.elim), fun k hk => by
    rcases hk with hk | hk
    · exact .inr (n k hk)
    · exact .inl hk⟩
theorem Sep.drop {A : As} {l : List As} {w : World} {F : Nat → Prop} (h : Sep (A :: l) w F) : ∃ G, Sep l w G ∧ Upd w w F G := by
  obtain ⟨G, a, b⟩ := h.tail
  exact ⟨G, a, Chg.refl _ _, fun k hk => .inl (b k hk)⟩
/-- A nested list, laid flat; and back. -/
theorem Sep.flat {l r : List As} {w : World} {F : Nat → Prop} (h : Sep (sep l :: r) w F) : Sep (l ++ r) w F := by
  obtain ⟨G, a, _, k⟩ := Sep.frame (l := [sep l]) (r := r) h
  obtain ⟨G1, H1, a1, b1, e1, d1⟩ := h
  have aux : ∀ {l r : List As} {w : World} {G H F : Nat → Prop}, Sep l w G → Sep r w H → (∀ k, F k ↔ G k ∨ H k) → (∀ k, G k → ¬ H k) → Sep (l ++ r) w F := by
    intro l
    induction l with
    | nil => intro r w G H F a b e d; exact b.congr (fun k => by rw [e k]; exact ⟨fun h => h.elim (fun h => (a k h).elim) id, .inr⟩)
    | cons A l ih =>
      intro r w G H F ⟨G1, H1, a, b, e1, d1⟩ c e d
      refine ⟨G1, fun k => H1 k ∨ H k, a, ih b c (fun k => Iff.rfl) (fun k hk h => d k ((e1 k).2 (.inr hk)) h), fun k => ?_, fun k hk h => ?_⟩
      · rw [e k, e1 k, or_assoc]
      · rcases h with h | h
        · exact d1 k hk h
        · exact d k ((e1 k).2 (.inl hk)) h
  exact aux a1 b1 e1 d1
theorem Sep.fold : ∀ {l r : List As} {w : World} {F : Nat → Prop}, Sep (l ++ r) w F → Sep (sep l :: r) w F := by
  intro l
  induction l with
  | nil => intro r w F h; exact ⟨fun _ => False, F, fun _ h => h, h, fun k => ⟨.inr, fun h => h.elim False.elim id⟩, fun _ h => h.elim⟩
  | cons A l ih =>
    intro r w F ⟨G, H, a, b, e, d⟩
    obtain ⟨G1, H1, b1, b2, e1, d1⟩ := ih b
    refine ⟨fun k => G k ∨ G1 k, H1, ⟨G, G1, a, b1, fun k => Iff.rfl, fun k hk h => d k hk ((e1 k).2 (.inl h))⟩, b2, fun k => ?_, fun k hk h => ?_⟩
    · rw [e k, e1 k, or_assoc]
    · rcases hk with hk | hk
      · exact d k hk ((e1 k).2 (.inr h))
      · exact d1 k hk h

/-! ### Assertions -/

/-- A block that is known whole. -/
def blk (b : Nat) (c : Array Value) (t : TypeId) : As where
  on w F := Blk w b c t ∧ ∀ k, F k ↔ k = b
  lt h k hk := by obtain rfl := (h.2 k).1 hk; exact h.1.lt
  chg h c hG := ⟨h.1.chg c (hG b ((h.2 b).2 rfl)), h.2⟩
/-- An owned slice. -/
def own (e : TypeId) (size : Nat) (v : Value) (n : Nat) (xs : List Value) : As where
  on w F := ∃ g, Own w e size v n xs g ∧ ∀ k, F k ↔ g = some k
  lt := by rintro w F ⟨g, h, e⟩ k hk; exact h.lt k ((e k).1 hk)
  chg := by rintro w w' F G ⟨g, h, e⟩ c hG; exact ⟨g, h.chg c (fun b hb => hG b ((e b).2 hb)), e⟩
/-- Some fact, and an assertion. -/
def fact (p : Prop) (A : As) : As where
  on w F := p ∧ A.on w F
  lt h := A.lt h.2
  chg h c k := ⟨h.1, A.chg h.2 c k⟩
/-- There is something of which an assertion holds. -/
def some' {α : Type} (A : α → As) : As where
  on w F := ∃ x, (A x).on w F
  lt := by rintro w F ⟨x, h⟩; exact (A x).lt h
  chg := by rintro w w' F G ⟨x, h⟩ c k; exact ⟨x, (A x).chg h c k⟩
/-- A map's block, with these entries. -/
def mapb (b : Nat) (es : Array MapEntry) (c : Nat) : As where
  on w F := w.heap[b]? = some (.map es c) ∧ ∀ k, F k ↔ k = b
  lt h k hk := by obtain rfl := (h.2 k).1 hk; exact (Array.getElem?_eq_some_iff.1 h.1).1
  chg h c hG := ⟨(c.block b (Array.getElem?_eq_some_iff.1 h.1).1 (hG b ((h.2 b).2 rfl))).trans h.1, h.2⟩

theorem blk_new (w : World) (c : Array Value) (t : TypeId) : (blk w.heap.size c t).on (w.alloc (.cells c t)) (· = w.heap.size) := ⟨Blk.new w c t, fun _ => Iff.rfl⟩
theorem blk_set {w : World} {b : Nat} {c : Array Value} {t : TypeId} {F : Nat → Prop} (h : (blk b c t).on w F) (o : Nat) (v : Value) : (blk b (c.setIfInBounds o v) t).on (w.setCell ⟨b, o, none⟩ v) F ∧ Upd w (w.setCell ⟨b, o, none⟩ v) F F :=
  ⟨⟨h.1.set o v, h.2⟩, Upd.of ((Chg.set1 w b o v).mono fun i _ hi => (h.2 i).2 hi)⟩

/-- What a call answers, and what it leaves of what it was given. -/
def Ret (w : World) (F : Nat → Prop) (P : Value → As → Prop) (e : Ending) (w' : World) : Prop := ∃ v A F', e = .returned v ∧ P v A ∧ A.on w' F' ∧ Upd w w' F F'
/-- A call that only reads. -/
def Reads (w : World) (v : Value) (e : Ending) (w' : World) : Prop := e = .returned v ∧ Chg Non w w'

/-- However the owned slice is turned, the others stay. -/
def OwnK (e : TypeId) (size : Nat) (r : List As) (w : World) (F : Nat → Prop) (g : Option Nat) : Prop :=
  ∀ (w' : World) (v' : Value) (n' : Nat) (xs' : List Value) (g' : Option Nat), Own w' e size v' n' xs' g' → Chg (Opt g) w w' → (∀ k, g' = some k → g = some k ∨ w.heap.size ≤ k) → ∃ F', Sep (own e size v' n' xs' :: r) w' F' ∧ Upd w w' F F'
theorem own_focus {e : TypeId} {size : Nat} {v : Value} {n : Nat} {xs : List Value} {r : List As} {w : World} {F : Nat → Prop} (h : Sep (own e size v n xs :: r) w F) :
    ∃ g, Own w e size v n xs g ∧ OwnK e size r w F g := by
  obtain ⟨G, ⟨g, ho, hg⟩, hG, k⟩ := h.focus
  refine ⟨g, ho, fun w' v' n' xs' g' ho' hc hn => ?_⟩
  exact k (A' := own e size v' n' xs') (G' := Opt g') ⟨g', ho', fun _ => Iff.rfl⟩ ⟨hc.mono (fun i _ hi => (hg i).2 hi), fun i hi => by rw [hg i]; exact hn i hi⟩
theorem blk_focus {b : Nat} {c : Array Value} {t : TypeId} {r : List As} {w : World} {F : Nat → Prop} (h : Sep (blk b c t :: r) w F) :
    Blk w b c t ∧ F b ∧ ∀ (o : Nat) (v : Value), ∃ F', Sep (blk b (c.setIfInBounds o v) t :: r) (w.setCell ⟨b, o, none⟩ v) F' ∧ Upd w (w.setCell ⟨b, o, none⟩ v) F F' := by
  obtain ⟨G, hb, hG, k⟩ := h.focus
  refine ⟨hb.1, hG b ((hb.2 b).2 rfl), fun o v => ?_⟩
  have h2 := blk_set hb o v
  exact k h2.1 h2.2
/-- A block's two parts, from the list. -/
theorem Sep.blkAt {l : List As} {w : World} {F : Nat → Prop} (h : Sep l w F) (i : Nat) {b : Nat} {c : Array Value} {t : TypeId} (hi : l[i]? = some (blk b c t)) : Blk w b c t := (blk_focus (h.bring i hi)).1
theorem Sep.ownAt {l : List As} {w : World} {F : Nat → Prop} (h : Sep l w F) (i : Nat) {e : TypeId} {size : Nat} {v : Value} {n : Nat} {xs : List Value} (hi : l[i]? = some (own e size v n xs)) : ∃ g, Own w e size v n xs g := by
  obtain ⟨g, h, _⟩ := own_focus (h.bring i hi)
  exact ⟨g, h⟩
/-- A new block, known whole. -/
theorem Sep.pushBlk {l : List As} {w : World} {F : Nat → Prop} (h : Sep l w F) (c : Array Value) (t : TypeId) : ∃ F', Sep (blk w.heap.size c t :: l) (w.alloc (.cells c t)) F' ∧ Upd w (w.alloc (.cells c t)) F F' :=
  h.push ((Chg.refl _ _).alloc _) (blk_new w c t) (fun k hk => Nat.le_of_eq hk.symm)
theorem Sep.pushBlkAt {l : List As} {w w' : World} {F : Nat → Prop} (h : Sep l w F) (hc : Chg Non w w') {b : Nat} (hb : w.heap.size ≤ b) {c : Array Value} {t : TypeId} (hB : Blk w' b c t) : ∃ F', Sep (blk b c t :: l) w' F' ∧ Upd w w' F F' :=
  h.push hc (A := blk b c t) (G := fun k => k = b) ⟨hB, fun _ => Iff.rfl⟩ (fun k hk => by rw [hk]; exact hb)
theorem Sep.pushOwnAt {l : List As} {w w' : World} {F : Nat → Prop} (h : Sep l w F) (hc : Chg Non w w') {e : TypeId} {size : Nat} {v : Value} {n : Nat} {xs : List Value} {g : Option Nat} (hB : Own w' e size v n xs g) (hb : ∀ k, g = some k → w.heap.size ≤ k) : ∃ F', Sep (own e size v n xs :: l) w' F' ∧ Upd w w' F F' :=
  h.push hc (A := own e size v n xs) (G := Opt g) ⟨g, hB, fun _ => Iff.rfl⟩ hb
/-- Two blocks of one list are two. -/
theorem Sep.ne {b b' : Nat} {c c' : Array Value} {t t' : TypeId} {r : List As} {w : World} {F : Nat → Prop} (h : Sep (blk b c t :: blk b' c' t' :: r) w F) : b ≠ b' := by
  obtain ⟨G, H, a, ⟨G2, H2, a2, _, e2, _⟩, e, d⟩ := h
  intro hb
  exact d b ((a.2 b).2 rfl) ((e2 b).2 (.inl ((a2.2 b).2 hb)))

end Go.Proofs.Ytabeolmfgmbfaaa
