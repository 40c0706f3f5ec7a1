/- Pieces of a function's code, by the number of a region or block. -/
import Derived.Test.YtabeolmfgmbfaaaSep
namespace Go.Proofs.Ytabeolmfgmbfaaa
set_option linter.unusedVariables false
def regOf (n : Nat) : Code → Option Code
  | .region i o d => if i = n then some (.region i o d) else none
  | .seq a b => match regOf n a with
    | some c => some c
    | none => regOf n b
  | .cond _ a b => match regOf n a with
    | some c => some c
    | none => regOf n b
  | .block _ c => regOf n c
  | .loop c => regOf n c
  | .scope c => regOf n c
  | _ => none
def blkOf (n : Nat) : Code → Option Code
  | .seq a b => match blkOf n a with
    | some c => some c
    | none => blkOf n b
  | .cond _ a b => match blkOf n a with
    | some c => some c
    | none => blkOf n b
  | .block i c => if i = n then some (.block i c) else blkOf n c
  | .loop c => blkOf n c
  | .scope c => blkOf n c
  | _ => none
/-- The statements from region n on, to the end of its row. -/
def seqAt (n : Nat) : Code → Option Code
  | .seq a b => match (match a with
      | .region i _ _ => i == n
      | _ => false) with
    | true => some (.seq a b)
    | false => match seqAt n a with
      | some c => some c
      | none => seqAt n b
  | .cond _ a b => match seqAt n a with
    | some c => some c
    | none => seqAt n b
  | .block _ c => seqAt n c
  | .loop c => seqAt n c
  | .scope c => seqAt n c
  | _ => none
/-- The piece ends as the text goes on, in a frame and a world of which K holds. -/
def OnlyN (K : Act → World → Prop) : Exit → Act → World → Prop
  | .normal, a, w => K a w
  | _, _, _ => False
theorem OnlyN.then {K : Act → World → Prop} {Q : Exit → Act → World → Prop} (h : ∀ a w, K a w → Q .normal a w) (e : Exit) (a : Act) (w : World) (k : OnlyN K e a w) : Q e a w := by
  cases e
  case normal => exact h a w k
  all_goals exact False.elim k
theorem Blk.atPush {W : World} {H : Array Obj} {c : Array Value} {t : TypeId} {n : Nat} (h : W.heap = H.push (.cells c t)) (hn : n = H.size) : Blk W n c t := by
  unfold Blk
  rw [h, hn]
  simp
theorem Blk.atPush2 {W : World} {H : Array Obj} {c : Array Value} {t : TypeId} {o : Obj} {n : Nat} (h : W.heap = (H.push (.cells c t)).push o) (hn : n = H.size) : Blk W n c t := by
  unfold Blk
  rw [h, hn, Array.getElem?_push_lt (by simp)]
  simp
theorem blk_keep {F : Nat → Prop} {w w' : World} {b : Nat} {c : Array Value} {t : TypeId} (k : Chg F w w') (hF : ¬ F b) (h : Blk w b c t) : Blk w' b c t := h.chg k hF

/-- A world that comes of w by draws and new blocks alone. -/
def Later (w : World) : Type := { W : World // Chg Non w W }
def Later.w {w : World} (i : Later w) : World := i.1
theorem Later.chg {w : World} (i : Later w) : Chg Non w i.w := i.2
def Later.of {w W : World} (h : Chg Non w W) : Later w := ⟨W, h⟩
instance Later.inst (w : World) : Nonempty (Later w) := ⟨Later.of (Chg.refl _ _)⟩
/-- A region that draws its order, whose operations read and whose callees leave all that was as it was: ONE walk, in the text's order. -/
theorem wp_region_later {P : Program} {id : Nat} {Q : Exit → Act → World → Prop} {a : Act} {w : World} {l : List Oper} (hm : P.follows .mixedOrders = true) (hB : Region.lexB .any l.toArray = true)
    (h : wpQuiet P l.toArray (fun w' => ∃ i : Later w, w' = i.w) (fun a' => ∀ w', (∃ i : Later w, w' = i.w) → Q .normal a' w') l a) : (Code.region id l.toArray true).wp P Q a w :=
  wp_region_quiet (C := fun w' => ∃ i : Later w, w' = i.w) hm hB ⟨Later.of (Chg.refl Non w).drew, rfl⟩ (by simpa using h)
/-- A contract that only makes new blocks, at a call in such a region. -/
theorem Calls.later {P : Program} {f : FuncId} {args : Array Value} {w : World} {i : Later w} {v : Value} (h : Calls P f args i.w fun e w' => e = .returned v ∧ Chg Non i.w w') :
    Calls P f args i.w fun e w'' => e = .returned v ∧ ∃ i' : Later w, w'' = i'.w :=
  h.mono fun _ _ ⟨he, hc⟩ => ⟨he, Later.of (i.chg.tr hc), rfl⟩
theorem Calls.laterSame {P : Program} {f : FuncId} {args : Array Value} {w : World} {i : Later w} {v : Value} (h : Calls P f args i.w fun e w' => e = .returned v ∧ i.w = w') :
    Calls P f args i.w fun e w'' => e = .returned v ∧ ∃ i' : Later w, w'' = i'.w :=
  h.mono fun _ _ ⟨he, hc⟩ => ⟨he, i, hc.symm⟩
end Go.Proofs.Ytabeolmfgmbfaaa
