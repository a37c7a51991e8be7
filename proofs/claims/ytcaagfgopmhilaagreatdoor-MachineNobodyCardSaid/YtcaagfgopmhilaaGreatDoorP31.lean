/- A part of the proof that the law of this seat holds: P31; no condition. -/
import Derived.Test.YtcaagfgopmhilaaGreatDoorP30
namespace Go.Proofs.YtcaagfgopmhilaaGreatDoor.Vai
/-! ### tables laid as trees -/
/-- all that a tree holds -/
def AllT {α : Type} (Q : Nat → α → Prop) : T α → Prop
  | .leaf => True
  | .node v l r => (∀ x, v = some x → Q 0 x) ∧ AllT (fun i => Q (2 * i + 1)) l ∧ AllT (fun i => Q (2 * i + 2)) r
theorem allT_get {α : Type} : ∀ (p : Pos) (Q : Nat → α → Prop) (t : T α), AllT Q t → ∀ x, t.get p = some x → Q (unpos p) x
  | .o, Q, .node v l r, h, x, hx => h.1 x hx
  | .l p, Q, .node v l r, h, x, hx => allT_get p _ l h.2.1 x hx
  | .r p, Q, .node v l r, h, x, hx => allT_get p _ r h.2.2 x hx
  | .o, Q, .leaf, h, x, hx => by cases hx
  | .l p, Q, .leaf, h, x, hx => by cases hx
  | .r p, Q, .leaf, h, x, hx => by cases hx
theorem allT_pos {α : Type} {Q : Nat → α → Prop} {t : T α} (h : AllT Q t) {n : Nat} {x : α} (hx : t.get (pos n) = some x) : Q n x := by
  have := allT_get (pos n) Q t h x hx
  rwa [unpos_pos] at this
theorem one {α : Type} {Q : α → Prop} {y : α} (h : Q y) : ∀ x, some y = some x → Q x := fun x e => by cases e; exact h
theorem nil {α : Type} {Q : α → Prop} : ∀ x, (none : Option α) = some x → Q x := fun x e => by cases e
theorem AllT.mk {α : Type} {Q : Nat → α → Prop} {v : Option α} {l r : T α} (a : ∀ x, v = some x → Q 0 x) (b : AllT (fun i => Q (2 * i + 1)) l) (c : AllT (fun i => Q (2 * i + 2)) r) : AllT Q (.node v l r) := ⟨a, b, c⟩
def FnQ (P : Program) (i : Nat) (x : Func) : Prop := P.funcs[i]? = some x ∧ ∀ (args : Array Value) (w : World), (callFunc i args).run P w = .ok (.enter i args) w
def TyQ (P : Program) (i : Nat) (x : TypeInfo) : Prop := P.info? i = some x
def UdQ (P : Program) (i : Nat) (x : TypeDesc) : Prop := P.underlying i = some x
def StQ (P : Program) (i : Nat) (x : Bool) : Prop := P.stoodInHeld i = x
def GdQ (P : Program) (i : Nat) (x : Bool) : Prop := P.eqGuardType P.depth i = x
def ExQ (P : Program) (i : Nat) (e : Ext) : Prop := ∃ fn, P.funcs[i]? = some fn ∧ (fn.name == "runtime.NumGoroutine") = false ∧ fn.body.isNone = true ∧ Extern.findNext fn = none ∧ Extern.find fn = some (rowOf e)
theorem tab_of {P : Program} {K : Tab} (h1 : AllT (FnQ P) K.fn) (h2 : AllT (TyQ P) K.ty) (h3 : AllT (UdQ P) K.ud) (h4 : AllT (StQ P) K.st) (h5 : AllT (GdQ P) K.gd) (h6 : AllT (ExQ P) K.ex) : TabOk P K :=
  ⟨fun f x h => (allT_pos h1 h).1, fun t x h => allT_pos h2 h, fun t x h => allT_pos h3 h, fun t x h => allT_pos h4 h, fun t x h => allT_pos h5 h, fun f x h => (allT_pos h1 h).2, fun f e h => allT_pos h6 h⟩
/-- what an equation is to -/
def rhs {α : Type} {a : Option α} {x : α} (_ : a = some x) : α := x
def rhsB {a x : Bool} (_ : a = x) : Bool := x
end Go.Proofs.YtcaagfgopmhilaaGreatDoor.Vai
