/- A part of the proof that the law of this seat holds: P1; no condition. -/
import Derived.Test.YtcaagfgopmhilaaGreatDoorV4
namespace Go.Proofs.YtcaagfgopmhilaaGreatDoor.Vai
/-! ### places and tries -/
def unpos : Pos → Nat
  | .o => 0
  | .l p => 2 * unpos p + 1
  | .r p => 2 * unpos p + 2
theorem unpos_posF : ∀ (f n : Nat), n ≤ f → unpos (posF f n) = n
  | 0, n, h => by have : n = 0 := by omega
                  subst this; rfl
  | f + 1, 0, _ => rfl
  | f + 1, m + 1, h => by
    have ih := unpos_posF f (m / 2) (by omega)
    show unpos (match Nat.beq (Nat.mod m 2) 0 with
      | true => Pos.l (posF f (Nat.div m 2))
      | false => Pos.r (posF f (Nat.div m 2))) = m + 1
    have e : Nat.div m 2 = m / 2 := rfl
    have e2 : Nat.mod m 2 = m % 2 := rfl
    rw [e, e2]
    cases hb : Nat.beq (m % 2) 0
    · have : m % 2 ≠ 0 := by
        intro h0; rw [h0] at hb; simp at hb
      simp only [unpos, ih]; omega
    · have : m % 2 = 0 := Nat.eq_of_beq_eq_true hb
      simp only [unpos, ih]; omega
theorem unpos_pos (n : Nat) : unpos (pos n) = n := unpos_posF n n (Nat.le_refl _)
theorem pos_inj {n m : Nat} (h : pos n = pos m) : n = m := by rw [← unpos_pos n, h, unpos_pos]
theorem pos_ne {n m : Nat} (h : n ≠ m) : pos n ≠ pos m := fun e => h (pos_inj e)
theorem posEq_iff : ∀ {p q : Pos}, posEq p q = true ↔ p = q
  | .o, .o => by simp [posEq]
  | .l p, .l q => by simp [posEq, posEq_iff (p := p) (q := q)]
  | .r p, .r q => by simp [posEq, posEq_iff (p := p) (q := q)]
  | .o, .l _ => by simp [posEq]
  | .o, .r _ => by simp [posEq]
  | .l _, .o => by simp [posEq]
  | .l _, .r _ => by simp [posEq]
  | .r _, .o => by simp [posEq]
  | .r _, .l _ => by simp [posEq]
namespace T
variable {α : Type}
theorem get_leaf (p : Pos) : (T.leaf : T α).get p = none := by cases p <;> rfl
theorem get_set_eq : ∀ (p : Pos) (x : α) (t : T α), (t.set p x).get p = some x
  | .o, x, .leaf => rfl
  | .o, x, .node .. => rfl
  | .l p, x, .leaf => get_set_eq p x .leaf
  | .l p, x, .node _ l _ => get_set_eq p x l
  | .r p, x, .leaf => get_set_eq p x .leaf
  | .r p, x, .node _ _ r => get_set_eq p x r
theorem get_set_ne : ∀ (p q : Pos) (x : α) (t : T α), q ≠ p → (t.set p x).get q = t.get q
  | .o, .o, _, _, h => absurd rfl h
  | .o, .l q, x, .leaf, _ => get_leaf q
  | .o, .r q, x, .leaf, _ => get_leaf q
  | .o, .l _, x, .node .., _ => rfl
  | .o, .r _, x, .node .., _ => rfl
  | .l _, .o, x, .leaf, _ => rfl
  | .l _, .o, x, .node .., _ => rfl
  | .l p, .l q, x, .leaf, h => (get_set_ne p q x .leaf (fun e => h (e ▸ rfl))).trans (get_leaf q)
  | .l p, .l q, x, .node _ l _, h => get_set_ne p q x l (fun e => h (e ▸ rfl))
  | .l _, .r q, x, .leaf, _ => get_leaf q
  | .l _, .r _, x, .node .., _ => rfl
  | .r _, .o, x, .leaf, _ => rfl
  | .r _, .o, x, .node .., _ => rfl
  | .r p, .r q, x, .leaf, h => (get_set_ne p q x .leaf (fun e => h (e ▸ rfl))).trans (get_leaf q)
  | .r p, .r q, x, .node _ _ r, h => get_set_ne p q x r (fun e => h (e ▸ rfl))
  | .r _, .l q, x, .leaf, _ => get_leaf q
  | .r _, .l _, x, .node .., _ => rfl
theorem get_del_eq : ∀ (p : Pos) (t : T α), (t.del p).get p = none
  | p, .leaf => by cases p <;> rfl
  | .o, .node .. => rfl
  | .l p, .node _ l _ => get_del_eq p l
  | .r p, .node _ _ r => get_del_eq p r
theorem get_del_ne : ∀ (p q : Pos) (t : T α), q ≠ p → (t.del p).get q = t.get q
  | p, q, .leaf, _ => by cases p <;> rfl
  | .o, .o, .node .., h => absurd rfl h
  | .o, .l _, .node .., _ => rfl
  | .o, .r _, .node .., _ => rfl
  | .l _, .o, .node .., _ => rfl
  | .l p, .l q, .node _ l _, h => get_del_ne p q l (fun e => h (e ▸ rfl))
  | .l _, .r _, .node .., _ => rfl
  | .r _, .o, .node .., _ => rfl
  | .r p, .r q, .node _ _ r, h => get_del_ne p q r (fun e => h (e ▸ rfl))
  | .r _, .l _, .node .., _ => rfl
end T
end Go.Proofs.YtcaagfgopmhilaaGreatDoor.Vai
