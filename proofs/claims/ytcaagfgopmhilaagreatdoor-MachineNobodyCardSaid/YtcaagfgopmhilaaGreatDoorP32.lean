/- A part of the proof that the law of this seat holds: P32; no condition. -/
import Derived.Test.YtcaagfgopmhilaaGreatDoorP31
import Derived.ProofKit
namespace Go.Proofs.YtcaagfgopmhilaaGreatDoor.Vai
/-! ### what a function reaches, reckoned quickly -/
noncomputable def clF (lead : T (List Nat)) : Nat → List Nat → Nat → List Nat → Option (List Nat)
  | _, [], _, seen => some seen.reverse
  | 0, _ :: _, _, _ => none
  | n + 1, f :: todo, bits, seen => match bit bits f with
    | true => clF lead n todo bits seen
    | false => match lead.get (pos f) with
      | some l => clF lead n (l ++ todo) (Nat.lor bits (Nat.shiftLeft 1 f)) (f :: seen)
      | none => none
def LeadQ (P : Program) (i : Nat) (l : List Nat) : Prop := (P.funcs[i]?).elim [] P.leadsTo = l
theorem lead_of {P : Program} {i : Nat} {f : Func} {l : List Nat} (h : P.funcs[i]? = some f) (k : P.leadsTo f = l) : LeadQ P i l := by rw [LeadQ, h]; exact k
theorem clF_ok {P : Program} {lead : T (List Nat)} (hL : AllT (LeadQ P) lead) : ∀ (n : Nat) (todo : List Nat) (bits : Nat) (seen r : List Nat), clF lead n todo bits seen = some r → (∀ x, bit bits x = seen.contains x) →
    ∀ m, n ≤ m → P.closureVia m todo seen = r
  | n, [], bits, seen, r, h, _, m, _ => by
    have h : some seen.reverse = some r := by cases n <;> exact h
    cases h
    cases m <;> simp [Program.closureVia]
  | 0, _ :: _, _, _, _, h, _, _, _ => by cases h
  | n + 1, f :: todo, bits, seen, r, h, hb, m, hm => by
    obtain ⟨m, rfl⟩ : ∃ k, m = k + 1 := ⟨m - 1, by omega⟩
    simp only [clF] at h
    simp only [Program.closureVia]
    split at h
    · rename_i hbf
      rw [hb f] at hbf
      rw [if_pos hbf]
      exact clF_ok hL n todo bits seen r h hb m (by omega)
    · rename_i hbf
      rw [hb f] at hbf
      rw [if_neg (by rw [hbf]; exact Bool.false_ne_true)]
      split at h
      · rename_i l hl
        rw [show (P.funcs[f]?).elim [] P.leadsTo = l from allT_pos hL hl]
        refine clF_ok hL n (l ++ todo) _ (f :: seen) r h (fun x => ?_) m (by omega)
        rw [bit_or, List.contains_cons, hb x]
        by_cases e : x = f
        · subst e
          have h1 : bit (Nat.shiftLeft 1 x) x = true := (bit_one x x).2 rfl
          rw [h1]; simp
        · have : bit (Nat.shiftLeft 1 f) x = false := by
            cases hc : bit (Nat.shiftLeft 1 f) x with
            | false => rfl
            | true => exact absurd ((bit_one f x).1 hc).symm e
          rw [this]; simp [e]
      · cases h
theorem closure_is {P : Program} {lead : T (List Nat)} {f n : Nat} {r : List Nat} (hL : AllT (LeadQ P) lead) (hn : 1 + (P.funcs.toList.map fun g => (P.leadsTo g).length + 1).sum = n) (h : clF lead n [f] 0 [] = some r) : P.closure f = r := by
  unfold Program.closure
  rw [hn]
  exact clF_ok hL n [f] 0 [] r h (fun x => by rw [bit_zero]; rfl) n (Nat.le_refl _)
end Go.Proofs.YtcaagfgopmhilaaGreatDoor.Vai
