/- A part of the proof that the law of this seat holds: P30; no condition. -/
import Derived.Test.YtcaagfgopmhilaaGreatDoorP29
import Derived.Test.YtcaagfgopmhilaaGreatDoorP24
namespace Go.Proofs.YtcaagfgopmhilaaGreatDoor.Vai
variable {P : Program} {K : Tab}

/-- THE EVALUATOR IS SOUND: what it says of a call is what the call does, whatever is drawn. -/
theorem sound (hT : TabOk P K) (hm : P.follows .mixedOrders = true) {hook : FuncId → Option CallF} (hh : ∀ f h, hook f = some h → ∀ args A v A', h f args A = some (v, A') → ∀ ρ w vs, Globs ρ → Rel ρ A w → concL ρ args = some vs →
      Calls P f vs.toArray w fun e w' => ∃ x ρ', e = .returned x ∧ conc ρ' v = some x ∧ Rel ρ' A' w' ∧ Goes ρ A w ρ' A' w') (n : Nat) : CallOk P (cl K hook n) :=
  cl_ok hT (fun nt => ⟨fun id ops D hD => draw_ok hT hm id ops D hD, fun f a b c => rng_ok hT f a b c⟩) hh n
end Go.Proofs.YtcaagfgopmhilaaGreatDoor.Vai
