/- A part of the proof that the law of this seat holds: R4g; no condition. -/
import Derived.Test.YtcaagfgopmhilaaGreatDoorRows
import Derived.Seven
namespace Go.Proofs.YtcaagfgopmhilaaGreatDoor
theorem goes_of_all {P : Program} (h : (P.funcs.toList.all fun f => !f.goes) = true) (s : String) : P.goesFrom s = false := by
  have hg : ∀ (g : Nat), (P.funcs[g]?).any Func.goes = false := by
    intro g
    cases hf : P.funcs[g]? with
    | none => rfl
    | some f =>
      have hm : f ∈ P.funcs.toList := by
        have := Array.mem_of_getElem? hf
        simpa using this
      have := List.all_eq_true.1 h f hm
      simpa using this
  have ha : P.funcs.any Func.goes = false := by
    rw [Bool.eq_false_iff]
    intro hc
    obtain ⟨f, hf, hx⟩ := Array.any_eq_true'.1 hc
    have := List.all_eq_true.1 h f (by simpa using hf)
    rw [hx] at this; cases this
  unfold Program.goesFrom
  cases P.funcNamed s with
  | none => rfl
  | some f =>
    show P.goes f = false
    unfold Program.goes
    rw [ha, Bool.and_false, Bool.or_false]
    rw [Bool.eq_false_iff]
    intro hc
    obtain ⟨g, _, hx⟩ := List.any_eq_true.1 hc
    rw [hg g] at hx; cases hx
theorem none_goes : (Tryz.prog.funcs.toList.all fun f => !f.goes) = true := by kernel_rfl
theorem goes_by : false = Rows.machineNobodyRow.goesBy Tryz.pinned.checked.prog := by
  show false = (Tryz.prog.goesFrom "elenchus/elenchuslaw24.MachineNobody" || false)
  rw [goes_of_all none_goes]; rfl
theorem goes_no : false = Tryz.pinned.checked.prog.goesFrom "elenchus/elenchuslaw24.MachineNobody" := (goes_of_all none_goes _).symm
end Go.Proofs.YtcaagfgopmhilaaGreatDoor
