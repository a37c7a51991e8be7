/- A part of the proof that the law of this seat holds: L1; no condition. -/
import Derived.Test.YtcaagfgopmhilaaGreatDoorTb
import Derived.Test.YtcaagfgopmhilaaGreatDoorW3
namespace Go.Proofs.YtcaagfgopmhilaaGreatDoor
open Go.Proofs.YtcaagfgopmhilaaGreatDoor.Vai Go.RowKit
def typesA : List AV := [.s [], .s [120, 102, 120], .s [120, 102, 121], .s [121, 102, 120], .s [102, 121], .s [102, 120]]
noncomputable def types0 (ty : TypeId) : Blk := { c := putCells 0 typesA .leaf, n := 6, el := ty, spare := false, ro := true }
noncomputable def start (ty : TypeId) : AW := { h := T.set (pos 1) (.cells (types0 ty)) .leaf, nx := 32 }
noncomputable def isTrue (r : Option (AV × AW)) : Bool := match r with | some (.b true, _) => true | _ => false
set_option maxRecDepth 1000000 in
theorem lives_eval (ty : TypeId) : isTrue (cl tab (fun _ => none) 1000 5 [] (start ty)) = true := by kernel_rfl
theorem isTrue_some {r : Option (AV × AW)} (h : isTrue r = true) : ∃ A, r = some (.b true, A) := by
  unfold isTrue at h
  split at h
  · exact ⟨_, rfl⟩
  · cases h
def rho0 : Map := fun p => if unpos p < 32 then some ⟨unpos p, 0, 6⟩ else none
theorem rho0_globs : Globs rho0 := fun g hg => ⟨6, by simp [rho0, unpos_pos, hg]⟩
def typesV : Array Value := #[.string (strOf []), .string (strOf [120, 102, 120]), .string (strOf [120, 102, 121]), .string (strOf [121, 102, 120]), .string (strOf [102, 121]), .string (strOf [102, 120])]
theorem start_rel {w : World} {ty : TypeId} {fz : Nat × Nat} (h : w.heap[1]? = some (.cells typesV ty fz)) : Rel rho0 (start ty) w := by
  have hget : ∀ b o, (start ty).h.get b = some o → b = pos 1 ∧ o = .cells (types0 ty) := by
    intro b o hb
    by_cases e : b = pos 1
    · subst e
      simp only [start, T.get_set_eq, Option.some.injEq] at hb
      exact ⟨rfl, hb.symm⟩
    · simp only [start, T.get_set_ne _ _ _ _ e] at hb
      cases b <;> cases hb
  refine ⟨fun n hn => ?_, fun b o hb => ?_, fun b b' o o' hne h1 h2 hw => ?_⟩
  · have hn : 32 ≤ n := hn
    simp only [rho0, unpos_pos]; rw [if_neg (by omega)]
  · obtain ⟨rfl, rfl⟩ := hget b o hb
    refine ⟨⟨1, 0, 6⟩, by simp [rho0, unpos_pos], typesV, fz, h, Nat.le_refl _, Nat.le_refl _, (fun h => by cases h), fun i v hi hv => ?_⟩
    have hi : i < 6 := hi
    have hv : (putCells 0 typesA .leaf).get (pos i) = some v := hv
    rw [putCells_get, if_pos (by have : typesA.length = 6 := rfl; omega)] at hv
    match i, hi with
    | 0, _ => cases hv; exact ⟨rfl, _, rfl, rfl⟩
    | 1, _ => cases hv; exact ⟨rfl, _, rfl, rfl⟩
    | 2, _ => cases hv; exact ⟨rfl, _, rfl, rfl⟩
    | 3, _ => cases hv; exact ⟨rfl, _, rfl, rfl⟩
    | 4, _ => cases hv; exact ⟨rfl, _, rfl, rfl⟩
    | 5, _ => cases hv; exact ⟨rfl, _, rfl, rfl⟩
  · obtain ⟨rfl, _⟩ := hget b o h1
    obtain ⟨rfl, _⟩ := hget b' o' h2
    exact absurd rfl hne
theorem start_own {w : World} {ty : TypeId} (r : Nat) : ¬Own rho0 (start ty) r := by
  rintro ⟨b, o, L, h1, h2, _⟩
  by_cases e : b = pos 1
  · subst e
    simp only [start, T.get_set_eq, Option.some.injEq] at h1
    subst h1; cases h2
  · simp only [start, T.get_set_ne _ _ _ _ e] at h1
    cases b <;> cases h1
/-- what must come of every program comes -/
theorem lives_any {w : World} {ty : TypeId} {fz : Nat × Nat} (h : w.heap[1]? = some (.cells typesV ty fz)) : Calls Tryz.prog 5 #[] w fun e w' => e = .returned (.bool true) ∧ Below w.heap.size w w' := by
  obtain ⟨A, hA⟩ := isTrue_some (lives_eval ty)
  have hs := sound tab_ok (by kernel_rfl) (hook := fun _ => none) (fun f h hf => by cases hf) 1000 5 [] (start ty) (.b true) A hA rho0 w [] rho0_globs (start_rel h) rfl
  refine hs.mono fun e w' ⟨x, ρ', he, hx, hr, hg⟩ => ?_
  cases hx
  exact ⟨he, hg.os, hg.tape, hg.output, hg.size, fun k hk => (hg.keep k hk (start_own (w := w) k)).1⟩
end Go.Proofs.YtcaagfgopmhilaaGreatDoor
