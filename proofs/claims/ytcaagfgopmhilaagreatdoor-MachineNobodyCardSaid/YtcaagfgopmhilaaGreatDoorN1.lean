/- A part of the proof that the law of this seat holds: N1; no condition. -/
import Derived.Test.YtcaagfgopmhilaaGreatDoorL1
namespace Go.Proofs.YtcaagfgopmhilaaGreatDoor
open Go.Proofs.YtcaagfgopmhilaaGreatDoor.Vai Go.RowKit
noncomputable def isRes (r : Option (AV × AW)) (v : AV) : Bool := match r with | some (u, _) => aveq u v | none => false
theorem isRes_some {r : Option (AV × AW)} {v : AV} (h : isRes r v = true) : ∃ A, r = some (v, A) := by
  unfold isRes at h
  split at h
  · rw [aveq_ok h]; exact ⟨_, rfl⟩
  · cases h
theorem run_any {g : FuncId} {args : List AV} {v : AV} {ty : TypeId} (he : isRes (cl tab (fun _ => none) 1000 g args (start ty)) v = true) {w : World} {fz : Nat × Nat} (h : w.heap[1]? = some (.cells typesV ty fz))
    {us : List Value} {x : Value} (hu : concL rho0 args = some us) (hx : ∀ ρ, conc ρ v = some x) : Calls Tryz.prog g us.toArray w fun e w' => e = .returned x ∧ Below w.heap.size w w' := by
  obtain ⟨A, hA⟩ := isRes_some he
  have hs := sound tab_ok (by kernel_rfl) (hook := fun _ => none) (fun f h hf => by cases hf) 1000 g args (start ty) v A hA rho0 w us rho0_globs (start_rel h) hu
  refine hs.mono fun e w' ⟨y, ρ', he, hy, hr, hg⟩ => ?_
  rw [hx] at hy; cases hy
  exact ⟨he, hg.os, hg.tape, hg.output, hg.size, fun k hk => (hg.keep k hk (start_own (w := w) k)).1⟩
theorem load_nil {w : World} {ty : TypeId} {fz : Nat × Nat} (h : w.heap[1]? = some (.cells typesV ty fz)) {v0 v1 v2 v3 v4 v5 : Value} (h0 : v0.oneCell' = true) (h1 : v1.oneCell' = true) (h2 : v2.oneCell' = true) (h3 : v3.oneCell' = true) (h4 : v4.oneCell' = true) (h5 : v5.oneCell' = true) :
    Calls Tryz.prog 6 #[.pointer none, .agg #[v0, v1, v2, v3, v4, v5]] w fun e w' => e = .returned (.tuple #[.int .i64 0, .int .i64 6]) ∧ Below w.heap.size w w' :=
  run_any (args := [.pn, .agg [.x v0, .x v1, .x v2, .x v3, .x v4, .x v5]]) (v := .tup [.i .i64 0, .i .i64 6]) (by kernel_rfl) h (us := [.pointer none, .agg #[v0, v1, v2, v3, v4, v5]]) (by simp [concL, conc, h0, h1, h2, h3, h4, h5]) (fun _ => rfl)
theorem ask_nil {w : World} {ty : TypeId} {fz : Nat × Nat} (h : w.heap[1]? = some (.cells typesV ty fz)) {v0 v1 v2 v3 : Value} (h0 : v0.oneCell' = true) (h1 : v1.oneCell' = true) (h2 : v2.oneCell' = true) (h3 : v3.oneCell' = true) :
    Calls Tryz.prog 7 #[.pointer none, .agg #[v0, v1, v2, v3], .slice none 0 0] w fun e w' => e = .returned (.int .i64 6) ∧ Below w.heap.size w w' :=
  run_any (args := [.pn, .agg [.x v0, .x v1, .x v2, .x v3], .sn]) (v := .i .i64 6) (by kernel_rfl) h (us := [.pointer none, .agg #[v0, v1, v2, v3], .slice none 0 0]) (by simp [concL, conc, h0, h1, h2, h3]) (fun _ => rfl)
theorem step_nil {w : World} {ty : TypeId} {fz : Nat × Nat} (h : w.heap[1]? = some (.cells typesV ty fz)) : Calls Tryz.prog 8 #[.pointer none] w fun e w' => e = .returned (.bool false) ∧ Below w.heap.size w w' :=
  run_any (args := [.pn]) (v := .b false) (by kernel_rfl) h (us := [.pointer none]) rfl (fun _ => rfl)
theorem run_nil {w : World} {ty : TypeId} {fz : Nat × Nat} (h : w.heap[1]? = some (.cells typesV ty fz)) (n : Int) : Calls Tryz.prog 9 #[.pointer none, .int .i64 n] w fun e w' => e = .returned (.int .i64 0) ∧ Below w.heap.size w w' := by
  cases n with
  | negSucc m => exact run_any (args := [.pn, .i .i64 (.negSucc m)]) (v := .i .i64 0) (by kernel_rfl) h (us := [.pointer none, .int .i64 (.negSucc m)]) rfl (fun _ => rfl)
  | ofNat m =>
    cases m with
    | zero => exact run_any (args := [.pn, .i .i64 (.ofNat 0)]) (v := .i .i64 0) (by kernel_rfl) h (us := [.pointer none, .int .i64 (.ofNat 0)]) rfl (fun _ => rfl)
    | succ m => exact run_any (args := [.pn, .i .i64 (.ofNat (m + 1))]) (v := .i .i64 0) (by kernel_rfl) h (us := [.pointer none, .int .i64 (.ofNat (m + 1))]) rfl (fun _ => rfl)
theorem state_nil {w : World} {ty : TypeId} {fz : Nat × Nat} (h : w.heap[1]? = some (.cells typesV ty fz)) : Calls Tryz.prog 10 #[.pointer none] w fun e w' => e = .returned (.int .i64 0) ∧ Below w.heap.size w w' :=
  run_any (args := [.pn]) (v := .i .i64 0) (by kernel_rfl) h (us := [.pointer none]) rfl (fun _ => rfl)
theorem steps_nil {w : World} {ty : TypeId} {fz : Nat × Nat} (h : w.heap[1]? = some (.cells typesV ty fz)) : Calls Tryz.prog 11 #[.pointer none] w fun e w' => e = .returned (.int .i64 0) ∧ Below w.heap.size w w' :=
  run_any (args := [.pn]) (v := .i .i64 0) (by kernel_rfl) h (us := [.pointer none]) rfl (fun _ => rfl)
theorem events_nil {w : World} {ty : TypeId} {fz : Nat × Nat} (h : w.heap[1]? = some (.cells typesV ty fz)) : Calls Tryz.prog 12 #[.pointer none] w fun e w' => e = .returned (.slice none 0 0) ∧ Below w.heap.size w w' :=
  run_any (args := [.pn]) (v := .sn) (by kernel_rfl) h (us := [.pointer none]) rfl (fun _ => rfl)
theorem heap_nil {w : World} {ty : TypeId} {fz : Nat × Nat} (h : w.heap[1]? = some (.cells typesV ty fz)) : Calls Tryz.prog 13 #[.pointer none] w fun e w' => e = .returned (.pointer none) ∧ Below w.heap.size w w' :=
  run_any (args := [.pn]) (v := .pn) (by kernel_rfl) h (us := [.pointer none]) rfl (fun _ => rfl)
theorem stack_nil {w : World} {ty : TypeId} {fz : Nat × Nat} (h : w.heap[1]? = some (.cells typesV ty fz)) : Calls Tryz.prog 14 #[.pointer none] w fun e w' => e = .returned (.pointer none) ∧ Below w.heap.size w w' :=
  run_any (args := [.pn]) (v := .pn) (by kernel_rfl) h (us := [.pointer none]) rfl (fun _ => rfl)
theorem base_nil {w : World} {ty : TypeId} {fz : Nat × Nat} (h : w.heap[1]? = some (.cells typesV ty fz)) : Calls Tryz.prog 15 #[.pointer none] w fun e w' => e = .returned (.pointer none) ∧ Below w.heap.size w w' :=
  run_any (args := [.pn]) (v := .pn) (by kernel_rfl) h (us := [.pointer none]) rfl (fun _ => rfl)
theorem words_nil {w : World} {ty : TypeId} {fz : Nat × Nat} (h : w.heap[1]? = some (.cells typesV ty fz)) : Calls Tryz.prog 16 #[.pointer none] w fun e w' => e = .returned (.slice none 0 0) ∧ Below w.heap.size w w' :=
  run_any (args := [.pn]) (v := .sn) (by kernel_rfl) h (us := [.pointer none]) rfl (fun _ => rfl)
theorem places_nil {w : World} {ty : TypeId} {fz : Nat × Nat} (h : w.heap[1]? = some (.cells typesV ty fz)) : Calls Tryz.prog 17 #[.pointer none] w fun e w' => e = .returned (.slice none 0 0) ∧ Below w.heap.size w w' :=
  run_any (args := [.pn]) (v := .sn) (by kernel_rfl) h (us := [.pointer none]) rfl (fun _ => rfl)
end Go.Proofs.YtcaagfgopmhilaaGreatDoor
