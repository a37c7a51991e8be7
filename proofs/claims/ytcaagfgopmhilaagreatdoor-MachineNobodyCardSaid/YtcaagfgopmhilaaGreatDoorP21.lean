/- A part of the proof that the law of this seat holds: P21; no condition. -/
import Derived.Test.YtcaagfgopmhilaaGreatDoorP20
namespace Go.Proofs.YtcaagfgopmhilaaGreatDoor.Vai
variable {P : Program} {K : Tab}

def exitOf : EX → Exit
  | .nrm => .normal
  | .ex id => .exit id
  | .ret => .ret
/-- a piece of code does what its meaning says -/
def CodeOk (P : Program) (nt : Nat) (c : Code) (D : Den) : Prop :=
  ∀ call, CallOk P call → ∀ n tm A df e tm' A' df', D.run call n tm A df = some (.mk e tm' A' df') → ∀ ρ a w, St P nt ρ tm A df a w → ∀ Q : Exit → Act → World → Prop,
    (∀ ρ' a' w', St P nt ρ' tm' A' df' a' w' → Goes ρ A w ρ' A' w' → Q (exitOf e) a' w') → c.wp P Q a w

def LoopWp (P : Program) (c : Code) (Q : Exit → Act → World → Prop) (a : Act) (w : World) : Prop :=
  ∀ (b : Frame) (k : List Item) (cs : List Frame), ∃ e a' w', Q e a' w' ∧ Arrives P (lone (b.at a (.code c :: .inLoop c :: k)) cs w) b k cs e a' w'
theorem loop_round {c : Code} {Q : Exit → Act → World → Prop} {a : Act} {w : World} (h : c.wp P (Exit.then (LoopWp P c Q) Q) a w) : LoopWp P c Q a w := by
  intro b k cs
  obtain ⟨e, a₁, w₁, hq, harr⟩ := h b (.inLoop c :: k) cs
  cases e with
  | normal =>
    obtain ⟨e₂, a₂, w₂, hq₂, harr₂⟩ := hq b k cs
    exact ⟨e₂, a₂, w₂, hq₂, .of_steps (Steps.trans harr (.one step_inLoop)) harr₂⟩
  | exit id => exact ⟨_, a₁, w₁, hq, .pass (x := .inLoop c) rfl (fun _ _ => .inl (by simp)) harr⟩
  | goto l => exact ⟨_, a₁, w₁, hq, .pass (x := .inLoop c) rfl (fun _ _ => .inl (by simp)) harr⟩
  | ret => exact ⟨_, a₁, w₁, hq, .pass (x := .inLoop c) rfl (fun _ _ => .inl (by simp)) harr⟩
  | panic ch => exact ⟨_, a₁, w₁, hq, .pass (x := .inLoop c) rfl (fun _ _ => .inl (by simp)) harr⟩
  | outgrown => exact ⟨_, a₁, w₁, hq, .pass (x := .inLoop c) rfl (fun _ _ => .inl (by simp)) harr⟩
theorem wp_loopWp {c : Code} {Q : Exit → Act → World → Prop} {a : Act} {w : World} (h : LoopWp P c Q a w) : (Code.loop c).wp P Q a w := fun b k cs =>
  let ⟨e, a', w', hq, harr⟩ := h b k cs
  ⟨e, a', w', hq, .of_steps (.one step_loop) harr⟩

theorem loopF_ok {nt : Nat} {c : Code} {D : Den} (hD : CodeOk P nt c D) {call : CallF} (hcall : CallOk P call) (n : Nat) : ∀ (k : Nat) tm A df e tm' A' df', loopF D call n k tm A df = some (.mk e tm' A' df') → ∀ ρ a w, St P nt ρ tm A df a w → ∀ Q : Exit → Act → World → Prop,
    (∀ ρ' a' w', St P nt ρ' tm' A' df' a' w' → Goes ρ A w ρ' A' w' → Q (exitOf e) a' w') → LoopWp P c Q a w
  | 0, tm, A, df, e, tm', A', df', h, ρ, a, w, hS, Q, hQ => by cases h
  | k + 1, tm, A, df, e, tm', A', df', h, ρ, a, w, hS, Q, hQ => by
    simp only [loopF] at h
    split at h
    · rename_i tm1 A1 df1 h1
      refine loop_round (hD call hcall n tm A df .nrm tm1 A1 df1 h1 ρ a w hS _ fun ρ' a' w' hS' hg => ?_)
      exact loopF_ok hD hcall n k tm1 A1 df1 e tm' A' df' h ρ' a' w' hS' Q fun ρ'' a'' w'' hS'' hg' => hQ ρ'' a'' w'' hS'' (hg.trans hg')
    · rename_i hne
      refine loop_round (hD call hcall n tm A df e tm' A' df' h ρ a w hS _ fun ρ' a' w' hS' hg => ?_)
      cases e with
      | nrm => exact absurd h (hne _ _ _)
      | ex id => exact hQ ρ' a' w' hS' hg
      | ret => exact hQ ρ' a' w' hS' hg

/-- what is asked of the two shapes that are shown apart -/
structure Apart2 (P : Program) (K : Tab) (nt : Nat) : Prop where
  draw : ∀ id ops D, compDraw K nt ops = some D → CodeOk P nt (.region id ops true) ⟨dDraw ops.toList D⟩
  rng : ∀ f a b c, CodeOk P nt (.rangeFunc f a b c) ⟨dRangeF (compLd f) (hasBody K)⟩
theorem no_ok {nt : Nat} {c : Code} : CodeOk P nt c ⟨dNo⟩ := fun _ _ _ _ _ _ _ _ _ _ h => by cases h
theorem comp_ok {nt : Nat} (hT : TabOk P K) (hX : Apart2 P K nt) : ∀ c : Code, CodeOk P nt c (comp K nt c)
  | .skip => fun call hcall n tm A df e tm' A' df' h ρ a w hS Q hQ => by
    simp only [comp] at h
    cases h; exact wp_skip (hQ ρ a w hS (.refl ρ A w))
  | .label l => fun call hcall n tm A df e tm' A' df' h ρ a w hS Q hQ => by
    simp only [comp] at h
    cases h; exact wp_label (hQ ρ a w hS (.refl ρ A w))
  | .region id ops draw => by
    cases draw with
    | true =>
      simp only [comp]
      split
      · rename_i l hl; exact hX.draw id ops l hl
      · exact no_ok
    | false =>
      intro call hcall n tm A df e tm' A' df' h ρ a w hS Q hQ
      simp only [comp, dSteps] at h
      split at h
      · rename_i tm1 A1 df1 h1
        cases h
        refine wp_region (goSteps_ok (nt := nt) hT hcall (List.range ops.size) ops.toList (fun j => ?_) (by simp) tm A df _ _ _ h1 ρ a w hS Q hQ)
        by_cases hj : j < ops.size
        · simp [hj]
        · simp [hj]
      · cases h
  | .seq x y => fun call hcall n tm A df e tm' A' df' h ρ a w hS Q hQ => by
    simp only [comp, dSeq] at h
    split at h
    · rename_i tm1 A1 df1 h1
      refine wp_seq (comp_ok hT hX x call hcall n tm A df .nrm tm1 A1 df1 h1 ρ a w hS _ fun ρ' a' w' hS' hg => ?_)
      exact comp_ok hT hX y call hcall n tm1 A1 df1 e tm' A' df' h ρ' a' w' hS' Q fun ρ'' a'' w'' hS'' hg' => hQ ρ'' a'' w'' hS'' (hg.trans hg')
    · rename_i hne
      refine wp_seq (comp_ok hT hX x call hcall n tm A df e tm' A' df' h ρ a w hS _ fun ρ' a' w' hS' hg => ?_)
      cases e with
      | nrm => exact absurd h (hne _ _ _)
      | ex id => exact hQ ρ' a' w' hS' hg
      | ret => exact hQ ρ' a' w' hS' hg
  | .cond c x y => fun call hcall n tm A df e tm' A' df' h ρ a w hS Q hQ => by
    simp only [comp, dCond] at h
    split at h
    · rename_i hc
      have := ld_ok hS.glob hS.tms hc
      exact wp_cond_true (Option.some.inj this).symm (comp_ok hT hX x call hcall n tm A df e tm' A' df' h ρ a w hS Q hQ)
    · rename_i hc
      have := ld_ok hS.glob hS.tms hc
      exact wp_cond_false (Option.some.inj this).symm (comp_ok hT hX y call hcall n tm A df e tm' A' df' h ρ a w hS Q hQ)
    · cases h
  | .block id x => fun call hcall n tm A df e tm' A' df' h ρ a w hS Q hQ => by
    simp only [comp, dBlock] at h
    split at h
    · rename_i j tm1 A1 df1 h1
      refine wp_block (comp_ok hT hX x call hcall n tm A df (.ex j) tm1 A1 df1 h1 ρ a w hS _ fun ρ' a' w' hS' hg => ?_)
      simp only [exitOf, Exit.inBlock]
      split at h
      · rename_i hj
        cases h
        rw [if_pos (beq_iff.1 hj)]
        exact hQ ρ' a' w' hS' hg
      · rename_i hj
        cases h
        rw [if_neg (beq_false hj)]
        exact hQ ρ' a' w' hS' hg
    · rename_i hne
      refine wp_block (comp_ok hT hX x call hcall n tm A df e tm' A' df' h ρ a w hS _ fun ρ' a' w' hS' hg => ?_)
      cases e with
      | nrm => exact hQ ρ' a' w' hS' hg
      | ex id => exact absurd h (hne _ _ _ _)
      | ret => exact hQ ρ' a' w' hS' hg
  | .loop x => fun call hcall n tm A df e tm' A' df' h ρ a w hS Q hQ => by
    simp only [comp, dLoop] at h
    exact wp_loopWp (loopF_ok (comp_ok hT hX x) hcall n n tm A df e tm' A' df' h ρ a w hS Q hQ)
  | .scope x => fun call hcall n tm A df e tm' A' df' h ρ a w hS Q hQ => by
    simp only [comp] at h
    refine wp_scope_straight (comp_ok hT hX x call hcall n tm A df e tm' A' df' h ρ a w hS _ fun ρ' a' w' hS' hg => ?_)
    cases e <;> exact hQ ρ' a' w' hS' hg
  | .exit id => fun call hcall n tm A df e tm' A' df' h ρ a w hS Q hQ => by
    simp only [comp] at h
    cases h; exact wp_exit (hQ ρ a w hS (.refl ρ A w))
  | .ret => fun call hcall n tm A df e tm' A' df' h ρ a w hS Q hQ => by
    simp only [comp] at h
    cases h; exact wp_ret (hQ ρ a w hS (.refl ρ A w))
  | .rangeFunc f x y z => by simp only [comp]; exact hX.rng f x y z
  | .goto l => no_ok
  | .refuse _ => no_ok
end Go.Proofs.YtcaagfgopmhilaaGreatDoor.Vai
