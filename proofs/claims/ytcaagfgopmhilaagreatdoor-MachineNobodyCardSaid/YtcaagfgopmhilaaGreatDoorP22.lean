/- A part of the proof that the law of this seat holds: P22; no condition. -/
import Derived.Test.YtcaagfgopmhilaaGreatDoorP21
namespace Go.Proofs.YtcaagfgopmhilaaGreatDoor.Vai
variable {P : Program} {K : Tab}

theorem argsT_ok {ρ : Map} : ∀ (l : List AV) (us : List Value) (i : Nat) (tm : T AV) (tmps : Array Value), concL ρ l = some us → TmOk ρ tm tmps → (∀ j x, us[j]? = some x → tmps[i + j]? = some x) → TmOk ρ (argsT i l tm) tmps
  | [], us, i, tm, tmps, _, h, _ => h
  | v :: l, us, i, tm, tmps, hl, h, ha => by
    obtain ⟨x, us', hx, hus, rfl⟩ := concL_cons hl
    simp only [argsT]
    refine argsT_ok l us' (i + 1) _ tmps hus (fun t u hu => ?_) (fun j y hy => by have := ha (j + 1) y (by simpa using hy); rw [← this]; congr 1; omega)
    by_cases e : t = i
    · subst e
      rw [T.get_set_eq] at hu; cases hu
      exact ⟨x, hx, by simpa using ha 0 x rfl⟩
    · rw [T.get_set_ne _ _ _ _ (pos_ne e)] at hu
      exact h t u hu
theorem St.start {ρ : Map} {A : AW} {w : World} {args : List AV} {us : List Value} {nt : Nat} (hg : Globs ρ) (hr : Rel ρ A w) (hu : concL ρ args = some us) :
    St P nt ρ (argsT 0 args .leaf) A [] { tmps := us.toArray ++ Array.replicate (nt - us.toArray.size) undef, defers := [] } w := by
  refine ⟨hg, hr, argsT_ok args us 0 .leaf _ hu (fun t v h => by cases hp : pos t <;> rw [hp] at h <;> cases h) (fun j x hj => ?_), ?_, trivial⟩
  · rw [Nat.zero_add, Array.getElem?_append_left]
    · simpa using hj
    · have := List.getElem?_eq_some_iff.1 hj
      obtain ⟨h, _⟩ := this
      simpa using h
  · simp; omega

/-! ### results -/
theorem compRV_ok (hT : TabOk P K) {ρ : Map} {tm : T AV} {A : AW} {w : World} {tmps : Array Value} (hr : Rel ρ A w) (ht : TmOk ρ tm tmps) : ∀ {rs : List ResultVar} {R : List RV} {l : List AV}, compRV K rs = some R → rvs tm A R = some l →
    ∃ us, concL ρ l = some us ∧ (rs.mapM (m := Sem) fun
      | .tmp t => pure (tmps.getD t undef)
      | .cell a t => do loadVar t (← asAddr (tmps.getD a undef))).run P w = .ok us w
  | [], R, l, hR, hl => by cases hR; cases hl; exact ⟨[], rfl, rfl⟩
  | .tmp t :: rs, R, l, hR, hl => by
    simp only [compRV] at hR
    split at hR
    · rename_i m hm
      cases hR
      simp only [rvs, rv1] at hl
      split at hl
      · rename_i v hv
        split at hl
        · rename_i l' hl'
          cases hl
          obtain ⟨us, hus, hrun⟩ := compRV_ok hT hr ht hm hl'
          obtain ⟨x, hx, hxt⟩ := ht t v hv
          refine ⟨x :: us, concL_mk hx hus, ?_⟩
          have : tmps.getD t undef = x := by simp [Array.getD_eq_getD_getElem?, hxt]
          simp only [List.mapM_cons, this, Sem.run_bind, Sem.run_pure, Result.andThen_ok, hrun]
        · cases hl
      · cases hl
    · cases hR
  | .cell c t :: rs, R, l, hR, hl => by
    simp only [compRV] at hR
    split at hR
    · rename_i s m hs hm
      cases hR
      simp only [rvs, rv1] at hl
      split at hl
      · rename_i v hv
        split at hl
        · rename_i l' hl'
          cases hl
          obtain ⟨us, hus, hrun⟩ := compRV_ok hT hr ht hm hl'
          split at hv
          · rename_i pv hpv
            obtain ⟨x, hx, hxt⟩ := ht c pv hpv
            have hg : tmps.getD c undef = x := by simp [Array.getD_eq_getD_getElem?, hxt]
            obtain ⟨y, hy, ad, had, hload⟩ := loadA_ok (P := P) (sh_ok hT hs) hr hx hv
            refine ⟨y :: us, concL_mk hy hus, ?_⟩
            have hga : (asAddr (tmps.getD c undef)).run P w = .ok ad w := by rw [hg, had]; rfl
            simp only [List.mapM_cons, Sem.run_bind, Sem.run_pure, Result.andThen_ok, hga, hload, hrun]
          · cases hv
        · cases hl
      · cases hl
    · cases hR
theorem pack_ok {ρ : Map} {l : List AV} {us : List Value} (h : concL ρ l = some us) : conc ρ (pack l) = some (if h : us.toArray.size = 1 then us.toArray[0] else .tuple us.toArray) := by
  cases l with
  | nil => cases h; rfl
  | cons v l =>
    cases l with
    | nil => obtain ⟨x, hx, rfl⟩ := one_list h; simpa [pack] using hx
    | cons u l =>
      obtain ⟨x, us', hx, hus, rfl⟩ := concL_cons h
      obtain ⟨y, us'', hy, hus', rfl⟩ := concL_cons hus
      have : conc ρ (.tup (v :: u :: l)) = some (.tuple (x :: y :: us'').toArray) := by simp only [conc, h]
      simpa [pack] using this
theorem results_ok (hT : TabOk P K) {fn : Func} {ρ : Map} {tm : T AV} {A : AW} {w : World} {tmps : Array Value} (hr : Rel ρ A w) (ht : TmOk ρ tm tmps) {R : List RV} {l : List AV} (hR : compRV K fn.results.toList = some R) (hl : rvs tm A R = some l) :
    ∃ x, conc ρ (pack l) = some x ∧ (results fn tmps).run P w = .ok x w := by
  obtain ⟨us, hus, hrun⟩ := compRV_ok hT hr ht hR hl
  refine ⟨_, pack_ok hus, ?_⟩
  unfold results
  rw [Array.mapM_eq_mapM_toList]
  have hmap : ∀ {α β : Type} (f : α → β) (m : Sem α), (f <$> m).run P w = (m.run P w).andThen fun v w' => .ok (f v) w' := fun f m => by
    rw [← bind_pure_comp, Sem.run_bind]; rfl
  rw [Sem.run_bind, hmap]
  refine Eq.trans (congrArg (fun r => Result.andThen (Result.andThen r _) _) hrun) ?_
  simp only [Result.andThen_ok, Sem.run_pure]

/-- the meaning of a function's body, and its results -/
theorem compF_some {f : FuncId} {F : FDen} (h : compF K f = some F) : ∃ fn c R, K.fnc f = some fn ∧ fn.body = some c ∧ compRV K fn.results.toList = some R ∧ F = ⟨comp K fn.ntmps c, R⟩ := by
  unfold compF at h
  split at h
  · rename_i fn hf
    split at h
    · rename_i c hc
      split at h
      · rename_i R hR
        exact ⟨fn, c, R, hf, hc, hR, (Option.some.inj h).symm⟩
      · cases h
    · cases h
  · cases h
/-- the same, of a call that was put off -/
def DCallOk (P : Program) (call : CallF) : Prop := ∀ g args A v A', call g args A = some (v, A') → ∀ ρ w vs, Globs ρ → Rel ρ A w → concL ρ args = some vs → ∀ u,
  CallsD P g vs.toArray u w fun e u' w' => u' = u ∧ ∃ x ρ', e = .returned x ∧ conc ρ' v = some x ∧ Rel ρ' A' w' ∧ Goes ρ A w ρ' A' w'
theorem dcall_ok (hT : TabOk P K) (hX : ∀ nt, Apart2 P K nt) {call : CallF} (hcall : CallOk P call) : DCallOk P (dcall K call) := by
  intro g args A v A' h ρ w vs hg hr hvs u
  unfold dcall at h
  split at h
  · rename_i F hF
    obtain ⟨fn, c, R, hf, hc, hR, rfl⟩ := compF_some hF
    unfold ev0 at h
    split at h
    · rename_i e tm A1 h1
      refine callsD_of_wp (R := fun e w' => ∃ x ρ', e = .returned x ∧ conc ρ' v = some x ∧ Rel ρ' A' w' ∧ Goes ρ A w ρ' A' w') (hT.fn _ _ hf) hc ?_
      refine comp_ok hT (hX _) c call hcall _ _ A [] e tm A1 [] h1 ρ _ w (St.start hg hr hvs) _ fun ρ' a' w' hS' hgo => ?_
      have hd : a'.defers = [] := by
        have := hS'.dfs
        cases hq : a'.defers with
        | nil => rfl
        | cons d ds => rw [hq] at this; exact this.elim
      cases e with
      | ex id => cases h
      | nrm =>
        simp only at h
        split at h
        · rename_i l hl
          cases h
          obtain ⟨x, hx, hrun⟩ := results_ok (P := P) hT hS'.rel hS'.tms hR hl
          exact ⟨hd, x, hrun, x, ρ', rfl, hx, hS'.rel, hgo⟩
        · cases h
      | ret =>
        simp only at h
        split at h
        · rename_i l hl
          cases h
          obtain ⟨x, hx, hrun⟩ := results_ok (P := P) hT hS'.rel hS'.tms hR hl
          exact ⟨hd, x, hrun, x, ρ', rfl, hx, hS'.rel, hgo⟩
        · cases h
    · cases h
  · cases h
end Go.Proofs.YtcaagfgopmhilaaGreatDoor.Vai
