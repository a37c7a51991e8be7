/- A part of the proof that the law of this seat holds: P23; no condition. -/
import Derived.Test.YtcaagfgopmhilaaGreatDoorP22
namespace Go.Proofs.YtcaagfgopmhilaaGreatDoor.Vai
variable {P : Program} {K : Tab}

/-- an object that is no row is given up, whatever becomes of it -/
theorem Rel.kill {ρ : Map} {A : AW} {w : World} {b : Pos} {o : AObj} {L : Loc} (hr : Rel ρ A w) (hb : A.h.get b = some o) (hL : ρ b = some L) (hw : writable o = true) (hn : ∀ k, o ≠ .cells k) (ob : Obj) :
    Rel ρ ⟨T.del b A.h, A.nx⟩ { w with heap := w.heap.setIfInBounds L.r ob } ∧ Goes ρ A w ρ ⟨T.del b A.h, A.nx⟩ { w with heap := w.heap.setIfInBounds L.r ob } := by
  have hother : ∀ r, r ≠ L.r → (w.heap.setIfInBounds L.r ob)[r]? = w.heap[r]? := fun r hne => by simp [Array.getElem?_setIfInBounds, Ne.symm hne]
  refine ⟨⟨hr.fresh, fun b2 o2 h2 => ?_, fun b1 b2 o1 o2 hne h1 h2 => hr.sep b1 b2 o1 o2 hne (del_sub h1) (del_sub h2)⟩, .refl ρ, Nat.le_refl _, rfl, rfl, rfl, by simp, fun r hlt hown => ⟨hother r fun e => hown ⟨b, o, L, hb, hw, hL, e.symm⟩, fun ⟨b2, o2, L2, g1, g2, g3, g4⟩ => hown ⟨b2, o2, L2, del_sub g1, g2, g3, g4⟩⟩, fun _ _ h => h, fun _ _ h ⟨b2, o2, L2, g1, g2, g3⟩ => h ⟨b2, o2, L2, del_sub g1, g2, g3⟩⟩
  have hne : b2 ≠ b := by
    intro e
    subst e
    rw [T.get_del_eq] at h2; cases h2
  have h2' := del_sub h2
  obtain ⟨L2, hL2, hob⟩ := hr.objs b2 o2 h2'
  refine ⟨L2, hL2, ?_⟩
  rcases hr.sep b b2 _ _ (fun e => hne e.symm) hb h2' hw L L2 hL hL2 with hap | ⟨⟨k, hk⟩, _⟩
  · show ObjRel ρ (w.heap.setIfInBounds L.r ob)[L2.r]? L2 o2
    rw [hother _ (fun e => hap e.symm)]; exact hob
  · exact absurd hk (hn k)

/-- what is left to run when a function returns: deferred calls, and the marks of ranges -/
def LeavesM (P : Program) (fn : Func) (tmps : Array Value) (R : Ending → World → Prop) : List Deferred → World → Prop
  | [], w => ∃ v, (results fn tmps).run P w = .ok v w ∧ R (.returned v) w
  | d :: ds, w => (∃ c w', d.target = .collected c ∧ (Instr.takeDeferred c).run P w = .ok [] w' ∧ LeavesM P fn tmps R ds w') ∨
      (∃ fv cap f args, d.target = .fn fv cap ∧ (invoke d.target d.args).run P w = .ok (.enter f args) w ∧
        CallsD P f args .returning w fun
          | .returned _, u', w' => u' = .returning ∧ LeavesM P fn tmps R ds w'
          | .panicked _, _, _ => False
          | .outgrown, _, w' => R .outgrown w')
theorem step_collected_mark {fr : Frame} {cs : List Frame} {w w' : World} {d : Deferred} {ds : List Deferred} {c : Nat} (hm : fr.mode = .returning) (hd : fr.defers = d :: ds) (ht : d.target = .collected c)
    (hr : (Instr.takeDeferred c).run P w = .ok [] w') : step P (lone fr cs w) = .next (lone { fr with defers := ds } cs w') := by
  obtain ⟨t, a⟩ := d
  simp only at ht
  subst ht
  refine step_lone_go ?_
  simp [stepG, unwind, hm, hd, hr, Sem.runT_eq]
theorem leavesM_steps {fn : Func} {tmps : Array Value} {R : Ending → World → Prop} : ∀ (ds : List Deferred) (w : World) (fr : Frame)
    (cs : List Frame), fr.mode = .returning → fr.defers = ds → fr.tmps = tmps → P.funcs[fr.fn]? = some fn → fr.kind = .normal → LeavesM P fn tmps R ds w →
    ∃ e w' fr', R e w' ∧ Comes P (lone fr cs w) (lone fr' cs w') e ∧ fr'.fn = fr.fn ∧ fr'.leaving P w' e := by
  intro ds
  induction ds with
  | nil =>
    intro w fr cs hu hd ht hf hk h
    obtain ⟨v, hr, hR⟩ := h
    exact ⟨.returned v, w, fr, hR, Steps.refl P _, rfl, hu, hd, hk, fn, hf, ht ▸ hr⟩
  | cons d ds ih =>
    intro w fr cs hu hd ht hf hk h
    rcases h with ⟨c, w1, htar, htake, hrest⟩ | ⟨fv, cap, f, args, htar, hinv, hcall⟩
    · have h1 := step_collected_mark (P := P) (cs := cs) hu hd htar htake
      obtain ⟨e', w'', fr', hR', hs', hfn', hl'⟩ := ih w1 { fr with defers := ds } cs hu rfl ht hf hk hrest
      exact ⟨e', w'', fr', hR', Comes.of_steps (.one h1) hs', hfn', hl'⟩
    · have h1 := step_defer (cs := cs) (by rw [hu]; intro e; cases e) hd htar hinv
      obtain ⟨e, u', w', frX, hR, hsteps, hkX, hgo⟩ := hcall { fr with defers := ds } cs hu
      cases e with
      | returned v =>
        obtain ⟨rfl, hR⟩ := hR
        have h2 := step_going_returned (c := { { fr with defers := ds } with mode := .returning }) (cs := cs) hkX hgo
        obtain ⟨e', w'', fr', hR', hs', hfn', hl'⟩ := ih w' { { { fr with defers := ds } with mode := .returning } with mode := settle .returning } cs rfl rfl ht hf hk hR
        exact ⟨e', w'', fr', hR', Comes.of_steps (.head h1 (Steps.trans hsteps (.one h2))) hs', hfn', hl'⟩
      | panicked chain => exact hR.elim
      | outgrown => exact ⟨.outgrown, w', fr, hR, Outgrown.of_steps (.one h1) hsteps, rfl, trivial⟩
def bodyPostM (P : Program) (fn : Func) (R : Ending → World → Prop) : Exit → Act → World → Prop
  | .normal, a, w | .ret, a, w => LeavesM P fn a.tmps R a.defers w
  | _, _, _ => False
theorem calls_of_wp_marks {f : FuncId} {fn : Func} {c : Code} {args : Array Value} {w : World} {R : Ending → World → Prop}
    (hf : P.funcs[f]? = some fn) (hb : fn.body = some c)
    (h : c.wp P (bodyPostM P fn R) { tmps := args ++ Array.replicate (fn.ntmps - args.size) undef, defers := [] } w) : Calls P f args w R := by
  intro cs
  let b : Frame := { (default : Frame) with fn := f, kind := .normal }
  have henter : Frame.enter P f args .normal =
      b.at { tmps := args ++ Array.replicate (fn.ntmps - args.size) undef, defers := [] } [.code c] := by
    simp [Frame.enter, Frame.at, hf, hb, b]
  obtain ⟨e, a', w', hq, harr⟩ := h b [] cs
  rw [← henter] at harr
  cases e with
  | normal =>
    obtain ⟨e', w'', fr', hR, hs, hfn, hl⟩ := leavesM_steps a'.defers w' { b.at a' [] with mode := .returning } cs rfl rfl rfl hf rfl hq
    exact ⟨e', w'', fr', hR, Comes.of_steps (Steps.trans harr (.one step_end)) hs, hfn, hl⟩
  | ret =>
    obtain ⟨todo, hs₀⟩ := harr
    obtain ⟨e', w'', fr', hR, hs, hfn, hl⟩ := leavesM_steps a'.defers w' { b.at a' todo with mode := .returning } cs rfl rfl rfl hf rfl hq
    exact ⟨e', w'', fr', hR, Comes.of_steps hs₀ hs, hfn, hl⟩
  | panic chain => exact hq.elim
  | exit id => exact hq.elim
  | goto l => exact hq.elim
  | outgrown => exact hq.elim

theorem runDefers_ok {fn : Func} {R : Ending → World → Prop} {dc : CallF} (hdc : DCallOk P dc) : ∀ (df : List DA) (ds : List Deferred) (ρ : Map) (A A' : AW) (w : World) (tmps : Array Value), Globs ρ → Rel ρ A w → DfOk P ρ df ds → runDefers dc df A = some A' →
    (∀ ρ' w', Ext' ρ ρ' → Rel ρ' A' w' → Goes ρ A w ρ' A' w' → ∃ v, (results fn tmps).run P w' = .ok v w' ∧ R (.returned v) w') → LeavesM P fn tmps R ds w
  | [], [], ρ, A, A', w, tmps, hg, hr, _, h, hk => by cases h; exact hk ρ w (.refl ρ) hr (.refl ρ A w)
  | [], _ :: _, _, _, _, _, _, _, _, hd, _, _ => hd.elim
  | .call _ _ :: _, [], _, _, _, _, _, _, _, hd, _, _ => hd.elim
  | .mark _ :: _, [], _, _, _, _, _, _, _, hd, _, _ => hd.elim
  | .call f args :: df, d :: ds, ρ, A, A', w, tmps, hg, hr, ⟨⟨vs, cap, h1, h2, h3⟩, hd⟩, h, hk => by
    simp only [runDefers] at h
    split at h
    · rename_i v A1 hc
      refine .inr ⟨.func f, cap, f, vs.toArray, h2, h3 w, (hdc f args A v A1 hc ρ w vs hg hr h1 .returning).mono fun e u' w' ⟨hu, x, ρ', he, hx, hr', hgo⟩ => ?_⟩
      subst he
      exact ⟨hu, runDefers_ok hdc df ds ρ' A1 A' w' tmps (hg.mono hgo.ext) hr' (hd.mono hgo.ext) h fun ρ'' w'' he hr'' hgo' => hk ρ'' w'' (hgo.ext.trans he) hr'' (hgo.trans hgo')⟩
    · cases h
  | .mark b :: df, d :: ds, ρ, A, A', w, tmps, hg, hr, ⟨⟨L, h1, h2⟩, hd⟩, h, hk => by
    simp only [runDefers] at h
    split at h
    · rename_i hb
      obtain ⟨L', hL', hsh, hob⟩ := hr.objs b _ hb
      rw [h1] at hL'; cases hL'
      have hkill := hr.kill hb h1 rfl (fun k e => by cases e) (.deferred none)
      refine .inl ⟨L.r, { w with heap := w.heap.setIfInBounds L.r (.deferred none) }, h2, ?_, runDefers_ok hdc df ds ρ _ A' _ tmps hg hkill.1 hd h fun ρ'' w'' he hr'' hgo' => hk ρ'' w'' he hr'' (hkill.2.trans hgo')⟩
      simp [Instr.takeDeferred, getObj, setObj, Sem.run, hob]
    · cases h

theorem evF_ok (hT : TabOk P K) (hX : ∀ nt, Apart2 P K nt) {call : CallF} (hcall : CallOk P call) {g : FuncId} {F : FDen} (hF : compF K g = some F) {args : List AV} {A A' : AW} {v : AV} (h : evF K F call args A = some (v, A')) {ρ : Map} {w : World} {vs : List Value}
    (hg : Globs ρ) (hr : Rel ρ A w) (hvs : concL ρ args = some vs) : Calls P g vs.toArray w fun e w' => ∃ x ρ', e = .returned x ∧ conc ρ' v = some x ∧ Rel ρ' A' w' ∧ Goes ρ A w ρ' A' w' := by
  obtain ⟨fn, c, R, hf, hc, hR, rfl⟩ := compF_some hF
  unfold evF at h
  split at h
  · rename_i e tm A1 df h1
    refine calls_of_wp_marks (hT.fn _ _ hf) hc ?_
    refine comp_ok hT (hX _) c call hcall _ _ A [] e tm A1 df h1 ρ _ w (St.start hg hr hvs) _ fun ρ' a' w' hS' hgo => ?_
    have fin : (match runDefers (dcall K call) df A1 with
      | some A => match rvs tm A R with
        | some l => some (pack l, A)
        | none => none
      | none => none) = some (v, A') → LeavesM P fn a'.tmps (fun e w' => ∃ x ρ', e = .returned x ∧ conc ρ' v = some x ∧ Rel ρ' A' w' ∧ Goes ρ A w ρ' A' w') a'.defers w' := by
      intro h
      split at h
      · rename_i A2 hd
        split at h
        · rename_i l hl
          cases h
          refine runDefers_ok (dcall_ok hT hX hcall) df a'.defers ρ' A1 _ w' a'.tmps hS'.glob hS'.rel hS'.dfs hd fun ρ'' w'' he hr'' hgo' => ?_
          obtain ⟨x, hx, hrun⟩ := results_ok (P := P) hT hr'' (hS'.tms.mono he) hR hl
          exact ⟨x, hrun, x, ρ'', rfl, hx, hr'', hgo.trans hgo'⟩
        · cases h
      · cases h
    cases e with
    | ex id => cases h
    | nrm => exact fin h
    | ret => exact fin h
  · cases h

/-- THE MEANING OF CALLS IS SOUND, whatever the depth, where the hooks are. -/
theorem cl_ok (hT : TabOk P K) (hX : ∀ nt, Apart2 P K nt) {hook : FuncId → Option CallF} (hh : ∀ f h, hook f = some h → ∀ args A v A', h f args A = some (v, A') → ∀ ρ w vs, Globs ρ → Rel ρ A w → concL ρ args = some vs →
      Calls P f vs.toArray w fun e w' => ∃ x ρ', e = .returned x ∧ conc ρ' v = some x ∧ Rel ρ' A' w' ∧ Goes ρ A w ρ' A' w') : ∀ n, CallOk P (cl K hook n)
  | 0 => fun g args A v A' h => by cases h
  | n + 1 => fun g args A v A' h ρ w vs hg hr hvs => by
    simp only [cl] at h
    split at h
    · rename_i hk hhk
      exact hh g hk hhk args A v A' h ρ w vs hg hr hvs
    · split at h
      · rename_i F hF
        exact evF_ok hT hX (cl_ok hT hX hh n) hF h hg hr hvs
      · cases h
end Go.Proofs.YtcaagfgopmhilaaGreatDoor.Vai
