/- A part of the proof that the law of this seat holds: P20; no condition. -/
import Derived.Test.YtcaagfgopmhilaaGreatDoorP19
namespace Go.Proofs.YtcaagfgopmhilaaGreatDoor.Vai
variable {P : Program} {K : Tab}

/-! ### steps -/
def DfOk (P : Program) (ρ : Map) : List DA → List Deferred → Prop
  | [], [] => True
  | .call f args :: l, d :: ds => (∃ vs cap, concL ρ args = some vs ∧ d.target = .fn (.func f) cap ∧ ∀ w', (invoke d.target d.args).run P w' = .ok (.enter f vs.toArray) w') ∧ DfOk P ρ l ds
  | .mark b :: l, d :: ds => (∃ L, ρ b = some L ∧ d.target = .collected L.r) ∧ DfOk P ρ l ds
  | _, _ => False
theorem DfOk.mono {ρ ρ' : Map} (h : Ext' ρ ρ') : ∀ {l : List DA} {ds : List Deferred}, DfOk P ρ l ds → DfOk P ρ' l ds
  | [], [], _ => trivial
  | .call f args :: l, d :: ds, ⟨⟨vs, cap, h1, h2, h3⟩, hr⟩ => ⟨⟨vs, cap, concL_mono h _ _ h1, h2, h3⟩, DfOk.mono h hr⟩
  | .mark b :: l, d :: ds, ⟨⟨L, h1, h2⟩, hr⟩ => ⟨⟨L, h _ _ h1, h2⟩, DfOk.mono h hr⟩
  | [], _ :: _, h => h.elim
  | .call _ _ :: _, [], h => h.elim
  | .mark _ :: _, [], h => h.elim
structure St (P : Program) (nt : Nat) (ρ : Map) (tm : T AV) (A : AW) (df : List DA) (a : Act) (w : World) : Prop where
  glob : Globs ρ
  rel : Rel ρ A w
  tms : TmOk ρ tm a.tmps
  size : nt ≤ a.tmps.size
  dfs : DfOk P ρ df a.defers
/-- a way to call is sound -/
def CallOk (P : Program) (call : CallF) : Prop := ∀ g args A v A', call g args A = some (v, A') → ∀ ρ w vs, Globs ρ → Rel ρ A w → concL ρ args = some vs →
  Calls P g vs.toArray w fun e w' => ∃ x ρ', e = .returned x ∧ conc ρ' v = some x ∧ Rel ρ' A' w' ∧ Goes ρ A w ρ' A' w'
def StepOk (P : Program) (nt : Nat) (ops : Array Oper) (o : Oper) (s : MStep) : Prop :=
  ∀ call, CallOk P call → ∀ tm A df tm' A' df', s.go call tm A df = some (.mk tm' A' df') → ∀ ρ a w, St P nt ρ tm A df a w → ∀ (R : Act → World → Prop) (Q : Exit → Act → World → Prop),
    (∀ ρ' a' w', St P nt ρ' tm' A' df' a' w' → Goes ρ A w ρ' A' w' → R a' w') →
    (if Region.wanted o (yielded ops a.tmps) then o.wp P a w R Q else R (a.put o.dst undef) w)

theorem conc_boolI {ρ : Map} {u : AV} {b : Bool} (h0 : ∀ w, u ≠ .x w) (h : conc ρ u = some (.bool b)) : u = .b b := by
  cases u with
  | b x => cases h; rfl
  | x w => exact absurd rfl (h0 w)
  | s l => simp only [conc] at h; split at h <;> cases h
  | f fn a b => simp only [conc] at h; split at h <;> cases h
  | ifc t u => simp only [conc] at h; split at h <;> cases h
  | agg l => simp only [conc] at h; split at h <;> cases h
  | tup l => simp only [conc] at h; split at h <;> cases h
  | p b n => obtain ⟨L, _, e⟩ := Option.map_eq_some_iff.1 h; cases e
  | sx b n c d => obtain ⟨L, _, e⟩ := Option.map_eq_some_iff.1 h; cases e
  | su b n c d => obtain ⟨L, _, e⟩ := Option.map_eq_some_iff.1 h; cases e
  | m b => obtain ⟨L, _, e⟩ := Option.map_eq_some_iff.1 h; cases e
  | yl b => obtain ⟨L, _, e⟩ := Option.map_eq_some_iff.1 h; cases e
  | _ => cases h
theorem put_defers (a : Act) (d : Option Tmp) (v : Value) : (a.put d v).defers = a.defers := by cases d <;> rfl
theorem put_size (a : Act) (d : Option Tmp) (v : Value) : (a.put d v).tmps.size = a.tmps.size := by cases d <;> simp [Act.put]
theorem put_tm {nt : Nat} {ρ : Map} {tm : T AV} {a : Act} {d : Option Tmp} {v : AV} {x : Value} (hd : dstIn nt d = true) (hs : nt ≤ a.tmps.size) (ht : TmOk ρ tm a.tmps) (hv : conc ρ v = some x) : TmOk ρ (putO (dstP d) v tm) (a.put d x).tmps := by
  cases d with
  | none => exact ht
  | some d =>
    have hd := blt_iff.1 hd
    intro t u hu
    simp only [putO, dstP] at hu
    simp only [Act.put]
    by_cases e : t = d
    · subst e
      rw [T.get_set_eq] at hu; cases hu
      exact ⟨x, hv, by simp [Array.getElem?_setIfInBounds]; omega⟩
    · rw [T.get_set_ne _ _ _ _ (pos_ne e)] at hu
      obtain ⟨y, hy, hyt⟩ := ht t u hu
      exact ⟨y, hy, by simp [Array.getElem?_setIfInBounds, Ne.symm e, hyt]⟩
theorem conc_undef (ρ : Map) : conc ρ (.tup []) = some undef := rfl
/-- the state after a step that put a value -/
theorem St.put {nt : Nat} {ρ ρ' : Map} {tm : T AV} {A A' : AW} {df : List DA} {a : Act} {w w' : World} {d : Option Tmp} {v : AV} {x : Value} (h : St P nt ρ tm A df a w) (hd : dstIn nt d = true) (hr : Rel ρ' A' w') (he : Ext' ρ ρ') (hv : conc ρ' v = some x) :
    St P nt ρ' (putO (dstP d) v tm) A' df (a.put d x) w' :=
  ⟨h.glob.mono he, hr, put_tm hd h.size (h.tms.mono he) hv, by rw [put_size]; exact h.size, by rw [put_defers]; exact h.dfs.mono he⟩

theorem compMO_ok {nt : Nat} {o : Oper} {m : MO} (hd : dstIn nt o.dst = true) (hm : MOk P o m) :
    ∀ call, CallOk P call → ∀ tm A df tm' A' df', (compMO (dstP o.dst) m).go call tm A df = some (.mk tm' A' df') → ∀ ρ a w, St P nt ρ tm A df a w → ∀ (R : Act → World → Prop) (Q : Exit → Act → World → Prop),
    (∀ ρ' a' w', St P nt ρ' tm' A' df' a' w' → Goes ρ A w ρ' A' w' → R a' w') → o.wp P a w R Q := by
  intro call hcall tm A df tm' A' df' h ρ a w hS R Q hR
  cases m with
  | q f =>
    simp only [compMO, stQ] at h
    split at h
    · rename_i v hv
      cases h
      obtain ⟨x, hx, hrun⟩ := hm ρ A w tm a v hS.glob hS.rel hS.tms hv
      rw [Oper.wp, hrun, Oper.upon_value]
      exact hR ρ _ w (hS.put hd hS.rel (.refl ρ) hx) (.refl ρ A w)
    · cases h
  | g f =>
    simp only [compMO, stG] at h
    split at h
    · rename_i v A1 hv
      cases h
      obtain ⟨ρ', x, w', hx, hr, hg, hrun⟩ := hm ρ A w tm a v _ hS.glob hS.rel hS.tms hv
      rw [Oper.wp, hrun, Oper.upon_value]
      exact hR ρ' _ w' (hS.put hd hr hg.ext hx) hg
    · cases h
  | u f =>
    simp only [compMO, stU] at h
    split at h
    · rename_i A1 hv
      cases h
      obtain ⟨ρ', w', hr, hg, hrun⟩ := hm ρ A w tm a _ hS.glob hS.rel hS.tms hv
      rw [Oper.wp, hrun, Oper.upon_skip]
      exact hR ρ' _ w' (hS.put hd hr hg.ext (conc_undef ρ')) hg
    · cases h
  | c f =>
    simp only [compMO, stC] at h
    split at h
    · rename_i g args hv
      split at h
      · rename_i v A1 hc
        cases h
        obtain ⟨vs, hvs, hrun⟩ := hm ρ w tm a g args hS.glob hS.tms hv
        rw [Oper.wp, hrun, Oper.upon_enter]
        refine (hcall g args A v _ hc ρ w vs hS.glob hS.rel hvs).mono fun e w' ⟨x, ρ', he, hx, hr, hg⟩ => ?_
        subst he
        exact hR ρ' _ w' (hS.put hd hr hg.ext hx) hg
      · cases h
    · cases h
  | d f =>
    simp only [compMO, stD] at h
    split at h
    · rename_i g args hv
      cases h
      obtain ⟨vs, dd, cap, hvs, ht, _, hrun, hinv⟩ := hm ρ w tm a g args hS.glob hS.tms hv
      rw [Oper.wp, hrun, Oper.upon_defer]
      refine hR ρ _ w ⟨hS.glob, hS.rel, put_tm hd hS.size hS.tms (conc_undef ρ), by rw [put_size]; exact hS.size, ?_⟩ (.refl ρ A w)
      rw [put_defers]
      exact ⟨⟨vs, cap, hvs, ht, hinv⟩, hS.dfs⟩
    · cases h

theorem compStep_ok {nt : Nat} {ops : Array Oper} {o : Oper} (hT : TabOk P K) : StepOk P nt ops o (compStep K nt ops o) := by
  intro call hcall tm A df tm' A' df' h ρ a w hS R Q hR
  unfold compStep at h
  split at h
  · cases h
  rename_i hd
  split at h
  · rename_i hg
    rw [if_pos (by simp [Region.wanted, hg])]
    exact compMO_ok hd (compOp_ok hT) call hcall tm A df tm' A' df' h ρ a w hS R Q hR
  · rename_i j want hg
    split at h
    · rename_i oj hj
      split at h
      · rename_i t ht
        simp only [stGuard] at h
        have hskip : R (a.put o.dst undef) w → (some (S3.mk (putO (dstP o.dst) (.tup []) tm) A df) = some (S3.mk tm' A' df')) → True := fun _ _ => trivial
        split at h
        · rename_i x hx
          obtain ⟨X, hX, hXt⟩ := hS.tms t _ hx
          cases hX
          have hy : yielded ops a.tmps j = some x := by simp [yielded, hj, ht, hXt]
          split at h
          · rename_i hw
            rw [boolEq_spec] at hw
            have := beq_iff_eq.1 hw
            subst this
            rw [if_pos (by simp [Region.wanted, hg, hy])]
            exact compMO_ok hd (compOp_ok hT) call hcall tm A df tm' A' df' h ρ a w hS R Q hR
          · rename_i hw
            rw [boolEq_spec] at hw
            rw [if_neg (by simp only [Region.wanted, hg, hy]; intro e; have := beq_iff_eq.1 e; cases this; simp at hw)]
            cases h
            exact hR ρ _ w (hS.put hd hS.rel (.refl ρ) (conc_undef ρ)) (.refl ρ A w)
        · cases h
        · rename_i v hnb hnx hv
          obtain ⟨X, hX, hXt⟩ := hS.tms t _ hv
          have hy : yielded ops a.tmps j = none := by
            simp only [yielded, hj, Option.bind_some, ht, hXt]
            split
            · rename_i b e
              cases e
              exact (hnb _ (conc_boolI hnx hX)).elim
            · rfl
          rw [if_neg (by simp [Region.wanted, hg, hy])]
          cases h
          exact hR ρ _ w (hS.put hd hS.rel (.refl ρ) (conc_undef ρ)) (.refl ρ A w)
        · cases h
      · cases h
    · cases h
/-- the operations of a region whose order is the text's -/
theorem goSteps_ok {nt : Nat} {ops : Array Oper} (hT : TabOk P K) {call : CallF} (hcall : CallOk P call) : ∀ (l : List Nat) (os : List Oper), (∀ j : Nat, (os[j]? : Option Oper) = (l[j]?).bind fun i => ops[i]?) → os.length = l.length →
    ∀ tm A df tm' A' df', goSteps (compSteps K nt ops os) call tm A df = some (.mk tm' A' df') → ∀ ρ a w, St P nt ρ tm A df a w → ∀ (Q : Exit → Act → World → Prop),
    (∀ ρ' a' w', St P nt ρ' tm' A' df' a' w' → Goes ρ A w ρ' A' w' → Q .normal a' w') → wpOps P ops Q l a w
  | [], [], _, _, tm, A, df, tm', A', df', h, ρ, a, w, hS, Q, hQ => by cases h; exact hQ ρ a w hS (.refl ρ A w)
  | [], _ :: _, _, hl, _, _, _, _, _, _, _, _, _, _, _, _, _ => by cases hl
  | _ :: _, [], _, hl, _, _, _, _, _, _, _, _, _, _, _, _, _ => by cases hl
  | i :: l, o :: os, hget, hl, tm, A, df, tm', A', df', h, ρ, a, w, hS, Q, hQ => by
    have ho : ops[i]? = some o := by have := hget 0; simpa using this.symm
    simp only [compSteps, goSteps] at h
    split at h
    · rename_i tm1 A1 df1 h1
      have hstep := compStep_ok (nt := nt) (ops := ops) (o := o) hT call hcall tm A df tm1 A1 df1 h1 ρ a w hS (wpOps P ops Q l) Q (fun ρ' a' w' hS' hg =>
        goSteps_ok hT hcall l os (fun j => by have := hget (j + 1); simpa using this) (by simpa using hl) tm1 A1 df1 tm' A' df' h ρ' a' w' hS' Q fun ρ'' a'' w'' hS'' hg' => hQ ρ'' a'' w'' hS'' (hg.trans hg'))
      simp only [wpOps, ho]
      split
      · rename_i hw; rw [if_pos hw] at hstep; exact .inl hstep
      · rename_i hw; rw [if_neg hw] at hstep; exact hstep
    · cases h
end Go.Proofs.YtcaagfgopmhilaaGreatDoor.Vai
