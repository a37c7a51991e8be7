/- A part of the proof that the law of this seat holds: P27; no condition. -/
import Derived.Test.YtcaagfgopmhilaaGreatDoorP26
namespace Go.Proofs.YtcaagfgopmhilaaGreatDoor.Vai
variable {P : Program} {K : Tab}

/-! ### what a run in the text's order shows of each operation -/
def SrcOk (pre W : T Nat) (F tm0 : T AV) (i : Nat) (v : T AV) : Prop := ∀ t x, v.get (pos t) = some x →
  (∃ j, W.get (pos t) = some j ∧ B pre i j ∧ F.get (pos j) = some x) ∨ ((∀ j, W.get (pos t) = some j → B pre j i) ∧ tm0.get (pos t) = some x)
theorem view_ok {pre W : T Nat} {val F tm0 : T AV} {i : Nat} (hF : ∀ j x, val.get (pos j) = some x → F.get (pos j) = some x) : ∀ (ts : List Nat) (src : List (Pos × Option Pos)), srcOf pre W i ts = some src → SrcOk pre W F tm0 i (mkView val tm0 src)
  | [], src, h => by
    cases h
    intro t x hx
    simp only [mkView] at hx
    cases hp : pos t <;> rw [hp] at hx <;> cases hx
  | t :: ts, src, h => by
    simp only [srcOf] at h
    split at h
    · cases h
    · rename_i m hm
      have ih := view_ok (tm0 := tm0) hF ts m hm
      split at h
      · rename_i hW
        cases h
        intro t' x hx
        simp only [mkView] at hx
        split at hx
        · rename_i u hu
          by_cases e : t' = t
          · subst e
            rw [T.get_set_eq] at hx; cases hx
            exact .inr ⟨fun j hj => (by rw [hW] at hj; cases hj), hu⟩
          · rw [T.get_set_ne _ _ _ _ (pos_ne e)] at hx; exact ih t' x hx
        · exact ih t' x hx
      · rename_i j hW
        split at h
        · rename_i hb
          cases h
          intro t' x hx
          simp only [mkView] at hx
          split at hx
          · rename_i u hu
            by_cases e : t' = t
            · subst e
              rw [T.get_set_eq] at hx; cases hx
              exact .inl ⟨j, hW, hb, hF j _ hu⟩
            · rw [T.get_set_ne _ _ _ _ (pos_ne e)] at hx; exact ih t' x hx
          · exact ih t' x hx
        · split at h
          · rename_i hb
            cases h
            intro t' x hx
            simp only [mkView] at hx
            split at hx
            · rename_i u hu
              by_cases e : t' = t
              · subst e
                rw [T.get_set_eq] at hx; cases hx
                exact .inr ⟨fun j' hj => by rw [hW] at hj; cases hj; exact hb, hu⟩
              · rw [T.get_set_ne _ _ _ _ (pos_ne e)] at hx; exact ih t' x hx
            · exact ih t' x hx
          · cases h

/-- what does not change from an operation to the next -/
structure Cx where
  ops : Array Oper
  pre : T Nat
  W : T Nat
  effs : List Nat
  lays : List Nat
  tm0 : T AV
  base : Nat
  res : Nat
  call : CallF
noncomputable def Cx.lo (X : Cx) (i : Nat) : Nat := waits (natAt X.pre i) X.effs
noncomputable def Cx.hi (X : Cx) (i : Nat) : Nat := X.effs.length - waiting X.pre i X.effs
noncomputable def Cx.takes (X : Cx) (i : Nat) : List Nat := takesOf X.pre (natAt X.pre i) X.effs X.lays
/-- what a whole run left -/
structure Fin where
  F : T AV
  fl : T AObj
  sg : T Stg
def RunCert (X : Cx) (Y : Fin) (i j : Nat) (v : T AV) (u : AV) : DK → Prop
  | .q f => Y.fl.get (pos i) = none ∧ ∀ c, X.lo i ≤ c → c ≤ X.hi i → ∃ s, Y.sg.get (pos c) = some s ∧ f v s.A = some u
  | .a f => i < X.res ∧ ∃ A' ob, f v ⟨.leaf, X.base + i⟩ = some (u, A') ∧ A'.h.get (pos (X.base + i)) = some ob ∧ Y.fl.get (pos i) = some ob
  | .e m => Y.fl.get (pos i) = none ∧ X.lo i = j ∧ X.hi i = j ∧ ∃ s s', Y.sg.get (pos j) = some s ∧ Y.sg.get (pos (j + 1)) = some s' ∧ runMO m X.call v (takeIn Y.fl X.base (X.takes i) s.A) s.df = some (u, s')
def PassCert (X : Cx) (Y : Fin) (i j : Nat) : DK → Prop
  | .e _ => X.lo i = j ∧ X.hi i = j ∧ ∃ s, Y.sg.get (pos j) = some s ∧ Y.sg.get (pos (j + 1)) = some ⟨takeIn Y.fl X.base (X.takes i) s.A, s.df⟩
  | _ => True
def Wants (X : Cx) (o : Oper) (v : T AV) : Prop := o.guard = none ∨ ∃ g want og t, o.guard = some (g, want) ∧ X.ops[g]? = some og ∧ og.dst = some t ∧ v.get (pos t) = some (.b want)
def NoWant (X : Cx) (o : Oper) (v : T AV) : Prop := ∃ g want og t gx, o.guard = some (g, want) ∧ X.ops[g]? = some og ∧ og.dst = some t ∧ v.get (pos t) = some gx ∧ gx ≠ .b want ∧ ∀ y, gx ≠ .x y
def OpCert (K : Tab) (X : Cx) (Y : Fin) (i : Nat) (o : Oper) : Prop :=
  ∃ j v u, SrcOk X.pre X.W Y.F X.tm0 i v ∧ Y.F.get (pos i) = some u ∧
    ((Wants X o v ∧ RunCert X Y i j v u (dkOf K o.op)) ∨ (NoWant X o v ∧ u = .tup [] ∧ Y.fl.get (pos i) = none ∧ PassCert X Y i j (dkOf K o.op)))

theorem rdOk_spec {sg : T Stg} {r : Rd} : ∀ (n c : Nat), rdOk sg r c n = true → ∀ k, c ≤ k → k < c + n → ∃ s, sg.get (pos k) = some s ∧ r.f r.v s.A = some r.u
  | 0, c, _, k, h1, h2 => by omega
  | n + 1, c, h, k, h1, h2 => by
    simp only [rdOk] at h
    split at h
    · rename_i s hs
      simp only [Bool.and_eq_true] at h
      by_cases e : k = c
      · subst e
        refine ⟨s, hs, ?_⟩
        have := h.1
        unfold readIs at this
        split at this
        · rename_i u hu; rw [hu, aveq_ok this]
        · cases this
      · exact rdOk_spec n (c + 1) h.2 k (by omega) (by omega)
    · cases h
theorem rdsOk_mem {sg : T Stg} : ∀ {l : List Rd} {r : Rd}, rdsOk sg l = true → r ∈ l → rdOk sg r r.lo (r.hi + 1 - r.lo) = true
  | [], r, _, h => by cases h
  | x :: l, r, h, hr => by
    simp only [rdsOk, Bool.and_eq_true] at h
    rcases List.mem_cons.1 hr with rfl | hr
    · exact h.1
    · exact rdsOk_mem h.2 hr

/-- what a step keeps, and what it leaves to say of its operation -/
structure StepCert (K : Tab) (X : Cx) (i j j' : Nat) (o : Oper) (val : T AV) (fl : T AObj) (sg : T Stg) (rds : List Rd) (val' : T AV) (fl' : T AObj) (sg' : T Stg) (rds' : List Rd) : Prop where
  hv : ∀ k, k ≠ i → val'.get (pos k) = val.get (pos k)
  hf : ∀ k, k ≠ i → fl'.get (pos k) = fl.get (pos k)
  hs : ∀ k, k ≤ j → sg'.get (pos k) = sg.get (pos k)
  hj : j ≤ j'
  hr : ∀ r ∈ rds, r ∈ rds'
  cert : ∀ Y : Fin, ∀ rdsF, (∀ k, k < i + 1 → Y.F.get (pos k) = val'.get (pos k)) → (∀ k, k < i + 1 → Y.fl.get (pos k) = fl'.get (pos k)) → (∀ k, k ≤ j' → Y.sg.get (pos k) = sg'.get (pos k)) →
    (∀ r ∈ rds', r ∈ rdsF) → rdsOk Y.sg rdsF = true → OpCert K X Y i o

theorem takes_lt {X : Cx} {i a : Nat} (hp : ∀ j, B X.pre i j → j < i) (h : a ∈ X.takes i) : a < i := by
  unfold Cx.takes at h
  rw [takesOf_filter] at h
  have := (List.mem_filter.1 h).2
  simp only [Bool.and_eq_true] at this
  exact hp a this.1

theorem dRun_cert {X : Cx} {i j : Nat} {o : Oper} {k : DK2} {v : T AV} {val : T AV} {fl : T AObj} {sg : T Stg} {rds : List Rd} {val' : T AV} {fl' : T AObj} {sg' : T Stg} {rds' : List Rd}
    (hk : compDK X.effs X.lays X.pre i j (dkOf K o.op) = some k) (hp : ∀ j, B X.pre i j → j < i) (hfl : fl.get (pos i) = none) (hval : ∀ k, i ≤ k → val.get (pos k) = none)
    (hw : Wants X o v) (hsrc : ∀ F : T AV, (∀ j x, val.get (pos j) = some x → F.get (pos j) = some x) → SrcOk X.pre X.W F X.tm0 i v)
    (h : dRun X.base X.res i j k v X.call (.mk val fl sg rds) = some (.mk val' fl' sg' rds')) : StepCert K X i j (nextJ k j) o val fl sg rds val' fl' sg' rds' := by
  have hSrc : ∀ (Y : Fin) (u : AV), (∀ k, k < i + 1 → Y.F.get (pos k) = (val.set (pos i) u).get (pos k)) → SrcOk X.pre X.W Y.F X.tm0 i v := fun Y u hY => hsrc Y.F fun j x hx => by
    by_cases hji : i ≤ j
    · rw [hval j hji] at hx; cases hx
    · rw [hY j (by omega), T.get_set_ne _ _ _ _ (pos_ne (by omega))]; exact hx
  cases hd : dkOf K o.op with
  | q f =>
    rw [hd] at hk
    simp only [compDK] at hk
    split at hk
    · rename_i hlh
      simp only [Bool.and_eq_true, beq_iff] at hlh
      cases hk
      simp only [dRun] at h
      split at h
      · rename_i s hs
        split at h
        · rename_i u hu
          cases h
          refine ⟨fun k hk => T.get_set_ne _ _ _ _ (pos_ne hk), fun _ _ => rfl, fun _ _ => rfl, Nat.le_refl _, fun _ h => h, fun Y rdsF hF hflF hsg _ _ => ⟨j, v, u, hSrc Y u hF, by rw [hF i (by omega), T.get_set_eq], .inl ⟨hw, ?_⟩⟩⟩
          rw [hd]
          refine ⟨by rw [hflF i (by omega)]; exact hfl, fun c h1 h2 => ?_⟩
          have : c = j := by unfold Cx.lo Cx.hi at *; omega
          subst this
          exact ⟨s, by rw [hsg c (Nat.le_refl _)]; exact hs, hu⟩
        · cases h
      · cases h
    · cases hk
      simp only [dRun] at h
      split at h
      · rename_i s hs
        split at h
        · rename_i u hu
          cases h
          refine ⟨fun k hk => T.get_set_ne _ _ _ _ (pos_ne hk), fun _ _ => rfl, fun _ _ => rfl, Nat.le_refl _, fun _ h => List.mem_cons_of_mem _ h, fun Y rdsF hF hflF hsg hrd hok => ⟨j, v, u, hSrc Y u hF, by rw [hF i (by omega), T.get_set_eq], .inl ⟨hw, ?_⟩⟩⟩
          rw [hd]
          refine ⟨by rw [hflF i (by omega)]; exact hfl, fun c h1 h2 => ?_⟩
          have := rdOk_spec _ _ (rdsOk_mem hok (hrd _ List.mem_cons_self)) c h1 (by unfold Cx.lo Cx.hi at *; simp only; omega)
          exact this
        · cases h
      · cases h
  | a f =>
    rw [hd] at hk
    simp only [compDK] at hk
    cases hk
    simp only [dRun] at h
    split at h
    · rename_i hlt
      split at h
      · rename_i u A' hu
        split at h
        · rename_i ob hob
          cases h
          refine ⟨fun k hk => T.get_set_ne _ _ _ _ (pos_ne hk), fun k hk => T.get_set_ne _ _ _ _ (pos_ne hk), fun _ _ => rfl, Nat.le_refl _, fun _ h => h, fun Y rdsF hF hflF hsg _ _ => ⟨j, v, u, hSrc Y u hF, by rw [hF i (by omega), T.get_set_eq], .inl ⟨hw, ?_⟩⟩⟩
          rw [hd]
          exact ⟨blt_iff.1 hlt, A', ob, hu, hob, by rw [hflF i (by omega), T.get_set_eq]⟩
        · cases h
      · cases h
    · cases h
  | e m =>
    rw [hd] at hk
    simp only [compDK] at hk
    split at hk
    · rename_i hlh
      simp only [Bool.and_eq_true, beq_iff] at hlh
      cases hk
      simp only [dRun] at h
      split at h
      · rename_i s hs
        split at h
        · rename_i u s' hu
          cases h
          refine ⟨fun k hk => T.get_set_ne _ _ _ _ (pos_ne hk), fun _ _ => rfl, fun k hk => T.get_set_ne _ _ _ _ (pos_ne (by omega)), Nat.le_succ _, fun _ h => h, fun Y rdsF hF hflF hsg _ _ => ⟨j, v, u, hSrc Y u hF, by rw [hF i (by omega), T.get_set_eq], .inl ⟨hw, ?_⟩⟩⟩
          rw [hd]
          refine ⟨by rw [hflF i (by omega)]; exact hfl, hlh.1, hlh.2, s, s', ?_, ?_, ?_⟩
          · rw [hsg j (Nat.le_succ _), T.get_set_ne _ _ _ _ (pos_ne (by omega))]; exact hs
          · rw [hsg (j + 1) (Nat.le_refl _), T.get_set_eq]
          · rw [takeIn_congr (fl := Y.fl) (fl' := fl) _ _ fun a ha => hflF a (by have := takes_lt hp ha; omega)]; exact hu
        · cases h
      · cases h
    · cases hk
theorem dPass_cert {X : Cx} {i j : Nat} {o : Oper} {k : DK2} {v : T AV} {val : T AV} {fl : T AObj} {sg : T Stg} {rds : List Rd} {val' : T AV} {fl' : T AObj} {sg' : T Stg} {rds' : List Rd}
    (hk : compDK X.effs X.lays X.pre i j (dkOf K o.op) = some k) (hp : ∀ j, B X.pre i j → j < i) (hfl : fl.get (pos i) = none) (hval : ∀ k, i ≤ k → val.get (pos k) = none)
    (hw : NoWant X o v) (hsrc : ∀ F : T AV, (∀ j x, val.get (pos j) = some x → F.get (pos j) = some x) → SrcOk X.pre X.W F X.tm0 i v)
    (h : dPass X.base i j k (.mk val fl sg rds) = some (.mk val' fl' sg' rds')) : StepCert K X i j (nextJ k j) o val fl sg rds val' fl' sg' rds' := by
  have hSrc : ∀ (Y : Fin) (u : AV), (∀ k, k < i + 1 → Y.F.get (pos k) = (val.set (pos i) u).get (pos k)) → SrcOk X.pre X.W Y.F X.tm0 i v := fun Y u hY => hsrc Y.F fun j x hx => by
    by_cases hji : i ≤ j
    · rw [hval j hji] at hx; cases hx
    · rw [hY j (by omega), T.get_set_ne _ _ _ _ (pos_ne (by omega))]; exact hx
  have plain : k = .q (match dkOf K o.op with | .q f => f | _ => fun _ _ => none) none ∨ True := .inr trivial
  cases hd : dkOf K o.op with
  | q f =>
    rw [hd] at hk
    have hk2 : ∃ r, k = .q f r := by
      simp only [compDK] at hk
      split at hk <;> cases hk <;> exact ⟨_, rfl⟩
    obtain ⟨r, rfl⟩ := hk2
    simp only [dPass] at h
    cases h
    refine ⟨fun k hk => T.get_set_ne _ _ _ _ (pos_ne hk), fun _ _ => rfl, fun _ _ => rfl, Nat.le_refl _, fun _ h => h, fun Y rdsF hF hflF hsg _ _ => ⟨j, v, .tup [], hSrc Y _ hF, by rw [hF i (by omega), T.get_set_eq], .inr ⟨hw, rfl, by rw [hflF i (by omega)]; exact hfl, ?_⟩⟩⟩
    rw [hd]; trivial
  | a f =>
    rw [hd] at hk
    simp only [compDK] at hk
    cases hk
    simp only [dPass] at h
    cases h
    refine ⟨fun k hk => T.get_set_ne _ _ _ _ (pos_ne hk), fun _ _ => rfl, fun _ _ => rfl, Nat.le_refl _, fun _ h => h, fun Y rdsF hF hflF hsg _ _ => ⟨j, v, .tup [], hSrc Y _ hF, by rw [hF i (by omega), T.get_set_eq], .inr ⟨hw, rfl, by rw [hflF i (by omega)]; exact hfl, ?_⟩⟩⟩
    rw [hd]; trivial
  | e m =>
    rw [hd] at hk
    simp only [compDK] at hk
    split at hk
    · rename_i hlh
      simp only [Bool.and_eq_true, beq_iff] at hlh
      cases hk
      simp only [dPass] at h
      split at h
      · rename_i s hs
        cases h
        refine ⟨fun k hk => T.get_set_ne _ _ _ _ (pos_ne hk), fun _ _ => rfl, fun k hk => T.get_set_ne _ _ _ _ (pos_ne (by omega)), Nat.le_succ _, fun _ h => h, fun Y rdsF hF hflF hsg _ _ => ⟨j, v, .tup [], hSrc Y _ hF, by rw [hF i (by omega), T.get_set_eq], .inr ⟨hw, rfl, by rw [hflF i (by omega)]; exact hfl, ?_⟩⟩⟩
        rw [hd]
        refine ⟨hlh.1, hlh.2, s, ?_, ?_⟩
        · rw [hsg j (Nat.le_succ _), T.get_set_ne _ _ _ _ (pos_ne (by omega))]; exact hs
        · rw [hsg (j + 1) (Nat.le_refl _), T.get_set_eq, takeIn_congr (fl := Y.fl) (fl' := fl) _ _ fun a ha => hflF a (by have := takes_lt hp ha; omega)]; rfl
      · cases h
    · cases hk

theorem compDSteps_cons {nt : Nat} {ops : Array Oper} {effs lays : List Nat} {pre W : T Nat} {o : Oper} {os : List Oper} {i j : Nat} {l : List DO} (h : compDSteps K nt ops effs lays pre W (o :: os) i j = some l) :
    ∃ s g k l', dstIn nt o.dst = true ∧ srcOf pre W i (looks ops o) = some s ∧ compGrd ops o = some g ∧ compDK effs lays pre i j (dkOf K o.op) = some k ∧ compDSteps K nt ops effs lays pre W os (i + 1) (nextJ k j) = some l' ∧ l = ⟨s, g, k⟩ :: l' := by
  simp only [compDSteps] at h
  split at h
  · rename_i s g k h1 h2 h3 h4
    split at h
    · rename_i l' hl'
      cases h
      exact ⟨s, g, k, l', h1, h2, h3, h4, hl', rfl⟩
    · cases h
  · cases h

theorem dStep_cert {X : Cx} {nt i j : Nat} {o : Oper} {s : List (Pos × Option Pos)} {g : Option (Pos × Bool)} {k : DK2} {val : T AV} {fl : T AObj} {sg : T Stg} {rds : List Rd} {val' : T AV} {fl' : T AObj} {sg' : T Stg} {rds' : List Rd}
    (hs : srcOf X.pre X.W i (looks X.ops o) = some s) (hg : compGrd X.ops o = some g) (hk : compDK X.effs X.lays X.pre i j (dkOf K o.op) = some k)
    (hp : ∀ j, B X.pre i j → j < i) (hfl : fl.get (pos i) = none) (hval : ∀ k, i ≤ k → val.get (pos k) = none)
    (h : dStep X.tm0 X.base X.res i j ⟨s, g, k⟩ X.call (.mk val fl sg rds) = some (.mk val' fl' sg' rds')) : StepCert K X i j (nextJ k j) o val fl sg rds val' fl' sg' rds' := by
  have hsrc : ∀ F : T AV, (∀ j x, val.get (pos j) = some x → F.get (pos j) = some x) → SrcOk X.pre X.W F X.tm0 i (mkView val X.tm0 s) := fun F hF => view_ok hF _ _ hs
  simp only [dStep, DS.val] at h
  unfold compGrd at hg
  split at hg
  · rename_i hgn
    cases hg
    exact dRun_cert hk hp hfl hval (.inl hgn) hsrc h
  · rename_i gi want hgi
    split at hg
    · rename_i og hog
      split at hg
      · rename_i t ht
        cases hg
        simp only at h
        split at h
        · rename_i x hx
          split at h
          · rename_i hb
            rw [boolEq_spec] at hb
            have hb := beq_iff_eq.1 hb
            subst hb
            exact dRun_cert hk hp hfl hval (.inr ⟨gi, x, og, t, hgi, hog, ht, hx⟩) hsrc h
          · rename_i hb
            refine dPass_cert hk hp hfl hval ⟨gi, want, og, t, _, hgi, hog, ht, hx, fun e => ?_, fun y e => by cases e⟩ hsrc h
            cases e
            rw [boolEq_spec] at hb; simp at hb
        · cases h
        · rename_i gx hnb hnx hx
          exact dPass_cert hk hp hfl hval ⟨gi, want, og, t, gx, hgi, hog, ht, hx, fun e => hnb _ e, hnx⟩ hsrc h
        · cases h
      · cases hg
    · cases hg

theorem goD_cert {X : Cx} {nt : Nat} : ∀ (os : List Oper) (i j : Nat) (l : List DO) (val : T AV) (fl : T AObj) (sg : T Stg) (rds : List Rd) (Y : Fin) (rdsF : List Rd),
    compDSteps K nt X.ops X.effs X.lays X.pre X.W os i j = some l → goD X.tm0 X.base X.res X.call l i j (.mk val fl sg rds) = some (.mk Y.F Y.fl Y.sg rdsF) →
    (∀ t o, os[t]? = some o → ∀ j, B X.pre (i + t) j → j < i + t) → (∀ k, i ≤ k → val.get (pos k) = none) → (∀ k, i ≤ k → fl.get (pos k) = none) →
    (∀ k, k < i → Y.F.get (pos k) = val.get (pos k)) ∧ (∀ k, k < i → Y.fl.get (pos k) = fl.get (pos k)) ∧ (∀ k, k ≤ j → Y.sg.get (pos k) = sg.get (pos k)) ∧ (∀ r ∈ rds, r ∈ rdsF) ∧
    (rdsOk Y.sg rdsF = true → ∀ t o, os[t]? = some o → dstIn nt o.dst = true ∧ OpCert K X Y (i + t) o)
  | [], i, j, l, val, fl, sg, rds, Y, rdsF, hl, h, _, _, _ => by
    cases hl; cases h
    exact ⟨fun _ _ => rfl, fun _ _ => rfl, fun _ _ => rfl, fun _ h => h, fun _ t o ho => by simp at ho⟩
  | o :: os, i, j, l, val, fl, sg, rds, Y, rdsF, hl, h, hp, hval, hfl => by
    obtain ⟨s, g, k, l', h1, h2, h3, h4, h5, rfl⟩ := compDSteps_cons hl
    simp only [goD] at h
    split at h
    · rename_i st hst
      obtain ⟨val1, fl1, sg1, rds1⟩ := st
      have hc := dStep_cert (nt := nt) h2 h3 h4 (by simpa using hp 0 o rfl) (hfl i (Nat.le_refl _)) hval hst
      obtain ⟨g1, g2, g3, g4, g5⟩ := goD_cert os (i + 1) (nextJ k j) l' val1 fl1 sg1 rds1 Y rdsF h5 h (fun t o' ho j hj => by
          have := hp (t + 1) o' (by simpa using ho) j (by rwa [show i + (t + 1) = i + 1 + t by omega])
          omega)
        (fun k hk => by rw [hc.hv k (by omega)]; exact hval k (by omega)) (fun k hk => by rw [hc.hf k (by omega)]; exact hfl k (by omega))
      refine ⟨fun k hk => by rw [g1 k (by omega), hc.hv k (by omega)], fun k hk => by rw [g2 k (by omega), hc.hf k (by omega)], fun k hk => by rw [g3 k (Nat.le_trans hk hc.hj), hc.hs k hk],
        fun r hr => g4 r (hc.hr r hr), fun hok t o' ho => ?_⟩
      cases t with
      | zero =>
        cases ho
        exact ⟨h1, hc.cert Y rdsF g1 g2 g3 g4 hok⟩
      | succ t =>
        have := g5 hok t o' (by simpa using ho)
        rwa [show i + 1 + t = i + (t + 1) by omega] at this
    · cases h
end Go.Proofs.YtcaagfgopmhilaaGreatDoor.Vai
