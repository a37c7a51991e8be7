/- A part of the proof that the law of this seat holds: P29; no condition. -/
import Derived.Test.YtcaagfgopmhilaaGreatDoorP28
namespace Go.Proofs.YtcaagfgopmhilaaGreatDoor.Vai
variable {P : Program} {K : Tab}
section
variable {X : Cx} {Y : Fin} {nt : Nat} {ρ0 : Map} {A0 : AW} {w0 : World} {listed : Array Bool} {ρ : Map} {s : Stg} {c : Nat} {a : Act} {w : World}

/-- a new object is laid -/
theorem inv_lay (hF : Facts P K X Y nt) (hI : Inv P K X Y nt ρ0 A0 w0 listed ρ s c a w) {i : Nat} {o : Oper} (ho : X.ops[i]? = some o) (hi : i < listed.size) (hn : ¬Li listed i) (hp : ∀ j, B X.pre i j → Li listed j)
    {u : AV} {x : Value} {lim d : Nat} {ob : Obj} {ao : AObj} (hu : Y.F.get (pos i) = some u) (hres : i < X.res) (hx : conc (upd ρ (pos (X.base + i)) ⟨w.heap.size, 0, lim⟩) u = some x) (hne : i ∉ X.effs) (hfl : Y.fl.get (pos i) = some ao)
    (hob : ObjRel (upd ρ (pos (X.base + i)) ⟨w.heap.size, 0, lim⟩) (some ob) ⟨w.heap.size, 0, lim⟩ ao) :
    Inv P K X Y nt ρ0 A0 w0 (listed.setIfInBounds i true) (upd ρ (pos (X.base + i)) ⟨w.heap.size, 0, lim⟩) s c (a.put o.dst x) { w with heap := w.heap.push ob, drawn := d } := by
  have hf := hI.unl i hres hn
  have hext := upd_ext ⟨w.heap.size, 0, lim⟩ hf
  have hroom := hI.room
  have hbase := hI.base
  obtain ⟨hr, hg⟩ := hI.rel.beside (lim := lim) (d := d) (ob := ob) hf (by omega) hI.goes (by omega)
  have hk : ∀ k, k ≠ i → upd ρ (pos (X.base + i)) ⟨w.heap.size, 0, lim⟩ (pos (X.base + k)) = ρ (pos (X.base + k)) := fun k hk => upd_ne _ _ (pos_ne (by omega))
  have hold : ∀ r, r < w.heap.size → (w.heap.push ob)[r]? = w.heap[r]? := fun r hr => by rw [Array.getElem?_push, if_neg (by omega)]
  refine inv_put hF hI ho hi hn hp hu hx hext rfl (cnt_same hI hne) hI.stg hr (by rw [put_defers]; exact hI.dfs.mono hext) hg hI.room (fun k kb h1 h2 h3 => ?_) (fun k k' hkk h1 h2 h3 h4 kb kb' L L' g1 g2 g3 g4 => ?_) (fun k h1 h2 => ?_)
  · by_cases e : k = i
    · subst e
      rw [hfl] at h2; cases h2
      refine ⟨hres, ⟨_, upd_eq _ _ _, by simpa using hob, by simp, hI.goes.size, fun h => ?_⟩⟩
      obtain ⟨b, o', L, g1, g2, g3⟩ := (names_upd hI.rel hf).1 h
      have := hI.rel.lt g1 g2
      simp only at g3; omega
    · obtain ⟨h4, L, g1, g2, g3, g4, g5⟩ := hI.fls k kb (((li_set hi k).1 h1).resolve_right e) h2 (free_of hi h3)
      refine ⟨h4, ⟨L, by rw [hk k e]; exact g1, ?_, by simp; omega, g4, fun h => g5 ((names_upd hI.rel hf).1 h)⟩⟩
      show ObjRel _ (w.heap.push ob)[L.r]? L kb
      rw [hold _ g3]; exact g2.mono hext
  · by_cases e : k = i
    · subst e
      rw [upd_eq] at g3; cases g3
      have e' : k' ≠ k := fun x => hkk x.symm
      rw [hk k' e'] at g4
      obtain ⟨_, L2, q1, _, q3, _⟩ := hI.fls k' kb' (((li_set hi k').1 h2).resolve_right e') g2 (free_of hi h4)
      rw [g4] at q1; cases q1
      simp only; omega
    · rw [hk k e] at g3
      by_cases e' : k' = i
      · subst e'
        rw [upd_eq] at g4; cases g4
        obtain ⟨_, L2, q1, _, q3, _⟩ := hI.fls k kb (((li_set hi k).1 h1).resolve_right e) g1 (free_of hi h3)
        rw [g3] at q1; cases q1
        simp only; omega
      · rw [hk k' e'] at g4
        exact hI.flsep k k' hkk (((li_set hi k).1 h1).resolve_right e) (((li_set hi k').1 h2).resolve_right e') (free_of hi h3) (free_of hi h4) kb kb' L L' g1 g2 g3 g4
  · have e : k ≠ i := fun e => h2 ((li_set hi k).2 (.inr e))
    rw [hk k e]
    exact hI.unl k h1 fun h => h2 ((li_set hi k).2 (.inl h))

/-- what was laid and is waited for is taken in -/
theorem inv_take (hF : Facts P K X Y nt) (hI : Inv P K X Y nt ρ0 A0 w0 listed ρ s c a w) {i : Nat} {o : Oper} (ho : X.ops[i]? = some o) (hn : ¬Li listed i) (hp : ∀ j, B X.pre i j → Li listed j) (hlo : X.lo i = c) :
    Rel ρ (takeIn Y.fl X.base (X.takes i) s.A) w ∧ Goes ρ0 A0 w0 ρ (takeIn Y.fl X.base (X.takes i) s.A) w ∧ (takeIn Y.fl X.base (X.takes i) s.A).nx = s.A.nx ∧
    (∀ r, Names ρ (takeIn Y.fl X.base (X.takes i) s.A) r → Names ρ s.A r ∨ ∃ k, Li listed k ∧ Free X listed k ∧ B X.pre i k ∧ ∃ ob L, Y.fl.get (pos k) = some ob ∧ ρ (pos (X.base + k)) = some L ∧ L.r = r) := by
  have hcount : ∀ e ∈ X.effs, Li listed e → B X.pre i e := by
    refine count_eq (fun e => bit (natAt X.pre i) e) (fun e => listed.getD e false) X.effs (fun e _ h => hp e h) ?_
    rw [hI.cnt, ← waits_count]; exact Nat.le_of_eq hlo.symm
  have hmem : ∀ k ∈ X.takes i, k ∈ X.lays ∧ B X.pre i k ∧ Li listed k ∧ Free X listed k := by
    intro k hk
    unfold Cx.takes at hk
    rw [takesOf_filter] at hk
    obtain ⟨h1, h2⟩ := List.mem_filter.1 hk
    simp only [Bool.and_eq_true, Bool.not_eq_true'] at h2
    refine ⟨h1, h2.1, hp k h2.1, fun e he hl hB => ?_⟩
    have := (anyPre2_iff X.pre (natAt X.pre i) k X.effs).2 ⟨e, he, hcount e he hl, hB⟩
    rw [h2.2] at this; cases this
  have hnd : (X.takes i).Nodup := by unfold Cx.takes; rw [takesOf_filter]; exact hF.layn.sublist List.filter_sublist
  have hroom := hI.room
  obtain ⟨r1, r2, r3, r4⟩ := takeIn_ok (fl := Y.fl) (base := X.base) (X.takes i) s.A hnd hI.rel hI.goes
    (fun k hk ob hob => (hI.fls k ob (hmem k hk).2.2.1 hob (hmem k hk).2.2.2).2)
    (fun k hk k' hk' hne ob ob' L L' g1 g2 g3 g4 => hI.flsep k k' hne (hmem k hk).2.2.1 (hmem k' hk').2.2.1 (hmem k hk).2.2.2 (hmem k' hk').2.2.2 ob ob' L L' g1 g2 g3 g4)
    (fun k hk => by have := hF.res k (hmem k hk).1; omega)
  refine ⟨r1, r2, r3, fun r h => (r4 r h).imp id fun ⟨k, hk, ob, L, g1, g2, g3⟩ => ⟨k, (hmem k hk).2.2.1, (hmem k hk).2.2.2, (hmem k hk).2.1, ob, L, g1, g2, g3⟩⟩

/-- one of the acting ones has acted -/
theorem inv_act (hF : Facts P K X Y nt) (hI : Inv P K X Y nt ρ0 A0 w0 listed ρ s c a w) {i : Nat} {o : Oper} (ho : X.ops[i]? = some o) (hi : i < listed.size) (hn : ¬Li listed i) (hp : ∀ j, B X.pre i j → Li listed j)
    (heff : i ∈ X.effs) (hlo : X.lo i = c) {u : AV} {x : Value} {ρ' : Map} {s' : Stg} {a' : Act} {w' : World} (hu : Y.F.get (pos i) = some u) (hx : conc ρ' u = some x) (hfl : Y.fl.get (pos i) = none) (hs : Y.sg.get (pos (c + 1)) = some s')
    (hr : Rel ρ' s'.A w') (hgo : Goes ρ (takeIn Y.fl X.base (X.takes i) s.A) w ρ' s'.A w') (ha : a'.tmps = (a.put o.dst x).tmps) (hd : DfOk P ρ' s'.df a'.defers) :
    Inv P K X Y nt ρ0 A0 w0 (listed.setIfInBounds i true) ρ' s' (c + 1) a' w' := by
  obtain ⟨r1, r2, r3, r4⟩ := inv_take hF hI ho hn hp hlo
  have hk : ∀ k ob, Li (listed.setIfInBounds i true) k → Y.fl.get (pos k) = some ob → Li listed k := fun k ob h1 h2 => ((li_set hi k).1 h1).resolve_right fun e => by subst e; rw [hfl] at h2; cases h2
  have hnB : ∀ k, Free X (listed.setIfInBounds i true) k → ¬B X.pre i k := fun k h => h i heff ((li_set hi i).2 (.inr rfl))
  have hroom := hI.room
  have hnx := hgo.nx
  have hloc : ∀ k ob L, Li listed k → Free X (listed.setIfInBounds i true) k → Y.fl.get (pos k) = some ob → ρ' (pos (X.base + k)) = some L → ρ (pos (X.base + k)) = some L := by
    intro k ob L h1 h2 h3 h4
    obtain ⟨_, L', g1, _⟩ := hI.fls k ob h1 h3 (free_of hi h2)
    have := hgo.ext _ _ g1
    rw [h4] at this; cases this; exact g1
  refine inv_put hF hI ho hi hn hp hu hx hgo.ext ha (cnt_more hI hF heff hi hn) hs hr hd (r2.trans hgo) (by omega) (fun k kb h1 h2 h3 => ?_) (fun k k' hkk h1 h2 h3 h4 kb kb' L L' g1 g2 g3 g4 => ?_) (fun k h1 h2 => ?_)
  · obtain ⟨h4, L, g1, g2, g3, g4, g5⟩ := hI.fls k kb (hk k kb h1 h2) h2 (free_of hi h3)
    have hnn : ¬Names ρ (takeIn Y.fl X.base (X.takes i) s.A) L.r := by
      intro h
      rcases r4 _ h with h | ⟨k', q1, q2, q3, ob', L', q4, q5, q6⟩
      · exact g5 h
      · have hne : k ≠ k' := fun e => hnB k h3 (e ▸ q3)
        exact hI.flsep k k' hne (hk k kb h1 h2) q1 (free_of hi h3) q2 kb ob' L L' h2 q4 g1 q5 q6.symm
    have hno : ¬Own ρ (takeIn Y.fl X.base (X.takes i) s.A) L.r := fun ⟨b, o', L', q1, _, q2, q3⟩ => hnn ⟨b, o', L', q1, q2, q3⟩
    refine ⟨h4, ⟨L, hgo.ext _ _ g1, ?_, Nat.lt_of_lt_of_le g3 hgo.size, g4, hgo.keepN _ g3 hnn⟩⟩
    rw [(hgo.keep _ g3 hno).1]; exact g2.mono hgo.ext
  · exact hI.flsep k k' hkk (hk k kb h1 g1) (hk k' kb' h2 g2) (free_of hi h3) (free_of hi h4) kb kb' L L' g1 g2 (hloc k kb L (hk k kb h1 g1) h3 g1 g3) (hloc k' kb' L' (hk k' kb' h2 g2) h4 g2 g4)
  · exact hgo.old _ (by omega) (hI.unl k h1 fun h => h2 ((li_set hi k).2 (.inl h)))

theorem inv_step (hF : Facts P K X Y nt) (hI : Inv P K X Y nt ρ0 A0 w0 listed ρ s c a w) {i : Nat} (hrd : i ∈ Region.ready .any X.ops listed) {R : Act → World → Prop} {Q : Exit → Act → World → Prop}
    (hR : ∀ ρ' s' c' a' w', Inv P K X Y nt ρ0 A0 w0 (listed.setIfInBounds i true) ρ' s' c' a' w' → R a' w') : wpOp P X.ops Q i R a w := by
  obtain ⟨hn, hi, o, ho, hp⟩ := ready_pre hF hI hrd
  obtain ⟨hd, j, v, u, hv, hu, hcase⟩ := hF.cert i o ho
  have htm := view_tm hI hF hn hp hv
  have hdk := dkOf_ok (o := o) hF.tab
  have hlo := lo_le hI hp
  have hhi := le_hi hI hn
  unfold wpOp
  simp only [ho]
  rcases hcase with ⟨hw, hc⟩ | ⟨hw, hut, hfl, hc⟩
  · have hwant : Region.wanted o (yielded X.ops a.tmps) = true := by
      rcases hw with hg | ⟨g, want, og, t, hg, hog, ht, hx⟩
      · simp [Region.wanted, hg]
      · obtain ⟨y, hy, hyt⟩ := htm t _ hx
        cases hy
        have hy : yielded X.ops a.tmps g = some want := by simp [yielded, hog, ht, hyt]
        simp [Region.wanted, hg, hy]
    rw [if_pos hwant]
    refine .inl ?_
    cases hk : dkOf K o.op with
    | q f =>
      rw [hk] at hc hdk
      obtain ⟨hfl, hc⟩ := hc
      obtain ⟨s', hs', hf⟩ := hc c hlo hhi
      rw [hI.stg] at hs'; cases hs'
      obtain ⟨x, hx, hrun⟩ := hdk ρ s.A w v a u hI.glob hI.rel htm hf
      rw [Oper.wp, hrun, Oper.upon_value]
      exact hR _ _ _ _ _ (inv_look hF hI ho hi hn hp hu hx (fun h => by
        obtain ⟨o', m, h1, h2⟩ := (hF.eff i).1 h
        rw [ho] at h1; cases h1; rw [hk] at h2; cases h2) hfl)
    | a f =>
      rw [hk] at hc hdk
      obtain ⟨hres, A', ao, hf, hA', hfl⟩ := hc
      obtain ⟨x, ob, lim, d, ao', rfl, hx, hob, hrun⟩ := hdk ρ .leaf (X.base + i) w v a u A' hI.glob (hI.unl i hres hn) htm hf
      simp only [newObj, T.get_set_eq, Option.some.injEq] at hA'
      subst hA'
      rw [Oper.wp, hrun, Oper.upon_value]
      exact hR _ _ _ _ _ (inv_lay hF hI ho hi hn hp hu hres hx (fun h => by
        obtain ⟨o', m, h1, h2⟩ := (hF.eff i).1 h
        rw [ho] at h1; cases h1; rw [hk] at h2; cases h2) hfl hob)
    | e m =>
      rw [hk] at hc hdk
      obtain ⟨hfl, h1, h2, s0, s', hs0, hs', hm⟩ := hc
      have hcj : c = j := by omega
      subst hcj
      rw [hI.stg] at hs0; cases hs0
      obtain ⟨r1, r2, r3, r4⟩ := inv_take hF hI ho hn hp h1
      refine runMO_ok hdk hF.call hm hI.glob r1 htm hI.dfs fun ρ' a' w' x hx hr' hgo ha hd' => ?_
      exact hR _ _ _ _ _ (inv_act hF hI ho hi hn hp ((hF.eff i).2 ⟨o, m, ho, hk⟩) h1 hu hx hfl hs' hr' hgo ha hd')
  · have hwant : ¬ Region.wanted o (yielded X.ops a.tmps) = true := by
      obtain ⟨g, want, og, t, gx, hg, hog, ht, hx, hne, hnx⟩ := hw
      obtain ⟨y, hy, hyt⟩ := htm t _ hx
      simp only [Region.wanted, hg]
      intro e
      have e := beq_iff_eq.1 e
      simp only [yielded, hog, Option.bind_some, ht, hyt] at e
      split at e
      · rename_i b hb
        cases hb; cases e
        exact hne (conc_boolI hnx hy)
      · cases e
    rw [if_neg hwant]
    subst hut
    cases hk : dkOf K o.op with
    | q f =>
      exact hR _ _ _ _ _ (inv_look hF hI ho hi hn hp hu (conc_undef ρ) (fun h => by
        obtain ⟨o', m, h1, h2⟩ := (hF.eff i).1 h
        rw [ho] at h1; cases h1; rw [hk] at h2; cases h2) hfl)
    | a f =>
      exact hR _ _ _ _ _ (inv_look hF hI ho hi hn hp hu (conc_undef ρ) (fun h => by
        obtain ⟨o', m, h1, h2⟩ := (hF.eff i).1 h
        rw [ho] at h1; cases h1; rw [hk] at h2; cases h2) hfl)
    | e m =>
      rw [hk] at hc
      obtain ⟨h1, h2, s0, hs0, hs'⟩ := hc
      have hcj : c = j := by omega
      subst hcj
      rw [hI.stg] at hs0; cases hs0
      obtain ⟨r1, r2, r3, r4⟩ := inv_take hF hI ho hn hp h1
      exact hR _ _ _ _ _ (inv_act hF hI ho hi hn hp ((hF.eff i).2 ⟨o, m, ho, hk⟩) h1 hu (conc_undef ρ) hfl hs' r1 (.refl _ _ _) rfl (by rw [put_defers]; exact hI.dfs))

theorem ready_nil (hF : Facts P K X Y nt) (hsz : listed.size = X.ops.size) (h : Region.ready .any X.ops listed = []) : ∀ i, i < listed.size → Li listed i := by
  intro i
  induction i using Nat.strongRecOn with
  | _ i ih =>
    intro hi
    apply Classical.byContradiction
    intro hn
    have : i ∈ Region.ready .any X.ops listed := by
      refine mem_ready.2 ⟨?_, X.ops[i]'(by omega), by rw [Array.getElem?_eq_getElem], fun e he hb => ?_⟩
      · unfold Li at hn; simp [hi] at hn ⊢; exact hn
      · have := (hF.pre i _ (Array.getElem?_eq_getElem (by omega))).2.1 e he hb
        exact ih e.on this (by omega)
    rw [h] at this; cases this

theorem any_ok (hF : Facts P K X Y nt) {Q : Exit → Act → World → Prop}
    (hQ : ∀ listed ρ s c a w, Inv P K X Y nt ρ0 A0 w0 listed ρ s c a w → (∀ i, i < listed.size → Li listed i) → Q .normal a w) :
    ∀ (fuel : Nat) (listed : Array Bool) (ρ : Map) (s : Stg) (c : Nat) (a : Act) (w : World), Inv P K X Y nt ρ0 A0 w0 listed ρ s c a w → (List.range X.ops.size).countP (fun k => !listed.getD k false) ≤ fuel → wpAny P .any X.ops Q fuel listed a w
  | 0, listed, ρ, s, c, a, w, hI, hc => by
    have hall : ∀ i, i < listed.size → Li listed i := by
      intro i hi
      have := List.countP_eq_zero.1 (Nat.le_zero.1 hc) i (List.mem_range.2 (by rw [← hI.lsz]; exact hi))
      unfold Li; simpa using this
    refine ⟨?_, hQ _ _ _ _ _ _ hI hall⟩
    apply List.eq_nil_iff_forall_not_mem.2
    intro i hi
    obtain ⟨h1, h2, _⟩ := ready_pre hF hI hi
    exact h1 (hall i h2)
  | fuel + 1, listed, ρ, s, c, a, w, hI, hc => by
    refine ⟨fun h => hQ _ _ _ _ _ _ hI (ready_nil hF hI.lsz h), fun i hi => ?_⟩
    obtain ⟨h1, h2, _⟩ := ready_pre hF hI hi
    refine inv_step hF hI hi fun ρ' s' c' a' w' hI' => any_ok hF hQ fuel _ ρ' s' c' a' w' hI' ?_
    have : ¬ (List.range X.ops.size).countP (fun k => !listed.getD k false) ≤ (List.range X.ops.size).countP (fun k => !(listed.setIfInBounds i true).getD k false) := by
      intro hle
      have := count_eq (fun k => !(listed.setIfInBounds i true).getD k false) (fun k => !listed.getD k false) (List.range X.ops.size) (fun k _ hk => by
        by_cases e : i = k
        · subst e; simp [h2] at hk
        · rwa [getD_set_ne false e] at hk) hle i (List.mem_range.2 (by rw [← hI.lsz]; exact h2)) (by unfold Li at h1; simpa using h1)
      simp [h2] at this
    omega

theorem outs_ok {F : T AV} : ∀ (os : List Oper) (i : Nat) (tm tm' : T AV), outs F os i tm = some tm' → ∀ t u, tm'.get (pos t) = some u →
    (∃ (k : Nat) (o : Oper), os[k]? = some o ∧ o.dst = some t ∧ F.get (pos (i + k)) = some u) ∨ (tm.get (pos t) = some u ∧ ∀ (k : Nat) (o : Oper), os[k]? = some o → o.dst ≠ some t)
  | [], i, tm, tm', h, t, u, hu => by cases h; exact .inr ⟨hu, fun k o ho => by simp at ho⟩
  | o :: os, i, tm, tm', h, t, u, hu => by
    simp only [outs] at h
    split at h
    · rename_i hd
      rcases outs_ok os (i + 1) tm tm' h t u hu with ⟨k, o', h1, h2, h3⟩ | ⟨h1, h2⟩
      · exact .inl ⟨k + 1, o', by simpa using h1, h2, by rwa [show i + (k + 1) = i + 1 + k by omega]⟩
      · refine .inr ⟨h1, fun k o' ho => ?_⟩
        cases k with
        | zero => cases ho; rw [hd]; intro e; cases e
        | succ k => exact h2 k o' (by simpa using ho)
    · rename_i d hd
      split at h
      · rename_i x hx
        rcases outs_ok os (i + 1) _ tm' h t u hu with ⟨k, o', h1, h2, h3⟩ | ⟨h1, h2⟩
        · exact .inl ⟨k + 1, o', by simpa using h1, h2, by rwa [show i + (k + 1) = i + 1 + k by omega]⟩
        · by_cases e : t = d
          · subst e
            rw [T.get_set_eq] at h1; cases h1
            exact .inl ⟨0, o, rfl, hd, by simpa using hx⟩
          · rw [T.get_set_ne _ _ _ _ (pos_ne e)] at h1
            refine .inr ⟨h1, fun k o' ho => ?_⟩
            cases k with
            | zero => cases ho; rw [hd]; intro x; cases x; exact e rfl
            | succ k => exact h2 k o' (by simpa using ho)
      · cases h
end

/-- A REGION THAT DRAWS ITS ORDER does what the run in the text's order says, whatever is drawn. -/
theorem draw_ok {nt : Nat} (hT : TabOk P K) (hm : P.follows .mixedOrders = true) (id : Nat) (ops : Array Oper) (D : DReg) (hD : compDraw K nt ops = some D) : CodeOk P nt (.region id ops true) ⟨dDraw ops.toList D⟩ := by
  intro call hcall n tm A df e tm' A' df' h ρ a w hS Q hQ
  simp only [compDraw] at hD
  split at hD
  case h_2 => cases hD
  rename_i pre W hpre hW
  split at hD
  case h_2 => cases hD
  rename_i l hl
  cases hD
  simp only [dDraw] at h
  generalize hres : resOf ops.size (layIdx (dks K ops.toList) 0) = res at h
  split at h
  case h_2 => cases h
  rename_i F fl sg rds hgo
  split at h
  case h_2 => cases h
  rename_i sF tmF hok hsg hout
  cases h
  let X : Cx := ⟨ops, pre, W, effIdx (dks K ops.toList) 0, layIdx (dks K ops.toList) 0, tm, A.nx, res, call⟩
  let Y : Fin := ⟨F, fl, sg⟩
  have hget : ∀ i : Nat, ops.toList[i]? = ops[i]? := fun i => by simp
  obtain ⟨_, hp⟩ := preF_spec ops.toList .leaf pre 0 hpre (fun k j h => by
    unfold B natAt at h
    cases hk : pos k <;> rw [hk] at h <;> simp only [T.get] at h <;> rw [bit_zero] at h <;> cases h)
  have hp : ∀ i o, ops[i]? = some o → PreOk pre i o := fun i o ho => by have := hp i o (by rw [hget]; exact ho); rwa [Nat.zero_add] at this
  have leafN : ∀ (α : Type) (k : Nat), (T.leaf : T α).get (pos k) = none := fun α k => by cases hk : pos k <;> rfl
  obtain ⟨_, hw1, hw2⟩ := writers_spec ops.toList 0 .leaf W hW (fun p j h => by cases p <;> cases h)
  have hkd : ∀ i : Nat, (dks K ops.toList)[i]? = (ops[i]?).map fun o => dkOf K o.op := fun i => by rw [dks_get, hget]
  obtain ⟨_, _, hs0, _, hcert⟩ := goD_cert (K := K) (X := X) (nt := nt) ops.toList 0 0 l .leaf .leaf (T.set (pos 0) ⟨⟨A.h, A.nx + res⟩, df⟩ .leaf) [] Y rds hl hgo
    (fun t o ho j hj => (hp (0 + t) o (by rw [Nat.zero_add, ← hget]; exact ho)).2.2 j hj) (fun k _ => leafN _ k) (fun k _ => leafN _ k)
  have hFacts : Facts P K X Y nt := by
    refine ⟨hT, hcall, hp, fun i o d ho hd => ?_, fun t j hj => ?_, fun i => ?_, effIdx_nodup _ _, fun i hi => ?_, layIdx_nodup _ _, fun i hi => ?_, fun i o ho => ?_⟩
    · have := hw1 i o d (by rw [hget]; exact ho) hd; rwa [Nat.zero_add] at this
    · show ∃ o, ops[j]? = some o ∧ o.dst = some t
      rcases hw2 (pos t) j hj with h | ⟨k, o, d, h1, h2, h3, h4⟩
      · rw [leafN] at h; cases h
      · rw [Nat.zero_add] at h4; subst h4
        exact ⟨o, by rw [← hget]; exact h1, by rw [h2, pos_inj h3]⟩
    · show i ∈ effIdx (dks K ops.toList) 0 ↔ _
      rw [effIdx_mem]
      constructor
      · rintro ⟨t, m, h1, h2⟩
        rw [Nat.zero_add] at h2; subst h2
        rw [hkd] at h1
        obtain ⟨o, ho, hk⟩ := Option.map_eq_some_iff.1 h1
        exact ⟨o, m, ho, hk⟩
      · rintro ⟨o, m, ho, hk⟩
        exact ⟨i, m, by rw [hkd, show ops[i]? = some o from ho, Option.map_some, hk], by rw [Nat.zero_add]⟩
    · obtain ⟨t, m, h1, h2⟩ := (layIdx_mem _ 0 i).1 hi
      rw [Nat.zero_add] at h2; subst h2
      rw [hkd] at h1
      obtain ⟨o, ho, hk⟩ := Option.map_eq_some_iff.1 h1
      exact ⟨o, m, ho, hk⟩
    · obtain ⟨t, m, h1, h2⟩ := (layIdx_mem _ 0 i).1 hi
      rw [Nat.zero_add] at h2; subst h2
      rw [hkd] at h1
      obtain ⟨o, ho, hk⟩ := Option.map_eq_some_iff.1 h1
      have hlt := (Array.getElem?_eq_some_iff.1 ho).1
      show i < res
      rw [← hres]
      cases hl : layIdx (dks K ops.toList) 0 with
      | nil => have : i ∈ layIdx (dks K ops.toList) 0 := hi
               rw [hl] at this; cases this
      | cons x l => exact hlt
    · have := hcert hok i o (by rw [hget]; exact ho)
      rwa [Nat.zero_add] at this
  have hnl : ∀ i, ¬Li (Array.replicate ops.size false) i := fun i h => by
    unfold Li at h
    have := li_lt h
    simp at this
    simp [this] at h
  have hI : Inv P K X Y nt ρ A w (Array.replicate ops.size false) ρ ⟨⟨A.h, A.nx + res⟩, df⟩ 0 a { w with drawn := w.drawn + 1 } := by
    refine ⟨by simp [X], fun i j h => absurd h (hnl i), ?_, rfl, hS.glob, ?_, ⟨fun k hk => hS.rel.fresh k (Nat.le_trans (Nat.le_add_right _ _) hk), hS.rel.objs, hS.rel.sep⟩, hS.dfs, ⟨.refl ρ, Nat.le_add_right _ _, rfl, rfl, rfl, Nat.le_refl _, fun r _ h => ⟨rfl, h⟩, fun _ _ h => h, fun _ _ h => h⟩,
      Nat.le_refl _, hS.size, fun i o _ h => absurd h (hnl i), fun t u ht _ => hS.tms t u ht, fun i ob h => absurd h (hnl i), fun i i' _ h => absurd h (hnl i), fun i _ _ => hS.rel.fresh _ (Nat.le_add_right _ _)⟩
    · exact List.countP_eq_zero.2 fun e _ => hnl e
    · rw [show Y.sg.get (pos 0) = _ from hs0 0 (Nat.le_refl _), T.get_set_eq]
  refine wp_region_any hm (any_ok hFacts (ρ0 := ρ) (A0 := A) (w0 := w) (fun listed ρ' s c a' w' hI' hall => ?_) ops.size _ ρ _ 0 a _ hI ?_)
  · have hallE : ∀ e ∈ X.effs, Li listed e := fun e he => by
      obtain ⟨o, m, ho, _⟩ := (hFacts.eff e).1 he
      exact hall e (by rw [hI'.lsz]; exact (Array.getElem?_eq_some_iff.1 ho).1)
    have hc : c = X.effs.length := by
      rw [← hI'.cnt]; exact List.countP_eq_length.2 hallE
    have hst := hI'.stg
    rw [hc] at hst
    have : some sF = some s := hsg.symm.trans hst
    cases this
    have hmem : ∀ k ∈ restOf pre X.effs X.lays, k ∈ X.lays ∧ Li listed k ∧ Free X listed k := by
      intro k hk
      rw [restOf_filter] at hk
      obtain ⟨h1, h2⟩ := List.mem_filter.1 hk
      simp only [Bool.not_eq_true'] at h2
      obtain ⟨o, m, ho, _⟩ := hFacts.lay k h1
      refine ⟨h1, hall k (by rw [hI'.lsz]; exact (Array.getElem?_eq_some_iff.1 ho).1), fun e he _ hB => ?_⟩
      have := (anyPre_iff pre k X.effs).2 ⟨e, he, hB⟩
      rw [h2] at this; cases this
    have hroom := hI'.room
    obtain ⟨r1, r2, _, _⟩ := takeIn_ok (fl := fl) (base := A.nx) (restOf pre X.effs X.lays) sF.A (by rw [restOf_filter]; exact hFacts.layn.sublist List.filter_sublist) hI'.rel hI'.goes
      (fun k hk ob hob => (hI'.fls k ob (hmem k hk).2.1 hob (hmem k hk).2.2).2)
      (fun k hk k' hk' hne ob ob' L L' g1 g2 g3 g4 => hI'.flsep k k' hne (hmem k hk).2.1 (hmem k' hk').2.1 (hmem k hk).2.2 (hmem k' hk').2.2 ob ob' L L' g1 g2 g3 g4)
      (fun k hk => by have := hFacts.res k (hmem k hk).1; exact Nat.lt_of_lt_of_le (Nat.add_lt_add_left this _) hroom)
    refine hQ ρ' a' w' ⟨hI'.glob, r1, fun t u hu => ?_, hI'.size, hI'.dfs⟩ r2
    rcases outs_ok ops.toList 0 tm _ hout t u hu with ⟨k, o, h1, h2, h3⟩ | ⟨h1, h2⟩
    · rw [Nat.zero_add] at h3
      rw [hget] at h1
      obtain ⟨v, x, g1, g2, g3⟩ := hI'.vals k o h1 (hall k (by rw [hI'.lsz]; exact (Array.getElem?_eq_some_iff.1 h1).1))
      have : some u = some v := h3.symm.trans g1
      cases this
      exact ⟨x, g2, g3 t h2⟩
    · refine hI'.olds t u h1 fun j hj => ?_
      obtain ⟨o, ho, hd⟩ := hFacts.w2 t j hj
      exact absurd hd (h2 j o (by rw [hget]; exact ho))
  · refine Nat.le_trans (List.countP_le_length) (by simp [X])
end Go.Proofs.YtcaagfgopmhilaaGreatDoor.Vai
