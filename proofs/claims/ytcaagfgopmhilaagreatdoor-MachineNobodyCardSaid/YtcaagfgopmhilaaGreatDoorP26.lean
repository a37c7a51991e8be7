/- A part of the proof that the law of this seat holds: P26; no condition. -/
import Derived.Test.YtcaagfgopmhilaaGreatDoorP25
namespace Go.Proofs.YtcaagfgopmhilaaGreatDoor.Vai
variable {P : Program} {K : Tab}

/-! ### who acts, who lays -/
theorem effIdx_mem : ∀ (ks : List DK) (n i : Nat), i ∈ effIdx ks n ↔ ∃ t m, ks[t]? = some (.e m) ∧ i = n + t
  | [], n, i => by simp [effIdx]
  | k :: ks, n, i => by
    have ih := effIdx_mem ks (n + 1) i
    have hgo : (∃ t m, ks[t]? = some (.e m) ∧ i = n + 1 + t) ↔ ∃ t m, (k :: ks)[t + 1]? = some (.e m) ∧ i = n + (t + 1) := by
      simp only [List.getElem?_cons_succ, Nat.add_assoc, Nat.add_comm 1]
    cases k with
    | e m =>
      simp only [effIdx, List.mem_cons, ih, hgo]
      constructor
      · rintro (rfl | ⟨t, m', h1, h2⟩)
        · exact ⟨0, m, rfl, rfl⟩
        · exact ⟨t + 1, m', h1, h2⟩
      · rintro ⟨t, m', h1, h2⟩
        cases t with
        | zero => exact .inl h2
        | succ t => exact .inr ⟨t, m', h1, h2⟩
    | q f =>
      simp only [effIdx, ih, hgo]
      constructor
      · rintro ⟨t, m', h1, h2⟩; exact ⟨t + 1, m', h1, h2⟩
      · rintro ⟨t, m', h1, h2⟩
        cases t with
        | zero => cases h1
        | succ t => exact ⟨t, m', h1, h2⟩
    | a f =>
      simp only [effIdx, ih, hgo]
      constructor
      · rintro ⟨t, m', h1, h2⟩; exact ⟨t + 1, m', h1, h2⟩
      · rintro ⟨t, m', h1, h2⟩
        cases t with
        | zero => cases h1
        | succ t => exact ⟨t, m', h1, h2⟩
theorem effIdx_nodup : ∀ (ks : List DK) (n : Nat), (effIdx ks n).Nodup
  | [], n => List.nodup_nil
  | k :: ks, n => by
    have ih := effIdx_nodup ks (n + 1)
    cases k with
    | e m =>
      refine List.nodup_cons.2 ⟨fun h => ?_, ih⟩
      obtain ⟨t, m', _, h2⟩ := (effIdx_mem ks (n + 1) n).1 h
      omega
    | q f => exact ih
    | a f => exact ih
theorem layIdx_mem : ∀ (ks : List DK) (n i : Nat), i ∈ layIdx ks n ↔ ∃ t m, ks[t]? = some (.a m) ∧ i = n + t
  | [], n, i => by simp [layIdx]
  | k :: ks, n, i => by
    have ih := layIdx_mem ks (n + 1) i
    have hgo : (∃ t m, ks[t]? = some (.a m) ∧ i = n + 1 + t) ↔ ∃ t m, (k :: ks)[t + 1]? = some (.a m) ∧ i = n + (t + 1) := by
      simp only [List.getElem?_cons_succ, Nat.add_assoc, Nat.add_comm 1]
    cases k with
    | a m =>
      simp only [layIdx, List.mem_cons, ih, hgo]
      constructor
      · rintro (rfl | ⟨t, m', h1, h2⟩)
        · exact ⟨0, m, rfl, rfl⟩
        · exact ⟨t + 1, m', h1, h2⟩
      · rintro ⟨t, m', h1, h2⟩
        cases t with
        | zero => exact .inl h2
        | succ t => exact .inr ⟨t, m', h1, h2⟩
    | q f =>
      simp only [layIdx, ih, hgo]
      constructor
      · rintro ⟨t, m', h1, h2⟩; exact ⟨t + 1, m', h1, h2⟩
      · rintro ⟨t, m', h1, h2⟩
        cases t with
        | zero => cases h1
        | succ t => exact ⟨t, m', h1, h2⟩
    | e f =>
      simp only [layIdx, ih, hgo]
      constructor
      · rintro ⟨t, m', h1, h2⟩; exact ⟨t + 1, m', h1, h2⟩
      · rintro ⟨t, m', h1, h2⟩
        cases t with
        | zero => cases h1
        | succ t => exact ⟨t, m', h1, h2⟩
theorem layIdx_nodup : ∀ (ks : List DK) (n : Nat), (layIdx ks n).Nodup
  | [], n => List.nodup_nil
  | k :: ks, n => by
    have ih := layIdx_nodup ks (n + 1)
    cases k with
    | a m =>
      refine List.nodup_cons.2 ⟨fun h => ?_, ih⟩
      obtain ⟨t, m', _, h2⟩ := (layIdx_mem ks (n + 1) n).1 h
      omega
    | q f => exact ih
    | e f => exact ih
theorem dks_get : ∀ (os : List Oper) (t : Nat), (dks K os)[t]? = (os[t]?).map fun o => dkOf K o.op
  | [], t => by simp [dks]
  | o :: os, 0 => rfl
  | o :: os, t + 1 => by simpa [dks] using dks_get os t

/-! ### counting -/
theorem waits_count (m : Nat) : ∀ l : List Nat, waits m l = l.countP fun e => bit m e
  | [] => rfl
  | e :: l => by
    simp only [waits, List.countP_cons, waits_count m l]
    cases bit m e <;> simp
theorem waiting_count (pre : T Nat) (i : Nat) : ∀ l : List Nat, waiting pre i l = l.countP fun e => bit (natAt pre e) i || Nat.beq e i
  | [] => rfl
  | e :: l => by
    simp only [waiting, List.countP_cons, waiting_count pre i l]
    cases (bit (natAt pre e) i || Nat.beq e i) <;> simp
theorem count_apart {α : Type} (p q : α → Bool) : ∀ l : List α, (∀ x ∈ l, p x = true → q x = true → False) → l.countP p + l.countP q ≤ l.length
  | [], _ => by simp
  | x :: l, h => by
    have ih := count_apart p q l fun y hy => h y (List.mem_cons_of_mem _ hy)
    have := h x List.mem_cons_self
    simp only [List.countP_cons, List.length_cons]
    cases hp : p x <;> cases hq : q x <;> simp_all <;> omega
theorem count_eq {α : Type} (p q : α → Bool) : ∀ l : List α, (∀ x ∈ l, p x = true → q x = true) → l.countP q ≤ l.countP p → ∀ x ∈ l, q x = true → p x = true
  | [], _, _, x, hx, _ => by cases hx
  | y :: l, h, hc, x, hx, hq => by
    have hmono : l.countP p ≤ l.countP q := List.countP_mono_left fun z hz => h z (List.mem_cons_of_mem _ hz)
    have hy := h y List.mem_cons_self
    simp only [List.countP_cons] at hc
    rcases List.mem_cons.1 hx with rfl | hx
    · cases hp : p x
      · rw [hp, hq] at hc; simp at hc; omega
      · rfl
    · refine count_eq p q l (fun z hz => h z (List.mem_cons_of_mem _ hz)) ?_ x hx hq
      cases hp : p y <;> cases hqy : q y <;> simp_all <;> omega

/-! ### what is taken in -/
theorem anyPre2_iff (pre : T Nat) (m a : Nat) : ∀ l : List Nat, anyPre2 pre m a l = true ↔ ∃ e ∈ l, bit m e = true ∧ B pre e a
  | [] => by simp [anyPre2]
  | e :: l => by simp [anyPre2, anyPre2_iff pre m a l, B]
theorem anyPre_iff (pre : T Nat) (a : Nat) : ∀ l : List Nat, anyPre pre a l = true ↔ ∃ e ∈ l, B pre e a
  | [] => by simp [anyPre]
  | e :: l => by simp [anyPre, anyPre_iff pre a l, B]
theorem takesOf_filter (pre : T Nat) (m : Nat) (effs : List Nat) : ∀ l : List Nat, takesOf pre m effs l = l.filter fun a => bit m a && !anyPre2 pre m a effs
  | [] => rfl
  | a :: l => by
    simp only [takesOf, List.filter_cons, takesOf_filter pre m effs l]
    cases (bit m a && !anyPre2 pre m a effs) <;> simp
theorem restOf_filter (pre : T Nat) (effs : List Nat) : ∀ l : List Nat, restOf pre effs l = l.filter fun a => !anyPre pre a effs
  | [] => rfl
  | a :: l => by
    simp only [restOf, List.filter_cons, restOf_filter pre effs l]
    cases anyPre pre a effs <;> simp

/-- an object that is there, beside a world's -/
structure Flo (ρ : Map) (A : AW) (w : World) (b : Pos) (ob : AObj) (lo : Nat) : Prop where
  ex : ∃ L, ρ b = some L ∧ ObjRel ρ w.heap[L.r]? L ob ∧ L.r < w.heap.size ∧ lo ≤ L.r ∧ ¬Names ρ A L.r

theorem Rel.flo {ρ ρ0 : Map} {A A0 : AW} {w w0 : World} {n : Nat} {ob : AObj} (hr : Rel ρ A w) (hg : Goes ρ0 A0 w0 ρ A w) (hn : n < A.nx) (hf : Flo ρ A w (pos n) ob w0.heap.size) :
    Rel ρ ⟨T.set (pos n) ob A.h, A.nx⟩ w ∧ Goes ρ0 A0 w0 ρ ⟨T.set (pos n) ob A.h, A.nx⟩ w ∧
    ∀ r, Names ρ ⟨T.set (pos n) ob A.h, A.nx⟩ r → Names ρ A r ∨ ∃ L, ρ (pos n) = some L ∧ L.r = r := by
  obtain ⟨L, hL, hob, hlt, hlo, hnn⟩ := hf.ex
  have hno : ∀ b o L', A.h.get b = some o → ρ b = some L' → L'.r ≠ L.r := fun b o L' h1 h2 e => hnn ⟨b, o, L', h1, h2, e⟩
  have hNam : ∀ r, Names ρ ⟨T.set (pos n) ob A.h, A.nx⟩ r → Names ρ A r ∨ ∃ L, ρ (pos n) = some L ∧ L.r = r := by
    rintro r ⟨b, o, L', h1, h2, rfl⟩
    by_cases e : b = pos n
    · subst e; exact .inr ⟨L', h2, rfl⟩
    · rw [T.get_set_ne _ _ _ _ e] at h1; exact .inl ⟨b, o, L', h1, h2, rfl⟩
  refine ⟨⟨hr.fresh, fun b o hb => ?_, fun b b' o o' hne h1 h2 hw L1 L2 hL1 hL2 => ?_⟩, ⟨hg.ext, hg.nx, hg.os, hg.tape, hg.output, hg.size, fun r hlt' ho => ⟨(hg.keep r hlt' ho).1, ?_⟩, hg.old, fun r hlt' ho h => ?_⟩, hNam⟩
  · by_cases e : b = pos n
    · subst e; rw [T.get_set_eq] at hb; cases hb; exact ⟨L, hL, hob⟩
    · rw [T.get_set_ne _ _ _ _ e] at hb; exact hr.objs b o hb
  · by_cases e : b = pos n
    · subst e
      rw [hL] at hL1; cases hL1
      rw [T.get_set_ne _ _ _ _ (fun x => hne x.symm)] at h2
      exact .inl fun e => hno b' o' L2 h2 hL2 e.symm
    · rw [T.get_set_ne _ _ _ _ e] at h1
      by_cases e' : b' = pos n
      · subst e'
        rw [hL] at hL2; cases hL2
        exact .inl fun e => hno b o L1 h1 hL1 e
      · rw [T.get_set_ne _ _ _ _ e'] at h2
        exact hr.sep b b' o o' hne h1 h2 hw L1 L2 hL1 hL2
  · rintro ⟨b, o, L', h1, h2, h3, rfl⟩
    by_cases e : b = pos n
    · subst e; rw [hL] at h3; cases h3; omega
    · rw [T.get_set_ne _ _ _ _ e] at h1
      exact (hg.keep _ hlt' ho).2 ⟨b, o, L', h1, h2, h3, rfl⟩
  · rcases hNam r h with h | ⟨L', h1, rfl⟩
    · exact hg.keepN r hlt' ho h
    · rw [hL] at h1; cases h1; omega

theorem takeIn_ok {ρ ρ0 : Map} {A0 : AW} {w w0 : World} {fl : T AObj} {base : Nat} : ∀ (ls : List Nat) (A : AW), ls.Nodup → Rel ρ A w → Goes ρ0 A0 w0 ρ A w →
    (∀ i ∈ ls, ∀ ob, fl.get (pos i) = some ob → Flo ρ A w (pos (base + i)) ob w0.heap.size) →
    (∀ i ∈ ls, ∀ i' ∈ ls, i ≠ i' → ∀ ob ob' L L', fl.get (pos i) = some ob → fl.get (pos i') = some ob' → ρ (pos (base + i)) = some L → ρ (pos (base + i')) = some L' → L.r ≠ L'.r) →
    (∀ i ∈ ls, base + i < A.nx) →
    Rel ρ (takeIn fl base ls A) w ∧ Goes ρ0 A0 w0 ρ (takeIn fl base ls A) w ∧ (takeIn fl base ls A).nx = A.nx ∧
    ∀ r, Names ρ (takeIn fl base ls A) r → Names ρ A r ∨ ∃ i ∈ ls, ∃ ob L, fl.get (pos i) = some ob ∧ ρ (pos (base + i)) = some L ∧ L.r = r
  | [], A, _, hr, hg, _, _, _ => ⟨hr, hg, rfl, fun r h => .inl h⟩
  | i :: ls, A, hnd, hr, hg, hfl, hsep, hn => by
    obtain ⟨hni, hnd⟩ := List.nodup_cons.1 hnd
    simp only [takeIn]
    split
    · rename_i ob hob
      obtain ⟨r1, g1, n1⟩ := hr.flo hg (hn i List.mem_cons_self) (hfl i List.mem_cons_self ob hob)
      obtain ⟨r2, g2, g3, n2⟩ := takeIn_ok ls _ hnd r1 g1 (fun i' hi' ob' hob' => by
        obtain ⟨L, h1, h2, h3, h4, h5⟩ := (hfl i' (List.mem_cons_of_mem _ hi') ob' hob').ex
        refine ⟨L, h1, h2, h3, h4, fun h => ?_⟩
        rcases n1 _ h with h | ⟨L', hL', e⟩
        · exact h5 h
        · exact hsep i List.mem_cons_self i' (List.mem_cons_of_mem _ hi') (fun e => hni (e ▸ hi')) ob ob' L' L hob hob' hL' h1 e)
        (fun i1 h1 i2 h2 => hsep i1 (List.mem_cons_of_mem _ h1) i2 (List.mem_cons_of_mem _ h2)) (fun i' hi' => hn i' (List.mem_cons_of_mem _ hi'))
      refine ⟨r2, g2, g3, fun r h => ?_⟩
      rcases n2 r h with h | ⟨i', hi', ob', L, h1, h2, h3⟩
      · rcases n1 r h with h | ⟨L, h1, h2⟩
        · exact .inl h
        · exact .inr ⟨i, List.mem_cons_self, ob, L, hob, h1, h2⟩
      · exact .inr ⟨i', List.mem_cons_of_mem _ hi', ob', L, h1, h2, h3⟩
    · obtain ⟨r2, g2, g3, n2⟩ := takeIn_ok ls A hnd hr hg (fun i' hi' => hfl i' (List.mem_cons_of_mem _ hi'))
        (fun i1 h1 i2 h2 => hsep i1 (List.mem_cons_of_mem _ h1) i2 (List.mem_cons_of_mem _ h2)) (fun i' hi' => hn i' (List.mem_cons_of_mem _ hi'))
      refine ⟨r2, g2, g3, fun r h => (n2 r h).imp id fun ⟨i', hi', hh⟩ => ⟨i', List.mem_cons_of_mem _ hi', hh⟩⟩
theorem takeIn_congr {fl fl' : T AObj} {base : Nat} : ∀ (ls : List Nat) (A : AW), (∀ i ∈ ls, fl.get (pos i) = fl'.get (pos i)) → takeIn fl base ls A = takeIn fl' base ls A
  | [], A, _ => rfl
  | i :: ls, A, h => by
    simp only [takeIn, h i List.mem_cons_self]
    split
    · exact takeIn_congr ls _ fun j hj => h j (List.mem_cons_of_mem _ hj)
    · exact takeIn_congr ls _ fun j hj => h j (List.mem_cons_of_mem _ hj)

/-! ### acting -/
theorem runMO_ok {o : Oper} {m : MO} (hm : MOk P o m) {call : CallF} (hcall : CallOk P call) {tm : T AV} {A : AW} {df : List DA} {u : AV} {s : Stg} (h : runMO m call tm A df = some (u, s)) {ρ : Map} {a : Act} {w : World}
    (hg : Globs ρ) (hr : Rel ρ A w) (ht : TmOk ρ tm a.tmps) (hd : DfOk P ρ df a.defers) {R : Act → World → Prop} {Q : Exit → Act → World → Prop}
    (hR : ∀ ρ' a' w' x, conc ρ' u = some x → Rel ρ' s.A w' → Goes ρ A w ρ' s.A w' → a'.tmps = (a.put o.dst x).tmps → DfOk P ρ' s.df a'.defers → R a' w') : o.wp P a w R Q := by
  cases m with
  | q f =>
    simp only [runMO] at h
    split at h
    · rename_i v hv
      cases h
      obtain ⟨x, hx, hrun⟩ := hm ρ A w tm a _ hg hr ht hv
      rw [Oper.wp, hrun, Oper.upon_value]
      exact hR ρ _ w x hx hr (.refl ρ A w) rfl (by rw [put_defers]; exact hd)
    · cases h
  | g f =>
    simp only [runMO] at h
    split at h
    · rename_i v A1 hv
      cases h
      obtain ⟨ρ', x, w', hx, hr', hgo, hrun⟩ := hm ρ A w tm a _ _ hg hr ht hv
      rw [Oper.wp, hrun, Oper.upon_value]
      exact hR ρ' _ w' x hx hr' hgo rfl (by rw [put_defers]; exact hd.mono hgo.ext)
    · cases h
  | u f =>
    simp only [runMO] at h
    split at h
    · rename_i A1 hv
      cases h
      obtain ⟨ρ', w', hr', hgo, hrun⟩ := hm ρ A w tm a _ hg hr ht hv
      rw [Oper.wp, hrun, Oper.upon_skip]
      exact hR ρ' _ w' undef (conc_undef ρ') hr' hgo rfl (by rw [put_defers]; exact hd.mono hgo.ext)
    · cases h
  | c f =>
    simp only [runMO] at h
    split at h
    · rename_i g args hv
      split at h
      · rename_i v A1 hc
        cases h
        obtain ⟨vs, hvs, hrun⟩ := hm ρ w tm a g args hg ht hv
        rw [Oper.wp, hrun, Oper.upon_enter]
        refine (hcall g args A _ _ hc ρ w vs hg hr hvs).mono fun e w' ⟨x, ρ', he, hx, hr', hgo⟩ => ?_
        subst he
        exact hR ρ' _ w' x hx hr' hgo rfl (by rw [put_defers]; exact hd.mono hgo.ext)
      · cases h
    · cases h
  | d f =>
    simp only [runMO] at h
    split at h
    · rename_i g args hv
      cases h
      obtain ⟨vs, dd, cap, hvs, hta, _, hrun, hinv⟩ := hm ρ w tm a g args hg ht hv
      rw [Oper.wp, hrun, Oper.upon_defer]
      refine hR ρ _ w undef (conc_undef ρ) hr (.refl ρ A w) ?_ ?_
      · cases o.dst <;> rfl
      · rw [put_defers]
        exact ⟨⟨vs, cap, hvs, hta, hinv⟩, hd⟩
    · cases h
end Go.Proofs.YtcaagfgopmhilaaGreatDoor.Vai
