/- A part of the proof that the law of this seat holds: P28; no condition. -/
import Derived.Test.YtcaagfgopmhilaaGreatDoorP27
namespace Go.Proofs.YtcaagfgopmhilaaGreatDoor.Vai
variable {P : Program} {K : Tab}

/-! ### in any order -/
/-- number i is listed -/
def Li (listed : Array Bool) (i : Nat) : Prop := listed.getD i false = true
theorem li_set {listed : Array Bool} {i : Nat} (hi : i < listed.size) (k : Nat) : Li (listed.setIfInBounds i true) k ↔ Li listed k ∨ k = i := by
  unfold Li
  by_cases e : k = i
  · subst e; simp [hi]
  · rw [getD_set_ne false (fun x => e x.symm)]; simp [e]
theorem li_lt {listed : Array Bool} {i : Nat} (h : Li listed i) : i < listed.size := by
  unfold Li at h
  rcases Nat.lt_or_ge i listed.size with h' | h'
  · exact h'
  · simp [Array.getElem?_eq_none h'] at h
theorem not_li {listed : Array Bool} {i : Nat} (h : listed.getD i true = false) : ¬Li listed i := by
  unfold Li
  rcases Nat.lt_or_ge i listed.size with h' | h'
  · simp [h'] at h ⊢; exact h
  · simp [Array.getElem?_eq_none h'] at h

/-- what is known of a region and of its run in the text's order -/
structure Facts (P : Program) (K : Tab) (X : Cx) (Y : Fin) (nt : Nat) : Prop where
  tab : TabOk P K
  call : CallOk P X.call
  pre : ∀ i o, X.ops[i]? = some o → PreOk X.pre i o
  w1 : ∀ i o d, X.ops[i]? = some o → o.dst = some d → X.W.get (pos d) = some i
  w2 : ∀ t j, X.W.get (pos t) = some j → ∃ o, X.ops[j]? = some o ∧ o.dst = some t
  eff : ∀ i, i ∈ X.effs ↔ ∃ o m, X.ops[i]? = some o ∧ dkOf K o.op = .e m
  effn : X.effs.Nodup
  lay : ∀ i, i ∈ X.lays → ∃ o m, X.ops[i]? = some o ∧ dkOf K o.op = .a m
  layn : X.lays.Nodup
  res : ∀ i ∈ X.lays, i < X.res
  cert : ∀ i o, X.ops[i]? = some o → dstIn nt o.dst = true ∧ OpCert K X Y i o

def Free (X : Cx) (listed : Array Bool) (i : Nat) : Prop := ∀ e ∈ X.effs, Li listed e → ¬B X.pre e i
structure Inv (P : Program) (K : Tab) (X : Cx) (Y : Fin) (nt : Nat) (ρ0 : Map) (A0 : AW) (w0 : World) (listed : Array Bool) (ρ : Map) (s : Stg) (c : Nat) (a : Act) (w : World) : Prop where
  lsz : listed.size = X.ops.size
  closed : ∀ i j, Li listed i → B X.pre i j → Li listed j
  cnt : X.effs.countP (fun e => listed.getD e false) = c
  base : A0.nx = X.base
  glob : Globs ρ
  stg : Y.sg.get (pos c) = some s
  rel : Rel ρ s.A w
  dfs : DfOk P ρ s.df a.defers
  goes : Goes ρ0 A0 w0 ρ s.A w
  room : X.base + X.res ≤ s.A.nx
  size : nt ≤ a.tmps.size
  vals : ∀ i o, X.ops[i]? = some o → Li listed i → ∃ u x, Y.F.get (pos i) = some u ∧ conc ρ u = some x ∧ ∀ d, o.dst = some d → a.tmps[d]? = some x
  olds : ∀ t u, X.tm0.get (pos t) = some u → (∀ j, X.W.get (pos t) = some j → ¬Li listed j) → ∃ x, conc ρ u = some x ∧ a.tmps[t]? = some x
  fls : ∀ i ob, Li listed i → Y.fl.get (pos i) = some ob → Free X listed i → i < X.res ∧ Flo ρ s.A w (pos (X.base + i)) ob w0.heap.size
  flsep : ∀ i i', i ≠ i' → Li listed i → Li listed i' → Free X listed i → Free X listed i' → ∀ ob ob' L L', Y.fl.get (pos i) = some ob → Y.fl.get (pos i') = some ob' →
    ρ (pos (X.base + i)) = some L → ρ (pos (X.base + i')) = some L' → L.r ≠ L'.r
  unl : ∀ i, i < X.res → ¬Li listed i → ρ (pos (X.base + i)) = none

section
variable {X : Cx} {Y : Fin} {nt : Nat} {ρ0 : Map} {A0 : AW} {w0 : World} {listed : Array Bool} {ρ : Map} {s : Stg} {c : Nat} {a : Act} {w : World}

theorem ready_pre (hF : Facts P K X Y nt) (hI : Inv P K X Y nt ρ0 A0 w0 listed ρ s c a w) {i : Nat} (hi : i ∈ Region.ready .any X.ops listed) : ¬Li listed i ∧ i < listed.size ∧ ∃ o, X.ops[i]? = some o ∧ ∀ j, B X.pre i j → Li listed j := by
  obtain ⟨h0, o, ho, hall⟩ := mem_ready.1 hi
  have hlt : i < X.ops.size := (Array.getElem?_eq_some_iff.1 ho).1
  refine ⟨not_li h0, by rw [hI.lsz]; exact hlt, o, ho, fun j hj => ?_⟩
  obtain ⟨e, he, hb, hh⟩ := (hF.pre i o ho).1 j hj
  have hle : Li listed e.on := hall e he hb
  rcases hh with rfl | hh
  · exact hle
  · exact hI.closed _ _ hle hh
theorem lo_le (hI : Inv P K X Y nt ρ0 A0 w0 listed ρ s c a w) {i : Nat} (hp : ∀ j, B X.pre i j → Li listed j) : X.lo i ≤ c := by
  rw [← hI.cnt, Cx.lo, waits_count]
  exact List.countP_mono_left fun e _ he => hp e he
theorem le_hi (hI : Inv P K X Y nt ρ0 A0 w0 listed ρ s c a w) {i : Nat} (hn : ¬Li listed i) : c ≤ X.hi i := by
  have := count_apart (fun e => listed.getD e false) (fun e => bit (natAt X.pre e) i || Nat.beq e i) X.effs fun e _ h1 h2 => by
    rcases Bool.or_eq_true_iff.1 h2 with h | h
    · exact hn (hI.closed e i h1 h)
    · have := beq_iff.1 h; subst this; exact hn h1
  rw [hI.cnt, ← waiting_count] at this
  unfold Cx.hi; omega
theorem view_tm (hI : Inv P K X Y nt ρ0 A0 w0 listed ρ s c a w) (hF : Facts P K X Y nt) {i : Nat} (hn : ¬Li listed i) (hp : ∀ j, B X.pre i j → Li listed j) {v : T AV} (hv : SrcOk X.pre X.W Y.F X.tm0 i v) : TmOk ρ v a.tmps := by
  intro t u hu
  rcases hv t u hu with ⟨j, hW, hB, hFj⟩ | ⟨hW, h0⟩
  · obtain ⟨o, ho, hd⟩ := hF.w2 t j hW
    obtain ⟨u', x, h1, h2, h3⟩ := hI.vals j o ho (hp j hB)
    rw [hFj] at h1; cases h1
    exact ⟨x, h2, h3 t hd⟩
  · exact hI.olds t u h0 fun j hj hl => hn (hI.closed j i hl (hW j hj))
theorem free_of {i : Nat} (hn : i < listed.size) {k : Nat} (h : Free X (listed.setIfInBounds i true) k) : Free X listed k := fun e he hl => h e he ((li_set hn e).2 (.inl hl))
theorem get_put {a : Act} {d : Option Tmp} {x : Value} (hd : dstIn nt d = true) (hs : nt ≤ a.tmps.size) : (∀ t, d = some t → (a.put d x).tmps[t]? = some x) ∧ ∀ t, d ≠ some t → (a.put d x).tmps[t]? = a.tmps[t]? := by
  cases d with
  | none => exact ⟨fun _ h => (by cases h), fun _ _ => rfl⟩
  | some d =>
    have hd := blt_iff.1 hd
    refine ⟨fun t h => ?_, fun t h => ?_⟩
    · cases h; simp [Act.put, Array.getElem?_setIfInBounds]; omega
    · have : d ≠ t := fun e => h (by rw [e])
      simp [Act.put, Array.getElem?_setIfInBounds, this]

/-- an operation more is listed -/
theorem inv_put (hF : Facts P K X Y nt) (hI : Inv P K X Y nt ρ0 A0 w0 listed ρ s c a w) {i : Nat} {o : Oper} (ho : X.ops[i]? = some o) (hi : i < listed.size) (hn : ¬Li listed i) (hp : ∀ j, B X.pre i j → Li listed j)
    {ρ' : Map} {s' : Stg} {c' : Nat} {a' : Act} {w' : World} {u : AV} {x : Value} (hu : Y.F.get (pos i) = some u) (hx : conc ρ' u = some x) (he : Ext' ρ ρ') (ha : a'.tmps = (a.put o.dst x).tmps)
    (hc : X.effs.countP (fun e => (listed.setIfInBounds i true).getD e false) = c') (hs : Y.sg.get (pos c') = some s') (hr : Rel ρ' s'.A w') (hd : DfOk P ρ' s'.df a'.defers) (hg : Goes ρ0 A0 w0 ρ' s'.A w') (hro : X.base + X.res ≤ s'.A.nx)
    (hfl : ∀ k ob, Li (listed.setIfInBounds i true) k → Y.fl.get (pos k) = some ob → Free X (listed.setIfInBounds i true) k → k < X.res ∧ Flo ρ' s'.A w' (pos (X.base + k)) ob w0.heap.size)
    (hsep : ∀ k k', k ≠ k' → Li (listed.setIfInBounds i true) k → Li (listed.setIfInBounds i true) k' → Free X (listed.setIfInBounds i true) k → Free X (listed.setIfInBounds i true) k' → ∀ ob ob' L L', Y.fl.get (pos k) = some ob → Y.fl.get (pos k') = some ob' →
      ρ' (pos (X.base + k)) = some L → ρ' (pos (X.base + k')) = some L' → L.r ≠ L'.r)
    (hun : ∀ k, k < X.res → ¬Li (listed.setIfInBounds i true) k → ρ' (pos (X.base + k)) = none) :
    Inv P K X Y nt ρ0 A0 w0 (listed.setIfInBounds i true) ρ' s' c' a' w' := by
  obtain ⟨p1, p2⟩ := get_put (x := x) (hF.cert i o ho).1 hI.size
  refine ⟨by simp [hI.lsz], fun k j hk hB => ?_, hc, hI.base, hI.glob.mono he, hs, hr, hd, hg, hro, by rw [ha, put_size]; exact hI.size, fun k ok hok hk => ?_, fun t v ht hW => ?_, hfl, hsep, hun⟩
  · rw [li_set hi] at hk ⊢
    rcases hk with hk | rfl
    · exact .inl (hI.closed k j hk hB)
    · exact .inl (hp j hB)
  · rcases (li_set hi k).1 hk with hk' | rfl
    · obtain ⟨v, y, h1, h2, h3⟩ := hI.vals k ok hok hk'
      refine ⟨v, y, h1, conc_mono he _ _ h2, fun d hdd => ?_⟩
      rw [ha, p2 d, h3 d hdd]
      intro e
      have h1 := hF.w1 i o d ho e
      rw [hF.w1 k ok d hok hdd] at h1
      cases h1
      exact hn hk'
    · rw [ho] at hok; cases hok
      exact ⟨u, x, hu, hx, fun d hdd => by rw [ha, p1 d hdd]⟩
  · obtain ⟨y, h1, h2⟩ := hI.olds t v ht fun j hj hl => hW j hj ((li_set hi j).2 (.inl hl))
    refine ⟨y, conc_mono he _ _ h1, ?_⟩
    rw [ha, p2 t, h2]
    intro e
    exact hW i (hF.w1 i o t ho e) ((li_set hi i).2 (.inr rfl))

theorem cnt_same (hI : Inv P K X Y nt ρ0 A0 w0 listed ρ s c a w) {i : Nat} (h : i ∉ X.effs) : X.effs.countP (fun e => (listed.setIfInBounds i true).getD e false) = c := by
  rw [← hI.cnt]
  refine List.countP_congr fun e he => ?_
  have hne : i ≠ e := fun x => h (by rw [x]; exact he)
  rw [getD_set_ne false hne]
theorem count_more {p q : Nat → Bool} {i : Nat} : ∀ l : List Nat, l.Nodup → i ∈ l → p i = false → q i = true → (∀ e, e ≠ i → q e = p e) → l.countP q = l.countP p + 1
  | [], _, h, _, _, _ => by cases h
  | e :: l, hn, h, hp, hq, hh => by
    obtain ⟨h1, h2⟩ := List.nodup_cons.1 hn
    simp only [List.countP_cons]
    by_cases he : e = i
    · subst he
      have : l.countP q = l.countP p := List.countP_congr fun y hy => by rw [hh y fun e => h1 (e ▸ hy)]
      rw [this, hp, hq]; simp
    · have := count_more l h2 ((List.mem_cons.1 h).resolve_left fun x => he x.symm) hp hq hh
      rw [this, hh e he]; omega
theorem cnt_more (hI : Inv P K X Y nt ρ0 A0 w0 listed ρ s c a w) (hF : Facts P K X Y nt) {i : Nat} (h : i ∈ X.effs) (hi : i < listed.size) (hn : ¬Li listed i) : X.effs.countP (fun e => (listed.setIfInBounds i true).getD e false) = c + 1 := by
  rw [← hI.cnt]
  refine count_more X.effs hF.effn h ?_ ((li_set hi i).2 (.inr rfl)) fun e he => getD_set_ne false (fun x => he x.symm)
  unfold Li at hn; simpa using hn

/-- nothing but a slot changes -/
theorem inv_look (hF : Facts P K X Y nt) (hI : Inv P K X Y nt ρ0 A0 w0 listed ρ s c a w) {i : Nat} {o : Oper} (ho : X.ops[i]? = some o) (hi : i < listed.size) (hn : ¬Li listed i) (hp : ∀ j, B X.pre i j → Li listed j)
    {u : AV} {x : Value} (hu : Y.F.get (pos i) = some u) (hx : conc ρ u = some x) (hne : i ∉ X.effs) (hfl : Y.fl.get (pos i) = none) : Inv P K X Y nt ρ0 A0 w0 (listed.setIfInBounds i true) ρ s c (a.put o.dst x) w := by
  have hk : ∀ k ob, Li (listed.setIfInBounds i true) k → Y.fl.get (pos k) = some ob → Li listed k := fun k ob h1 h2 => ((li_set hi k).1 h1).resolve_right fun e => by subst e; rw [hfl] at h2; cases h2
  refine inv_put hF hI ho hi hn hp hu hx (.refl ρ) rfl (cnt_same hI hne) hI.stg hI.rel (by rw [put_defers]; exact hI.dfs) hI.goes hI.room (fun k ob h1 h2 h3 => hI.fls k ob (hk k ob h1 h2) h2 (free_of hi h3)) (fun k k' hkk h1 h2 h3 h4 ob ob' L L' g1 g2 g3 g4 => ?_) (fun k h1 h2 => hI.unl k h1 fun h => h2 ((li_set hi k).2 (.inl h)))
  exact hI.flsep k k' hkk (hk k ob h1 g1) (hk k' ob' h2 g2) (free_of hi h3) (free_of hi h4) ob ob' L L' g1 g2 g3 g4

theorem names_upd {A : AW} {n : Nat} {L : Loc} (hr : Rel ρ A w) (hf : ρ (pos n) = none) {r : Nat} : (Names (upd ρ (pos n) L) A r → Names ρ A r) ∧ (Own (upd ρ (pos n) L) A r → Own ρ A r) := by
  have hne : ∀ b o, A.h.get b = some o → b ≠ pos n := fun b o hb e => by
    subst e
    obtain ⟨L', hL', _⟩ := hr.objs _ _ hb
    rw [hf] at hL'; cases hL'
  refine ⟨fun ⟨b, o, L', h1, h2, h3⟩ => ?_, fun ⟨b, o, L', h1, hw, h2, h3⟩ => ?_⟩
  · rw [upd_ne _ _ (hne b o h1)] at h2; exact ⟨b, o, L', h1, h2, h3⟩
  · rw [upd_ne _ _ (hne b o h1)] at h2; exact ⟨b, o, L', h1, hw, h2, h3⟩
/-- a new object beside the world's -/
theorem Rel.beside {A : AW} {n lim d : Nat} {ob : Obj} (hr : Rel ρ A w) (hf : ρ (pos n) = none) (hn : n < A.nx) (hg : Goes ρ0 A0 w0 ρ A w) (h0 : A0.nx ≤ n) :
    Rel (upd ρ (pos n) ⟨w.heap.size, 0, lim⟩) A { w with heap := w.heap.push ob, drawn := d } ∧ Goes ρ0 A0 w0 (upd ρ (pos n) ⟨w.heap.size, 0, lim⟩) A { w with heap := w.heap.push ob, drawn := d } := by
  have hne : ∀ b o, A.h.get b = some o → b ≠ pos n := fun b o hb e => by
    subst e
    obtain ⟨L', hL', _⟩ := hr.objs _ _ hb
    rw [hf] at hL'; cases hL'
  have hx := upd_ext ⟨w.heap.size, 0, lim⟩ hf
  have hold : ∀ r, r < w.heap.size → (w.heap.push ob)[r]? = w.heap[r]? := fun r hr => by rw [Array.getElem?_push, if_neg (by omega)]
  refine ⟨⟨fun k hk => ?_, fun b o hb => ?_, fun b b' o o' hbb h1 h2 hw L L' hL hL' => ?_⟩, hg.ext.trans hx, hg.nx, hg.os, hg.tape, hg.output, ?_, fun r h1 h2 => ⟨?_, fun h => (hg.keep r h1 h2).2 ((names_upd hr hf).2 h)⟩, fun k h1 h2 => ?_, fun r h1 h2 h => hg.keepN r h1 h2 ((names_upd hr hf).1 h)⟩
  · rw [upd_ne _ _ (pos_ne (by omega))]; exact hr.fresh k hk
  · obtain ⟨L, hL, hob⟩ := hr.objs b o hb
    refine ⟨L, by rw [upd_ne _ _ (hne b o hb)]; exact hL, ?_⟩
    rw [show ({ w with heap := w.heap.push ob, drawn := d } : World).heap[L.r]? = w.heap[L.r]? from hold _ (hr.lt hb hL)]
    exact hob.mono hx
  · rw [upd_ne _ _ (hne b o h1)] at hL
    rw [upd_ne _ _ (hne b' o' h2)] at hL'
    exact hr.sep b b' o o' hbb h1 h2 hw L L' hL hL'
  · have := hg.size
    show w0.heap.size ≤ (w.heap.push ob).size
    rw [Array.size_push]; omega
  · show (w.heap.push ob)[r]? = _
    have := hg.size
    rw [hold r (by omega)]; exact (hg.keep r h1 h2).1
  · rw [upd_ne _ _ (pos_ne (by omega))]; exact hg.old k h1 h2
end
end Go.Proofs.YtcaagfgopmhilaaGreatDoor.Vai
