/- A part of the proof that the law of this seat holds: P2; no condition. -/
import Derived.Test.YtcaagfgopmhilaaGreatDoorP1
import Derived.Calls
import Derived.Laws.Append
import Derived.Laws.CopyRow
import Derived.Laws.Rows
import Derived.Defers
import Derived.Scope
namespace Go.Proofs.YtcaagfgopmhilaaGreatDoor.Vai
/-! ### what an abstract value stands for -/
structure Loc where
  r : Nat
  sh : Nat
  lim : Nat
abbrev Map := Pos → Option Loc

def byteOk : List Nat → Bool
  | [] => true
  | c :: l => Nat.blt c 256 && byteOk l
def strOf (l : List Nat) : ByteArray := ⟨(l.map UInt8.ofNat).toArray⟩

mutual
def conc (ρ : Map) : AV → Option Value
  | .b x => some (.bool x)
  | .i k n => some (.int k n)
  | .s l => if byteOk l = true then some (.string (strOf l)) else none
  | .pn => some (.pointer none)
  | .p b o => (ρ b).map fun L => .pointer (some ⟨L.r, L.sh + o, none⟩)
  | .sn => some (.slice none 0 0)
  | .sx b o len cap => (ρ b).map fun L => .slice (some ⟨L.r, L.sh + o, none⟩) len cap
  | .su b o len sz => (ρ b).map fun L => .slice (some ⟨L.r, L.sh + o, none⟩) len ((L.lim - (L.sh + o)) / sz)
  | .mn => some (.map none)
  | .m b => (ρ b).map fun L => .map (some L.r)
  | .f fn x y => match concL ρ x, concL ρ y with
    | some u, some v => some (.func fn u.toArray v.toArray)
    | _, _ => none
  | .fn0 => some .nilFunc
  | .yl b => (ρ b).map fun L => .func (.yield L.r) #[] #[]
  | .ifc t v => match conc ρ v with
    | some u => some (.iface t u)
    | none => none
  | .if0 => some .nilIface
  | .agg l => match concL ρ l with
    | some u => some (.agg u.toArray)
    | none => none
  | .tup l => match concL ρ l with
    | some u => some (.tuple u.toArray)
    | none => none
  | .x v => if v.oneCell' = true then some v else none
def concL (ρ : Map) : List AV → Option (List Value)
  | [] => some []
  | a :: l => match conc ρ a, concL ρ l with
    | some x, some m => some (x :: m)
    | _, _ => none
end

def Ext' (ρ ρ' : Map) : Prop := ∀ b L, ρ b = some L → ρ' b = some L
theorem Ext'.refl (ρ : Map) : Ext' ρ ρ := fun _ _ h => h
theorem Ext'.trans {a b c : Map} (h : Ext' a b) (k : Ext' b c) : Ext' a c := fun x L e => k x L (h x L e)

theorem mapMono {ρ ρ' : Map} (h : Ext' ρ ρ') {b : Pos} {f : Loc → Value} {x : Value} (e : (ρ b).map f = some x) : (ρ' b).map f = some x := by
  cases hb : ρ b with
  | none => rw [hb] at e; cases e
  | some L => rw [hb] at e; rw [h b L hb]; exact e

mutual
theorem conc_mono {ρ ρ' : Map} (h : Ext' ρ ρ') : ∀ (a : AV) (x : Value), conc ρ a = some x → conc ρ' a = some x
  | .b _, _, e => e
  | .i _ _, _, e => e
  | .s _, _, e => e
  | .pn, _, e => e
  | .p _ _, _, e => mapMono h e
  | .sn, _, e => e
  | .sx _ _ _ _, _, e => mapMono h e
  | .su _ _ _ _, _, e => mapMono h e
  | .mn, _, e => e
  | .m _, _, e => mapMono h e
  | .f fn x y, v, e => by
    simp only [conc] at e ⊢
    cases hx : concL ρ x with
    | none => rw [hx] at e; cases e
    | some u =>
      cases hy : concL ρ y with
      | none => rw [hx, hy] at e; cases e
      | some w => rw [hx, hy] at e; rw [concL_mono h x u hx, concL_mono h y w hy]; exact e
  | .fn0, _, e => e
  | .yl _, _, e => mapMono h e
  | .ifc t a, v, e => by
    simp only [conc] at e ⊢
    cases hx : conc ρ a with
    | none => rw [hx] at e; cases e
    | some u => rw [hx] at e; rw [conc_mono h a u hx]; exact e
  | .if0, _, e => e
  | .agg l, v, e => by
    simp only [conc] at e ⊢
    cases hx : concL ρ l with
    | none => rw [hx] at e; cases e
    | some u => rw [hx] at e; rw [concL_mono h l u hx]; exact e
  | .tup l, v, e => by
    simp only [conc] at e ⊢
    cases hx : concL ρ l with
    | none => rw [hx] at e; cases e
    | some u => rw [hx] at e; rw [concL_mono h l u hx]; exact e
  | .x _, _, e => e
theorem concL_mono {ρ ρ' : Map} (h : Ext' ρ ρ') : ∀ (l : List AV) (x : List Value), concL ρ l = some x → concL ρ' l = some x
  | [], _, e => e
  | a :: l, v, e => by
    simp only [concL] at e ⊢
    cases hx : conc ρ a with
    | none => rw [hx] at e; cases e
    | some u =>
      cases hy : concL ρ l with
      | none => rw [hx, hy] at e; cases e
      | some w => rw [hx, hy] at e; rw [conc_mono h a u hx, concL_mono h l w hy]; exact e
end

theorem concL_cons {ρ : Map} {a : AV} {l : List AV} {v : List Value} (e : concL ρ (a :: l) = some v) : ∃ x m, conc ρ a = some x ∧ concL ρ l = some m ∧ v = x :: m := by
  simp only [concL] at e
  cases hx : conc ρ a with
  | none => rw [hx] at e; cases e
  | some u =>
    cases hy : concL ρ l with
    | none => rw [hx, hy] at e; cases e
    | some w => rw [hx, hy] at e; exact ⟨u, w, rfl, rfl, (Option.some.inj e).symm⟩
theorem concL_mk {ρ : Map} {a : AV} {l : List AV} {x : Value} {m : List Value} (h : conc ρ a = some x) (k : concL ρ l = some m) : concL ρ (a :: l) = some (x :: m) := by
  simp only [concL, h, k]
theorem concL_length {ρ : Map} : ∀ {l : List AV} {v : List Value}, concL ρ l = some v → v.length = l.length
  | [], v, e => by cases e; rfl
  | a :: l, v, e => by
    obtain ⟨x, m, _, hm, rfl⟩ := concL_cons e
    simp [concL_length hm]
theorem concL_append {ρ : Map} : ∀ {l k : List AV} {u v : List Value}, concL ρ l = some u → concL ρ k = some v → concL ρ (l ++ k) = some (u ++ v)
  | [], k, u, v, e, f => by cases e; exact f
  | a :: l, k, u, v, e, f => by
    obtain ⟨x, m, hx, hm, rfl⟩ := concL_cons e
    exact concL_mk hx (concL_append hm f)
theorem concL_get {ρ : Map} : ∀ {l : List AV} {v : List Value}, concL ρ l = some v → ∀ i a, nth l i = some a → ∃ x, conc ρ a = some x ∧ v[i]? = some x
  | [], _, _, i, a, h => by simp [nth] at h
  | b :: l, v, e, i, a, h => by
    obtain ⟨x, m, hx, hm, rfl⟩ := concL_cons e
    cases i with
    | zero => simp only [nth, Option.some.injEq] at h; subst h; exact ⟨x, hx, rfl⟩
    | succ i => obtain ⟨y, hy, hv⟩ := concL_get hm i a h; exact ⟨y, hy, by simpa using hv⟩
theorem concL_drop {ρ : Map} : ∀ {l : List AV} {v : List Value} (n : Nat), concL ρ l = some v → concL ρ (l.drop n) = some (v.drop n)
  | l, v, 0, e => by simpa using e
  | [], v, n + 1, e => by cases e; rfl
  | a :: l, v, n + 1, e => by
    obtain ⟨x, m, _, hm, rfl⟩ := concL_cons e
    simpa using concL_drop n hm
theorem concL_take {ρ : Map} : ∀ {l : List AV} {v : List Value} (n : Nat), concL ρ l = some v → concL ρ (l.take n) = some (v.take n)
  | l, v, 0, e => by simp [concL]
  | [], v, n + 1, e => by cases e; rfl
  | a :: l, v, n + 1, e => by
    obtain ⟨x, m, hx, hm, rfl⟩ := concL_cons e
    simpa using concL_mk hx (concL_take n hm)

/-- one cell -/
theorem isCell_conc {ρ : Map} {a : AV} {x : Value} (h : isCell a = true) (e : conc ρ a = some x) : x.oneCell' = true := by
  cases a <;> simp only [isCell, conc, Bool.false_eq_true] at h e <;> first
    | (cases e; rfl)
    | (obtain ⟨L, _, rfl⟩ := Option.map_eq_some_iff.1 e; rfl)
    | (split at e <;> first | (cases e; done) | (cases e; rfl) | (cases e; assumption))

theorem cells_conc {ρ : Map} {a : AV} {x : Value} (e : conc ρ a = some x) (ht : ∀ l, a ≠ .tup l) : ∃ u, concL ρ a.cells = some u ∧ x.cells = u.toArray := by
  cases a with
  | agg l =>
    simp only [conc] at e
    cases hx : concL ρ l with
    | none => rw [hx] at e; cases e
    | some u => rw [hx] at e; cases e; exact ⟨u, hx, rfl⟩
  | tup l => exact absurd rfl (ht l)
  | _ =>
    refine ⟨[x], concL_mk e rfl, ?_⟩
    have := isCell_conc (ρ := ρ) rfl e
    cases x <;> first | rfl | cases this

/-! ### worlds -/
def writable : AObj → Bool
  | .cells k => !k.ro
  | _ => true
/-- the cells that an object has -/
def Has (o : AObj) (L : Loc) (i : Nat) : Prop := match o with
  | .cells k => L.sh ≤ i ∧ i < (if k.spare then L.lim else L.sh + k.n)
  | _ => True
def Apart (o : AObj) (L : Loc) (o' : AObj) (L' : Loc) : Prop := L.r ≠ L'.r ∨ ((∃ k, o = .cells k) ∧ (∃ k, o' = .cells k) ∧ (writable o = false ∨ writable o' = false) ∧ ∀ i, ¬(Has o L i ∧ Has o' L' i))

def entOk (ρ : Map) (a : AV × AV × Nat) (e : MapEntry) : Prop := conc ρ a.1 = some e.key ∧ conc ρ a.2.1 = some e.val ∧ e.born = a.2.2
def EntsOk (ρ : Map) : List (AV × AV × Nat) → List MapEntry → Prop
  | [], [] => True
  | a :: l, e :: m => entOk ρ a e ∧ EntsOk ρ l m
  | _, _ => False

def ObjRel (ρ : Map) (ob : Option Obj) (L : Loc) : AObj → Prop
  | .cells k => ∃ c fz, ob = some (.cells c k.el fz) ∧ L.sh + k.n ≤ L.lim ∧ L.lim ≤ c.size ∧ (k.ro = false → fz = (0, 0) ∧ (k.spare = false → L.sh = 0)) ∧
      ∀ i v, i < k.n → k.c.get (pos i) = some v → isCell v = true ∧ ∃ x, conc ρ v = some x ∧ c[L.sh + i]? = some x
  | .map es clock => L.sh = 0 ∧ ∃ m, ob = some (.map m clock) ∧ EntsOk ρ es m.toList
  | .siter s ps => L.sh = 0 ∧ byteOk s = true ∧ ob = some (.stringIter (strOf s) ps)
  | .miter m since seen stepped => L.sh = 0 ∧ ∃ m', (match m with
      | none => m' = none
      | some b => ∃ M, ρ b = some M ∧ m' = some M.r) ∧ ob = some (.mapIter m' since seen.toArray stepped)
  | .loop => L.sh = 0 ∧ ∃ l : Loop, ob = some (.loop l) ∧ l.state = .ready ∧ l.pending = none
  | .dfr => L.sh = 0 ∧ ob = some (.deferred (some []))

structure Rel (ρ : Map) (A : AW) (w : World) : Prop where
  fresh : ∀ n, A.nx ≤ n → ρ (pos n) = none
  objs : ∀ b o, A.h.get b = some o → ∃ L, ρ b = some L ∧ ObjRel ρ w.heap[L.r]? L o
  sep : ∀ b b' o o', b ≠ b' → A.h.get b = some o → A.h.get b' = some o' → writable o = true → ∀ L L', ρ b = some L → ρ b' = some L' → Apart o L o' L'

def Own (ρ : Map) (A : AW) (r : Nat) : Prop := ∃ b o L, A.h.get b = some o ∧ writable o = true ∧ ρ b = some L ∧ L.r = r

/-- the rows that the objects of a world lie in -/
def Names (ρ : Map) (A : AW) (r : Nat) : Prop := ∃ b o L, A.h.get b = some o ∧ ρ b = some L ∧ L.r = r

structure Goes (ρ : Map) (A : AW) (w : World) (ρ' : Map) (A' : AW) (w' : World) : Prop where
  ext : Ext' ρ ρ'
  nx : A.nx ≤ A'.nx
  os : w'.os = w.os
  tape : w'.tape = w.tape
  output : w'.output = w.output
  size : w.heap.size ≤ w'.heap.size
  keep : ∀ r, r < w.heap.size → ¬Own ρ A r → w'.heap[r]? = w.heap[r]? ∧ ¬Own ρ' A' r
  old : ∀ n, n < A.nx → ρ (pos n) = none → ρ' (pos n) = none
  keepN : ∀ r, r < w.heap.size → ¬Names ρ A r → ¬Names ρ' A' r

theorem Goes.refl (ρ : Map) (A : AW) (w : World) : Goes ρ A w ρ A w := ⟨.refl ρ, Nat.le_refl _, rfl, rfl, rfl, Nat.le_refl _, fun _ _ h => ⟨rfl, h⟩, fun _ _ h => h, fun _ _ h => h⟩
theorem Goes.trans {ρ ρ' ρ'' : Map} {A A' A'' : AW} {w w' w'' : World} (h : Goes ρ A w ρ' A' w') (k : Goes ρ' A' w' ρ'' A'' w'') : Goes ρ A w ρ'' A'' w'' :=
  ⟨h.ext.trans k.ext, Nat.le_trans h.nx k.nx, k.os.trans h.os, k.tape.trans h.tape, k.output.trans h.output, Nat.le_trans h.size k.size, fun r hr ho =>
    have ⟨e, ho'⟩ := h.keep r hr ho
    have ⟨e', ho''⟩ := k.keep r (Nat.lt_of_lt_of_le hr h.size) ho'
    ⟨e'.trans e, ho''⟩, fun n hn h0 => k.old n (Nat.lt_of_lt_of_le hn h.nx) (h.old n hn h0), fun r hr ho => k.keepN r (Nat.lt_of_lt_of_le hr h.size) (h.keepN r hr ho)⟩

theorem EntsOk.mono {ρ ρ' : Map} (h : Ext' ρ ρ') : ∀ {l : List (AV × AV × Nat)} {m : List MapEntry}, EntsOk ρ l m → EntsOk ρ' l m
  | [], [], _ => trivial
  | _ :: _, _ :: _, ⟨⟨h1, h2, h3⟩, hr⟩ => ⟨⟨conc_mono h _ _ h1, conc_mono h _ _ h2, h3⟩, EntsOk.mono h hr⟩
  | [], _ :: _, h => h.elim
  | _ :: _, [], h => h.elim

theorem ObjRel.mono {ρ ρ' : Map} (h : Ext' ρ ρ') {ob : Option Obj} {L : Loc} {o : AObj} (k : ObjRel ρ ob L o) : ObjRel ρ' ob L o := by
  cases o with
  | cells k0 =>
    obtain ⟨c, fz, h1, h2, h3, h4, h5⟩ := k
    exact ⟨c, fz, h1, h2, h3, h4, fun i v hi hv => let ⟨a, x, hx, hc⟩ := h5 i v hi hv; ⟨a, x, conc_mono h _ _ hx, hc⟩⟩
  | map es c => obtain ⟨h0, m, h1, h2⟩ := k; exact ⟨h0, m, h1, h2.mono h⟩
  | siter s p => exact k
  | miter m a b c =>
    obtain ⟨h0, m', h1, h2⟩ := k
    refine ⟨h0, m', ?_, h2⟩
    cases m with
    | none => exact h1
    | some b => obtain ⟨M, hM, e⟩ := h1; exact ⟨M, h _ _ hM, e⟩
  | loop => exact k
  | dfr => exact k

def upd (ρ : Map) (b : Pos) (L : Loc) : Map := fun c => if posEq c b = true then some L else ρ c
theorem upd_eq (ρ : Map) (b : Pos) (L : Loc) : upd ρ b L b = some L := by simp only [upd, posEq_iff.2, if_true]
theorem upd_ne (ρ : Map) {b c : Pos} (L : Loc) (h : c ≠ b) : upd ρ b L c = ρ c := by simp only [upd, posEq_iff, h, if_false]
theorem upd_ext {ρ : Map} {b : Pos} (L : Loc) (h : ρ b = none) : Ext' ρ (upd ρ b L) := by
  intro c M hc
  by_cases e : c = b
  · subst e; rw [h] at hc; cases hc
  · rw [upd_ne ρ L e]; exact hc

/-- a new object under a new name; its place in the world may be new, or within what nobody else has -/
theorem Rel.add {ρ : Map} {A : AW} {w w' : World} {o : AObj} {L : Loc} (h : Rel ρ A w)
    (hold : ∀ b o' L', A.h.get b = some o' → ρ b = some L' → w'.heap[L'.r]? = w.heap[L'.r]?)
    (hobj : ObjRel (upd ρ (pos A.nx) L) w'.heap[L.r]? L o)
    (hsep : ∀ b o' L', A.h.get b = some o' → ρ b = some L' → (writable o = true ∨ writable o' = true) → Apart o L o' L') :
    Rel (upd ρ (pos A.nx) L) (newObj A o) w' := by
  have hf := h.fresh A.nx (Nat.le_refl _)
  have hx := upd_ext L hf
  have hne : ∀ {b L'}, ρ b = some L' → b ≠ pos A.nx := fun hb e => by rw [e, hf] at hb; cases hb
  have hap : ∀ {o' L'}, Apart o L o' L' → Apart o' L' o L := fun ha => ha.imp (fun e e' => e e'.symm) fun ⟨a, b, e, c⟩ => ⟨b, a, e.symm, fun i ⟨x, y⟩ => c i ⟨y, x⟩⟩
  refine ⟨fun n hn => ?_, fun b o' hb => ?_, fun b b' o1 o2 hbb h1 h2 hw L1 L2 hL1 hL2 => ?_⟩
  · have hn' : A.nx + 1 ≤ n := hn
    rw [upd_ne ρ L (pos_ne (by omega))]; exact h.fresh n (by omega)
  · by_cases e : b = pos A.nx
    · subst e
      simp only [newObj, T.get_set_eq, Option.some.injEq] at hb
      subst hb
      exact ⟨L, upd_eq _ _ _, hobj⟩
    · simp only [newObj, T.get_set_ne _ _ _ _ e] at hb
      obtain ⟨L', hL', hr⟩ := h.objs b o' hb
      refine ⟨L', hx _ _ hL', ?_⟩
      rw [hold b o' L' hb hL']
      exact hr.mono hx
  · by_cases e : b = pos A.nx
    · subst e
      have e' : b' ≠ pos A.nx := fun x => hbb x.symm
      simp only [newObj, T.get_set_eq, Option.some.injEq, T.get_set_ne _ _ _ _ e'] at h1 h2
      subst h1
      rw [upd_eq] at hL1; cases hL1
      rw [upd_ne ρ L e'] at hL2
      exact hsep b' o2 L2 h2 hL2 (.inl hw)
    · by_cases e' : b' = pos A.nx
      · subst e'
        simp only [newObj, T.get_set_eq, Option.some.injEq, T.get_set_ne _ _ _ _ e] at h1 h2
        subst h2
        rw [upd_eq] at hL2; cases hL2
        rw [upd_ne ρ L e] at hL1
        exact hap (hsep b o1 L1 h1 hL1 (.inr hw))
      · simp only [newObj, T.get_set_ne _ _ _ _ e, T.get_set_ne _ _ _ _ e'] at h1 h2
        rw [upd_ne ρ L e] at hL1
        rw [upd_ne ρ L e'] at hL2
        exact h.sep b b' o1 o2 hbb h1 h2 hw L1 L2 hL1 hL2

/-- the blocks that are there lie in the heap -/
theorem Rel.lt {ρ : Map} {A : AW} {w : World} (h : Rel ρ A w) {b : Pos} {o : AObj} {L : Loc} (hb : A.h.get b = some o) (hL : ρ b = some L) : L.r < w.heap.size := by
  obtain ⟨L', hL', hr⟩ := h.objs b o hb
  rw [hL] at hL'; cases hL'
  have : w.heap[L.r]? ≠ none := by
    intro e
    rw [e] at hr
    cases o with
    | cells k => obtain ⟨_, _, h1, _⟩ := hr; cases h1
    | map es c => obtain ⟨_, _, h1, _⟩ := hr; cases h1
    | siter s p => cases hr.2.2
    | miter m a b c => obtain ⟨_, _, _, h1⟩ := hr; cases h1
    | loop => obtain ⟨_, _, h1, _⟩ := hr; cases h1
    | dfr => cases hr.2
  by_cases hlt : L.r < w.heap.size
  · exact hlt
  · exact absurd (Array.getElem?_eq_none (Nat.le_of_not_lt hlt)) this

/-- a new block -/
theorem Rel.push {ρ : Map} {A : AW} {w : World} {o : AObj} {ob : Obj} {lim : Nat} (h : Rel ρ A w) (d : Nat)
    (hobj : ObjRel (upd ρ (pos A.nx) ⟨w.heap.size, 0, lim⟩) (some ob) ⟨w.heap.size, 0, lim⟩ o) :
    Rel (upd ρ (pos A.nx) ⟨w.heap.size, 0, lim⟩) (newObj A o) { w with heap := w.heap.push ob, drawn := d } ∧
    Goes ρ A w (upd ρ (pos A.nx) ⟨w.heap.size, 0, lim⟩) (newObj A o) { w with heap := w.heap.push ob, drawn := d } := by
  have hf := h.fresh A.nx (Nat.le_refl _)
  refine ⟨h.add (fun b o' L' hb hL' => ?_) ?_ (fun b o' L' hb hL' _ => ?_), upd_ext _ hf, Nat.le_succ _, rfl, rfl, rfl, by simp, fun r hr ho => ⟨?_, ?_⟩, fun n hn h0 => ?_, fun r hr ho => ?_⟩
  · have := h.lt hb hL'
    show (w.heap.push ob)[L'.r]? = _
    rw [Array.getElem?_push, if_neg (by omega)]
  · simpa using hobj
  · have := h.lt hb hL'
    exact .inl (by show w.heap.size ≠ L'.r; omega)
  · show (w.heap.push ob)[r]? = _
    rw [Array.getElem?_push, if_neg (by omega)]
  · rintro ⟨b, o', L', hb, hw, hL', rfl⟩
    by_cases e : b = pos A.nx
    · subst e
      rw [upd_eq] at hL'; cases hL'
      exact absurd hr (Nat.lt_irrefl _)
    · simp only [newObj, T.get_set_ne _ _ _ _ e] at hb
      rw [upd_ne _ _ e] at hL'
      exact ho ⟨b, o', L', hb, hw, hL', rfl⟩
  · rw [upd_ne _ _ (pos_ne (by omega))]; exact h0
  · rintro ⟨b, o', L', hb, hL', rfl⟩
    by_cases e : b = pos A.nx
    · subst e
      rw [upd_eq] at hL'; cases hL'
      exact absurd hr (Nat.lt_irrefl _)
    · simp only [newObj, T.get_set_ne _ _ _ _ e] at hb
      rw [upd_ne _ _ e] at hL'
      exact ho ⟨b, o', L', hb, hL', rfl⟩

/-- a count of draws more -/
theorem Rel.drawn {ρ : Map} {A : AW} {w : World} (h : Rel ρ A w) (d : Nat) : Rel ρ A { w with drawn := d } := ⟨h.fresh, h.objs, h.sep⟩
theorem Goes.drawn (ρ : Map) (A : AW) (w : World) (d : Nat) : Goes ρ A w ρ A { w with drawn := d } := ⟨.refl ρ, Nat.le_refl _, rfl, rfl, rfl, Nat.le_refl _, fun _ _ h => ⟨rfl, h⟩, fun _ _ h => h, fun _ _ h => h⟩

/-- forgetting -/
theorem Rel.forget {ρ : Map} {A A' : AW} {w : World} (h : Rel ρ A w) (hn : A'.nx = A.nx) (hs : ∀ b o, A'.h.get b = some o → A.h.get b = some o) : Rel ρ A' w :=
  ⟨fun n hn' => h.fresh n (hn ▸ hn'), fun b o hb => h.objs b o (hs b o hb), fun b b' o o' hne h1 h2 => h.sep b b' o o' hne (hs _ _ h1) (hs _ _ h2)⟩
theorem Goes.forget {ρ : Map} {A A' : AW} (w : World) (hn : A'.nx = A.nx) (hs : ∀ b o, A'.h.get b = some o → A.h.get b = some o) : Goes ρ A w ρ A' w :=
  ⟨.refl ρ, Nat.le_of_eq hn.symm, rfl, rfl, rfl, Nat.le_refl _, fun _ _ h => ⟨rfl, fun ⟨b, o, L, hb, hw, hL, e⟩ => h ⟨b, o, L, hs b o hb, hw, hL, e⟩⟩, fun _ _ h => h, fun _ _ h ⟨b, o, L, hb, hL, e⟩ => h ⟨b, o, L, hs b o hb, hL, e⟩⟩
theorem del_sub {A : AW} {b c : Pos} {o : AObj} (h : (T.del b A.h).get c = some o) : A.h.get c = some o := by
  by_cases e : c = b
  · subst e; rw [T.get_del_eq] at h; cases h
  · rwa [T.get_del_ne _ _ _ e] at h

/-- an object changes in its place -/
theorem Rel.change {ρ : Map} {A : AW} {w w' : World} {b : Pos} {o o' : AObj} {L : Loc} (h : Rel ρ A w) (hb : A.h.get b = some o) (hL : ρ b = some L) (hw : writable o = true)
    (hcell : ∀ k', o' = .cells k' → ∃ k, o = .cells k ∧ k'.n = k.n ∧ k'.spare = k.spare ∧ k'.ro = k.ro)
    (hcell' : ∀ k, o = .cells k → ∃ k', o' = .cells k')
    (hother : ∀ r, r ≠ L.r → w'.heap[r]? = w.heap[r]?)
    (hobj : ObjRel ρ w'.heap[L.r]? L o')
    (hsame : ∀ b2 k2 L2, b2 ≠ b → A.h.get b2 = some (.cells k2) → ρ b2 = some L2 → L2.r = L.r → ObjRel ρ w'.heap[L.r]? L2 (.cells k2))
    (hos : w'.os = w.os) (htape : w'.tape = w.tape) (hout : w'.output = w.output) (hsize : w.heap.size ≤ w'.heap.size) :
    Rel ρ ⟨T.set b o' A.h, A.nx⟩ w' ∧ Goes ρ A w ρ ⟨T.set b o' A.h, A.nx⟩ w' := by
  have hw' : writable o' = true := by
    cases o' with
    | cells k' => obtain ⟨k, rfl, _, _, e⟩ := hcell k' rfl; simpa [writable, e] using hw
    | _ => rfl
  have hHas : ∀ i, Has o' L i ↔ Has o L i := by
    intro i
    cases o' with
    | cells k' => obtain ⟨k, rfl, e1, e2, _⟩ := hcell k' rfl; simp [Has, e1, e2]
    | _ =>
      cases o with
      | cells k => obtain ⟨k', hk⟩ := hcell' k rfl; cases hk
      | _ => simp [Has]
  have hcc : (∃ k, o' = .cells k) ↔ ∃ k, o = .cells k := ⟨fun ⟨k, e⟩ => let ⟨k0, e0, _⟩ := hcell k e; ⟨k0, e0⟩, fun ⟨k, e⟩ => hcell' k e⟩
  have hap : ∀ {x L'}, Apart o L x L' → Apart o' L x L' := fun ha => ha.imp id fun ⟨a, b, e, c⟩ => ⟨hcc.2 a, b, e.imp (fun e => by rw [hw] at e; cases e) id, fun i ⟨p, q⟩ => c i ⟨(hHas i).1 p, q⟩⟩
  have hap2 : ∀ {x L'}, Apart x L' o L → Apart x L' o' L := fun ha => ha.imp id fun ⟨a, b, e, c⟩ => ⟨a, hcc.2 b, e.imp id (fun e => by rw [hw] at e; cases e), fun i ⟨p, q⟩ => c i ⟨p, (hHas i).1 q⟩⟩
  refine ⟨⟨h.fresh, fun c oc hc => ?_, fun b1 b2 o1 o2 hne h1 h2 hwr L1 L2 hL1 hL2 => ?_⟩, .refl ρ, Nat.le_refl _, hos, htape, hout, hsize, fun r hr ho => ⟨?_, ?_⟩, fun _ _ h0 => h0, fun r hr ho => ?_⟩
  · by_cases e : c = b
    · subst e
      rw [T.get_set_eq] at hc; cases hc
      exact ⟨L, hL, hobj⟩
    · rw [T.get_set_ne _ _ _ _ e] at hc
      obtain ⟨L2, hL2, hr⟩ := h.objs c oc hc
      refine ⟨L2, hL2, ?_⟩
      by_cases hrr : L2.r = L.r
      · have ha := h.sep b c o oc (fun x => e x.symm) hb hc hw L L2 hL hL2
        rcases ha with ha | ⟨_, ⟨k2, rfl⟩, _⟩
        · exact absurd hrr.symm ha
        · rw [hrr]; exact hsame c k2 L2 e hc hL2 hrr
      · rw [hother _ hrr]; exact hr
  · by_cases e1 : b1 = b
    · subst e1
      have e2 : b2 ≠ b1 := fun x => hne x.symm
      simp only [T.get_set_eq, Option.some.injEq, T.get_set_ne _ _ _ _ e2] at h1 h2
      subst h1
      rw [hL] at hL1; cases hL1
      exact hap (h.sep b1 b2 o o2 hne hb h2 hw L L2 hL hL2)
    · by_cases e2 : b2 = b
      · subst e2
        simp only [T.get_set_eq, Option.some.injEq, T.get_set_ne _ _ _ _ e1] at h1 h2
        subst h2
        rw [hL] at hL2; cases hL2
        exact hap2 (h.sep b1 b2 o1 o hne h1 hb hwr L1 L hL1 hL)
      · simp only [T.get_set_ne _ _ _ _ e1, T.get_set_ne _ _ _ _ e2] at h1 h2
        exact h.sep b1 b2 o1 o2 hne h1 h2 hwr L1 L2 hL1 hL2
  · refine hother r fun e => ho ⟨b, o, L, hb, hw, hL, e.symm⟩
  · rintro ⟨c, oc, Lc, hc, hwc, hLc, rfl⟩
    by_cases e : c = b
    · subst e
      rw [hL] at hLc; cases hLc
      exact ho ⟨c, o, L, hb, hw, hL, rfl⟩
    · rw [T.get_set_ne _ _ _ _ e] at hc
      exact ho ⟨c, oc, Lc, hc, hwc, hLc, rfl⟩
  · rintro ⟨c, oc, Lc, hc, hLc, rfl⟩
    by_cases e : c = b
    · subst e
      rw [hL] at hLc; cases hLc
      exact ho ⟨c, o, L, hb, hL, rfl⟩
    · rw [T.get_set_ne _ _ _ _ e] at hc
      exact ho ⟨c, oc, Lc, hc, hLc, rfl⟩
end Go.Proofs.YtcaagfgopmhilaaGreatDoor.Vai
