/- A part of the proof that the law of this seat holds: P4; no condition. -/
import Derived.Test.YtcaagfgopmhilaaGreatDoorP3
import Derived.IntWalk
namespace Go.Proofs.YtcaagfgopmhilaaGreatDoor.Vai
/-! ### numbers -/
theorem ikEq_iff {a b : IntKind} : ikEq a b = true ↔ a = b := by cases a <;> cases b <;> decide
theorem boolEq_spec (a b : Bool) : boolEq a b = (a == b) := by cases a <;> cases b <;> rfl
theorem intEq_iff {a b : Int} : intEq a b = true ↔ a = b := by
  cases a with
  | ofNat m =>
    cases b with
    | ofNat n => simp only [intEq, beq_iff]; constructor <;> intro h <;> (first | (subst h; rfl) | (injection h))
    | negSucc n => simp [intEq]
  | negSucc m =>
    cases b with
    | ofNat n => simp [intEq]
    | negSucc n => simp only [intEq, beq_iff]; constructor <;> intro h <;> (first | (subst h; rfl) | (injection h))
theorem intEq_spec (a b : Int) : intEq a b = (a == b) := by
  rw [Bool.eq_iff_iff, intEq_iff, beq_iff_eq]
theorem intLt_spec (a b : Int) : intLt a b = decide (a < b) := by
  rw [Bool.eq_iff_iff, decide_eq_true_eq]
  cases a with
  | ofNat m =>
    cases b with
    | ofNat n => simp only [intLt, blt_iff, Int.ofNat_eq_natCast]; omega
    | negSucc n => simp only [intLt, Bool.false_eq_true, false_iff, Int.ofNat_eq_natCast]; omega
  | negSucc m =>
    cases b with
    | ofNat n => simp only [intLt, true_iff, Int.ofNat_eq_natCast]; omega
    | negSucc n => simp only [intLt, blt_iff]; omega
theorem wrap_pos (k : IntKind) (m : Nat) (h : m < limN k) : k.wrap (m : Int) = m := by
  cases k <;> simp only [limN] at h
  · exact IntWalk.i8_in _ (by omega)
  · exact IntWalk.i16_in _ (by omega)
  · exact IntWalk.i32_in _ (by omega)
  · exact IntWalk.i64_in _ (by omega)
  · exact IntWalk.u8_in _ (by omega)
  · exact IntWalk.u16_in _ (by omega)
  · exact IntWalk.u32_in _ (by omega)
  · exact IntWalk.u64_in _ (by omega)
theorem wrap_neg (k : IntKind) (m : Nat) (hs : sgn k = true) (h : m < limN k) : k.wrap (Int.negSucc m) = Int.negSucc m := by
  have e : Int.negSucc m = -((m : Int) + 1) := Int.negSucc_eq m
  rw [e]
  cases k <;> simp only [sgn, Bool.false_eq_true] at hs <;> simp only [limN] at h
  · exact IntWalk.i8_in _ (by omega)
  · exact IntWalk.i16_in _ (by omega)
  · exact IntWalk.i32_in _ (by omega)
  · exact IntWalk.i64_in _ (by omega)
theorem wrapF_spec (k : IntKind) (n : Int) : wrapF k n = k.wrap n := by
  cases n with
  | ofNat m =>
    simp only [wrapF]
    cases h : Nat.blt m (limN k)
    · rfl
    · exact (wrap_pos k m (blt_iff.1 h)).symm
  | negSucc m =>
    simp only [wrapF]
    cases h : (sgn k && Nat.blt m (limN k))
    · rfl
    · simp only [Bool.and_eq_true] at h
      exact (wrap_neg k m h.1 (blt_iff.1 h.2)).symm
theorem limN_le (k : IntKind) : limN k ≤ 2 ^ k.bits := by cases k <;> simp [limN, IntKind.bits]
theorem lessA_spec : ∀ {l k : List Nat}, byteOk l = true → byteOk k = true → lessA l k = Op.bytesLess (l.map UInt8.ofNat) (k.map UInt8.ofNat)
  | [], [], _, _ => rfl
  | _ :: _, [], _, _ => rfl
  | [], _ :: _, _, _ => rfl
  | a :: l, b :: k, h, h' => by
    have ⟨x, y⟩ := byteOk_cons.1 h
    have ⟨x', y'⟩ := byteOk_cons.1 h'
    have ih := lessA_spec y y'
    have e1 : decide (UInt8.ofNat a < UInt8.ofNat b) = Nat.blt a b := by
      rw [Bool.eq_iff_iff, decide_eq_true_eq, blt_iff, UInt8.lt_iff_toNat_lt, toNat_ofNat x, toNat_ofNat x']
    have e2 : (UInt8.ofNat a == UInt8.ofNat b) = Nat.beq a b := by
      rw [Bool.eq_iff_iff, beq_iff_eq, beq_iff]
      exact ⟨fun e => by rw [← toNat_ofNat x, e, toNat_ofNat x'], fun e => by rw [e]⟩
    simp only [lessA, List.map_cons, Op.bytesLess, e1, e2, ← ih]
    cases Nat.blt a b <;> cases Nat.beq a b <;> simp

/-! ### what an operation must do -/
variable {P : Program} {K : Tab}
def QOk (P : Program) (o : Oper) (f : T AV → AW → Option AV) : Prop :=
  ∀ (ρ : Map) (A : AW) (w : World) (tm : T AV) (a : Act) (v : AV), Globs ρ → Rel ρ A w → TmOk ρ tm a.tmps → f tm A = some v →
    ∃ x, conc ρ v = some x ∧ (execOp a.eval o).run P w = .ok (.value x) w
def GOk (P : Program) (o : Oper) (f : T AV → AW → Option (AV × AW)) : Prop :=
  ∀ (ρ : Map) (A : AW) (w : World) (tm : T AV) (a : Act) (v : AV) (A' : AW), Globs ρ → Rel ρ A w → TmOk ρ tm a.tmps → f tm A = some (v, A') →
    ∃ ρ' x w', conc ρ' v = some x ∧ Rel ρ' A' w' ∧ Goes ρ A w ρ' A' w' ∧ (execOp a.eval o).run P w = .ok (.value x) w'
/-- it lays a new object, under whatever free name -/
def LOk (P : Program) (o : Oper) (f : T AV → AW → Option (AV × AW)) : Prop :=
  ∀ (ρ : Map) (h : T AObj) (n : Nat) (w : World) (tm : T AV) (a : Act) (v : AV) (A' : AW), Globs ρ → ρ (pos n) = none → TmOk ρ tm a.tmps → f tm ⟨h, n⟩ = some (v, A') →
    ∃ x ob lim d ao, A' = newObj ⟨h, n⟩ ao ∧ conc (upd ρ (pos n) ⟨w.heap.size, 0, lim⟩) v = some x ∧ ObjRel (upd ρ (pos n) ⟨w.heap.size, 0, lim⟩) (some ob) ⟨w.heap.size, 0, lim⟩ ao ∧
      (execOp a.eval o).run P w = .ok (.value x) { w with heap := w.heap.push ob, drawn := d }
/-- it looks, or lays no more than a name over a row that is there -/
def SOk (P : Program) (o : Oper) (f : T AV → AW → Option (AV × AW)) : Prop :=
  ∀ (ρ : Map) (A : AW) (w : World) (tm : T AV) (a : Act) (v : AV) (A' : AW), Globs ρ → Rel ρ A w → TmOk ρ tm a.tmps → f tm A = some (v, A') →
    ∃ ρ' x, conc ρ' v = some x ∧ Rel ρ' A' w ∧ Goes ρ A w ρ' A' w ∧ (A'.nx = A.nx → ρ' = ρ) ∧ (execOp a.eval o).run P w = .ok (.value x) w
theorem LOk.g {o : Oper} {f : T AV → AW → Option (AV × AW)} (h : LOk P o f) : GOk P o f := by
  intro ρ A w tm a v A' hg hr ht hf
  obtain ⟨x, ob, lim, d, ao, rfl, hx, ho, hrun⟩ := h ρ A.h A.nx w tm a v A' hg (hr.fresh _ (Nat.le_refl _)) ht hf
  have hp := hr.push d ho
  exact ⟨_, x, _, hx, hp.1, hp.2, hrun⟩
theorem SOk.g {o : Oper} {f : T AV → AW → Option (AV × AW)} (h : SOk P o f) : GOk P o f := by
  intro ρ A w tm a v A' hg hr ht hf
  obtain ⟨ρ', x, h1, h2, h3, _, h4⟩ := h ρ A w tm a v A' hg hr ht hf
  exact ⟨ρ', x, w, h1, h2, h3, h4⟩
theorem SOk.q {o : Oper} {f : T AV → AW → Option (AV × AW)} (h : SOk P o f) : QOk P o (noNew f) := by
  intro ρ A w tm a v hg hr ht hf
  unfold noNew at hf
  split at hf
  case h_2 => cases hf
  rename_i v' A' hf'
  split at hf
  · rename_i hn
    cases hf
    obtain ⟨ρ', x, h1, h2, h3, h5, h4⟩ := h ρ A w tm a v A' hg hr ht hf'
    rw [h5 (beq_iff.1 hn)] at h1
    exact ⟨x, h1, h4⟩
  · cases hf
def UOk (P : Program) (o : Oper) (f : T AV → AW → Option AW) : Prop :=
  ∀ (ρ : Map) (A : AW) (w : World) (tm : T AV) (a : Act) (A' : AW), Globs ρ → Rel ρ A w → TmOk ρ tm a.tmps → f tm A = some A' →
    ∃ ρ' w', Rel ρ' A' w' ∧ Goes ρ A w ρ' A' w' ∧ (execOp a.eval o).run P w = .ok .skip w'
def COk (P : Program) (o : Oper) (f : T AV → Option (FuncId × List AV)) : Prop :=
  ∀ (ρ : Map) (w : World) (tm : T AV) (a : Act) (g : FuncId) (args : List AV), Globs ρ → TmOk ρ tm a.tmps → f tm = some (g, args) →
    ∃ vs, concL ρ args = some vs ∧ (execOp a.eval o).run P w = .ok (.enter g vs.toArray) w
def DOk (P : Program) (o : Oper) (f : T AV → Option (FuncId × List AV)) : Prop :=
  ∀ (ρ : Map) (w : World) (tm : T AV) (a : Act) (g : FuncId) (args : List AV), Globs ρ → TmOk ρ tm a.tmps → f tm = some (g, args) →
    ∃ vs d cap, concL ρ args = some vs ∧ d.target = .fn (.func g) cap ∧ (d.args ++ cap).toList = vs ∧ (execOp a.eval o).run P w = .ok (.defer d) w ∧
      ∀ w', (invoke d.target d.args).run P w' = .ok (.enter g vs.toArray) w'
def MOk (P : Program) (o : Oper) : MO → Prop
  | .q f => QOk P o f
  | .g f => GOk P o f
  | .u f => UOk P o f
  | .c f => COk P o f
  | .d f => DOk P o f

theorem moNo_ok (o : Oper) : MOk P o moNo := fun _ _ _ _ _ _ _ _ _ h => by cases h

/-! ### quiet ones -/
theorem move_ok {o : Oper} {x : Operand} (ho : o.op = .move x ∨ o.op = .assign x) : QOk P o (mMove (compLd x)) := by
  intro ρ A w tm a v hg hr ht h
  refine ⟨a.eval x, ld_ok hg ht h, ?_⟩
  rcases ho with ho | ho <;> simp [execOp, ho]

theorem pick_ok {o : Oper} {c x y : Operand} (ho : o.op = .pick c x y) : QOk P o (mPick (compLd c) (compLd x) (compLd y)) := by
  intro ρ A w tm a v hg hr ht h
  unfold mPick at h
  split at h
  · rename_i hc
    have := ld_ok hg ht hc
    simp only [conc, Option.some.injEq] at this
    exact ⟨a.eval x, ld_ok hg ht h, by simp [execOp, ho, ← this, asBool]⟩
  · rename_i hc
    have := ld_ok hg ht hc
    simp only [conc, Option.some.injEq] at this
    exact ⟨a.eval y, ld_ok hg ht h, by simp [execOp, ho, ← this, asBool]⟩
  · cases h

theorem load_ok {o : Oper} {t : TypeId} {x : Operand} {s : Sh} (ho : o.op = .load t x) (hs : ShOk P s t) : QOk P o (mLoad s (compLd x)) := by
  intro ρ A w tm a v hg hr ht h
  unfold mLoad at h
  split at h
  · rename_i p hp
    obtain ⟨y, hy, ad, e, hrun⟩ := loadA_ok hs hr (ld_ok hg ht hp) h
    refine ⟨y, hy, ?_⟩
    simp [execOp, ho, Instr.loadAt, Instr.sureAddr, e, hrun]
  · cases h

def nilFine : Value → Bool
  | .pointer none => false
  | .nilIface => false
  | .nilFunc => false
  | .func (.method _) _ _ => false
  | _ => true
theorem nil_run {o : Oper} {x : Operand} {a : Act} {w : World} (ho : o.op = .nilCheck x) (h : nilFine (a.eval x) = true) : (execOp a.eval o).run P w = .ok (.value (a.eval x)) w := by
  simp only [execOp, ho]
  generalize a.eval x = y at *
  split <;> first | (simp [nilFine] at h; done) | rfl
theorem nilFine_of {ρ : Map} {v u : AV} {y : Value} (h : nilOk v = some u) (hc : conc ρ v = some y) : u = v ∧ nilFine y = true := by
  cases v with
  | f fn x z =>
    simp only [conc] at hc
    split at hc
    · cases hc
      cases fn <;> simp only [nilOk, Option.some.injEq, reduceCtorEq] at h <;> exact ⟨h.symm, rfl⟩
    · cases hc
  | pn => cases h
  | if0 => cases h
  | fn0 => cases h
  | x w => cases h
  | b x => cases hc; cases h; exact ⟨rfl, rfl⟩
  | i k n => cases hc; cases h; exact ⟨rfl, rfl⟩
  | s l => simp only [conc] at hc; split at hc <;> cases hc; cases h; exact ⟨rfl, rfl⟩
  | p b n => obtain ⟨L, _, rfl⟩ := Option.map_eq_some_iff.1 hc; cases h; exact ⟨rfl, rfl⟩
  | sn => cases hc; cases h; exact ⟨rfl, rfl⟩
  | sx b n c d => obtain ⟨L, _, rfl⟩ := Option.map_eq_some_iff.1 hc; cases h; exact ⟨rfl, rfl⟩
  | su b n c d => obtain ⟨L, _, rfl⟩ := Option.map_eq_some_iff.1 hc; cases h; exact ⟨rfl, rfl⟩
  | mn => cases hc; cases h; exact ⟨rfl, rfl⟩
  | m b => obtain ⟨L, _, rfl⟩ := Option.map_eq_some_iff.1 hc; cases h; exact ⟨rfl, rfl⟩
  | yl b => obtain ⟨L, _, rfl⟩ := Option.map_eq_some_iff.1 hc; cases h; exact ⟨rfl, rfl⟩
  | ifc t u => simp only [conc] at hc; split at hc <;> cases hc; cases h; exact ⟨rfl, rfl⟩
  | agg l => simp only [conc] at hc; split at hc <;> cases hc; cases h; exact ⟨rfl, rfl⟩
  | tup l => simp only [conc] at hc; split at hc <;> cases hc; cases h; exact ⟨rfl, rfl⟩
theorem nil_ok {o : Oper} {x : Operand} (ho : o.op = .nilCheck x) : QOk P o (mNil (compLd x)) := by
  intro ρ A w tm a v hg hr ht h
  unfold mNil at h
  split at h
  · rename_i p hp
    have hc := ld_ok hg ht hp
    obtain ⟨rfl, hf⟩ := nilFine_of h hc
    exact ⟨_, hc, nil_run ho hf⟩
  · cases h

/-! ### two operands -/
theorem m2_ok {o : Oper} {x y : Operand} {f : AV → AV → Option AV} (hf : ∀ (ρ : Map) (a : Act) (u v r : AV), conc ρ u = some (a.eval x) → conc ρ v = some (a.eval y) → f u v = some r →
    ∃ z, conc ρ r = some z ∧ ∀ w, (execOp a.eval o).run P w = .ok (.value z) w) : QOk P o (m2 f (compLd x) (compLd y)) := by
  intro ρ A w tm a v hg hr ht h
  unfold m2 at h
  split at h
  · rename_i p q hp hq
    obtain ⟨z, hz, hrun⟩ := hf ρ a _ _ _ (ld_ok hg ht hp) (ld_ok hg ht hq) h
    exact ⟨z, hz, hrun w⟩
  · cases h
theorem m1_ok {o : Oper} {x : Operand} {f : AV → Option AV} (hf : ∀ (ρ : Map) (a : Act) (u r : AV), conc ρ u = some (a.eval x) → f u = some r →
    ∃ z, conc ρ r = some z ∧ ∀ w, (execOp a.eval o).run P w = .ok (.value z) w) : QOk P o (m1 f (compLd x)) := by
  intro ρ A w tm a v hg hr ht h
  unfold m1 at h
  split at h
  · rename_i p hp
    obtain ⟨z, hz, hrun⟩ := hf ρ a _ _ (ld_ok hg ht hp) h
    exact ⟨z, hz, hrun w⟩
  · cases h

/-- an operation on two numbers -/
theorem bin_run {o : Oper} {op : BinOp} {t t' : TypeId} {x y : Operand} {a : Act} {z : Value} (ho : o.op = .binOp op t x y t') (hne : op ≠ .eql ∧ op ≠ .neq)
    (h : ∀ w, (binOp op t (a.eval x) (a.eval y)).run P w = .ok z w) (w : World) : (execOp a.eval o).run P w = .ok (.value z) w := by
  have hg : (eqGuard op t x y (a.eval x) (a.eval y)) = pure () := by
    cases op <;> first | rfl | exact absurd rfl hne.1 | exact absurd rfl hne.2
  simp [execOp, ho, hg, h]

theorem conc_i {ρ : Map} {k : IntKind} {n : Int} {y : Value} (h : conc ρ (.i k n) = some y) : y = .int k n := (Option.some.inj h).symm
theorem conc_s {ρ : Map} {l : List Nat} {y : Value} (h : conc ρ (.s l) = some y) : byteOk l = true ∧ y = .string (strOf l) := by
  simp only [conc] at h
  split at h
  · rename_i hb; cases h; exact ⟨hb, rfl⟩
  · cases h

theorem strOf_append (l k : List Nat) : strOf (l ++ k) = strOf l ++ strOf k := by
  apply ByteArray.ext
  simp [strOf]
theorem addA_ok {o : Oper} {t t' : TypeId} {x y : Operand} (ho : o.op = .binOp .add t x y t') : QOk P o (m2 addAny (compLd x) (compLd y)) := by
  refine m2_ok fun ρ a u v r hu hv h => ?_
  unfold addAny at h
  split at h
  · rename_i l k
    obtain ⟨b1, e1⟩ := conc_s hu
    obtain ⟨b2, e2⟩ := conc_s hv
    split at h
    · rename_i hle
      cases h
      refine ⟨.string (strOf (l ++ k)), by simp [conc, byteOk_append b1 b2], bin_run ho (by simp) fun w => ?_⟩
      have hle' := ble_iff.1 hle
      have hsz : ¬ ((((strOf l).size + (strOf k).size : Nat) : Int) > 9223372036854775807) := by rw [strOf_size, strOf_size]; omega
      simp only [e1, e2, binOp, Op.stringOp, IntKind.max_i64, if_neg hsz]
      rw [strOf_append]; rfl
    · cases h
  · unfold addA at h
    split at h
    · rename_i k m k' n _
      split at h
      · rename_i hk
        cases h
        have := ikEq_iff.1 hk
        subst this
        refine ⟨_, rfl, bin_run ho (by simp) fun w => ?_⟩
        simp [conc_i hu, conc_i hv, binOp, Op.intArith, wrapF_spec]
      · cases h
    · cases h

/-- of two numbers of one kind alone -/
theorem num_ok {o : Oper} {op : BinOp} {t t' : TypeId} {x y : Operand} {f : AV → AV → Option AV} (ho : o.op = .binOp op t x y t') (hne : op ≠ .eql ∧ op ≠ .neq)
    (hf : ∀ u v r, f u v = some r → ∃ k m k' n c, u = .i k m ∧ v = .i k' n ∧ r = .i k c ∧ ∀ w, (binOp op t (.int k m) (.int k' n)).run P w = .ok (.int k c) w) : QOk P o (m2 f (compLd x) (compLd y)) := by
  refine m2_ok fun ρ a u v r hu hv h => ?_
  obtain ⟨k, m, k', n, c, rfl, rfl, rfl, hrun⟩ := hf u v r h
  exact ⟨_, rfl, bin_run ho hne fun w => by rw [conc_i hu, conc_i hv]; exact hrun w⟩

theorem subA_ok {o : Oper} {t t' : TypeId} {x y : Operand} (ho : o.op = .binOp .sub t x y t') : QOk P o (m2 subA (compLd x) (compLd y)) := by
  refine num_ok ho (by simp) fun u v r h => ?_
  unfold subA at h
  split at h
  · rename_i k m k' n
    split at h
    · rename_i hk
      cases h
      have := ikEq_iff.1 hk
      subst this
      exact ⟨_, _, _, _, _, rfl, rfl, rfl, fun w => by simp [binOp, Op.intArith, wrapF_spec]; rfl⟩
    · cases h
  · cases h
theorem mulA_ok {o : Oper} {t t' : TypeId} {x y : Operand} (ho : o.op = .binOp .mul t x y t') : QOk P o (m2 mulA (compLd x) (compLd y)) := by
  refine num_ok ho (by simp) fun u v r h => ?_
  unfold mulA at h
  split at h
  · rename_i k m k' n
    split at h
    · rename_i hk
      cases h
      have := ikEq_iff.1 hk
      subst this
      exact ⟨_, _, _, _, _, rfl, rfl, rfl, fun w => by simp [binOp, Op.intArith, wrapF_spec]⟩
    · cases h
  · cases h
theorem quoA_ok {o : Oper} {t t' : TypeId} {x y : Operand} (ho : o.op = .binOp .quo t x y t') : QOk P o (m2 quoA (compLd x) (compLd y)) := by
  refine num_ok ho (by simp) fun u v r h => ?_
  unfold quoA at h
  split at h
  · rename_i k m k' n
    split at h
    · rename_i hk
      cases h
      simp only [Bool.and_eq_true, Bool.not_eq_true'] at hk
      have := ikEq_iff.1 hk.1
      subst this
      have h0 : n ≠ 0 := fun e => by have := intEq_iff.2 e; rw [this] at hk; cases hk.2
      exact ⟨_, _, _, _, _, rfl, rfl, rfl, fun w => by simp [binOp, Op.intDiv, wrapF_spec, h0]⟩
    · cases h
  · cases h
theorem remA_ok {o : Oper} {t t' : TypeId} {x y : Operand} (ho : o.op = .binOp .rem t x y t') : QOk P o (m2 remA (compLd x) (compLd y)) := by
  refine num_ok ho (by simp) fun u v r h => ?_
  unfold remA at h
  split at h
  · rename_i k m k' n
    split at h
    · rename_i hk
      cases h
      simp only [Bool.and_eq_true, Bool.not_eq_true'] at hk
      have := ikEq_iff.1 hk.1
      subst this
      have h0 : n ≠ 0 := fun e => by have := intEq_iff.2 e; rw [this] at hk; cases hk.2
      exact ⟨_, _, _, _, _, rfl, rfl, rfl, fun w => by simp [binOp, Op.intDiv, h0]⟩
    · cases h
  · cases h

theorem bits_nat (k : IntKind) (a : Nat) (h : a < limN k) : (BitVec.ofInt k.bits (a : Int)).toNat = a := by
  have := Nat.lt_of_lt_of_le h (limN_le k)
  rw [BitVec.toNat_ofInt, ← Int.natCast_emod, Int.toNat_natCast, Nat.mod_eq_of_lt this]
theorem land_lt {a b n : Nat} (h : a < n) : Nat.land a b < n := Nat.lt_of_le_of_lt Nat.and_le_left h
theorem landA_ok {o : Oper} {t t' : TypeId} {x y : Operand} (ho : o.op = .binOp .and t x y t') : QOk P o (m2 (bitA Nat.land) (compLd x) (compLd y)) := by
  refine num_ok ho (by simp) fun u v r h => ?_
  unfold bitA at h
  split at h
  · rename_i k m k' n
    split at h
    · rename_i hk
      cases h
      simp only [Bool.and_eq_true] at hk
      have := ikEq_iff.1 hk.1.1
      subst this
      have hm := blt_iff.1 hk.1.2
      have hn := blt_iff.1 hk.2
      refine ⟨_, _, _, _, _, rfl, rfl, rfl, fun w => ?_⟩
      simp only [binOp, Op.intBits, ne_eq, not_true_eq_false, if_false, Int.ofNat_eq_natCast, BitVec.toNat_and, bits_nat k m hm, bits_nat k n hn]
      have := wrap_pos k (Nat.land m n) (land_lt hm)
      simpa using this
    · cases h
  · cases h
theorem lor_lt {a b : Nat} (k : IntKind) (h : a < limN k) (h' : b < limN k) : Nat.lor a b < limN k := by
  have e : ∃ q, limN k = 2 ^ q := by cases k <;> first | exact ⟨7, rfl⟩ | exact ⟨15, rfl⟩ | exact ⟨31, rfl⟩ | exact ⟨63, rfl⟩ | exact ⟨8, rfl⟩ | exact ⟨16, rfl⟩ | exact ⟨32, rfl⟩ | exact ⟨64, rfl⟩
  obtain ⟨q, hq⟩ := e
  rw [hq] at h h' ⊢
  exact Nat.or_lt_two_pow h h'
theorem lorA_ok {o : Oper} {t t' : TypeId} {x y : Operand} (ho : o.op = .binOp .or t x y t') : QOk P o (m2 (bitA Nat.lor) (compLd x) (compLd y)) := by
  refine num_ok ho (by simp) fun u v r h => ?_
  unfold bitA at h
  split at h
  · rename_i k m k' n
    split at h
    · rename_i hk
      cases h
      simp only [Bool.and_eq_true] at hk
      have := ikEq_iff.1 hk.1.1
      subst this
      have hm := blt_iff.1 hk.1.2
      have hn := blt_iff.1 hk.2
      refine ⟨_, _, _, _, _, rfl, rfl, rfl, fun w => ?_⟩
      simp only [binOp, Op.intBits, ne_eq, not_true_eq_false, if_false, Int.ofNat_eq_natCast, BitVec.toNat_or, bits_nat k m hm, bits_nat k n hn]
      have := wrap_pos k (Nat.lor m n) (lor_lt k hm hn)
      simpa using this
    · cases h
  · cases h
theorem shlA_ok {o : Oper} {t t' : TypeId} {x y : Operand} (ho : o.op = .binOp .shl t x y t') : QOk P o (m2 shlA (compLd x) (compLd y)) := by
  refine num_ok ho (by simp) fun u v r h => ?_
  unfold shlA at h
  split at h
  · rename_i k m k' n
    split at h
    · rename_i hle
      cases h
      refine ⟨_, _, _, _, _, rfl, rfl, rfl, fun w => ?_⟩
      have hmin : min n k.bits = n := Nat.min_eq_left (ble_iff.1 hle)
      have h0 : ¬ ((n : Int) < 0) := by omega
      simp [binOp, Op.shift, wrapF_spec, hmin, h0]
    · cases h
  · cases h
theorem shrA_ok {o : Oper} {t t' : TypeId} {x y : Operand} (ho : o.op = .binOp .shr t x y t') : QOk P o (m2 shrA (compLd x) (compLd y)) := by
  refine num_ok ho (by simp) fun u v r h => ?_
  unfold shrA at h
  split at h
  · rename_i k m k' n
    split at h
    · rename_i hlt
      cases h
      refine ⟨_, _, _, _, _, rfl, rfl, rfl, fun w => ?_⟩
      have hmin : min n k.bits = n := Nat.min_eq_left (Nat.le_of_lt (blt_iff.1 hlt))
      have h0 : ¬ ((n : Int) < 0) := by omega
      simp only [binOp, Op.shift, Int.ofNat_eq_natCast, if_neg h0, Int.toNat_natCast, hmin, Sem.run_pure, Result.ok.injEq, Value.int.injEq, and_true, true_and]
      have e : ((2 : Int) ^ n) = ((2 ^ n : Nat) : Int) := by simp
      rw [e, Int.fdiv_eq_ediv_of_nonneg _ (Int.natCast_nonneg _), ← Int.natCast_ediv]
      rfl
    · cases h
  · cases h

theorem cmpA_ok {o : Oper} {op : BinOp} {t t' : TypeId} {x y : Operand} {f : Int → Int → Bool} {g : List Nat → List Nat → Bool} (ho : o.op = .binOp op t x y t') (hne : op ≠ .eql ∧ op ≠ .neq)
    (hf : ∀ k a b w, (binOp op t (.int k a) (.int k b)).run P w = .ok (.bool (f a b)) w)
    (hg : ∀ l k w, byteOk l = true → byteOk k = true → (binOp op t (.string (strOf l)) (.string (strOf k))).run P w = .ok (.bool (g l k)) w) : QOk P o (m2 (cmpA f g) (compLd x) (compLd y)) := by
  refine m2_ok fun ρ a u v r hu hv h => ?_
  unfold cmpA at h
  split at h
  · rename_i k m k' n
    split at h
    · rename_i hk
      cases h
      have := ikEq_iff.1 hk
      subst this
      exact ⟨_, rfl, bin_run ho hne fun w => by rw [conc_i hu, conc_i hv]; exact hf _ _ _ w⟩
    · cases h
  · rename_i l k
    cases h
    obtain ⟨b1, e1⟩ := conc_s hu
    obtain ⟨b2, e2⟩ := conc_s hv
    exact ⟨_, rfl, bin_run ho hne fun w => by rw [e1, e2]; exact hg _ _ w b1 b2⟩
  · cases h
theorem lss_ok {o : Oper} {t t' : TypeId} {x y : Operand} (ho : o.op = .binOp .lss t x y t') : QOk P o (m2 (cmpA intLt lessA) (compLd x) (compLd y)) :=
  cmpA_ok ho (by simp) (fun k a b w => by simp [binOp, Op.intCmp, intLt_spec])
    (fun l k w h h' => by simp only [binOp, Op.stringOp, Sem.run_pure, strOf_toList, lessA_spec h h'])
theorem leq_ok {o : Oper} {t t' : TypeId} {x y : Operand} (ho : o.op = .binOp .leq t x y t') : QOk P o (m2 (cmpA (fun a b => !intLt b a) (fun a b => lessA a b || strEq a b)) (compLd x) (compLd y)) :=
  cmpA_ok ho (by simp) (fun k a b w => by simp only [binOp, Op.intCmp, intLt_spec]; simp; rw [Bool.eq_iff_iff]; simp)
    (fun l k w h h' => by simp only [binOp, Op.stringOp, Sem.run_pure, strEq_spec h h', strOf_toList, lessA_spec h h'])
theorem gtr_ok {o : Oper} {t t' : TypeId} {x y : Operand} (ho : o.op = .binOp .gtr t x y t') : QOk P o (m2 (cmpA (fun a b => intLt b a) (fun a b => !(lessA a b || strEq a b))) (compLd x) (compLd y)) :=
  cmpA_ok ho (by simp) (fun k a b w => by simp [binOp, Op.intCmp, intLt_spec])
    (fun l k w h h' => by simp only [binOp, Op.stringOp, Sem.run_pure, strEq_spec h h', strOf_toList, lessA_spec h h'])
theorem geq_ok {o : Oper} {t t' : TypeId} {x y : Operand} (ho : o.op = .binOp .geq t x y t') : QOk P o (m2 (cmpA (fun a b => !intLt a b) (fun a b => !lessA a b)) (compLd x) (compLd y)) :=
  cmpA_ok ho (by simp) (fun k a b w => by simp only [binOp, Op.intCmp, intLt_spec]; simp; rw [Bool.eq_iff_iff]; simp)
    (fun l k w h h' => by simp only [binOp, Op.stringOp, Sem.run_pure, strOf_toList, lessA_spec h h'])
theorem not_ok {o : Oper} {t : TypeId} {x : Operand} (ho : o.op = .unOp .not t x) : QOk P o (m1 notA (compLd x)) := by
  refine m1_ok fun ρ a u r hu h => ?_
  unfold notA at h
  split at h
  · cases h
    have e := Option.some.inj hu
    exact ⟨_, rfl, fun w => by simp [execOp, ho, ← e, Op.unary]⟩
  · cases h
theorem neg_ok {o : Oper} {t : TypeId} {x : Operand} (ho : o.op = .unOp .neg t x) : QOk P o (m1 negA (compLd x)) := by
  refine m1_ok fun ρ a u r hu h => ?_
  unfold negA at h
  split at h
  · cases h
    have e := Option.some.inj hu
    exact ⟨_, rfl, fun w => by simp [execOp, ho, ← e, Op.unary, Op.intArith, wrapF_spec]; rfl⟩
  · cases h

/-! ### aggregates, addresses -/
theorem fieldAddr_ok {o : Oper} {t : TypeId} {x : Operand} {f n : Nat} {fd : Field} (hT : TabOk P K) (ho : o.op = .fieldAddr t x f) (hf : fieldOf K t f = some fd) (hz : szOf K fd.type = some (n + 1)) :
    QOk P o (mFieldAddr fd.offset (compLd x)) := by
  intro ρ A w tm a v hg hr ht h
  unfold fieldOf at hf
  split at hf
  · rename_i fs hfs
    unfold mFieldAddr at h
    split at h
    · rename_i b off hp
      cases h
      have hc := ld_ok hg ht hp
      obtain ⟨L, hL, hx⟩ := Option.map_eq_some_iff.1 hc
      refine ⟨.pointer (some ⟨L.r, L.sh + (off + fd.offset), none⟩), by simp [conc, hL], ?_⟩
      have hsz := run_size hT hz w
      simp [execOp, ho, Instr.fieldAt, run_und hT hfs, hf, ← hx, Instr.sureAddr, fieldPlace, hsz, Addr.add_none, Nat.add_assoc]
    · cases h
  · cases hf
theorem field_ok {o : Oper} {t : TypeId} {x : Operand} {f : Nat} {fd : Field} {s : Sh} (hT : TabOk P K) (ho : o.op = .field t x f) (hf : fieldOf K t f = some fd) (hs : shOf K fd.type = some s) :
    QOk P o (mField s fd.offset (compLd x)) := by
  intro ρ A w tm a v hg hr ht h
  unfold fieldOf at hf
  split at hf
  · rename_i fs hfs
    unfold mField at h
    split at h
    · rename_i l hp
      have hc := ld_ok hg ht hp
      simp only [conc] at hc
      split at hc
      · rename_i u hu
        obtain ⟨y, hy, hrun⟩ := partA_ok (sh_ok hT hs) hu h w
        refine ⟨y, hy, ?_⟩
        have e := (Option.some.inj hc).symm
        simp [execOp, ho, Instr.field, run_und hT hfs, hf, e, asAgg, hrun]
      · cases hc
    · cases h
  · cases hf
theorem extract_ok {o : Oper} {x : Operand} {i : Nat} (ho : o.op = .extract x i) : QOk P o (mExtract (compLd x) i) := by
  intro ρ A w tm a v hg hr ht h
  unfold mExtract at h
  split at h
  · rename_i l hp
    have hc := ld_ok hg ht hp
    simp only [conc] at hc
    split at hc
    · rename_i u hu
      obtain ⟨y, hy, hv⟩ := concL_get hu i v h
      have e := (Option.some.inj hc).symm
      exact ⟨y, hy, by simp [execOp, ho, Instr.extract, e, hv]⟩
    · cases hc
  · cases h
theorem iface_ok {o : Oper} {t : TypeId} {x : Operand} {d : TypeDesc} (hT : TabOk P K) (ho : o.op = .makeInterface t x) (hd : K.underlying t = some d) (hn : ∀ ms, d ≠ .interface ms) : QOk P o (mIface t (compLd x)) := by
  intro ρ A w tm a v hg hr ht h
  unfold mIface at h
  split at h
  · rename_i u hp
    cases h
    refine ⟨.iface t (a.eval x), by simp [conc, ld_ok hg ht hp], ?_⟩
    simp only [execOp, ho, Instr.makeInterface, Sem.run_bind, run_und hT hd, Result.andThen_ok]
    cases d <;> first | rfl | exact absurd rfl (hn _)
  · cases h
theorem func_ok {o : Oper} {fn : Fn} {x y : Array Operand} (ho : o.op = .makeFunc fn x y) : QOk P o (mFunc fn (compLds x.toList) (compLds y.toList)) := by
  intro ρ A w tm a v hg hr ht h
  unfold mFunc at h
  split at h
  · rename_i l k hl hk
    cases h
    have h1 := lds_ok hg ht hl
    have h2 := lds_ok hg ht hk
    refine ⟨.func fn (x.map a.eval) (y.map a.eval), ?_, by simp [execOp, ho, Instr.makeFunc]⟩
    simp only [conc, h1, h2]
    congr 2 <;> (apply Array.ext'; simp)
  · cases h

theorem conc_p {ρ : Map} {b : Pos} {n : Nat} {x : Value} (h : conc ρ (.p b n) = some x) : ∃ L, ρ b = some L ∧ x = .pointer (some ⟨L.r, L.sh + n, none⟩) := by
  obtain ⟨L, hL, e⟩ := Option.map_eq_some_iff.1 h
  exact ⟨L, hL, e.symm⟩
theorem idxA_ok {o : Oper} {t e : TypeId} {x i : Operand} {n s : Nat} (hT : TabOk P K) (ho : o.op = .indexAddr t x i) (hu : K.underlying t = some (.array n e)) (hs : szOf K e = some s) :
    QOk P o (mIdxAddrA n s (compLd x) (compLd i)) := by
  intro ρ A w tm a v hg hr ht h
  unfold mIdxAddrA at h
  split at h
  · rename_i b off k m hp hi
    split at h
    · rename_i hlt
      cases h
      obtain ⟨L, hL, e1⟩ := conc_p (ld_ok hg ht hp)
      have e2 := conc_i (ld_ok hg ht hi)
      refine ⟨.pointer (some ⟨L.r, L.sh + (off + m * s), none⟩), by simp [conc, hL], ?_⟩
      have hm : m < n := blt_iff.1 hlt
      simp [execOp, ho, Instr.indexAt, asIntOf, e1, e2, run_und hT hu, Instr.sureAddr, hm, run_size hT hs, Addr.add_none, Nat.add_assoc]
    · cases h
  · cases h
theorem idxS_ok {o : Oper} {t e : TypeId} {x i : Operand} {s : Nat} (hT : TabOk P K) (ho : o.op = .indexAddr t x i) (hu : K.underlying t = some (.slice e)) (hs : szOf K e = some s) :
    QOk P o (mIdxAddrS s (compLd x) (compLd i)) := by
  intro ρ A w tm a v hg hr ht h
  unfold mIdxAddrS at h
  split at h
  · rename_i u k m hp hi
    have hc := ld_ok hg ht hp
    have e2 := conc_i (ld_ok hg ht hi)
    unfold idxSl at h
    split at h
    · rename_i b off len cap
      split at h
      · rename_i hlt
        cases h
        obtain ⟨L, hL, e1⟩ := Option.map_eq_some_iff.1 hc
        refine ⟨.pointer (some ⟨L.r, L.sh + (off + m * s), none⟩), by simp [conc, hL], ?_⟩
        have hm : m < len := blt_iff.1 hlt
        simp [execOp, ho, Instr.indexAt, asIntOf, ← e1, e2, run_und hT hu, hm, run_size hT hs, Addr.add_none, Nat.add_assoc]
      · cases h
    · rename_i b off len cap
      split at h
      · rename_i hlt
        cases h
        obtain ⟨L, hL, e1⟩ := Option.map_eq_some_iff.1 hc
        refine ⟨.pointer (some ⟨L.r, L.sh + (off + m * s), none⟩), by simp [conc, hL], ?_⟩
        have hm : m < len := blt_iff.1 hlt
        simp [execOp, ho, Instr.indexAt, asIntOf, ← e1, e2, run_und hT hu, hm, run_size hT hs, Addr.add_none, Nat.add_assoc]
      · cases h
    · cases h
  · cases h
theorem index_ok {o : Oper} {t e : TypeId} {x i : Operand} {n s : Nat} {sh : Sh} (hT : TabOk P K) (ho : o.op = .index t x i) (hu : K.underlying t = some (.array n e)) (hs : szOf K e = some s) (hsh : shOf K e = some sh) :
    QOk P o (mIdxA n sh s (compLd x) (compLd i)) := by
  intro ρ A w tm a v hg hr ht h
  unfold mIdxA at h
  split at h
  · rename_i l k m hp hi
    split at h
    · rename_i hlt
      have hc := ld_ok hg ht hp
      have e2 := conc_i (ld_ok hg ht hi)
      simp only [conc] at hc
      split at hc
      · rename_i u hu'
        obtain ⟨y, hy, hrun⟩ := partA_ok (sh_ok hT hsh) hu' h w
        refine ⟨y, hy, ?_⟩
        have e1 := (Option.some.inj hc).symm
        have hm : m < n := blt_iff.1 hlt
        have hrun' : (part e u.toArray (m * s)).run P w = .ok y w := hrun
        simp [execOp, ho, Instr.index, asIntOf, e1, e2, run_und hT hu, hm, run_size hT hs, hrun']
      · cases hc
    · cases h
  · cases h
theorem nth_get {α : Type} : ∀ {l : List α} {i : Nat} {a : α}, nth l i = some a → l[i]? = some a
  | [], _, _, h => by simp [nth] at h
  | _ :: _, 0, _, h => by simpa [nth] using h
  | _ :: l, i + 1, _, h => by simpa using nth_get (l := l) h
theorem indexS_ok {o : Oper} {t : TypeId} {x i : Operand} (hT : TabOk P K) (ho : o.op = .index t x i) (hu : K.underlying t = some .string) : QOk P o (mIdxS (compLd x) (compLd i)) := by
  intro ρ A w tm a v hg hr ht h
  unfold mIdxS at h
  split at h
  · rename_i l k m hp hi
    split at h
    · rename_i c hc
      cases h
      obtain ⟨hb, e1⟩ := conc_s (ld_ok hg ht hp)
      have e2 := conc_i (ld_ok hg ht hi)
      have hget := nth_get hc
      have hlt : m < l.length := (List.getElem?_eq_some_iff.1 hget).1
      refine ⟨.int .u8 c, rfl, ?_⟩
      have hs : (strOf l)[m]? = some (UInt8.ofNat c) := by
        have h1 : m < (strOf l).size := by rw [strOf_size]; exact hlt
        rw [getElem?_pos (strOf l) m h1]
        show some ((strOf l).data[m]) = _
        simp [strOf, (List.getElem?_eq_some_iff.1 hget).2]
      have hcc : c < 256 := byteOk_mem hb c (List.mem_of_getElem? hget)
      simp [execOp, ho, Instr.index, asIntOf, e1, e2, run_und hT hu, hs]
      omega
    · cases h
  · cases h
end Go.Proofs.YtcaagfgopmhilaaGreatDoor.Vai
