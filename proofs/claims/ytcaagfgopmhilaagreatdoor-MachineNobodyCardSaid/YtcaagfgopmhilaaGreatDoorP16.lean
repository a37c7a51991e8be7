/- A part of the proof that the law of this seat holds: P16; no condition. -/
import Derived.Test.YtcaagfgopmhilaaGreatDoorP15
namespace Go.Proofs.YtcaagfgopmhilaaGreatDoor.Vai
variable {P : Program} {K : Tab}

theorem ext_ok {o : Oper} {c : Call} {f : FuncId} {e : Ext} (hT : TabOk P K) (ho : o.op = .call c) (hc : c.callee = .value (.func f)) (hx : K.ext f = some e) : GOk P o (mExt e (compLds c.args.toList)) := by
  intro ρ A w tm a v A' hg hr ht h
  unfold mExt at h
  split at h
  · rename_i l hl
    obtain ⟨fn, h1, h2, h3, h4, h5⟩ := hT.ex _ _ hx
    have hus := lds_ok hg ht hl
    obtain ⟨ρ', x, w', k1, k2, k3, k4⟩ := extA_ok (P := P) hr hus h
    refine ⟨ρ', x, w', k1, k2, k3, ?_⟩
    rw [call_run ho hc, args_eval rfl, run_callFunc_extern h1 h2 h3 h4 h5, k4]
    rfl
  · cases h

theorem copy_ok {o : Oper} {c : Call} {t e : TypeId} {ts : List TypeId} {x y : Operand} {n : Nat} (hT : TabOk P K) (hu : K.underlying t = some (.slice e)) (hn : szOf K e = some n) (ho : o.op = .call c) (hc : c.callee = .builtin .copy) (hargs : c.args.toList = [x, y]) (hat : c.argTypes.toList = t :: ts) :
    GOk P o (mCopy n (compLd x) (compLd y)) := by
  have ha0 := type0 hat
  intro ρ A w tm a v A' hg hr ht h
  have hev := args_of hargs a.eval
  have hsuf : ∀ {r w'}, (Builtin.copy_ c.argTypes o.type #[a.eval x, a.eval y]).run P w = .ok r w' → (execOp a.eval o).run P w = .ok (.value r) w' := by
    intro r w' h
    refine builtin_op ho hc ?_
    rw [hev]
    simp only [List.map_cons, List.map_nil, builtin, Sem.run_bind, h, Result.andThen_ok, Sem.run_pure]
  unfold mCopy at h
  split at h
  case h_2 => cases h
  rename_i d s hd hs
  have hd := ld_ok hg ht hd
  have hs := ld_ok hg ht hs
  unfold copyA at h
  split at h
  case h_2 => cases h
  rename_i ns nd hns hnd
  split at h
  case h_2 => cases h
  rename_i l hl
  have hlenS := lenA_ok (P := P) hs hns w
  obtain ⟨u, hu1, hca, hll, hfc⟩ := firstA_ok (P := P) hr hs hl (by
    by_cases hle : ns ≤ nd
    · left; rw [hns]; exact congrArg some (Nat.min_eq_left hle).symm
    · right; exact ⟨ns, hns, Nat.min_le_left _ _⟩)
  have hfc' : (Builtin.firstCells n (Nat.min ns nd) (a.eval y)).run P w = .ok u.toArray w := hfc w.drawn
  split at h
  · cases h
    cases hnd
    have ed : a.eval x = .slice none 0 0 := (Option.some.inj hd).symm
    refine ⟨ρ, _, w, rfl, hr, .refl ρ A w, hsuf ?_⟩
    rw [ed]
    simp only [Builtin.copy_, ha0, List.getElem?_toArray, List.getElem?_cons_zero, List.getElem?_cons_succ, Sem.run_bind, run_und hT hu, Result.andThen_ok, hlenS, run_size hT hn, hfc', Sem.run_pure, goInt]
    rfl
  · rename_i b off len cap _
    have hlen : len = nd := Option.some.inj hnd
    subst hlen
    obtain ⟨L, hL, ed⟩ := Option.map_eq_some_iff.1 hd
    obtain ⟨rfl, w', k1, k2, k3⟩ := store_row (P := P) hr hu1 hca h hL
    refine ⟨ρ, _, w', rfl, k1, k2, hsuf ?_⟩
    rw [← ed]
    simp only [Builtin.copy_, ha0, List.getElem?_toArray, List.getElem?_cons_zero, List.getElem?_cons_succ, Sem.run_bind, run_und hT hu, Result.andThen_ok, hlenS, run_size hT hn, hfc', Sem.run_pure, goInt, k3]
    rfl
  · rename_i b off len cap _
    have hlen : len = nd := Option.some.inj hnd
    subst hlen
    obtain ⟨L, hL, ed⟩ := Option.map_eq_some_iff.1 hd
    obtain ⟨rfl, w', k1, k2, k3⟩ := store_row (P := P) hr hu1 hca h hL
    refine ⟨ρ, _, w', rfl, k1, k2, hsuf ?_⟩
    rw [← ed]
    simp only [Builtin.copy_, ha0, List.getElem?_toArray, List.getElem?_cons_zero, List.getElem?_cons_succ, Sem.run_bind, run_und hT hu, Result.andThen_ok, hlenS, run_size hT hn, hfc', Sem.run_pure, goInt, k3]
    rfl
  · cases h

/-! ### slices of slices -/
theorem bound_ok {ρ : Map} {v : AV} {x : Value} {n m : Nat} {code : BoundsCode} (hv : conc ρ v = some x) (h : natOf v = some n) (hle : n ≤ m) (w : World) : (Instr.sliceBound x m code).run P w = .ok n w := by
  obtain ⟨k, rfl⟩ := natOf_some h
  have e := (Option.some.inj hv).symm
  rw [e]
  have h1 : (0 : Int) ≤ Int.ofNat n ∧ Int.ofNat n ≤ (m : Int) := ⟨by simp, by simp; omega⟩
  simp only [Instr.sliceBound, asIntOf, Sem.run_bind, Sem.run_pure, Result.andThen_ok, if_pos h1]
  rfl
def ldVal (ρ : Map) (x : Option Operand) (a : Act) (n : Option Nat) : Prop := match x, n with
  | none, none => True
  | some x, some n => ∃ v, conc ρ v = some (a.eval x) ∧ natOf v = some n
  | _, _ => False
theorem ldNat_ok {ρ : Map} {tm : T AV} {a : Act} {x : Option Operand} {n : Option Nat} (hg : Globs ρ) (ht : TmOk ρ tm a.tmps) (h : ldNat (ldO x) tm = some n) : ldVal ρ x a n := by
  cases x with
  | none => cases h; trivial
  | some x =>
    simp only [ldO, ldNat] at h
    split at h
    · rename_i v hv
      split at h
      · rename_i m hm
        cases h
        exact ⟨v, ld_ok hg ht hv, hm⟩
      · cases h
    · cases h
theorem bounds_ok {ρ : Map} {a : Act} {lo hi mx : Option Operand} {nl nh nm : Option Nat} {len cap : Nat} (isS : Bool) (h1 : ldVal ρ lo a nl) (h2 : ldVal ρ hi a nh) (h3 : ldVal ρ mx a nm) (halone : maxAlone hi mx = false)
    (hm : getD nm cap ≤ cap) (hh : getD nh len ≤ getD nm cap ∨ nh = none) (hl : getD nl 0 ≤ getD nh len) (w : World) :
    (Instr.sliceBounds isS len cap (lo.map a.eval) (hi.map a.eval) (mx.map a.eval)).run P w = .ok (getD nl 0, getD nh len, getD nm cap) w := by
  have bm : ∀ x n, mx = some x → nm = some n → ∀ code, (Instr.sliceBound (a.eval x) cap code).run P w = .ok n w := by
    intro x n e1 e2 code; subst e1 e2
    obtain ⟨v, hv, hn⟩ := h3; exact bound_ok hv hn hm w
  have bh : ∀ x n, hi = some x → nh = some n → ∀ code, (Instr.sliceBound (a.eval x) (getD nm cap) code).run P w = .ok n w := by
    intro x n e1 e2 code; subst e1 e2
    obtain ⟨v, hv, hn⟩ := h2
    rcases hh with h | h
    · exact bound_ok hv hn h w
    · cases h
  have bl : ∀ x n, lo = some x → nl = some n → ∀ code, (Instr.sliceBound (a.eval x) (getD nh len) code).run P w = .ok n w := by
    intro x n e1 e2 code; subst e1 e2
    obtain ⟨v, hv, hn⟩ := h1; exact bound_ok hv hn hl w
  cases mx with
  | none =>
    cases nm with
    | some _ => exact h3.elim
    | none =>
      cases hi with
      | none =>
        cases nh with
        | some _ => exact h2.elim
        | none =>
          cases lo with
          | none => cases nl with
            | some _ => exact h1.elim
            | none => rfl
          | some x => cases nl with
            | none => exact h1.elim
            | some n =>
              have := bl x n rfl rfl
              simp only [getD] at this
              simp [Instr.sliceBounds, this, getD]
      | some y =>
        cases nh with
        | none => exact h2.elim
        | some m =>
          have hb := bh y m rfl rfl
          simp only [getD] at hb
          cases lo with
          | none => cases nl with
            | some _ => exact h1.elim
            | none => simp [Instr.sliceBounds, hb, getD]
          | some x => cases nl with
            | none => exact h1.elim
            | some n =>
              have := bl x n rfl rfl
              simp only [getD] at this
              simp [Instr.sliceBounds, hb, this, getD]
  | some z =>
    cases nm with
    | none => exact h3.elim
    | some q =>
      have hmm := bm z q rfl rfl
      cases hi with
      | none => cases halone
      | some y =>
        cases nh with
        | none => exact h2.elim
        | some m =>
          have hb := bh y m rfl rfl
          simp only [getD] at hb
          cases lo with
          | none => cases nl with
            | some _ => exact h1.elim
            | none => simp [Instr.sliceBounds, hmm, hb, getD]
          | some x => cases nl with
            | none => exact h1.elim
            | some n =>
              have := bl x n rfl rfl
              simp only [getD] at this
              simp [Instr.sliceBounds, hmm, hb, this, getD]
end Go.Proofs.YtcaagfgopmhilaaGreatDoor.Vai
