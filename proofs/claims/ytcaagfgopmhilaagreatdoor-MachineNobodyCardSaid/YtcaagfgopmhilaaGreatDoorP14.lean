/- A part of the proof that the law of this seat holds: P14; no condition. -/
import Derived.Test.YtcaagfgopmhilaaGreatDoorP13
namespace Go.Proofs.YtcaagfgopmhilaaGreatDoor.Vai
variable {P : Program} {K : Tab}

theorem next_ok {o : Oper} {it : Operand} (ho : o.op = .next it false) : GOk P o (mNext (compLd it)) := by
  intro ρ A w tm a v A' hg hr ht h
  unfold mNext at h
  split at h
  case h_2 => cases h
  rename_i xv hx
  have hx := ld_ok hg ht hx
  unfold nextA at h
  split at h
  case h_2 => cases h
  rename_i r _
  split at h
  case h_2 => cases h
  rename_i m since stepped hget
  split at h
  case h_2 => cases h
  rename_i clock hm
  cases h
  obtain ⟨L, hL, e1⟩ := conc_p hx
  obtain ⟨L', hL', hsh, m', hmm, hob⟩ := hr.objs r _ hget
  rw [hL] at hL'; cases hL'
  obtain ⟨M, hM, rfl⟩ := hmm
  obtain ⟨M', ms, hM', hob2, hent, hgm⟩ := map_obj (P := P) hr hm
  rw [hM] at hM'; cases hM'
  have hms : ms = #[] := by
    have := entsLen hent
    simp at this
    exact Array.size_eq_zero_iff.1 this.symm
  subst hms
  refine ⟨ρ, .tuple #[.bool false], w, rfl, hr, .refl ρ A w, ?_⟩
  have hgo : (getObj L.r).run P w = .ok (.mapIter (some M.r) since #[] stepped) w := by simp [getObj, Sem.run, hob]
  simp only [execOp, ho, e1, hsh, Nat.add_zero, Instr.next, Sem.run_bind, hgo, Result.andThen_ok, hgm]
  have hf : ∀ p : MapEntry → Bool, Array.filter p #[] 0 0 = #[] := fun _ => rfl
  simp [choose, Sem.run, Question.forced, hf]

theorem eval_func (a : Act) (f : FuncId) : a.eval (.func f) = .func (.func f) #[] #[] := rfl
theorem call_run {o : Oper} {c : Call} {f : FuncId} (ho : o.op = .call c) (hc : c.callee = .value (.func f)) (a : Act) (w : World) : (execOp a.eval o).run P w = (callFunc f (c.args.map a.eval)).run P w := by
  simp only [execOp, ho, resolve, hc, eval_func, Deferred.ofValue, Sem.run_bind, Sem.run_pure, Result.andThen_ok, invoke]
  simp
theorem args_eval {c : Call} {a : Act} {us : List Value} (h : c.args.toList.map a.eval = us) : c.args.map a.eval = us.toArray := by
  apply Array.ext'
  simp [← h]
theorem callFunc_body {f : FuncId} {fn : Func} {body : Code} (hT : TabOk P K) (hf : K.fnc f = some fn) (hb : fn.body = some body) (args : Array Value) (w : World) : (callFunc f args).run P w = .ok (.enter f args) w := by
  exact hT.nm _ _ hf args w
theorem callF_ok {o : Oper} {c : Call} {f : FuncId} {fn : Func} {body : Code} (hT : TabOk P K) (ho : o.op = .call c) (hc : c.callee = .value (.func f)) (hf : K.fnc f = some fn) (hb : fn.body = some body) :
    COk P o (mCallF f (compLds c.args.toList)) := by
  intro ρ w tm a g args hg ht h
  unfold mCallF at h
  split at h
  · rename_i l hl
    cases h
    have hh := lds_ok hg ht hl
    refine ⟨_, hh, ?_⟩
    rw [call_run ho hc, args_eval rfl, callFunc_body hT hf hb]
  · cases h
theorem hasBody_ok {g : FuncId} (h : hasBody K g = true) : ∃ fn body, K.fnc g = some fn ∧ fn.body = some body := by
  unfold hasBody at h
  split at h
  · rename_i fn hfn
    split at h
    · rename_i body hb; exact ⟨fn, body, hfn, hb⟩
    · cases h
  · cases h
theorem conc_f {ρ : Map} {fn : Fn} {x y : List AV} {v : Value} (h : conc ρ (.f fn x y) = some v) : ∃ u1 u2, concL ρ x = some u1 ∧ concL ρ y = some u2 ∧ v = .func fn u1.toArray u2.toArray := by
  simp only [conc] at h
  split at h
  · rename_i u1 u2 h1 h2; exact ⟨u1, u2, h1, h2, (Option.some.inj h).symm⟩
  · cases h
theorem callV_ok {o : Oper} {c : Call} {f : Operand} (hT : TabOk P K) (ho : o.op = .call c) (hc : c.callee = .value f) : COk P o (mCallV (hasBody K) (compLd f) (compLds c.args.toList)) := by
  intro ρ w tm a g args hg ht h
  unfold mCallV at h
  split at h
  · rename_i g' x y l hf hl
    split at h
    · rename_i hb
      cases h
      obtain ⟨fn, body, h1, h2⟩ := hasBody_ok hb
      obtain ⟨u1, u2, hx, hy, e⟩ := conc_f (ld_ok hg ht hf)
      have hh := lds_ok hg ht hl
      refine ⟨_, concL_append (concL_append hx hh) hy, ?_⟩
      simp only [execOp, ho, resolve, hc, e, Deferred.ofValue, Sem.run_bind, Sem.run_pure, Result.andThen_ok, invoke]
      rw [args_eval rfl, callFunc_body hT h1 h2]
      simp
    · cases h
  · cases h
theorem deferV_ok {o : Oper} {c : Call} {f : Operand} (hT : TabOk P K) (ho : o.op = .defer c) (hc : c.callee = .value f) : DOk P o (mCallV (hasBody K) (compLd f) (compLds c.args.toList)) := by
  intro ρ w tm a g args hg ht h
  unfold mCallV at h
  split at h
  · rename_i g' x y l hf hl
    split at h
    · rename_i hb
      cases h
      obtain ⟨fn, body, h1, h2⟩ := hasBody_ok hb
      obtain ⟨u1, u2, hx, hy, e⟩ := conc_f (ld_ok hg ht hf)
      have hh := lds_ok hg ht hl
      refine ⟨_, { target := .fn (.func g) u2.toArray, args := u1.toArray ++ c.args.map a.eval }, u2.toArray, concL_append (concL_append hx hh) hy, rfl, ?_, ?_, fun w' => ?_⟩
      · rw [args_eval rfl]; simp
      · simp only [execOp, ho, resolve, hc, e, Deferred.ofValue, Sem.run_bind, Sem.run_pure, Result.andThen_ok]
      · simp only [invoke]
        rw [args_eval rfl, callFunc_body hT h1 h2]
        simp
    · cases h
  · cases h
end Go.Proofs.YtcaagfgopmhilaaGreatDoor.Vai
