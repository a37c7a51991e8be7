/- A part of the proof that the law of this seat holds: P24; no condition. -/
import Derived.Test.YtcaagfgopmhilaaGreatDoorP23
import Derived.RangeFuncIn
namespace Go.Proofs.YtcaagfgopmhilaaGreatDoor.Vai
variable {P : Program} {K : Tab}

/-- a range over a function that never yields -/
theorem rng_ok {nt : Nat} (hT : TabOk P K) (f : Operand) (ps : Array Tmp) (assign body : Code) : CodeOk P nt (.rangeFunc f ps assign body) ⟨dRangeF (compLd f) (hasBody K)⟩ := by
  intro call hcall n tm A df e tm' A' df' h ρ a w hS Q hQ
  simp only [dRangeF] at h
  split at h
  case h_2 => cases h
  rename_i g x y hf
  split at h
  case h_2 => cases h
  rename_i hb
  split at h
  case h_2 => cases h
  rename_i v A1 hc
  split at h
  case h_2 => cases h
  rename_i hloop
  cases h
  obtain ⟨fn, bd, hfn, hbd⟩ := hasBody_ok hb
  obtain ⟨u1, u2, hx, hy, ef⟩ := conc_f (ld_ok hS.glob hS.tms hf)
  rw [← wpIn_wide (n := 0)]
  refine wpIn_rangeFunc (F := Fence.wide) fun fr _ => ?_
  have p1 := hS.rel.push (o := .dfr) (ob := .deferred (some [])) (lim := 0) w.drawn ⟨rfl, rfl⟩
  have p2 := p1.1.push (o := .loop) (ob := .loop { state := .ready, pending := none, fn := fr, tmps := a.tmps, params := ps, assign := assign, body := body, defers := w.heap.size }) (lim := 0) w.drawn ⟨rfl, _, rfl, rfl, rfl⟩
  have hext := p1.2.ext.trans p2.2.ext
  have hsz : (w.heap.push (Obj.deferred (some []))).size = w.heap.size + 1 := by simp
  have hyl : conc (upd (upd ρ (pos A.nx) ⟨w.heap.size, 0, 0⟩) (pos (newObj A .dfr).nx) ⟨(w.heap.push (Obj.deferred (some []))).size, 0, 0⟩) (.yl (pos (A.nx + 1))) = some (.func (.yield (w.heap.size + 1)) #[] #[]) := by
    show (upd _ (pos (A.nx + 1)) _ (pos (A.nx + 1))).map _ = _
    rw [upd_eq, hsz]; rfl
  have hvs := concL_append (concL_append (concL_mono hext _ _ hx) (concL_mk hyl (rfl : concL _ [] = some []))) (concL_mono hext _ _ hy)
  have hcl := hcall g _ _ v A1 hc _ _ _ (hS.glob.mono hext) p2.1 hvs
  let W1 : World := { w with heap := (w.heap.push (.deferred (some []))).push (.loop { state := .ready, pending := none, fn := fr, tmps := a.tmps, params := ps, assign := assign, body := body, defers := w.heap.size }), drawn := w.drawn }
  have henter : (Instr.enterLoop fr a.tmps ps assign body Fence.wide.round).run P w = .ok (w.heap.size + 1, [{ target := .collected w.heap.size, args := #[] }]) W1 := by
    show Result.ok ((w.heap.push (Obj.deferred (some []))).size, _) _ = _
    rw [hsz]
  have hres : (resolve a.eval (rangeCall f (w.heap.size + 1)) 0).run P W1 = .ok { target := .fn (.func g) u2.toArray, args := u1.toArray ++ #[Value.func (.yield (w.heap.size + 1)) #[] #[]] } W1 := by
    have : (a.eval (.const (Value.func (.yield (w.heap.size + 1)) #[] #[]))) = Value.func (.yield (w.heap.size + 1)) #[] #[] := rfl
    have hm : (#[Operand.const (Value.func (.yield (w.heap.size + 1)) #[] #[])].map a.eval) = #[Value.func (.yield (w.heap.size + 1)) #[] #[]] := by simp only [List.map_toArray, List.map_cons, List.map_nil, this]
    simp only [resolve, rangeCall, ef, Deferred.ofValue, Sem.run_pure, hm]
  have hinv : (invoke (.fn (.func g) u2.toArray) (u1.toArray ++ #[Value.func (.yield (w.heap.size + 1)) #[] #[]])).run P W1 = .ok (.enter g (u1 ++ [Value.func (.yield (w.heap.size + 1)) #[] #[]] ++ u2).toArray) W1 := by
    simp only [invoke]
    rw [callFunc_body hT hfn hbd]
    simp
  refine ⟨w.heap.size + 1, [{ target := .collected w.heap.size, args := #[] }], W1, _, W1, g, _, W1, henter, hres, fun _ _ => trivial, hinv, (fun h => by cases h), ?_⟩
  · rw [callsIn_wide]
    refine hcl.mono fun e w3 ⟨xv, ρ', he, hxv, hr', hgo⟩ => ?_
    subst he
    obtain ⟨L, hL, hsh, lp, hob, hst, hpe⟩ := hr'.objs _ _ hloop
    have hL0 := hgo.ext _ _ (upd_eq (upd ρ (pos A.nx) ⟨w.heap.size, 0, 0⟩) (pos (A.nx + 1)) ⟨(w.heap.push (Obj.deferred (some []))).size, 0, 0⟩)
    have hL1 := hgo.ext _ _ (show upd (upd ρ (pos A.nx) ⟨w.heap.size, 0, 0⟩) (pos (A.nx + 1)) ⟨(w.heap.push (Obj.deferred (some []))).size, 0, 0⟩ (pos A.nx) = some ⟨w.heap.size, 0, 0⟩ by rw [upd_ne _ _ (pos_ne (by omega)), upd_eq])
    rw [hL] at hL0
    cases hL0
    rw [hsz] at hob
    have hkill := hr'.kill hloop hL rfl (fun k e => by cases e) (.loop { lp with state := .exhausted })
    refine ⟨none, _, ?_, hQ ρ' _ _ ⟨hS.glob.mono (hext.trans hgo.ext), hkill.1, hS.tms.mono (hext.trans hgo.ext), hS.size, ⟨_, hL1, rfl⟩, hS.dfs.mono (hext.trans hgo.ext)⟩ (p1.2.trans (p2.2.trans (hgo.trans hkill.2)))⟩
    have hne : (lp.state == LoopState.busy) = false := by rw [hst]; rfl
    simp only [hsz]
    simp [Instr.endLoop, Instr.getLoop, getObj, setObj, Sem.run, hob, hst, hpe]
end Go.Proofs.YtcaagfgopmhilaaGreatDoor.Vai
