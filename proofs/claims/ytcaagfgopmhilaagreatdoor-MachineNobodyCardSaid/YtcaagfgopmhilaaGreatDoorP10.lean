/- A part of the proof that the law of this seat holds: P10; no condition. -/
import Derived.Test.YtcaagfgopmhilaaGreatDoorP9
import Derived.MapKept
namespace Go.Proofs.YtcaagfgopmhilaaGreatDoor.Vai
variable {P : Program} {K : Tab}
def otherV : Value → Bool
  | .int _ _ => false
  | .string _ => false
  | .float _ _ => false
  | .complex _ _ _ => false
  | _ => true
theorem binOp_eql (t : TypeId) (X Y : Value) (h : otherV X = true) : binOp .eql t X Y = (do pure (.bool (← Op.equal t X Y))) := by
  cases X <;> first | rfl | (cases h)
theorem binOp_neq (t : TypeId) (X Y : Value) (h : otherV X = true) : binOp .neq t X Y = (do pure (.bool (!(← Op.equal t X Y)))) := by
  cases X <;> first | rfl | (cases h)
theorem otherV_of {ρ : Map} {x : AV} {X : Value} (h0 : isX x = false) (hx : conc ρ x = some X) (h1 : ∀ k n, x ≠ .i k n) (h2 : ∀ l, x ≠ .s l) : otherV X = true := by
  cases x with
  | i k n => exact absurd rfl (h1 k n)
  | s l => exact absurd rfl (h2 l)
  | x w => cases h0
  | f fn a b => simp only [conc] at hx; split at hx <;> cases hx; rfl
  | pn => cases hx; rfl
  | if0 => cases hx; rfl
  | fn0 => cases hx; rfl
  | b x => cases hx; rfl
  | p b n => obtain ⟨L, _, rfl⟩ := Option.map_eq_some_iff.1 hx; rfl
  | sn => cases hx; rfl
  | sx b n c d => obtain ⟨L, _, rfl⟩ := Option.map_eq_some_iff.1 hx; rfl
  | su b n c d => obtain ⟨L, _, rfl⟩ := Option.map_eq_some_iff.1 hx; rfl
  | mn => cases hx; rfl
  | m b => obtain ⟨L, _, rfl⟩ := Option.map_eq_some_iff.1 hx; rfl
  | yl b => obtain ⟨L, _, rfl⟩ := Option.map_eq_some_iff.1 hx; rfl
  | ifc t u => simp only [conc] at hx; split at hx <;> cases hx; rfl
  | agg l => simp only [conc] at hx; split at hx <;> cases hx; rfl
  | tup l => simp only [conc] at hx; split at hx <;> cases hx; rfl
theorem const_of {x : Operand} (h : isConstO x = true) : ∃ v, x = .const v := by
  cases x <;> first | exact ⟨_, rfl⟩ | cases h
theorem guard_pure (op : BinOp) (t : TypeId) (x y : Operand) (X Y : Value) (h : ¬ (X = .nilIface ∧ Y = .nilIface) ∧ ¬ (∃ a b, X = .agg a ∧ Y = .agg b)) : eqGuard op t x y X Y = pure () := by
  cases X with
  | nilIface =>
    cases Y with
    | nilIface => exact absurd ⟨rfl, rfl⟩ h.1
    | _ => cases op <;> rfl
  | agg a =>
    cases Y with
    | agg b => exact absurd ⟨a, b, rfl, rfl⟩ h.2
    | _ => cases op <;> rfl
  | _ => cases op <;> rfl
theorem conc_nilI {ρ : Map} {u : AV} (h0 : isX u = false) (h : conc ρ u = some .nilIface) : u = .if0 := by
  cases u with
  | if0 => rfl
  | x w => cases h0
  | s l => simp only [conc] at h; split at h <;> cases h
  | f fn a b => simp only [conc] at h; split at h <;> cases h
  | ifc t u => simp only [conc] at h; split at h <;> cases h
  | agg l => simp only [conc] at h; split at h <;> cases h
  | tup l => simp only [conc] at h; split at h <;> cases h
  | p b n => obtain ⟨L, _, e⟩ := Option.map_eq_some_iff.1 h; cases e
  | sx b n c d => obtain ⟨L, _, e⟩ := Option.map_eq_some_iff.1 h; cases e
  | su b n c d => obtain ⟨L, _, e⟩ := Option.map_eq_some_iff.1 h; cases e
  | m b => obtain ⟨L, _, e⟩ := Option.map_eq_some_iff.1 h; cases e
  | yl b => obtain ⟨L, _, e⟩ := Option.map_eq_some_iff.1 h; cases e
  | _ => cases h
theorem conc_aggI {ρ : Map} {u : AV} {c : Array Value} (h : conc ρ u = some (.agg c)) : ∃ l, u = .agg l := by
  cases u with
  | agg l => exact ⟨l, rfl⟩
  | x w => simp only [conc] at h; split at h <;> cases h; rename_i h'; cases h'
  | s l => simp only [conc] at h; split at h <;> cases h
  | f fn a b => simp only [conc] at h; split at h <;> cases h
  | ifc t u => simp only [conc] at h; split at h <;> cases h
  | tup l => simp only [conc] at h; split at h <;> cases h
  | p b n => obtain ⟨L, _, e⟩ := Option.map_eq_some_iff.1 h; cases e
  | sx b n c d => obtain ⟨L, _, e⟩ := Option.map_eq_some_iff.1 h; cases e
  | su b n c d => obtain ⟨L, _, e⟩ := Option.map_eq_some_iff.1 h; cases e
  | m b => obtain ⟨L, _, e⟩ := Option.map_eq_some_iff.1 h; cases e
  | yl b => obtain ⟨L, _, e⟩ := Option.map_eq_some_iff.1 h; cases e
  | _ => cases h
/-- the guard of an equality lets it by -/
theorem guard_ok {ρ : Map} {t : TypeId} {op : BinOp} {x y : Operand} {u v : AV} {X Y : Value} (hu : isX u = false) (hv : isX v = false) (hT : TabOk P K) (hx : conc ρ u = some X) (hy : conc ρ v = some Y) (h : guardOk K t (isConstO x || isConstO y) u v = true) (w : World) :
    (eqGuard op t x y X Y).run P w = .ok () w := by
  by_cases h1 : X = .nilIface ∧ Y = .nilIface
  · obtain ⟨rfl, rfl⟩ := h1
    have e1 := conc_nilI hu hx
    have e2 := conc_nilI hv hy
    subst e1 e2
    simp only [guardOk, Bool.or_eq_true] at h
    rcases h with h | h
    · obtain ⟨c, rfl⟩ := const_of h; rw [eqGuard_nil_constL]; rfl
    · obtain ⟨c, rfl⟩ := const_of h; rw [eqGuard_nil_constR]; rfl
  · by_cases h2 : ∃ a b, X = .agg a ∧ Y = .agg b
    · obtain ⟨a, b, rfl, rfl⟩ := h2
      obtain ⟨l, rfl⟩ := conc_aggI hx
      obtain ⟨m, rfl⟩ := conc_aggI hy
      simp only [guardOk] at h
      split at h
      · rename_i hg
        exact run_eqGuard_agg w op t x y a b (hT.gd _ _ hg)
      · cases h
    · rw [guard_pure op t x y X Y ⟨h1, h2⟩]; rfl

theorem eqlA_ok {ρ : Map} {A : AW} {w : World} {t : TypeId} {x y : Operand} {u v : AV} {X Y : Value} {r : Bool} (hT : TabOk P K) (hr : Rel ρ A w) (hx : conc ρ u = some X) (hy : conc ρ v = some Y) (h : eqlA K t (isConstO x || isConstO y) A u v = some r) :
    (do eqGuard .eql t x y X Y; binOp .eql t X Y : Sem Value).run P w = .ok (.bool r) w ∧ (do eqGuard .neq t x y X Y; binOp .neq t X Y : Sem Value).run P w = .ok (.bool (!r)) w := by
  unfold eqlA at h
  split at h
  · cases h
  rename_i hX
  rw [Bool.or_eq_false_iff] at hX
  obtain ⟨hX1, hX2⟩ := hX
  unfold eqlA0 at h
  split at h
  · split at h
    · rename_i hk
      cases h; cases hx; cases hy
      have := ikEq_iff.1 hk
      subst this
      rw [intEq_spec]
      refine ⟨?_, ?_⟩
      · simp [eqGuard_at_int, binOp, Op.intCmp]
      · simp only [eqGuard_at_int, binOp, Op.intCmp, Sem.run_bind, Sem.run_pure, Result.andThen_ok, ne_eq, not_true_eq_false, if_false]; rfl
    · cases h
  · cases h
    obtain ⟨b1, rfl⟩ := conc_s hx
    obtain ⟨b2, rfl⟩ := conc_s hy
    rw [strEq_spec b1 b2]
    exact ⟨by simp [eqGuard_at_string, binOp, Op.stringOp], by simp [eqGuard_at_string, binOp, Op.stringOp]⟩
  · cases h
  · cases h
  · rename_i h1 h2 h3 h4
    split at h
    · rename_i hg
      have ho := otherV_of hX1 hx h1 h2
      have he := eqA_ok hT hr 20 t u v X Y r hx hy h Op.maxDepth (by simp [Op.maxDepth])
      have he' : (Op.equal t X Y).run P w = .ok r w := he
      rw [binOp_eql _ _ _ ho, binOp_neq _ _ _ ho]
      exact ⟨by simp only [Sem.run_bind, guard_ok hX1 hX2 hT hx hy hg, Result.andThen_ok, he', Sem.run_pure], by simp only [Sem.run_bind, guard_ok hX1 hX2 hT hx hy hg, Result.andThen_ok, he', Sem.run_pure]⟩
    · cases h
theorem mEq_ok {o : Oper} {t t' : TypeId} {x y : Operand} (hT : TabOk P K) (ho : o.op = .binOp .eql t x y t') : QOk P o (mEq K t (isConstO x || isConstO y) (compLd x) (compLd y)) := by
  intro ρ A w tm a v hg hr ht h
  unfold mEq at h
  split at h
  · split at h
    · rename_i p q hp hq _ r hh
      cases h
      exact ⟨_, rfl, by simp only [execOp, ho, Sem.run_bind, (eqlA_ok hT hr (ld_ok hg ht hp) (ld_ok hg ht hq) hh).1, Result.andThen_ok, Sem.run_pure]⟩
    · cases h
  · cases h
theorem mNe_ok {o : Oper} {t t' : TypeId} {x y : Operand} (hT : TabOk P K) (ho : o.op = .binOp .neq t x y t') : QOk P o (mNe K t (isConstO x || isConstO y) (compLd x) (compLd y)) := by
  intro ρ A w tm a v hg hr ht h
  unfold mNe at h
  split at h
  · split at h
    · rename_i p q hp hq _ r hh
      cases h
      exact ⟨_, rfl, by simp only [execOp, ho, Sem.run_bind, (eqlA_ok hT hr (ld_ok hg ht hp) (ld_ok hg ht hq) hh).2, Result.andThen_ok, Sem.run_pure]⟩
    · cases h
  · cases h

/-! ### maps -/
theorem getMap_some {A : AW} {r : Pos} {es : List (AV × AV × Nat)} {c : Nat} (h : getMap A r = some (es, c)) : A.h.get r = some (.map es c) := by
  unfold getMap at h
  split at h
  · rename_i hq; cases h; exact hq
  · cases h
theorem map_obj {ρ : Map} {A : AW} {w : World} {b : Pos} {es : List (AV × AV × Nat)} {c : Nat} (hr : Rel ρ A w) (h : getMap A b = some (es, c)) :
    ∃ L m, ρ b = some L ∧ w.heap[L.r]? = some (.map m c) ∧ EntsOk ρ es m.toList ∧ (getObj L.r).run P w = .ok (.map m c) w := by
  obtain ⟨L, hL, _, m, hob, hent⟩ := hr.objs b _ (getMap_some h)
  exact ⟨L, m, hL, hob, hent, by simp [getObj, Sem.run, hob]⟩


theorem keyA_ok {ρ : Map} {w : World} (hT : TabOk P K) (em : Bool) : ∀ (d : Nat) (t : TypeId) (v : AV) (X : Value), conc ρ v = some X → keyA K d t v = true → ∀ D, d ≤ D → (Instr.checkKey em D t X).run P w = .ok () w
  | 0, t, v, X, _, h => by cases h
  | d + 1, t, v, X, hv, h => by
    intro D hD
    obtain ⟨D, rfl⟩ : ∃ E, D = E + 1 := ⟨D - 1, by omega⟩
    have hD : d ≤ D := by omega
    simp only [keyA] at h
    split at h
    · rename_i hu; simp only [Instr.checkKey, Sem.run_bind, run_und hT hu, Result.andThen_ok]; rfl
    · rename_i hu; simp only [Instr.checkKey, Sem.run_bind, run_und hT hu, Result.andThen_ok]; rfl
    · rename_i hu; simp only [Instr.checkKey, Sem.run_bind, run_und hT hu, Result.andThen_ok]; rfl
    · rename_i hu; simp only [Instr.checkKey, Sem.run_bind, run_und hT hu, Result.andThen_ok]; rfl
    · rename_i fs hu
      split at h
      · rename_i xs
        obtain ⟨us, hus, rfl⟩ := conc_agg hv
        simp only [Instr.checkKey, Sem.run_bind, run_und hT hu, Result.andThen_ok]
        rw [← Array.forIn_toList]
        generalize fs.toList = L at h
        induction L with
        | nil => rfl
        | cons f L ih =>
          simp only [keyFields] at h
          split at h
          · rename_i hn
            have hn : f.name = "_" := by simpa using hn
            simp only [List.forIn_cons, Sem.run_bind, hn, ne_eq, not_true_eq_false, if_false, Sem.run_pure, Result.andThen_ok]
            exact ih h
          · rename_i hn
            have hn : f.name ≠ "_" := by simpa using hn
            split at h
            · rename_i s hs
              split at h
              · rename_i x hx
                simp only [Bool.and_eq_true] at h
                obtain ⟨Y, hY, hp⟩ := partA_ok (sh_ok hT hs) hus hx w
                have hk := keyA_ok (w := w) hT em d f.type x Y hY h.1 D hD
                simp only [List.forIn_cons, Sem.run_bind, hn, ne_eq, not_false_eq_true, if_true, hp, hk, Sem.run_pure, Result.andThen_ok]
                exact ih h.2
              · cases h
            · cases h
      · cases h
    · rename_i n e hu
      split at h
      · rename_i xs hag hsz
        obtain ⟨us, hus, rfl⟩ := conc_agg hv
        simp only [Bool.and_eq_true, beq_iff] at h
        have hlen : us.length = n := by rw [concL_length hus, h.1]
        subst hlen
        simp only [Instr.checkKey, Sem.run_bind, run_und hT hu, Result.andThen_ok]
        simp only [Std.Legacy.Range.forIn_eq_forIn_range', Std.Legacy.Range.size, Nat.sub_zero, Nat.add_one_sub_one, Nat.div_one]
        have key : ∀ (xs : List AV) (vs : List Value) (k : Nat), concL ρ xs = some vs → keyElems (keyA K d e) xs = true → (∀ j, us.toArray[k + j]? = vs[j]? ∨ vs[j]? = none) →
            ((forIn (List.range' k vs.length) () fun i _ => do
              Instr.checkKey em D e (← part e us.toArray (i * (← sizeOf e)))
              pure (ForInStep.yield ()) : Sem Unit)).run P w = .ok () w := by
          intro xs
          induction xs with
          | nil => intro vs k hc _ _; cases hc; rfl
          | cons x xs ih =>
            intro vs k hc hk hj
            obtain ⟨Y, vs', hY, hvs, rfl⟩ := concL_cons hc
            simp only [keyElems, Bool.and_eq_true] at hk
            have h1 : us.toArray[k]? = some Y := by
              rcases hj 0 with h | h
              · simpa using h
              · simp at h
            have p1 : (part e us.toArray (k * 1)).run P w = .ok Y w := by simp [part, run_isAgg hT hag w, h1]
            have hk1 := keyA_ok (w := w) hT em d e x Y hY hk.1 D hD
            simp only [List.length_cons, List.range'_succ, List.forIn_cons, Sem.run_bind, run_size hT hsz w, p1, hk1, Result.andThen_ok, Sem.run_pure]
            exact ih vs' (k + 1) hvs hk.2 (fun j => by have := hj (j + 1); simpa [Nat.add_assoc, Nat.add_comm 1] using this)
        have hh := key xs us 0 hus h.2 (fun j => by left; simp)
        exact (congrArg (fun r => Result.andThen r fun _ w' => Sem.run P (pure ()) w') hh).trans rfl
      · cases h
    · cases h

theorem sameNow_ok {ρ : Map} {A : AW} {w : World} {t : TypeId} {d : TypeDesc} {x y : AV} {X Y : Value} {r b : Bool} (hT : TabOk P K) (hd : K.underlying t = some d) (hr : Rel ρ A w) (hx : conc ρ x = some X) (hy : conc ρ y = some Y)
    (h : eqA K A 20 t x y = some r) (hn : Instr.sameNow d X Y = some b) : b = r := by
  have he := eqA_ok hT hr 20 t x y X Y r hx hy h 20 (Nat.le_refl _)
  have hu := run_und hT hd w
  rw [show Op.equalIn 20 t X Y = (underlying t >>= _) from rfl, Sem.run_bind, hu, Result.andThen_ok] at he
  unfold Instr.sameNow at hn
  split at hn
  · split at hn
    · rename_i hk
      cases hn
      subst hk
      simp at he
      exact he
    · cases hn
  · cases hn
    simp at he
    exact he
  · cases hn
    simp at he
    exact he
  · cases hn


/-- what a search found, beside what the search of the model found -/
def FoundOk (ρ : Map) : Option (Nat × AV) → Option (Nat × Value) → Prop
  | none, none => True
  | some (i, v), some (j, V) => i = j ∧ conc ρ v = some V
  | _, _ => False
theorem findA_ok {ρ : Map} {A : AW} {w : World} {kt : TypeId} {d : TypeDesc} {k : AV} {X : Value} (hT : TabOk P K) (hd : K.underlying kt = some d) (hr : Rel ρ A w) (hk : conc ρ k = some X) :
    ∀ (es : List (AV × AV × Nat)) (ms : List MapEntry) (i : Nat) (r : Option (Nat × AV)), EntsOk ρ es ms → findA (eqA K A 20 kt k) es i = some r →
    ∃ r', FoundOk ρ r r' ∧ (Instr.findAsking kt X ms i).run P w = .ok r' w ∧ ∀ q, Instr.findNow d X ms i = some q → q = r'
  | [], [], i, r, _, h => by cases h; exact ⟨none, trivial, rfl, fun q hq => by cases hq; rfl⟩
  | [], _ :: _, _, _, he, _ => he.elim
  | _ :: _, [], _, _, he, _ => he.elim
  | (k', v, n) :: es, e :: ms, i, r, ⟨⟨h1, h2, h3⟩, he⟩, h => by
    simp only [findA] at h
    split at h
    · rename_i hq
      cases h
      have := eqA_ok hT hr 20 kt k k' X _ _ hk h1 hq Op.maxDepth (by simp [Op.maxDepth])
      have : (Op.equal kt X e.key).run P w = .ok true w := this
      refine ⟨some (i, e.val), ⟨rfl, h2⟩, by simp only [Instr.findAsking, Sem.run_bind, this, Result.andThen_ok, if_true, Sem.run_pure], fun q hn => ?_⟩
      simp only [Instr.findNow] at hn
      cases hs : Instr.sameNow d X e.key with
      | none => simp only [hs] at hn; cases hn
      | some b =>
        have := sameNow_ok hT hd hr hk h1 hq hs
        subst this
        simp only [hs] at hn
        cases hn; rfl
    · rename_i hq
      have := eqA_ok hT hr 20 kt k k' X _ _ hk h1 hq Op.maxDepth (by simp [Op.maxDepth])
      have : (Op.equal kt X e.key).run P w = .ok false w := this
      obtain ⟨r', hf, ha, hnow⟩ := findA_ok hT hd hr hk es ms (i + 1) r he h
      refine ⟨r', hf, by simp only [Instr.findAsking, Sem.run_bind, this, Result.andThen_ok, Bool.false_eq_true, if_false, ha], fun q hn => ?_⟩
      simp only [Instr.findNow] at hn
      cases hs : Instr.sameNow d X e.key with
      | none => simp only [hs] at hn; cases hn
      | some b =>
        have := sameNow_ok hT hd hr hk h1 hq hs
        subst this
        simp only [hs] at hn
        exact hnow q hn
    · cases h
theorem keyA_und {d : Nat} {t : TypeId} {v : AV} (h : keyA K (d + 1) t v = true) : ∃ u, K.underlying t = some u := by
  cases hu : K.underlying t with
  | none => simp only [keyA, hu] at h; cases h
  | some u => exact ⟨u, rfl⟩
theorem findKey_ok {ρ : Map} {A : AW} {w : World} {kt : TypeId} {k : AV} {X : Value} {es : List (AV × AV × Nat)} {ms : List MapEntry} {r : Option (Nat × AV)} (hT : TabOk P K) (hkey : keyA K 20 kt k = true) (hr : Rel ρ A w) (hk : conc ρ k = some X)
    (he : EntsOk ρ es ms) (h : findA (eqA K A 20 kt k) es 0 = some r) : ∃ r', FoundOk ρ r r' ∧ (Instr.findKey kt X ms).run P w = .ok r' w := by
  obtain ⟨d, hd⟩ := keyA_und hkey
  obtain ⟨r', hf, ha, hn⟩ := findA_ok hT hd hr hk es ms 0 r he h
  refine ⟨r', hf, ?_⟩
  simp only [Instr.findKey, Sem.run_bind, run_und hT hd, Result.andThen_ok]
  cases hq : Instr.findNow d X ms 0 with
  | none => exact ha
  | some q => rw [hn q hq]; rfl

theorem outA_conc {ρ : Map} {v : AV} {V : Value} (h : conc ρ v = some V) (ok is : Bool) : conc ρ (outA ok v is) = some (if ok then .tuple #[V, .bool is] else V) := by
  cases ok with
  | false => exact h
  | true => simp [outA, conc, concL, h]

theorem lookup_ok {o : Oper} {t kt e : TypeId} {z : AV} {ok : Bool} {x i : Operand} (hT : TabOk P K) (hu : K.underlying t = some (.map kt e)) (hz : zeroA K e = some z) (ho : o.op = .lookup t x i ok) : QOk P o (mLookup K kt z ok (compLd x) (compLd i)) := by
  intro ρ A w tm a v hg hr ht h
  unfold mLookup at h
  split at h
  · rename_i m k hm hk
    have hx := ld_ok hg ht hm
    have hi := ld_ok hg ht hk
    obtain ⟨zv, hzr, hza⟩ := run_zero hT hz w
    have hzc := absV_ok (ρ := ρ) hza
    unfold lookupA at h
    split at h
    · cases h
    · rename_i hkey
      split at h
      · cases h
        cases hx' : a.eval x <;> rw [hx'] at hx <;> try (cases hx; done)
        rename_i mr
        have : mr = none := by cases hx; rfl
        subst this
        refine ⟨_, outA_conc hzc ok false, ?_⟩
        have hck := keyA_ok (w := w) hT true 20 kt k _ hi hkey 10000 (by omega)
        obtain ⟨r', hf, hfr⟩ := findKey_ok (es := []) (ms := []) (r := none) hT hkey hr hi trivial rfl
        cases r' with
        | some _ => exact hf.elim
        | none =>
          simp only [execOp, ho, Instr.lookup, hx', Sem.run_bind, run_und hT hu, Result.andThen_ok, Sem.run_pure, Array.isEmpty_empty]
          simp [hck, hfr, hzr]
      · split at h
        · rename_i b es c hq
          obtain ⟨L, ms, hL, hob, hent, hget⟩ := map_obj (P := P) hr hq
          have hx' : a.eval x = .map (some L.r) := by simp only [conc, hL, Option.map_some, Option.some.injEq] at hx; exact hx.symm
          have hck := keyA_ok (w := w) hT ms.isEmpty 20 kt k _ hi hkey 10000 (by omega)
          split at h
          · rename_i j v' hfa
            cases h
            obtain ⟨r', hf, hfr⟩ := findKey_ok hT hkey hr hi hent hfa
            cases r' with
            | none => exact hf.elim
            | some p =>
              obtain ⟨j', V⟩ := p
              refine ⟨_, outA_conc hf.2 ok true, ?_⟩
              simp only [execOp, ho, Instr.lookup, hx', Sem.run_bind, run_und hT hu, Result.andThen_ok, Sem.run_pure, hget]
              simp [hck, hfr]
          · rename_i hfa
            cases h
            obtain ⟨r', hf, hfr⟩ := findKey_ok hT hkey hr hi hent hfa
            cases r' with
            | some p => exact hf.elim
            | none =>
              refine ⟨_, outA_conc hzc ok false, ?_⟩
              simp only [execOp, ho, Instr.lookup, hx', Sem.run_bind, run_und hT hu, Result.andThen_ok, Sem.run_pure, hget]
              simp [hck, hfr, hzr]
          · cases h
        · cases h
      · cases h
  · cases h


mutual
theorem aveq_ok : ∀ {u v : AV}, aveq u v = true → u = v := by
  intro u v h
  cases u <;> cases v <;> try simp only [aveq, Bool.and_eq_true, Bool.false_eq_true] at h
  all_goals try (cases h; done)
  all_goals first
    | rfl
    | (rw [posEq_iff] at h; rw [h])
    | (obtain ⟨h1, h2⟩ := h; rw [posEq_iff.1 h1, beq_iff.1 h2])
    | (obtain ⟨⟨⟨h1, h2⟩, h3⟩, h4⟩ := h; rw [posEq_iff.1 h1, beq_iff.1 h2, beq_iff.1 h3, beq_iff.1 h4])
    | (rw [aveqL_ok h])
    | (obtain ⟨h1, h2⟩ := h; rw [beq_iff.1 h1, aveq_ok h2])
    | (rename_i f1 a1 b1 f2 a2 b2; cases f1 <;> cases f2 <;> simp only [aveq, Bool.and_eq_true, Bool.false_eq_true] at h; (obtain ⟨h1, h2, h3⟩ := h; rw [beq_iff.1 h1, aveqL_ok h2, aveqL_ok h3]))
    | (rw [strEq_iff.1 h])
    | (obtain ⟨h1, h2⟩ := h; rw [ikEq_iff.1 h1]; rw [intEq_spec] at h2; rw [of_decide_eq_true h2])
    | (rw [boolEq_spec] at h; rw [beq_iff_eq.1 h])
theorem aveqL_ok : ∀ {u v : List AV}, aveqL u v = true → u = v
  | [], [], _ => rfl
  | [], _ :: _, h => by cases h
  | _ :: _, [], h => by cases h
  | a :: l, b :: m, h => by
    simp only [aveqL, Bool.and_eq_true] at h
    rw [aveq_ok h.1, aveqL_ok h.2]
end
theorem plainV_ok {ρ : Map} : ∀ (d : Nat) {v : AV} {X : Value}, plainV d v = true → conc ρ v = some X → ∀ D, d ≤ D → Instr.sameBits D X X = true := by
  intro d
  induction d with
  | zero =>
    intro v X h hv D _
    cases v <;> simp only [plainV, Bool.false_eq_true] at h <;> try (cases h; done)
    · cases hv; simp [Instr.sameBits]
    · cases hv; simp [Instr.sameBits]
    · obtain ⟨_, rfl⟩ := conc_s hv; simp only [Instr.sameBits]; exact (MapKept.bytes_beq _ _).2 rfl
    · cases hv; simp [Instr.sameBits]
    · obtain ⟨L, _, rfl⟩ := conc_p hv; simp [Instr.sameBits]
  | succ d ih =>
    intro v X h hv D hD
    cases v <;> simp only [plainV, Bool.false_eq_true] at h <;> try (cases h; done)
    · cases hv; simp [Instr.sameBits]
    · cases hv; simp [Instr.sameBits]
    · obtain ⟨_, rfl⟩ := conc_s hv; simp only [Instr.sameBits]; exact (MapKept.bytes_beq _ _).2 rfl
    · cases hv; simp [Instr.sameBits]
    · obtain ⟨L, _, rfl⟩ := conc_p hv; simp [Instr.sameBits]
    · obtain ⟨us, hus, rfl⟩ := conc_agg hv
      obtain ⟨D, rfl⟩ : ∃ E, D = E + 1 := ⟨D - 1, by omega⟩
      simp only [Instr.sameBits, beq_self_eq_true, Bool.true_and]
      rename_i l
      have key : ∀ (l : List AV) (us : List Value), plainL (plainV d) l = true → concL ρ l = some us → ((us.zip us).all fun (x, y) => Instr.sameBits D x y) = true := by
        intro l
        induction l with
        | nil => intro us _ h; cases h; rfl
        | cons x l ihl =>
          intro us hp hc
          obtain ⟨Y, us', hY, hus', rfl⟩ := concL_cons hc
          simp only [plainL, Bool.and_eq_true] at hp
          simp only [List.zip_cons_cons, List.all_cons, ih hp.1 hY D (by omega), ihl us' hp.2 hus', Bool.and_self]
      exact key l us h hus

theorem keyAt_ok {ρ : Map} : ∀ {es : List (AV × AV × Nat)} {ms : List MapEntry} {i : Nat} {k : AV}, EntsOk ρ es ms → keyAt es i = some k → ∃ e, ms[i]? = some e ∧ conc ρ k = some e.key
  | [], _, _, _, _, h => by cases h
  | _ :: _, [], _, _, he, _ => he.elim
  | (k, v, n) :: es, e :: ms, 0, k', ⟨⟨h1, h2, h3⟩, he⟩, h => by cases h; exact ⟨e, rfl, h1⟩
  | (k, v, n) :: es, e :: ms, i + 1, k', ⟨_, he⟩, h => by
    obtain ⟨e', h1, h2⟩ := keyAt_ok (i := i) he h
    exact ⟨e', by simpa using h1, h2⟩
theorem setVal_ok {ρ : Map} {k v : AV} {X V : Value} (hk : conc ρ k = some X) (hv : conc ρ v = some V) : ∀ {es : List (AV × AV × Nat)} {ms : List MapEntry} {i : Nat}, EntsOk ρ es ms →
    EntsOk ρ (setVal es i k v) (ms.modify i fun e => { e with key := X, val := V })
  | [], [], i, _ => by cases i <;> trivial
  | [], _ :: _, _, he => he.elim
  | _ :: _, [], _, he => he.elim
  | (k', v', n) :: es, e :: ms, 0, ⟨⟨h1, h2, h3⟩, he⟩ => ⟨⟨hk, hv, h3⟩, he⟩
  | (k', v', n) :: es, e :: ms, i + 1, ⟨h, he⟩ => ⟨h, setVal_ok hk hv he⟩
theorem EntsOk.push {ρ : Map} {a : AV × AV × Nat} {e : MapEntry} (h : entOk ρ a e) : ∀ {es : List (AV × AV × Nat)} {ms : List MapEntry}, EntsOk ρ es ms → EntsOk ρ (es ++ [a]) (ms ++ [e])
  | [], [], _ => ⟨h, trivial⟩
  | [], _ :: _, he => he.elim
  | _ :: _, [], he => he.elim
  | _ :: _, _ :: _, ⟨h1, he⟩ => ⟨h1, EntsOk.push h he⟩
theorem EntsOk.erase {ρ : Map} : ∀ {es : List (AV × AV × Nat)} {ms : List MapEntry} {i : Nat}, EntsOk ρ es ms → EntsOk ρ (es.eraseIdx i) (ms.eraseIdx i)
  | [], [], _, _ => trivial
  | [], _ :: _, _, he => he.elim
  | _ :: _, [], _, he => he.elim
  | _ :: _, _ :: _, 0, ⟨_, he⟩ => he
  | _ :: _, _ :: _, i + 1, ⟨h, he⟩ => ⟨h, EntsOk.erase (i := i) he⟩
theorem setMap_ok {ρ : Map} {A : AW} {w : World} {b : Pos} {es es' : List (AV × AV × Nat)} {c c' : Nat} {L : Loc} {ms' : Array MapEntry} (hr : Rel ρ A w) (h : getMap A b = some (es, c)) (hL : ρ b = some L) (he : EntsOk ρ es' ms'.toList) :
    ∃ w', Rel ρ (setMap A b es' c') w' ∧ Goes ρ A w ρ (setMap A b es' c') w' ∧ (setObj L.r (.map ms' c')).run P w = .ok () w' := by
  have hb := getMap_some h
  obtain ⟨L', hL', hsh, m, hob, hent⟩ := hr.objs b _ hb
  rw [hL] at hL'; cases hL'
  have hlt : L.r < w.heap.size := by
    rw [Array.getElem?_eq_some_iff] at hob
    exact hob.1
  refine ⟨{ w with heap := w.heap.setIfInBounds L.r (.map ms' c') }, ?_⟩
  have hch := hr.change (w' := { w with heap := w.heap.setIfInBounds L.r (.map ms' c') }) (o' := .map es' c') hb hL rfl (fun k e => by cases e) (fun k e => by cases e)
    (fun r hne => by simp [Array.getElem?_setIfInBounds, Ne.symm hne])
    ⟨hsh, ms', by simp [Array.getElem?_setIfInBounds, hlt], he⟩
    (fun b2 k2 L2 _ hb2 hL2 hrr => by
      obtain ⟨L3, hL3, c, fz, hc, _⟩ := hr.objs b2 _ hb2
      rw [hL2] at hL3; cases hL3
      rw [hrr, hob] at hc; cases hc) rfl rfl rfl (by simp)
  exact ⟨hch.1, hch.2, MapKept.run_setObj_map _ hob⟩

theorem update_ok {o : Oper} {t kt e : TypeId} {m k x : Operand} (hT : TabOk P K) (hu : K.underlying t = some (.map kt e)) (ho : o.op = .mapUpdate t m k x) : UOk P o (mUpdate K kt (compLd m) (compLd k) (compLd x)) := by
  intro ρ A w tm a A' hg hr ht h
  unfold mUpdate at h
  split at h
  · rename_i mv kv xv hm hk hx
    have hm := ld_ok hg ht hm
    have hk := ld_ok hg ht hk
    have hx := ld_ok hg ht hx
    unfold updateA at h
    split at h
    · cases h
    · rename_i hkey
      split at h
      · split at h
        · rename_i b es c hq
          obtain ⟨L, ms, hL, hob, hent, hget⟩ := map_obj (P := P) hr hq
          have hm' : a.eval m = .map (some L.r) := by simp only [conc, hL, Option.map_some, Option.some.injEq] at hm; exact hm.symm
          have hck := keyA_ok (w := w) hT false 20 kt kv _ hk hkey 10000 (by omega)
          split at h
          · rename_i j v' hfa
            obtain ⟨r', hf, hfr⟩ := findKey_ok hT hkey hr hk hent hfa
            cases r' with
            | none => exact hf.elim
            | some p =>
              obtain ⟨j', V⟩ := p
              obtain ⟨rfl, hV⟩ := hf
              split at h
              · rename_i hsame
                cases h
                unfold keySame at hsame
                split at hsame
                · rename_i k' hk'
                  simp only [Bool.and_eq_true] at hsame
                  have := aveq_ok hsame.1
                  subst this
                  obtain ⟨ee, hee, hke⟩ := keyAt_ok hent hk'
                  rw [hk] at hke
                  have hsb := plainV_ok 20 hsame.2 hk 10000 (by omega)
                  have hen := setVal_ok (i := j) hk hx hent
                  obtain ⟨w', h1, h2, h3⟩ := setMap_ok (P := P) (c' := c) (ms' := ms.modify j fun e => { e with key := a.eval k, val := a.eval x }) hr hq hL (by simpa using hen)
                  refine ⟨ρ, w', h1, h2, ?_⟩
                  have hee' : ms[j]? = some ee := by simpa using hee
                  simp only [Option.some.injEq] at hke
                  simp only [execOp, ho, Instr.mapUpdate, hm', Sem.run_bind, run_und hT hu, Result.andThen_ok, hget, hck, hfr]
                  simp only [hee', Option.map_some, Option.getD_some, ← hke, Instr.keyThatStays, hsb, if_true, Sem.run_pure, Result.andThen_ok, h3]
                · cases hsame
              · cases h
          · rename_i hfa
            cases h
            obtain ⟨r', hf, hfr⟩ := findKey_ok hT hkey hr hk hent hfa
            cases r' with
            | some p => exact hf.elim
            | none =>
              obtain ⟨w', h1, h2, h3⟩ := setMap_ok (P := P) (c' := c + 1) (ms' := ms.push { key := a.eval k, val := a.eval x, born := c }) hr hq hL (by simpa using EntsOk.push (a := (kv, xv, c)) ⟨hk, hx, rfl⟩ hent)
              refine ⟨ρ, w', h1, h2, ?_⟩
              simp only [execOp, ho, Instr.mapUpdate, hm', Sem.run_bind, run_und hT hu, Result.andThen_ok, hget, hck, hfr, h3, Sem.run_pure]
          · cases h
        · cases h
      · cases h
  · cases h


theorem mapUpdate_same {a : Operand → Value} {o o' : Oper} {t : TypeId} {m k x : Operand} (ho : o.op = .insert t m k x) (ho' : o'.op = .mapUpdate t m k x) : execOp a o = execOp a o' := by
  simp only [execOp, ho, ho']

theorem builtin_op {o : Oper} {c : Call} {b : Builtin} (ho : o.op = .call c) (hc : c.callee = .builtin b) {a : Act} {w w' : World} {n : Next}
    (h : (builtin b c.argTypes o.type (c.args.map fun | .const _ => true | _ => false) (c.args.map a.eval)).run P w = .ok n w') : (execOp a.eval o).run P w = .ok n w' := by
  simp only [execOp, ho, resolve, hc, Sem.run_bind, Sem.run_pure, Result.andThen_ok, invoke]
  exact h
theorem args_of {c : Call} {l : List Operand} (h : c.args.toList = l) (f : Operand → Value) : c.args.map f = (l.map f).toArray := by
  apply Array.ext'
  simp [h]
theorem type0 {c : Call} {t : TypeId} {l : List TypeId} (h : c.argTypes.toList = t :: l) : c.argTypes[0]? = some t := by
  rw [← Array.getElem?_toList, h]; rfl

theorem delete_ok {o : Oper} {c : Call} {t kt e : TypeId} {ts : List TypeId} {m k : Operand} (hT : TabOk P K) (hu : K.underlying t = some (.map kt e)) (ho : o.op = .call c) (hc : c.callee = .builtin .delete) (hargs : c.args.toList = [m, k]) (hat : c.argTypes.toList = t :: ts) : GOk P o (mDelete K kt (compLd m) (compLd k)) := by
  have ha0 := type0 hat
  intro ρ A w tm a v A' hg hr ht h
  have hev := args_of hargs a.eval
  have hsuf : ∀ {w'}, (Builtin.delete_ c.argTypes o.type #[a.eval m, a.eval k]).run P w = .ok (.tuple #[]) w' → (execOp a.eval o).run P w = .ok (.value (.tuple #[])) w' := by
    intro w' h
    refine builtin_op ho hc ?_
    rw [hev]
    simp only [List.map_cons, List.map_nil, builtin, Sem.run_bind, h, Result.andThen_ok, Sem.run_pure]
  unfold mDelete at h
  split at h
  · rename_i mv kv hm hk
    have hm := ld_ok hg ht hm
    have hk := ld_ok hg ht hk
    split at h
    · rename_i A1 hd
      cases h
      unfold deleteA at hd
      split at hd
      · cases hd
      · rename_i hkey
        split at hd
        · cases hd
          have hm' : a.eval m = .map none := (Option.some.inj hm).symm
          have hck := keyA_ok (w := w) hT true 20 kt kv _ hk hkey 10000 (by omega)
          refine ⟨ρ, .tuple #[], w, rfl, hr, .refl ρ A w, hsuf ?_⟩
          simp [Builtin.delete_, ha0, hm', run_und hT hu, hck]
        · split at hd
          · rename_i b es cl hq
            obtain ⟨L, ms, hL, hob, hent, hget⟩ := map_obj (P := P) hr hq
            have hm' : a.eval m = .map (some L.r) := by simp only [conc, hL, Option.map_some, Option.some.injEq] at hm; exact hm.symm
            have hck := keyA_ok (w := w) hT ms.isEmpty 20 kt kv _ hk hkey 10000 (by omega)
            split at hd
            · rename_i j v' hfa
              cases hd
              obtain ⟨r', hf, hfr⟩ := findKey_ok hT hkey hr hk hent hfa
              cases r' with
              | none => exact hf.elim
              | some p =>
                obtain ⟨j', V⟩ := p
                obtain ⟨rfl, hV⟩ := hf
                obtain ⟨w', h1, h2, h3⟩ := setMap_ok (P := P) (c' := cl) (ms' := ms.eraseIdxIfInBounds j) hr hq hL (by
                  have := EntsOk.erase (i := j) hent
                  simpa using this)
                refine ⟨ρ, .tuple #[], w', rfl, h1, h2, hsuf ?_⟩
                simp [Builtin.delete_, ha0, hm', run_und hT hu, hck, hget, hfr, h3]
            · rename_i hfa
              cases hd
              obtain ⟨r', hf, hfr⟩ := findKey_ok hT hkey hr hk hent hfa
              cases r' with
              | some p => exact hf.elim
              | none =>
                obtain ⟨w', h1, h2, h3⟩ := setMap_ok (P := P) (c' := cl) (ms' := ms) hr hq hL hent
                refine ⟨ρ, .tuple #[], w', rfl, h1, h2, hsuf ?_⟩
                simp [Builtin.delete_, ha0, hm', run_und hT hu, hck, hget, hfr, h3]
            · cases hd
          · cases hd
        · cases hd
    · cases h
  · cases h

theorem entsLen {ρ : Map} : ∀ {es : List (AV × AV × Nat)} {ms : List MapEntry}, EntsOk ρ es ms → es.length = ms.length
  | [], [], _ => rfl
  | [], _ :: _, he => he.elim
  | _ :: _, [], he => he.elim
  | _ :: _, _ :: _, ⟨_, he⟩ => by simp only [List.length_cons, entsLen he]
theorem len_ok {o : Oper} {c : Call} {t : TypeId} {d : TypeDesc} {ts : List TypeId} {x : Operand} (hT : TabOk P K) (hu : K.underlying t = some d) (ho : o.op = .call c) (hc : c.callee = .builtin .len) (hargs : c.args.toList = [x]) (hat : c.argTypes.toList = t :: ts) : QOk P o (mLen d (compLd x)) := by
  have ha0 := type0 hat
  intro ρ A w tm a v hg hr ht h
  have hev := args_of hargs a.eval
  have hsuf : ∀ {r}, (Builtin.len_ c.argTypes o.type #[a.eval x]).run P w = .ok r w → (execOp a.eval o).run P w = .ok (.value r) w := by
    intro r h
    refine builtin_op ho hc ?_
    rw [hev]
    simp only [List.map_cons, List.map_nil, builtin, Sem.run_bind, h, Result.andThen_ok, Sem.run_pure]
  unfold mLen at h
  split at h
  · rename_i xv hx
    have hx := ld_ok hg ht hx
    unfold lenD at h
    split at h
    · split at h
      · rename_i l
        cases h
        obtain ⟨_, e⟩ := conc_s hx
        refine ⟨_, rfl, hsuf ?_⟩
        simp [Builtin.len_, ha0, run_und hT hu, e, goInt, strOf_size]
      · cases h
    · split at h
      · cases h
        have e := (Option.some.inj hx).symm
        refine ⟨_, rfl, hsuf ?_⟩
        simp [Builtin.len_, ha0, run_und hT hu, e, goInt]
      · cases h
        obtain ⟨L, _, e⟩ := Option.map_eq_some_iff.1 hx
        refine ⟨_, rfl, hsuf ?_⟩
        simp [Builtin.len_, ha0, run_und hT hu, ← e, goInt]
      · cases h
        obtain ⟨L, _, e⟩ := Option.map_eq_some_iff.1 hx
        refine ⟨_, rfl, hsuf ?_⟩
        simp [Builtin.len_, ha0, run_und hT hu, ← e, goInt]
      · cases h
    · split at h
      · cases h
        have e := (Option.some.inj hx).symm
        refine ⟨_, rfl, hsuf ?_⟩
        simp [Builtin.len_, ha0, run_und hT hu, e, goInt]
      · split at h
        · rename_i b es cl hq
          cases h
          obtain ⟨L, ms, hL, hob, hent, hget⟩ := map_obj (P := P) hr hq
          have hm' : a.eval x = .map (some L.r) := by simp only [conc, hL, Option.map_some, Option.some.injEq] at hx; exact hx.symm
          refine ⟨_, rfl, hsuf ?_⟩
          have := entsLen hent
          simp only [Array.length_toList] at this
          simp [Builtin.len_, ha0, run_und hT hu, hm', hget, goInt, this]
        · cases h
      · cases h
    · cases h
  · cases h
theorem cap_ok {o : Oper} {c : Call} {t e : TypeId} {ts : List TypeId} {x : Operand} (hT : TabOk P K) (hu : K.underlying t = some (.slice e)) (ho : o.op = .call c) (hc : c.callee = .builtin .cap) (hargs : c.args.toList = [x]) (hat : c.argTypes.toList = t :: ts) : QOk P o (mCap (compLd x)) := by
  have ha0 := type0 hat
  intro ρ A w tm a v hg hr ht h
  have hev := args_of hargs a.eval
  have hsuf : ∀ {r}, (Builtin.cap_ c.argTypes o.type #[a.eval x]).run P w = .ok r w → (execOp a.eval o).run P w = .ok (.value r) w := by
    intro r h
    refine builtin_op ho hc ?_
    rw [hev]
    simp only [List.map_cons, List.map_nil, builtin, Sem.run_bind, h, Result.andThen_ok, Sem.run_pure]
  unfold mCap at h
  split at h
  · rename_i hx
    have hx := ld_ok hg ht hx
    cases h
    have e := (Option.some.inj hx).symm
    refine ⟨_, rfl, hsuf ?_⟩
    simp [Builtin.cap_, ha0, run_und hT hu, e, goInt]
  · rename_i hx
    have hx := ld_ok hg ht hx
    cases h
    obtain ⟨L, _, e⟩ := Option.map_eq_some_iff.1 hx
    refine ⟨_, rfl, hsuf ?_⟩
    simp [Builtin.cap_, ha0, run_und hT hu, ← e, goInt]
  · cases h

theorem minI_ok {ρ : Map} {x y z : AV} {X Y : Value} {w : World} (hx : conc ρ x = some X) (hy : conc ρ y = some Y) (h : minI x y = some z) : ∃ Z, conc ρ z = some Z ∧ (Builtin.min2 X Y).run P w = .ok Z w := by
  unfold minI at h
  split at h
  · split at h
    · rename_i hk
      have := ikEq_iff.1 hk
      subst this
      cases hx; cases hy
      split at h
      · rename_i hl
        cases h
        rw [intLt_spec] at hl
        exact ⟨_, rfl, by simp [Builtin.min2, of_decide_eq_true hl]⟩
      · rename_i hl
        cases h
        rw [intLt_spec] at hl
        exact ⟨_, rfl, by simp [Builtin.min2, of_decide_eq_false hl]⟩
    · cases h
  · cases h
theorem maxI_ok {ρ : Map} {x y z : AV} {X Y : Value} {w : World} (hx : conc ρ x = some X) (hy : conc ρ y = some Y) (h : maxI x y = some z) : ∃ Z, conc ρ z = some Z ∧ (Builtin.max2 X Y).run P w = .ok Z w := by
  unfold maxI at h
  split at h
  · split at h
    · rename_i hk
      have := ikEq_iff.1 hk
      subst this
      cases hx; cases hy
      split at h
      · rename_i hl
        cases h
        rw [intLt_spec] at hl
        exact ⟨_, rfl, by simp [Builtin.max2, of_decide_eq_true hl]⟩
      · rename_i hl
        cases h
        rw [intLt_spec] at hl
        exact ⟨_, rfl, by simp [Builtin.max2, of_decide_eq_false hl]⟩
    · cases h
  · cases h
theorem foldMM_ok {ρ : Map} {w : World} {f : AV → AV → Option AV} {g : Value → Value → Sem Value} (hf : ∀ x y z X Y, conc ρ x = some X → conc ρ y = some Y → f x y = some z → ∃ Z, conc ρ z = some Z ∧ (g X Y).run P w = .ok Z w) :
    ∀ {l : List AV} {us : List Value} {x z : AV} {X : Value}, concL ρ l = some us → conc ρ x = some X → foldMM f x l = some z → ∃ Z, conc ρ z = some Z ∧ (us.foldlM g X).run P w = .ok Z w
  | [], us, x, z, X, hl, hx, h => by cases hl; cases h; exact ⟨X, hx, rfl⟩
  | y :: l, us, x, z, X, hl, hx, h => by
    obtain ⟨Y, us', hY, hus, rfl⟩ := concL_cons hl
    simp only [foldMM] at h
    split at h
    · rename_i q hq
      obtain ⟨Q, hQ, hr⟩ := hf _ _ _ _ _ hx hY hq
      obtain ⟨Z, hZ, hr'⟩ := foldMM_ok hf hus hQ h
      exact ⟨Z, hZ, by simp only [List.foldlM_cons, Sem.run_bind, hr, Result.andThen_ok, hr']⟩
    · cases h
theorem min_ok {o : Oper} {c : Call} {x : Operand} {l : List Operand} (ho : o.op = .call c) (hc : c.callee = .builtin .min) (hargs : c.args.toList = x :: l) : QOk P o (mMinMax minI (compLd x) (compLds l)) := by
  intro ρ A w tm a v hg hr ht h
  have hev := args_of hargs a.eval
  unfold mMinMax at h
  split at h
  · rename_i k n m hx hl
    obtain ⟨Z, hZ, hrun⟩ := foldMM_ok (P := P) (w := w) (fun x y z X Y => minI_ok) (lds_ok hg ht hl) (ld_ok hg ht hx) h
    refine ⟨Z, hZ, builtin_op ho hc ?_⟩
    rw [hev]
    simp only [List.map_cons, builtin, Builtin.min_, Sem.run_bind, hrun, Result.andThen_ok, Sem.run_pure]
  · cases h
theorem max_ok {o : Oper} {c : Call} {x : Operand} {l : List Operand} (ho : o.op = .call c) (hc : c.callee = .builtin .max) (hargs : c.args.toList = x :: l) : QOk P o (mMinMax maxI (compLd x) (compLds l)) := by
  intro ρ A w tm a v hg hr ht h
  have hev := args_of hargs a.eval
  unfold mMinMax at h
  split at h
  · rename_i k n m hx hl
    obtain ⟨Z, hZ, hrun⟩ := foldMM_ok (P := P) (w := w) (fun x y z X Y => maxI_ok) (lds_ok hg ht hl) (ld_ok hg ht hx) h
    refine ⟨Z, hZ, builtin_op ho hc ?_⟩
    rw [hev]
    simp only [List.map_cons, builtin, Builtin.max_, Sem.run_bind, hrun, Result.andThen_ok, Sem.run_pure]
  · cases h
theorem run_sliceData_nil (w : World) (ts : Array TypeId) (t : TypeId) (n c : Nat) : (Builtin.unsafeSliceData_ ts t #[.slice none n c]).run P w = .ok (.pointer none) w := rfl
theorem run_sliceData_some (w : World) (ts : Array TypeId) (t : TypeId) (a : Addr) {n c : Nat} (h : c ≠ 0) : (Builtin.unsafeSliceData_ ts t #[.slice (some a) n c]).run P w = .ok (.pointer (some a)) w := by
  show (if c ≠ 0 then pure (.pointer (some a)) else _ : Sem Value).run P w = _
  rw [if_pos h]; rfl
theorem sliceData_ok {o : Oper} {c : Call} {x : Operand} (ho : o.op = .call c) (hc : c.callee = .builtin .unsafeSliceData) (hargs : c.args.toList = [x]) : QOk P o (mSliceData (compLd x)) := by
  intro ρ A w tm a v hg hr ht h
  have hev := args_of hargs a.eval
  have hsuf : ∀ {r}, (Builtin.unsafeSliceData_ c.argTypes o.type #[a.eval x]).run P w = .ok r w → (execOp a.eval o).run P w = .ok (.value r) w := by
    intro r h
    refine builtin_op ho hc ?_
    rw [hev]
    simp only [List.map_cons, List.map_nil, builtin, Sem.run_bind, h, Result.andThen_ok, Sem.run_pure]
  unfold mSliceData at h
  split at h
  · rename_i xv hx
    have hx := ld_ok hg ht hx
    unfold sliceData at h
    split at h
    · cases h
      have e := (Option.some.inj hx).symm
      exact ⟨_, rfl, hsuf (by rw [e]; exact run_sliceData_nil ..)⟩
    · cases h
      obtain ⟨L, hL, e⟩ := Option.map_eq_some_iff.1 hx
      exact ⟨_, by simp only [conc, hL, Option.map_some]; rfl, hsuf (by rw [← e]; exact run_sliceData_some _ _ _ _ (by omega))⟩
    · split at h
      · rename_i b o' n s _ _ k hk
        split at h
        · rename_i hle
          cases h
          obtain ⟨L, hL, e⟩ := Option.map_eq_some_iff.1 hx
          obtain ⟨L', hL', c', fz, hc', h1, h2, _⟩ := hr.objs _ _ (getBlk_some hk)
          rw [hL] at hL'; cases hL'
          have hle := ble_iff.1 hle
          simp only [Nat.add_eq] at hle
          have hd : (L.lim - (L.sh + o')) / s.succ ≠ 0 := by
            have : 0 < (L.lim - (L.sh + o')) / (s + 1) := Nat.div_pos (by omega) (by omega)
            simp only [Nat.succ_eq_add_one]; omega
          exact ⟨_, by simp only [conc, hL, Option.map_some]; rfl, hsuf (by rw [← e]; exact run_sliceData_some _ _ _ _ hd)⟩
        · cases h
      · cases h
    · cases h
  · cases h
end Go.Proofs.YtcaagfgopmhilaaGreatDoor.Vai
