/- A part of the proof that the law of this seat holds: P9; no condition. -/
import Derived.Test.YtcaagfgopmhilaaGreatDoorP8
import Derived.Laws.StructEq
namespace Go.Proofs.YtcaagfgopmhilaaGreatDoor.Vai
variable {P : Program} {K : Tab}
/-! ### equality -/
theorem posEq_ne {b b' : Pos} (h : posEq b b' = false) : b ≠ b' := fun e => by rw [posEq_iff.2 e] at h; cases h

/-- two pointers to blocks of the world -/
theorem eqPtr_ok {ρ : Map} {A : AW} {w : World} {e : TypeId} {b b' : Pos} {o o' : Nat} {r : Bool} {L L' : Loc} (hT : TabOk P K) (hr : Rel ρ A w) (hL : ρ b = some L) (hL' : ρ b' = some L') (h : eqPtr K A e b o b' o' = some r) :
    (do if (← sizeOf e) ≠ 0 then sameAddr ⟨L.r, L.sh + o, none⟩ ⟨L'.r, L'.sh + o', none⟩ else if (⟨L.r, L.sh + o, none⟩ : Addr) == ⟨L'.r, L'.sh + o', none⟩ then pure true else pure ((← choose .zeroSizeEq) = 1) : Sem Bool).run P w = .ok r w := by
  unfold eqPtr at h
  split at h
  case h_2 => cases h
  rename_i n hn
  have hsz := run_size hT hn w
  simp only [Sem.run_bind, hsz, Result.andThen_ok, ne_eq, Nat.succ_ne_zero, not_false_eq_true, if_true]
  split at h
  · rename_i he
    cases h
    have := posEq_iff.1 he
    subst this
    rw [hL] at hL'; cases hL'
    simp only [sameAddr, beq_self_eq_true, if_true, Sem.run_pure, Result.ok.injEq, and_true]
    rw [Bool.eq_iff_iff, beq_iff_eq, beq_iff]
    constructor
    · intro h; injection h with _ h _; omega
    · intro h; rw [h]
  · rename_i he
    have hne := posEq_ne he
    split at h
    · rename_i k k' hk hk'
      split at h
      · rename_i hb
        cases h
        simp only [Bool.and_eq_true, Bool.not_eq_true'] at hb
        have h1 := getBlk_some hk
        have h2 := getBlk_some hk'
        obtain ⟨M, hM, c, fz, g1, g2, g3, g4, g5⟩ := hr.objs b _ h1
        rw [hL] at hM; cases hM
        obtain ⟨M, hM, c', fz', g1', g2', g3', g4', g5'⟩ := hr.objs b' _ h2
        rw [hL'] at hM; cases hM
        have hfz := (g4 hb.1.1.1).1
        have hfz' := (g4' hb.1.1.2).1
        subst hfz hfz'
        have ho := blt_iff.1 hb.1.2
        have ho' := blt_iff.1 hb.2
        by_cases hrr : L.r = L'.r
        · rcases hr.sep b b' _ _ hne h1 h2 (by simp [writable, hb.1.1.1]) L L' hL hL' with hap | ⟨_, _, _, hap⟩
          · exact absurd hrr hap
          · have hd : L.sh + o ≠ L'.sh + o' := by
              intro e
              refine hap (L.sh + o) ⟨?_, ?_⟩
              · simp only [Has]; constructor
                · omega
                · split <;> omega
              · simp only [Has]; constructor
                · omega
                · split <;> omega
            simp only [sameAddr, hrr, beq_self_eq_true, if_true, Sem.run_pure, Result.ok.injEq, and_true]
            simp [hd]
        · have hbe : (L.r == L'.r) = false := by simpa using hrr
          have f1 : ∀ n, w.frozen? ⟨L.r, n, none⟩ = false := fun n => by simp [World.frozen?, g1]
          have f2 : ∀ n, w.frozen? ⟨L'.r, n, none⟩ = false := fun n => by simp [World.frozen?, g1']
          have s1 : w.shape? L.r = some (k.el, c.size) := by simp [World.shape?, g1]
          have s2 : w.shape? L'.r = some (k'.el, c'.size) := by simp [World.shape?, g1']
          simp [sameAddr, hbe, f1, f2, noView, viewAt, s1, s2, mayBeOne, stringish]
      · cases h
    · cases h

theorem eqIn_run {t : TypeId} {d : TypeDesc} {w : World} {X Y : Value} {r : Bool} {D : Nat} (h : (underlying t).run P w = .ok d w)
    (h2 : ∀ F : TypeDesc → Sem Bool, (Op.equalIn (D + 1) t X Y) = (underlying t >>= F) → (F d).run P w = .ok r w) : (Op.equalIn (D + 1) t X Y).run P w = .ok r w := by
  have := h2 _ rfl
  rw [show Op.equalIn (D + 1) t X Y = (underlying t >>= _) from rfl, Sem.run_bind, h, Result.andThen_ok]
  exact this
theorem eqAtom_ok {ρ : Map} {A : AW} {w : World} {t : TypeId} {d : TypeDesc} {x y : AV} {X Y : Value} {r : Bool} (hT : TabOk P K) (hd : K.underlying t = some d) (hr : Rel ρ A w) (hx : conc ρ x = some X) (hy : conc ρ y = some Y)
    (h : eqAtom K A d x y = some r) (D : Nat) : (Op.equalIn (D + 1) t X Y).run P w = .ok r w := by
  have hu := run_und hT hd w
  have hgo : ∀ (F : TypeDesc → Sem Bool), (Op.equalIn (D + 1) t X Y) = (underlying t >>= F) → (Op.equalIn (D + 1) t X Y).run P w = (F d).run P w := fun F e => by
    rw [e, Sem.run_bind, hu, Result.andThen_ok]
  rw [hgo _ rfl]
  unfold eqAtom at h
  split at h
  · cases h; cases hx; cases hy; rw [boolEq_spec]; rfl
  · split at h
    · rename_i hk
      cases h; cases hx; cases hy
      have := ikEq_iff.1 hk
      subst this
      rw [intEq_spec]
      simp only [if_true]; rfl
    · cases h
  · cases h
    obtain ⟨b1, rfl⟩ := conc_s hx
    obtain ⟨b2, rfl⟩ := conc_s hy
    rw [strEq_spec b1 b2, ← beq_toListBytes]; rfl
  · cases h; cases hx; cases hy; rfl
  · cases h; cases hx; obtain ⟨L, _, rfl⟩ := conc_p hy; rfl
  · cases h; cases hy; obtain ⟨L, _, rfl⟩ := conc_p hx; rfl
  · obtain ⟨L, hL, rfl⟩ := conc_p hx
    obtain ⟨L', hL', rfl⟩ := conc_p hy
    exact eqPtr_ok hT hr hL hL' h
  · cases h; cases hx; cases hy; rfl
  · cases h; cases hx
    simp only [conc] at hy
    split at hy <;> cases hy
    rfl
  · cases h; cases hy
    simp only [conc] at hx
    split at hx <;> cases hx
    rfl
  · cases h; cases hx; cases hy; rfl
  · cases h; cases hx; obtain ⟨L, _, rfl⟩ := Option.map_eq_some_iff.1 hy; rfl
  · cases h; cases hx; obtain ⟨L, _, rfl⟩ := Option.map_eq_some_iff.1 hy; rfl
  · cases h; cases hy; obtain ⟨L, _, rfl⟩ := Option.map_eq_some_iff.1 hx; rfl
  · cases h; cases hy; obtain ⟨L, _, rfl⟩ := Option.map_eq_some_iff.1 hx; rfl
  · cases h; cases hx; cases hy; rfl
  · cases h; cases hx; obtain ⟨L, _, rfl⟩ := Option.map_eq_some_iff.1 hy; rfl
  · cases h; cases hy; obtain ⟨L, _, rfl⟩ := Option.map_eq_some_iff.1 hx; rfl
  · cases h; cases hx; cases hy; rfl
  · cases h; cases hx
    simp only [conc] at hy
    split at hy <;> cases hy
    rfl
  · cases h; cases hy
    simp only [conc] at hx
    split at hx <;> cases hx
    rfl
  · cases h

theorem eqFields_ok {ρ : Map} {w : World} {rec : TypeId → AV → AV → Option Bool} {xs ys : List AV} {us vs : List Value} {D : Nat} (hT : TabOk P K) (hx : concL ρ xs = some us) (hy : concL ρ ys = some vs)
    (hrec : ∀ t x y X Y r, conc ρ x = some X → conc ρ y = some Y → rec t x y = some r → (Op.equalIn D t X Y).run P w = .ok r w) : ∀ {fs : List Field} {r : Bool}, eqFields K rec xs ys fs = some r →
    (Op.eqFields D us.toArray vs.toArray fs).run P w = .ok r w
  | [], r, h => by cases h; rfl
  | f :: fs, r, h => by
    simp only [eqFields] at h
    split at h
    · rename_i s hn hs
      have hne : f.name ≠ "_" := by simpa using hn
      split at h
      · rename_i x y hpx hpy
        obtain ⟨X, hX, hrx⟩ := partA_ok (sh_ok hT hs) hx hpx w
        obtain ⟨Y, hY, hry⟩ := partA_ok (sh_ok hT hs) hy hpy w
        simp only [Op.eqFields, if_pos hne, Sem.run_bind, hrx, hry, Result.andThen_ok]
        split at h
        · rename_i hh
          rw [hrec _ _ _ _ _ _ hX hY hh]
          simp only [Result.andThen_ok, Bool.not_true, Bool.false_eq_true, if_false]
          exact eqFields_ok hT hx hy hrec h
        · rename_i hh
          rw [hrec _ _ _ _ _ _ hX hY h]
          cases r with
          | true => exact absurd h (hh)
          | false => rfl
      · cases h
    · cases h

theorem eqElems_ok {ρ : Map} {w : World} {e : TypeId} {rec : AV → AV → Option Bool} {D : Nat} (ha : ∀ w, (isAgg e).run P w = .ok false w)
    (hrec : ∀ x y X Y r, conc ρ x = some X → conc ρ y = some Y → rec x y = some r → (Op.equalIn D e X Y).run P w = .ok r w) (xa ya : Array Value) : ∀ {xs ys : List AV} {us vs : List Value} {r : Bool} (k : Nat),
    concL ρ xs = some us → concL ρ ys = some vs → (∀ j, xa[k + j]? = us[j]?) → (∀ j, ya[k + j]? = vs[j]?) → eqElems rec xs ys = some r →
    ((forIn (List.range' k us.length) ((none, ()) : Option Bool × Unit) fun i __s => do
              let __do_lift ← part e xa (i * 1)
              let __do_lift_1 ← part e ya (i * 1)
              let __do_lift ← Op.equalIn D e __do_lift __do_lift_1
              if (!__do_lift) = true then pure (ForInStep.done (some false, ())) else pure (ForInStep.yield (none, ()))) : Sem (Option Bool × Unit)).run P w = .ok (if r then none else some false, ()) w
  | [], [], us, vs, r, k, hx, hy, _, _, h => by cases h; cases hx; rfl
  | [], _ :: _, us, vs, r, k, hx, hy, _, _, h => by cases h
  | _ :: _, [], us, vs, r, k, hx, hy, _, _, h => by cases h
  | x :: xs, y :: ys, us, vs, r, k, hx, hy, hxa, hya, h => by
    obtain ⟨X, us', hX, hus, rfl⟩ := concL_cons hx
    obtain ⟨Y, vs', hY, hvs, rfl⟩ := concL_cons hy
    have h1 : xa[k]? = some X := by simpa using hxa 0
    have h2 : ya[k]? = some Y := by simpa using hya 0
    have p1 : (part e xa (k * 1)).run P w = .ok X w := by simp [part, ha w, h1]
    have p2 : (part e ya (k * 1)).run P w = .ok Y w := by simp [part, ha w, h2]
    simp only [List.length_cons, List.range'_succ, List.forIn_cons, Sem.run_bind, p1, p2, Result.andThen_ok]
    simp only [eqElems] at h
    split at h
    · rename_i hh
      rw [hrec _ _ _ _ _ hX hY hh]
      simp only [Result.andThen_ok, Bool.not_true, Bool.false_eq_true, if_false, Sem.run_pure]
      exact eqElems_ok ha hrec xa ya (k + 1) hus hvs (fun j => by have := hxa (j + 1); simpa [Nat.add_assoc, Nat.add_comm 1] using this) (fun j => by have := hya (j + 1); simpa [Nat.add_assoc, Nat.add_comm 1] using this) h
    · rename_i hh
      rw [hrec _ _ _ _ _ hX hY h]
      cases r with
      | true => exact absurd h hh
      | false => rfl

theorem conc_agg {ρ : Map} {l : List AV} {x : Value} (h : conc ρ (.agg l) = some x) : ∃ u, concL ρ l = some u ∧ x = .agg u.toArray := by
  simp only [conc] at h
  split at h
  · rename_i u hu; exact ⟨u, hu, (Option.some.inj h).symm⟩
  · cases h
theorem eqA_ok {ρ : Map} {A : AW} {w : World} (hT : TabOk P K) (hr : Rel ρ A w) : ∀ (d : Nat) (t : TypeId) (x y : AV) (X Y : Value) (r : Bool), conc ρ x = some X → conc ρ y = some Y → eqA K A d t x y = some r →
    ∀ D, d ≤ D → (Op.equalIn D t X Y).run P w = .ok r w
  | 0, t, x, y, X, Y, r, _, _, h => by cases h
  | d + 1, t, x, y, X, Y, r, hx, hy, h => by
    intro D hD
    obtain ⟨D, rfl⟩ : ∃ E, D = E + 1 := ⟨D - 1, by omega⟩
    simp only [eqA] at h
    split at h
    · cases h
    · rename_i fs hfs
      split at h
      · rename_i xs ys
        split at h
        · cases h
        · cases h
        · rename_i hst
          obtain ⟨us, hus, rfl⟩ := conc_agg hx
          obtain ⟨vs, hvs, rfl⟩ := conc_agg hy
          have hd := hT.ud _ _ hfs
          have hfo : P.fieldsOf t = fs := by simp [Program.fieldsOf, hd]
          rw [run_equalIn_struct w D t us.toArray vs.toArray (by rw [hfo]; exact hd) (hT.st _ _ hst), hfo]
          exact eqFields_ok hT hus hvs (fun t x y X Y r h1 h2 h3 => eqA_ok hT hr d t x y X Y r h1 h2 h3 D (by omega)) h
      · cases h
    · rename_i n e he
      split at h
      · rename_i xs ys hag hsz
        split at h
        · rename_i hb
          simp only [Bool.and_eq_true, beq_iff] at hb
          obtain ⟨us, hus, rfl⟩ := conc_agg hx
          obtain ⟨vs, hvs, rfl⟩ := conc_agg hy
          have hlen : us.length = n := by rw [concL_length hus]; exact hb.1
          have := eqElems_ok (P := P) (D := D) (run_isAgg hT hag) (fun x y X Y r h1 h2 h3 => eqA_ok hT hr d e x y X Y r h1 h2 h3 D (by omega)) us.toArray vs.toArray 0 hus hvs (by simp) (by simp) h
          simp only [Op.equalIn, Sem.run_bind, run_und hT he, Result.andThen_ok, run_size hT hsz]
          rw [hlen] at this
          simp only [Std.Legacy.Range.forIn_eq_forIn_range', Std.Legacy.Range.size]
          simp only [Nat.sub_zero, Nat.add_sub_cancel, Nat.div_one]
          rw [this]
          cases r <;> rfl
        · cases h
      · cases h
    · rename_i u hn1 hn2 hu
      exact eqAtom_ok hT hu hr hx hy h D
end Go.Proofs.YtcaagfgopmhilaaGreatDoor.Vai
