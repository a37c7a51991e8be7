/- A part of the proof that the law of this seat holds: P5; no condition. -/
import Derived.Test.YtcaagfgopmhilaaGreatDoorP4
namespace Go.Proofs.YtcaagfgopmhilaaGreatDoor.Vai
variable {P : Program} {K : Tab}
/-! ### cells of aggregates -/
theorem putCells_get : ∀ (l : List AV) (o : Nat) (c : T AV) (i : Nat), (putCells o l c).get (pos i) = if o ≤ i ∧ i < o + l.length then l[i - o]? else c.get (pos i)
  | [], o, c, i => by simp [putCells]; intro h h'; omega
  | v :: l, o, c, i => by
    rw [putCells, putCells_get l (o + 1) (c.set (pos o) v) i]
    by_cases h : i = o
    · subst h
      rw [if_neg (by omega), if_pos (by simp only [List.length_cons]; omega), T.get_set_eq]
      simp
    · rw [T.get_set_ne _ _ _ _ (pos_ne h)]
      by_cases h1 : o + 1 ≤ i ∧ i < o + 1 + l.length
      · rw [if_pos h1, if_pos (by simp; omega)]
        have : i - o = (i - (o + 1)) + 1 := by omega
        rw [this, List.getElem?_cons_succ]
      · rw [if_neg h1, if_neg (by simp; omega)]

theorem allCells_get : ∀ {l : List AV} {i : Nat} {v : AV}, allCells l = true → l[i]? = some v → isCell v = true
  | [], _, _, _, h => by simp at h
  | a :: l, i, v, hc, h => by
    simp only [allCells] at hc
    split at hc
    · rename_i ha
      cases i with
      | zero => simp at h; subst h; exact ha
      | succ i => exact allCells_get hc (by simpa using h)
    · cases hc
theorem concL_getElem {ρ : Map} : ∀ {l : List AV} {u : List Value}, concL ρ l = some u → ∀ {i : Nat} {v : AV}, l[i]? = some v → ∃ x, conc ρ v = some x ∧ u[i]? = some x
  | [], _, _, _, _, h => by simp at h
  | a :: l, u, e, i, v, h => by
    obtain ⟨x, m, hx, hm, rfl⟩ := concL_cons e
    cases i with
    | zero => simp at h; subst h; exact ⟨x, hx, rfl⟩
    | succ i =>
      obtain ⟨y, hy, hv⟩ := concL_getElem hm (i := i) (v := v) (by simpa using h)
      exact ⟨y, hy, by simpa using hv⟩
theorem allCells_one {ρ : Map} {l : List AV} {u : List Value} (h : allCells l = true) (hu : concL ρ l = some u) : ∀ x ∈ u, x.oneCell' = true := by
  intro x hx
  obtain ⟨i, hi⟩ := List.getElem?_of_mem hx
  have hlt : i < l.length := by rw [← concL_length hu]; exact (List.getElem?_eq_some_iff.1 hi).1
  obtain ⟨v, hv⟩ : ∃ v, l[i]? = some v := ⟨l[i], List.getElem?_eq_getElem hlt⟩
  obtain ⟨y, hy, hxy⟩ := concL_getElem hu hv
  rw [hi] at hxy
  cases hxy
  exact isCell_conc (allCells_get h hv) hy

/-- a trie that holds the cells of an array -/
structure TrOk (ρ : Map) (c : T AV) (arr : Array Value) : Prop where
  all : ∀ i, i < arr.size → ∃ v x, c.get (pos i) = some v ∧ isCell v = true ∧ conc ρ v = some x ∧ arr[i]? = some x

theorem trOk_new {ρ : Map} {l : List AV} {u : List Value} (h : allCells l = true) (hu : concL ρ l = some u) : TrOk ρ (putCells 0 l .leaf) u.toArray := by
  refine ⟨fun i hi => ?_⟩
  have hlt : i < l.length := by rw [← concL_length hu]; simpa using hi
  obtain ⟨v, hv⟩ : ∃ v, l[i]? = some v := ⟨l[i], List.getElem?_eq_getElem hlt⟩
  obtain ⟨x, hx, hux⟩ := concL_getElem hu hv
  exact ⟨v, x, by rw [putCells_get, if_pos (by omega)]; simpa using hv, allCells_get h hv, hx, by simpa using hux⟩

/-- what 'fill' does with one part -/
def splice (arr : Array Value) (off : Nat) (u : List Value) : Array Value := (u.zipIdx 0).foldl (fun cs x => cs.setIfInBounds (off + x.2) x.1) arr
theorem foldl_set (off : Nat) : ∀ (u : List Value) (j : Nat) (arr : Array Value) (i : Nat),
    (((u.zipIdx j).foldl (fun cs x => cs.setIfInBounds (off + x.2) x.1) arr)).size = arr.size ∧
    ((u.zipIdx j).foldl (fun cs x => cs.setIfInBounds (off + x.2) x.1) arr)[i]? = if off + j ≤ i ∧ i < off + j + u.length ∧ i < arr.size then u[i - (off + j)]? else arr[i]?
  | [], j, arr, i => by simp; omega
  | v :: u, j, arr, i => by
    simp only [List.zipIdx_cons, List.foldl_cons]
    obtain ⟨h1, h2⟩ := foldl_set off u (j + 1) (arr.setIfInBounds (off + j) v) i
    refine ⟨by rw [h1]; simp, ?_⟩
    rw [h2, Array.size_setIfInBounds]
    by_cases h : i = off + j
    · subst h
      rw [if_neg (by omega)]
      by_cases hs : off + j < arr.size
      · rw [if_pos (by simp; omega)]
        simp [Array.getElem?_setIfInBounds_self_of_lt hs]
      · rw [if_neg (by omega)]
        simp [Array.getElem?_setIfInBounds, hs]
    · rw [Array.getElem?_setIfInBounds_ne (Ne.symm h)]
      by_cases hc : off + (j + 1) ≤ i ∧ i < off + (j + 1) + u.length ∧ i < arr.size
      · rw [if_pos hc, if_pos (by simp; omega)]
        have : i - (off + j) = (i - (off + (j + 1))) + 1 := by omega
        rw [this, List.getElem?_cons_succ]
      · rw [if_neg hc, if_neg (by simp; omega)]
theorem splice_size (arr : Array Value) (off : Nat) (u : List Value) : (splice arr off u).size = arr.size := (foldl_set off u 0 arr 0).1
theorem splice_get (arr : Array Value) (off : Nat) (u : List Value) (i : Nat) : (splice arr off u)[i]? = if off ≤ i ∧ i < off + u.length ∧ i < arr.size then u[i - off]? else arr[i]? := (foldl_set off u 0 arr i).2
theorem trOk_put {ρ : Map} {c : T AV} {arr : Array Value} {l : List AV} {u : List Value} {off : Nat} (h : TrOk ρ c arr) (hc : allCells l = true) (hu : concL ρ l = some u) (hle : off + l.length ≤ arr.size) :
    TrOk ρ (putCells off l c) (splice arr off u) := by
  have hlen := concL_length hu
  refine ⟨fun i hi => ?_⟩
  rw [splice_size] at hi
  rw [putCells_get, splice_get]
  by_cases hin : off ≤ i ∧ i < off + l.length
  · rw [if_pos hin, if_pos (by omega)]
    have hlt : i - off < l.length := by omega
    obtain ⟨v, hv⟩ : ∃ v, l[i - off]? = some v := ⟨l[i - off], List.getElem?_eq_getElem hlt⟩
    obtain ⟨x, hx, hux⟩ := concL_getElem hu hv
    exact ⟨v, x, hv, allCells_get hc hv, hx, hux⟩
  · rw [if_neg hin, if_neg (by omega)]
    exact h.all i hi
theorem trOk_get {ρ : Map} {c : T AV} {arr : Array Value} (h : TrOk ρ c arr) : ∀ {n i : Nat} {l : List AV}, i + n = arr.size → getCells c i n = some l → concL ρ l = some (arr.toList.drop i)
  | 0, i, l, he, e => by
    cases e
    rw [List.drop_eq_nil_of_le (by simp; omega)]
    rfl
  | n + 1, i, l, he, e => by
    simp only [getCells] at e
    split at e
    · rename_i v hv
      split at e
      · rename_i m hm
        cases e
        obtain ⟨v', x, h1, _, h3, h4⟩ := h.all i (by omega)
        rw [hv] at h1
        cases h1
        have ih := trOk_get h (by omega) hm
        rw [concL_mk h3 ih]
        congr 1
        have hlt : i < arr.toList.length := by simp; omega
        rw [List.drop_eq_getElem_cons hlt]
        congr 1
        have : arr[i]? = some arr[i] := Array.getElem?_eq_getElem (by omega)
        rw [h4] at this
        cases this
        simp
      · cases e
    · cases e

/-- 'fill' in the abstract and in the model -/
theorem fill_ok {ρ : Map} (pl : Nat → Option (Nat × Nat)) : ∀ {parts : List (Nat × AV)} {us : List (Nat × Value)} {c c' : T AV} {arr : Array Value},
    (us.map (·.1) = parts.map (·.1)) → (∀ (i : Nat) (v : Nat × AV) (x : Nat × Value), parts[i]? = some v → us[i]? = some x → conc ρ v.2 = some x.2) → TrOk ρ c arr → fillA pl arr.size parts c = some c' →
    ∃ arr', Instr.fill pl arr us = some arr' ∧ TrOk ρ c' arr' ∧ arr'.size = arr.size
  | [], [], c, c', arr, _, _, ht, h => by cases h; exact ⟨arr, rfl, ht, rfl⟩
  | [], _ :: _, _, _, _, hl, _, _, _ => by simp at hl
  | _ :: _, [], _, _, _, hl, _, _, _ => by simp at hl
  | (i, v) :: parts, (j, x) :: us, c, c', arr, hl, hp, ht, h => by
    simp only [List.map_cons, List.cons.injEq] at hl
    obtain ⟨rfl, hl⟩ := hl
    have hv := hp 0 (j, v) (j, x) rfl rfl
    simp only at hv
    simp only [fillA] at h
    split at h
    · cases h
    · rename_i off size hpl
      split at h
      · rename_i hb
        simp only [Bool.and_eq_true] at hb
        have hsz := beq_iff.1 hb.1.1
        have hle := ble_iff.1 hb.1.2
        have hall := hb.2
        have htup : ∀ l, v ≠ .tup l := by
          intro l e
          subst e
          simp [AV.cells, allCells, isCell] at hall
        obtain ⟨u, hu, hcells⟩ := cells_conc hv htup
        have hul := concL_length hu
        have hput := trOk_put ht hall hu hle
        have hres := fill_ok pl (parts := parts) (us := us) (arr := splice arr off u) hl (fun k a b ha hb => hp (k + 1) a b (by simpa using ha) (by simpa using hb)) hput (by rw [splice_size]; exact h)
        obtain ⟨arr', h1, h2, h3⟩ := hres
        refine ⟨arr', ?_, h2, by rw [h3, splice_size]⟩
        simp only [Instr.fill, hpl, hcells, List.size_toArray]
        rw [if_neg (by simp; omega)]
        have e : (Array.foldl (fun cs (x : Value × Nat) => cs.setIfInBounds (off + x.2) x.1) arr u.toArray.zipIdx) = splice arr off u := by
          rw [← Array.foldl_toList]
          simp [splice]
        rw [e]
        exact h1
      · cases h

theorem ldsI_ok {ρ : Map} {tm : T AV} {a : Act} (hg : Globs ρ) (ht : TmOk ρ tm a.tmps) : ∀ {l : List (Nat × Operand)} {m : List (Nat × AV)}, ldsI (compLdsI l) tm = some m →
    (l.map fun (x : Nat × Operand) => (x.1, a.eval x.2)).map (·.1) = m.map (·.1) ∧
    ∀ (i : Nat) (v : Nat × AV) (x : Nat × Value), m[i]? = some v → (l.map fun (x : Nat × Operand) => (x.1, a.eval x.2))[i]? = some x → conc ρ v.2 = some x.2
  | [], m, h => by cases h; exact ⟨rfl, fun i v x h => by simp at h⟩
  | (n, o) :: l, m, h => by
    simp only [compLdsI, ldsI] at h
    split at h
    · rename_i v hv
      split at h
      · rename_i k hk
        cases h
        obtain ⟨h1, h2⟩ := ldsI_ok hg ht hk
        refine ⟨by simp [← h1], fun i u x hu hx => ?_⟩
        cases i with
        | zero =>
          simp only [List.getElem?_cons_zero, Option.some.injEq, List.map_cons] at hu hx
          subst hu hx
          exact ld_ok hg ht hv
        | succ i => exact h2 i u x (by simpa using hu) (by simpa using hx)
      · cases h
    · cases h

theorem zero_cells {ρ : Map} {z : AV} {x : Value} (h : absV x = some z) (hc : allCells z.cells = true) : ∃ u, concL ρ z.cells = some u ∧ x.cells = u.toArray ∧ TrOk ρ (putCells 0 z.cells .leaf) x.cells ∧ x.cells.size = z.cells.length := by
  have hz := absV_ok (ρ := ρ) h
  have htup : ∀ l, z ≠ .tup l := by
    intro l e
    subst e
    simp [AV.cells, allCells, isCell] at hc
  obtain ⟨u, hu, hx⟩ := cells_conc hz htup
  exact ⟨u, hu, hx, by rw [hx]; exact trOk_new hc hu, by rw [hx]; simpa using concL_length hu⟩

theorem places_ok (hT : TabOk P K) (w : World) : ∀ {fs : List Field} {pl : List (Nat × Nat)}, placesA K fs = some pl →
    (fs.mapM (fun f => do pure (f.offset, ← sizeOf f.type) : Field → Sem (Nat × Nat))).run P w = .ok pl w
  | [], pl, h => by cases h; rfl
  | f :: fs, pl, h => by
    simp only [placesA] at h
    split at h
    · rename_i s hs
      split at h
      · rename_i l hl
        cases h
        have ih := places_ok hT w hl
        simp only [List.mapM_cons, Sem.run_bind, run_size hT hs, Result.andThen_ok, Sem.run_pure, ih]
      · cases h
    · cases h

theorem nth_eq {α : Type} : ∀ (l : List α) (i : Nat), nth l i = l[i]?
  | [], _ => by simp [nth]
  | _ :: _, 0 => by simp [nth]
  | _ :: l, i + 1 => by simpa [nth] using nth_eq l i

theorem build_ok {o : Oper} {t : TypeId} {parts : Array (Nat × Operand)} {fs : Array Field} {pl : List (Nat × Nat)} {z : AV} (hT : TabOk P K) (ho : o.op = .build t parts) (hz : zeroA K t = some z)
    (hu : K.underlying t = some (.struct fs)) (hpl : placesA K fs.toList = some pl) (hc : allCells z.cells = true) : QOk P o (mBuild pl (putCells 0 z.cells .leaf) z.cells.length (compLdsI parts.toList)) := by
  intro ρ A w tm a v hg hr ht h
  unfold mBuild at h
  split at h
  · rename_i l hl
    split at h
    · rename_i c hc'
      split at h
      · rename_i m hm
        cases h
        obtain ⟨x, hzr, hzx⟩ := run_zero hT hz w
        obtain ⟨u, hu', hxu, htr, hsz⟩ := zero_cells (ρ := ρ) hzx hc
        obtain ⟨h1, h2⟩ := ldsI_ok hg ht hl
        have hpl' : nth pl = fun i => pl.toArray[i]? := by funext i; rw [nth_eq]; simp
        obtain ⟨arr', hf, htr', hsz'⟩ := fill_ok (nth pl) (arr := x.cells) h1 h2 htr (by rw [hsz]; exact hc')
        refine ⟨.agg arr', by simp [conc, trOk_get htr' (i := 0) (by omega) hm], ?_⟩
        have hp := places_ok hT w hpl
        have hp' : (fs.mapM (fun f => do pure (f.offset, ← sizeOf f.type) : Field → Sem (Nat × Nat))).run P w = .ok pl.toArray w := by
          rw [Array.mapM_eq_mapM_toList]
          simp only [Sem.run_map, hp, Result.andThen_ok]
        rw [hpl'] at hf
        simp only [execOp, ho, Instr.build, Sem.run_bind, hzr, Result.andThen_ok, run_und hT hu, hp', Array.toList_map, hf, Sem.run_pure]
      · cases h
    · cases h
  · cases h
theorem buildArr_ok {o : Oper} {t e : TypeId} {n s : Nat} {parts : Array (Nat × Operand)} {z : AV} (hT : TabOk P K) (ho : o.op = .build t parts) (hz : zeroA K t = some z)
    (hu : K.underlying t = some (.array n e)) (hs : szOf K e = some s) (hc : allCells z.cells = true) : QOk P o (mBuildArr s (putCells 0 z.cells .leaf) z.cells.length (compLdsI parts.toList)) := by
  intro ρ A w tm a v hg hr ht h
  unfold mBuildArr at h
  split at h
  · rename_i l hl
    split at h
    · rename_i c hc'
      split at h
      · rename_i m hm
        cases h
        obtain ⟨x, hzr, hzx⟩ := run_zero hT hz w
        obtain ⟨u, hu', hxu, htr, hsz⟩ := zero_cells (ρ := ρ) hzx hc
        obtain ⟨h1, h2⟩ := ldsI_ok hg ht hl
        obtain ⟨arr', hf, htr', hsz'⟩ := fill_ok (elemPlace s) (arr := x.cells) h1 h2 htr (by rw [hsz]; exact hc')
        refine ⟨.agg arr', by simp [conc, trOk_get htr' (i := 0) (by omega) hm], ?_⟩
        have he : elemPlace s = fun i => some (i * s, s) := rfl
        rw [he] at hf
        simp only [execOp, ho, Instr.build, Sem.run_bind, hzr, Result.andThen_ok, run_und hT hu, run_size hT hs, Array.toList_map, hf, Sem.run_pure]
      · cases h
    · cases h
  · cases h
end Go.Proofs.YtcaagfgopmhilaaGreatDoor.Vai
