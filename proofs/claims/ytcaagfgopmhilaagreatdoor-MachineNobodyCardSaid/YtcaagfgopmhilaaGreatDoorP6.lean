/- A part of the proof that the law of this seat holds: P6; no condition. -/
import Derived.Test.YtcaagfgopmhilaaGreatDoorP5
namespace Go.Proofs.YtcaagfgopmhilaaGreatDoor.Vai
variable {P : Program} {K : Tab}
/-! ### new blocks -/
theorem new_cells {ρ : Map} {n r : Nat} (hf : ρ (pos n) = none) {k : Blk} {arr : Array Value} (hn : k.n ≤ arr.size)
    (hc : ∀ i v, i < k.n → k.c.get (pos i) = some v → isCell v = true ∧ ∃ x, conc ρ v = some x ∧ arr[i]? = some x) :
    ObjRel (upd ρ (pos n) ⟨r, 0, arr.size⟩) (some (.cells arr k.el)) ⟨r, 0, arr.size⟩ (.cells k) := by
  have hx := upd_ext ⟨r, 0, arr.size⟩ hf
  refine ⟨arr, (0, 0), rfl, by simpa using hn, Nat.le_refl _, fun _ => ⟨rfl, fun _ => rfl⟩, fun i v hi hv => ?_⟩
  obtain ⟨h1, x, h2, h3⟩ := hc i v hi hv
  exact ⟨h1, x, conc_mono hx _ _ h2, by simpa using h3⟩
theorem push_cells {ρ : Map} {A : AW} {w : World} (hr : Rel ρ A w) (d : Nat) {k : Blk} {arr : Array Value} (hn : k.n ≤ arr.size)
    (hc : ∀ i v, i < k.n → k.c.get (pos i) = some v → isCell v = true ∧ ∃ x, conc ρ v = some x ∧ arr[i]? = some x) :
    Rel (upd ρ (pos A.nx) ⟨w.heap.size, 0, arr.size⟩) (newObj A (.cells k)) { w with heap := w.heap.push (.cells arr k.el), drawn := d } ∧
    Goes ρ A w (upd ρ (pos A.nx) ⟨w.heap.size, 0, arr.size⟩) (newObj A (.cells k)) { w with heap := w.heap.push (.cells arr k.el), drawn := d } := by
  have hf := hr.fresh A.nx (Nat.le_refl _)
  have hx := upd_ext ⟨w.heap.size, 0, arr.size⟩ hf
  refine hr.push d ⟨arr, (0, 0), rfl, by simpa using hn, Nat.le_refl _, fun _ => ⟨rfl, fun _ => rfl⟩, fun i v hi hv => ?_⟩
  obtain ⟨h1, x, h2, h3⟩ := hc i v hi hv
  exact ⟨h1, x, conc_mono hx _ _ h2, by simpa using h3⟩
theorem putCells_conc {ρ : Map} {l : List AV} {u : List Value} (h : allCells l = true) (hu : concL ρ l = some u) (rest : List Value) :
    ∀ i v, i < l.length → (putCells 0 l .leaf).get (pos i) = some v → isCell v = true ∧ ∃ x, conc ρ v = some x ∧ (u ++ rest).toArray[i]? = some x := by
  intro i v hi hv
  rw [putCells_get, if_pos (by omega)] at hv
  have hv' : l[i]? = some v := by simpa using hv
  obtain ⟨x, hx, hux⟩ := concL_getElem hu hv'
  refine ⟨allCells_get h hv', x, hx, ?_⟩
  simp [List.getElem?_append_left (by rw [concL_length hu]; exact hi), hux]

theorem alloc_ok {o : Oper} {t : TypeId} {z : AV} (hT : TabOk P K) (ho : o.op = .alloc t) (hz : zeroA K t = some z) (hc : allCells z.cells = true) : LOk P o (mAlloc t z.cells) := by
  intro ρ hh n w tm a v A' hg hf ht h
  cases h
  obtain ⟨x, hzr, hzx⟩ := run_zero hT hz w
  obtain ⟨u, hu, hxu, _, hsz⟩ := zero_cells (ρ := ρ) hzx hc
  have hp := new_cells (r := w.heap.size) hf (k := ⟨putCells 0 z.cells .leaf, z.cells.length, t, false, false⟩) (arr := x.cells) (by rw [hsz]; exact Nat.le_refl _)
    (by have := putCells_conc hc hu []; rw [List.append_nil, ← hxu] at this; exact this)
  refine ⟨.pointer (some ⟨w.heap.size, 0, none⟩), _, _, w.drawn, _, rfl, by simp [conc, upd_eq], hp, ?_⟩
  simp [execOp, ho, Instr.alloc, hzr, newVar, newRow]
theorem box_ok {o : Oper} {t : TypeId} {x : Operand} (ho : o.op = .box t x) : LOk P o (mBox t (compLd x)) := by
  intro ρ hh n w tm a v A' hg hf ht h
  unfold mBox at h
  split at h
  · rename_i y hy
    split at h
    · rename_i hc
      cases h
      have hv := ld_ok hg ht hy
      have htup : ∀ l, y ≠ .tup l := by
        intro l e
        subst e
        simp [AV.cells, allCells, isCell] at hc
      obtain ⟨u, hu, hxu⟩ := cells_conc hv htup
      have hp := new_cells (r := w.heap.size) hf (k := ⟨putCells 0 y.cells .leaf, y.cells.length, t, false, false⟩) (arr := (a.eval x).cells) (by rw [hxu]; simpa using Nat.le_of_eq (concL_length hu).symm)
        (by have := putCells_conc hc hu []; rw [List.append_nil, ← hxu] at this; exact this)
      refine ⟨.pointer (some ⟨w.heap.size, 0, none⟩), _, _, w.drawn, _, rfl, by simp [conc, upd_eq], hp, ?_⟩
      simp [execOp, ho, Instr.box, newVar, newRow]
    · cases h
  · cases h

/-- the zero cells of many elements -/
theorem zerosA_get (z : List AV) : ∀ (n i : Nat) (c : T AV) (j : Nat), (zerosA n i z c).get (pos j) = if i ≤ j ∧ j < i + n * z.length then z[(j - i) % z.length]? else c.get (pos j)
  | 0, i, c, j => by simp [zerosA]; intro h h'; omega
  | n + 1, i, c, j => by
    rw [zerosA, zerosA_get z n (i + z.length) _ j, putCells_get]
    have hm : (n + 1) * z.length = z.length + n * z.length := by rw [Nat.add_mul]; omega
    rw [hm]
    by_cases h1 : i + z.length ≤ j ∧ j < i + z.length + n * z.length
    · rw [if_pos h1, if_pos (by omega)]
      have : j - i = (j - (i + z.length)) + z.length := by omega
      rw [this, Nat.add_mod_right]
    · rw [if_neg h1]
      by_cases h2 : i ≤ j ∧ j < i + z.length
      · rw [if_pos h2, if_pos (by omega), Nat.mod_eq_of_lt (by omega)]
      · rw [if_neg h2, if_neg (by omega)]
theorem zeros_trOk {ρ : Map} {z : List AV} {u : List Value} (n : Nat) (hz : 0 < z.length) (hc : allCells z = true) (hu : concL ρ z = some u) :
    TrOk ρ (zerosA n 0 z .leaf) ((Array.range (n * z.length)).map fun i => u.toArray[i % u.toArray.size]!) := by
  have hlen := concL_length hu
  refine ⟨fun i hi => ?_⟩
  have hi' : i < n * z.length := by simpa using hi
  have hm : i % z.length < z.length := Nat.mod_lt _ hz
  obtain ⟨v, hv⟩ : ∃ v, z[i % z.length]? = some v := ⟨z[i % z.length], List.getElem?_eq_getElem hm⟩
  obtain ⟨x, hx, hux⟩ := concL_getElem hu hv
  refine ⟨v, x, by rw [zerosA_get, if_pos (by omega)]; simpa using hv, allCells_get hc hv, hx, ?_⟩
  simp [hi', hlen, hux, List.getElem?_eq_some_iff.1 hux]

theorem fill_some_size {pl : Nat → Option (Nat × Nat)} : ∀ {us : List (Nat × Value)} {arr arr' : Array Value}, Instr.fill pl arr us = some arr' → True
  | _, _, _, _ => trivial

theorem buildSlice_ok {o : Oper} {t e : TypeId} {len s : Nat} {parts : Array (Nat × Operand)} {z : AV} (hT : TabOk P K) (ho : o.op = .buildSlice t len parts) (hu : K.underlying t = some (.slice e))
    (hs : szOf K e = some (s + 1)) (hz : zeroA K e = some z) (hl : z.cells.length = s + 1) (hc : allCells z.cells = true) (hb : len * (s + 1) < 16777216) :
    LOk P o (mBuildSlice e (s + 1) len (zerosA len 0 z.cells .leaf) (compLdsI parts.toList)) := by
  intro ρ hh n w tm a v A' hg hf0 ht h
  unfold mBuildSlice at h
  split at h
  · rename_i l hl'
    split at h
    · rename_i c hc'
      cases h
      obtain ⟨x, hzr, hzx⟩ := run_zero hT hz w
      obtain ⟨u, hu', hxu, _, hsz⟩ := zero_cells (ρ := ρ) hzx hc
      have htr := zeros_trOk (ρ := ρ) len (by omega) hc hu'
      obtain ⟨h1, h2⟩ := ldsI_ok hg ht hl'
      have hsize : ((Array.range (len * z.cells.length)).map fun i => u.toArray[i % u.toArray.size]!).size = len * (s + 1) := by simp [hl]
      obtain ⟨arr', hf, htr', hsz'⟩ := fill_ok (elemPlace (s + 1)) h1 h2 htr (by rw [hsize]; exact hc')
      have he : elemPlace (s + 1) = fun i => some (i * (s + 1), s + 1) := rfl
      rw [he] at hf
      have hp := new_cells (r := w.heap.size) hf0 (k := ⟨c, len * (s + 1), e, false, false⟩) (arr := arr') (by rw [hsz', hsize]; exact Nat.le_refl _)
        (fun i v hi hv => by
          obtain ⟨v', y, g1, g2, g3, g4⟩ := htr'.all i (by rw [hsz', hsize]; exact hi)
          rw [hv] at g1; cases g1
          exact ⟨g2, y, g3, g4⟩)
      refine ⟨.slice (some ⟨w.heap.size, 0, none⟩) len len, _, _, w.drawn, _, rfl, by simp [conc, upd_eq], hp, ?_⟩
      have hnot : ¬ (len * (s + 1) > 2 ^ 24) := by omega
      by_cases h0 : len * (s + 1) = 0
      · have hlen0 : len = 0 := by
          rcases Nat.mul_eq_zero.1 h0 with h' | h'
          · exact h'
          · omega
        subst hlen0
        simp only [execOp, ho, Instr.buildSlice, Sem.run_bind, run_und hT hu, Result.andThen_ok, run_size hT hs, Sem.run_ite, Nat.zero_mul, if_true, Sem.run_pure]
        simp only [Nat.zero_mul, Array.range_zero', List.map_toArray] at hf
        simp [newRow, Array.range_zero'] at hf ⊢
        simp [hf, newRow]
      · simp only [execOp, ho, Instr.buildSlice, Sem.run_bind, run_und hT hu, Result.andThen_ok, run_size hT hs, Sem.run_ite, if_neg hnot, if_neg h0, hzr, Sem.run_pure]
        rw [hxu, ← hl]
        rw [← hl] at hf
        simp only [Array.toList_map, hf, newRow, Sem.run_bind, run_newObj, Result.andThen_ok, Sem.run_pure]
    · cases h
  · cases h

theorem push_obj {ρ : Map} {A : AW} {w : World} {o : AObj} {ob : Obj} (hr : Rel ρ A w) (hobj : ∀ ρ', Ext' ρ ρ' → ObjRel ρ' (some ob) ⟨w.heap.size, 0, 0⟩ o) :
    Rel (upd ρ (pos A.nx) ⟨w.heap.size, 0, 0⟩) (newObj A o) { w with heap := w.heap.push ob } ∧
    Goes ρ A w (upd ρ (pos A.nx) ⟨w.heap.size, 0, 0⟩) (newObj A o) { w with heap := w.heap.push ob } :=
  hr.push (o := o) (ob := ob) (lim := 0) w.drawn (hobj _ (upd_ext _ (hr.fresh A.nx (Nat.le_refl _))))

theorem map_ok {o : Oper} {t : TypeId} (ho : o.op = .makeMap t none) : LOk P o mMap := by
  intro ρ hh n w tm a v A' hg hf ht h
  cases h
  exact ⟨.map (some w.heap.size), .map #[] 0, 0, w.drawn, .map [] 0, rfl, by simp [conc, upd_eq], ⟨rfl, #[], rfl, trivial⟩, by simp [execOp, ho, Instr.makeMap]⟩
theorem mapR_ok {o : Oper} {t kt e : TypeId} {r : Operand} (hT : TabOk P K) (ho : o.op = .makeMap t (some r)) (hu : K.underlying t = some (.map kt e)) : LOk P o (mMapR (compLd r)) := by
  intro ρ hh n w tm a v A' hg hf ht h
  unfold mMapR at h
  split at h
  · rename_i k n hy
    cases h
    have e1 := conc_i (ld_ok hg ht hy)
    exact ⟨.map (some w.heap.size), .map #[] 0, 0, w.drawn, .map [] 0, rfl, by simp [conc, upd_eq], ⟨rfl, #[], rfl, trivial⟩, by simp [execOp, ho, Instr.makeMap, run_und hT hu, e1, asInt, asIntOf]⟩
  · cases h
theorem natOf_some {v : AV} {n : Nat} (h : natOf v = some n) : ∃ k, v = .i k (.ofNat n) := by
  unfold natOf at h
  split at h
  · cases h; exact ⟨_, rfl⟩
  · cases h
theorem make_ok {o : Oper} {t e : TypeId} {i : TypeInfo} {l c : Operand} {z : AV} (hT : TabOk P K) (ho : o.op = .makeSlice t l c) (hu : K.underlying t = some (.slice e)) (hi : K.info? e = some i)
    (hz : zeroA K e = some z) (hl : z.cells.length = i.size) (hc : allCells z.cells = true) (hs : 0 < i.size) (hb : i.bytes ≤ 1000000) : LOk P o (mMake e i.size z.cells (compLd l) (compLd c)) := by
  intro ρ hh nn w tm a v A' hg hf ht h
  unfold mMake at h
  split at h
  · rename_i x y hx hy
    split at h
    · rename_i n m hn hm
      split at h
      · rename_i hle
        cases h
        simp only [Bool.and_eq_true, ble_iff] at hle
        obtain ⟨k1, rfl⟩ := natOf_some hn
        obtain ⟨k2, rfl⟩ := natOf_some hm
        have e1 := conc_i (ld_ok hg ht hx)
        have e2 := conc_i (ld_ok hg ht hy)
        obtain ⟨zx, hzr, hzx⟩ := run_zero hT hz w
        obtain ⟨u, hu', hxu, _, hsz⟩ := zero_cells (ρ := ρ) hzx hc
        have htr := zeros_trOk (ρ := ρ) m (by omega) hc hu'
        have hp := new_cells (r := w.heap.size) hf (k := ⟨zerosA m 0 z.cells .leaf, m * i.size, e, false, false⟩) (arr := (Array.range (m * z.cells.length)).map fun i => u.toArray[i % u.toArray.size]!) (by simp [hl])
          (fun j v hj hv => by
            obtain ⟨v', y, g1, g2, g3, g4⟩ := htr.all j (by simpa [hl] using hj)
            rw [hv] at g1; cases g1
            exact ⟨g2, y, g3, g4⟩)
        refine ⟨.slice (some ⟨w.heap.size, 0, none⟩) n m, _, _, w.drawn, _, rfl, by simp [conc, upd_eq], hp, ?_⟩
        have w1 : IntKind.i64.wrap (n : Int) = n := IntWalk.i64_in _ (by omega)
        have w2 : IntKind.i64.wrap (m : Int) = m := IntWalk.i64_in _ (by omega)
        have hbytes : ¬ ((i.bytes : Int) * (m : Int) > 2 ^ 48) := by
          have : i.bytes * m ≤ 1000000 * 1000000 := Nat.mul_le_mul hb hle.2
          have h2 : ((i.bytes * m : Nat) : Int) ≤ 1000000000000 := by omega
          rw [Int.natCast_mul] at h2
          omega
        have hneg : ¬ ((m : Int) < 0) := by omega
        have hneg' : ¬ ((n : Int) < 0) := by omega
        have hlt : ¬ ((n : Int) > (m : Int)) := by omega
        by_cases h0 : m * i.size = 0
        · simp only [execOp, ho, Instr.makeSlice, Sem.run_bind, run_und hT hu, e1, e2, asInt, asIntOf, Result.andThen_ok, Sem.run_pure, typeInfo, run_program, hT.ty _ _ hi, Int.ofNat_eq_natCast, w1, w2, decide_eq_false hneg, decide_eq_false hneg', decide_eq_false hlt,
            decide_eq_false hbytes, Bool.or_self, Bool.false_eq_true, if_false, Int.toNat_natCast, run_askRoom, sizeOf, Sem.run_ite, if_pos h0]
          have e0 : Array.range (m * i.size) = #[] := by rw [h0]; rfl
          have e0' : Array.range (m * z.cells.length) = #[] := by rw [hl]; exact e0
          simp only [newRow, Sem.run_bind, run_newObj, Result.andThen_ok, Sem.run_pure, e0, e0', List.map_toArray, Array.map_empty]
          rfl
        · simp only [execOp, ho, Instr.makeSlice, Sem.run_bind, run_und hT hu, e1, e2, asInt, asIntOf, Result.andThen_ok, Sem.run_pure, typeInfo, run_program, hT.ty _ _ hi, Int.ofNat_eq_natCast, w1, w2, decide_eq_false hneg, decide_eq_false hneg', decide_eq_false hlt,
            decide_eq_false hbytes, Bool.or_self, Bool.false_eq_true, if_false, Int.toNat_natCast, run_askRoom, sizeOf, Sem.run_ite, if_neg h0, hzr]
          rw [hxu, ← hl]
          simp only [newRow, Sem.run_bind, run_newObj, Result.andThen_ok, Sem.run_pure]
      · cases h
    · cases h
  · cases h
theorem range_ok {o : Oper} {t : TypeId} {x : Operand} {d : TypeDesc} (hT : TabOk P K) (ho : o.op = .range t x) (hu : K.underlying t = some d) : GOk P o (mRange d (compLd x)) := by
  intro ρ A w tm a v A' hg hr ht h
  unfold mRange at h
  split at h
  · rename_i y hy
    have hv := ld_ok hg ht hy
    unfold rangeA at h
    split at h
    · rename_i l
      cases h
      obtain ⟨hb, e1⟩ := conc_s hv
      have hp := push_obj hr (o := .siter l 0) (ob := .stringIter (strOf l) 0) (fun _ _ => ⟨rfl, hb, rfl⟩)
      exact ⟨_, .pointer (some ⟨w.heap.size, 0, none⟩), _, by simp [conc, upd_eq], hp.1, hp.2, by simp [execOp, ho, Instr.range, run_und hT hu, e1]⟩
    · cases h
      have e1 := (Option.some.inj hv).symm
      have hp := push_obj hr (o := .miter none 0 [] 0) (ob := .mapIter none 0 #[] 0) (fun _ _ => ⟨rfl, none, rfl, rfl⟩)
      exact ⟨_, .pointer (some ⟨w.heap.size, 0, none⟩), _, by simp [conc, upd_eq], hp.1, hp.2, by simp [execOp, ho, Instr.range, run_und hT hu, e1]⟩
    · rename_i b
      split at h
      · rename_i es c hm
        cases h
        obtain ⟨L, hL, e1⟩ := Option.map_eq_some_iff.1 hv
        have hget : A.h.get b = some (.map es c) := by
          unfold getMap at hm
          split at hm
          · rename_i hq; cases hm; exact hq
          · cases hm
        obtain ⟨L', hL', h0, m, hob, hent⟩ := hr.objs b _ hget
        rw [hL] at hL'; cases hL'
        have hp := push_obj hr (o := .miter (some b) c [] c) (ob := .mapIter (some L.r) c #[] c) (fun ρ' hx => ⟨rfl, some L.r, ⟨L, hx _ _ hL, rfl⟩, rfl⟩)
        refine ⟨_, .pointer (some ⟨w.heap.size, 0, none⟩), _, by simp [conc, upd_eq], hp.1, hp.2, ?_⟩
        have hgo : (getObj L.r).run P w = .ok (.map m c) w := by simp [getObj, Sem.run, hob]
        simp [execOp, ho, Instr.range, run_und hT hu, ← e1, hgo]
      · cases h
    · cases h
  · cases h
theorem bytesA_spec {ρ : Map} : ∀ {l : List Nat}, byteOk l = true → allCells (bytesA l) = true ∧ (bytesA l).length = l.length ∧ concL ρ (bytesA l) = some (l.map fun (c : Nat) => Value.int .u8 ((UInt8.ofNat c).toNat : Int))
  | [], _ => ⟨rfl, rfl, rfl⟩
  | c :: l, h => by
    have ⟨hc, hl⟩ := byteOk_cons.1 h
    obtain ⟨h1, h2, h3⟩ := bytesA_spec (ρ := ρ) hl
    refine ⟨h1, by simp [bytesA, h2], ?_⟩
    have hh : conc ρ (.i .u8 (.ofNat c)) = some (.int .u8 ((UInt8.ofNat c).toNat : Int)) := by rw [toNat_ofNat hc]; rfl
    exact concL_mk hh h3

/-! ### stores -/
theorem upd_put {A : AW} {b : Pos} {k : Blk} : (setBlk A b k) = ⟨T.set b (.cells k) A.h, A.nx⟩ := rfl

/-- cells of a block are written -/
theorem storeC_ok {ρ : Map} {A A' : AW} {w : World} {b : Pos} {off : Nat} {l : List AV} (hr : Rel ρ A w) (hc : allCells l = true) (h : storeC A b off l = some A') {u : List Value} (hu : concL ρ l = some u) :
    ∃ L w', ρ b = some L ∧ Rel ρ A' w' ∧ Goes ρ A w ρ A' w' ∧ (storeCells ⟨L.r, L.sh + off, none⟩ u).run P w = .ok () w' := by
  unfold storeC at h
  split at h
  · rename_i k hk
    split at h
    · cases h
    · rename_i hro
      split at h
      · rename_i hle
        cases h
        have hget := getBlk_some hk
        obtain ⟨L, hL, hob⟩ := hr.objs b _ hget
        obtain ⟨c, fz, h1, h2, h3, h4, h5⟩ := hob
        have hfz := (h4 hro).1
        subst hfz
        have hlen := concL_length hu
        have hle' : off + l.length ≤ k.n := ble_iff.1 hle
        have hst := run_storeCells_at P L.r (L.sh + off) k.el u 0 c w h1 (by omega) (allCells_one hc hu)
        simp only [Nat.add_zero] at hst
        have hwr : writable (.cells k) = true := by simp [writable, hro]
        generalize hc' : (c.toList.take (L.sh + off) ++ u ++ c.toList.drop (L.sh + off + u.length)).toArray = c' at hst
        have hsz : c'.size = c.size := by rw [← hc']; simp; omega
        have hcell : ∀ i, c'[i]? = if L.sh + off ≤ i ∧ i < L.sh + off + u.length then u[i - (L.sh + off)]? else c[i]? := by
          intro i
          rw [← hc']
          simp only [List.getElem?_toArray]
          by_cases h1 : i < L.sh + off
          · rw [if_neg (by omega), List.append_assoc, List.getElem?_append_left (by simp; omega), List.getElem?_take, if_pos h1]; simp
          · by_cases h2 : i < L.sh + off + u.length
            · rw [if_pos (by omega), List.getElem?_append_left (by simp; omega), List.getElem?_append_right (by simp; omega)]
              congr 1; simp; omega
            · rw [if_neg (by omega), List.getElem?_append_right (by simp; omega), List.getElem?_drop]
              simp only [List.length_append, List.length_take, Array.length_toList]
              rw [← Array.getElem?_toList]
              congr 1; omega
        have hch := hr.change (w' := w.setRow L.r c') (o' := .cells { k with c := putCells off l k.c }) hget hL hwr
          (fun k' e => by cases e; exact ⟨k, rfl, rfl, rfl, rfl⟩) (fun k' e => ⟨_, rfl⟩)
          (fun r hne => setRow_other w L.r r c' hne)
          (by
            rw [setRow_heap w L.r c c' k.el (0, 0) h1]
            refine ⟨c', (0, 0), rfl, h2, by rw [hsz]; exact h3, fun e => ⟨rfl, (h4 e).2⟩, fun i v hi hv => ?_⟩
            simp only at hi hv
            rw [putCells_get] at hv
            rw [hcell]
            by_cases hin : off ≤ i ∧ i < off + l.length
            · rw [if_pos hin] at hv
              rw [if_pos (by omega)]
              obtain ⟨x, hx, hux⟩ := concL_getElem hu hv
              refine ⟨allCells_get hc hv, x, hx, ?_⟩
              rw [← hux]; congr 1; omega
            · rw [if_neg hin] at hv
              rw [if_neg (by omega)]
              exact h5 i v hi hv)
          (fun b2 k2 L2 hne hg2 hL2 hrr => by
            obtain ⟨L2', hL2', c2, fz2, g1, g2, g3, g4, g5⟩ := hr.objs b2 _ hg2
            rw [hL2] at hL2'; cases hL2'
            rw [hrr, h1] at g1
            obtain ⟨rfl, e2, rfl⟩ : c = c2 ∧ k.el = k2.el ∧ (0, 0) = fz2 := by injection g1 with g1; injection g1 with a b c; exact ⟨a, b, c⟩
            rw [setRow_heap w L.r c c' k.el (0, 0) h1, e2]
            refine ⟨c', (0, 0), rfl, g2, by rw [hsz]; exact g3, fun e => ⟨rfl, (g4 e).2⟩, fun i v hi hv => ?_⟩
            obtain ⟨q1, x, q2, q3⟩ := g5 i v hi hv
            refine ⟨q1, x, q2, ?_⟩
            rw [hcell, if_neg, q3]
            intro hin
            have hap := hr.sep b b2 _ _ (fun e => hne e.symm) hget hg2 hwr L L2 hL hL2
            rcases hap with hap | ⟨_, _, _, hap⟩
            · exact hap hrr.symm
            · refine hap (L2.sh + i) ⟨?_, ?_⟩
              · simp only [Has]; constructor
                · omega
                · split <;> omega
              · simp only [Has]; constructor
                · omega
                · split <;> omega)
          rfl rfl rfl (by simp)
        exact ⟨L, _, hL, hch.1, hch.2, hst⟩
      · cases h
  · cases h

theorem store_ok {o : Oper} {t : TypeId} {x y : Operand} {n : Nat} (hT : TabOk P K) (ho : o.op = .store t x y) (hn : szOf K t = some n) : UOk P o (mStore n (compLd x) (compLd y)) := by
  intro ρ A w tm a A' hg hr ht h
  unfold mStore at h
  split at h
  · rename_i p v hp hv
    unfold storeA at h
    split at h
    · rename_i b off
      split at h
      · rename_i hb
        simp only [Bool.and_eq_true] at hb
        have hv' := ld_ok hg ht hv
        have htup : ∀ l, v ≠ .tup l := by
          intro l e
          subst e
          simp [AV.cells, allCells, isCell] at hb
        obtain ⟨u, hu, hx⟩ := cells_conc hv' htup
        obtain ⟨L, w', hL, h1, h2, h3⟩ := storeC_ok (P := P) hr hb.2 h hu
        obtain ⟨L', hL', e1⟩ := conc_p (ld_ok hg ht hp)
        rw [hL] at hL'; cases hL'
        refine ⟨ρ, w', h1, h2, ?_⟩
        have hsz : ¬ (u.toArray.size ≠ n) := by simp only [List.size_toArray, concL_length hu]; have := beq_iff.1 hb.1; omega
        simp only [execOp, ho, Instr.storeAt, Instr.sureAddr, e1, Sem.run_bind, Sem.run_pure, Result.andThen_ok, storeVar, run_size hT hn, Sem.run_ite, hx, if_neg hsz, h3]
      · cases h
    · cases h
  · cases h
end Go.Proofs.YtcaagfgopmhilaaGreatDoor.Vai
