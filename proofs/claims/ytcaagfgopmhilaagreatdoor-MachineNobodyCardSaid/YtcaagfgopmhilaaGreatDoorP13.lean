/- A part of the proof that the law of this seat holds: P13; no condition. -/
import Derived.Test.YtcaagfgopmhilaaGreatDoorP12
namespace Go.Proofs.YtcaagfgopmhilaaGreatDoor.Vai
variable {P : Program} {K : Tab}

theorem modify_push {α : Type} (a : Array α) (x : α) (f : α → α) : (a.push x).modify a.size f = a.push (f x) := by
  apply Array.ext
  · simp
  · intro i h1 h2
    simp only [Array.size_modify, Array.size_push] at h1
    rw [Array.getElem_modify]
    by_cases h : a.size = i
    · subst h; simp
    · have : i < a.size := by omega
      simp [h, Array.getElem_push, this]
theorem shape_push (w : World) (d : Nat) (arr : Array Value) (e : TypeId) (fz : Nat × Nat) : ({ w with heap := w.heap.push (.cells arr e fz), drawn := d } : World).shape? w.heap.size = some (e, arr.size) := by
  simp [World.shape?]
theorem freeze_push (w : World) (d : Nat) (arr : Array Value) (e : TypeId) (n : Nat) : ({ w with heap := w.heap.push (.cells arr e), drawn := d } : World).freeze ⟨w.heap.size, n, none⟩ 1 = { w with heap := w.heap.push (.cells arr e (n, n + 1)), drawn := d } := by
  unfold World.freeze
  rw [if_neg (by omega)]
  simp only [modify_push]
  simp
theorem run_markStringish (w : World) (d : Nat) (arr : Array Value) (e : TypeId) : (markStringish ⟨w.heap.size, 0, none⟩).run P { w with heap := w.heap.push (.cells arr e), drawn := d } = .ok () { w with heap := w.heap.push (.cells arr e (arr.size, arr.size + 1)), drawn := d } := by
  simp only [markStringish, Sem.run_bind, run_shape, shape_push, Result.andThen_ok]
  show Result.ok () (World.freeze _ _ _) = _
  rw [freeze_push]
theorem toBytes_ok {o : Oper} {s d e : TypeId} {x : Operand} (hT : TabOk P K) (ho : o.op = .convert s d x) (hs : K.underlying s = some .string) (hd : K.underlying d = some (.slice e)) (he : K.underlying e = some (.int .u8)) : GOk P o (mBytes e (compLd x)) := by
  intro ρ A w tm a v A' hg hr ht h
  unfold mBytes at h
  split at h
  case h_2 => cases h
  rename_i xv hx
  have hx := ld_ok hg ht hx
  obtain ⟨l, rfl⟩ : ∃ l, xv = .s l := by
    cases xv with
    | s l => exact ⟨l, rfl⟩
    | _ => cases h
  cases h
  obtain ⟨hb, ev⟩ := conc_s hx
  obtain ⟨hc, hlen, hcc⟩ := bytesA_spec (ρ := upd ρ (pos A.nx) ⟨w.heap.size, 0, grownCap w l.length 0 e⟩) hb
  have hge := grownCap_ge w l.length 0 e
  have harr : ((strOf l).data.map (fun b => Value.int .u8 b.toNat) ++ Array.replicate (grownCap w l.length 0 e - l.length) (Value.int .u8 0)).size = grownCap w l.length 0 e := by
    have : (strOf l).data.size = l.length := strOf_size l
    simp [this]; omega
  have hp := hr.push (ob := .cells ((strOf l).data.map (fun b => Value.int .u8 b.toNat) ++ Array.replicate (grownCap w l.length 0 e - l.length) (Value.int .u8 0)) e (grownCap w l.length 0 e, grownCap w l.length 0 e + 1))
    (o := .cells ⟨putCells 0 (bytesA l) .leaf, l.length, e, true, true⟩) (lim := grownCap w l.length 0 e) (w.drawn + 1)
    ⟨_, _, rfl, by simpa using hge, by rw [harr]; exact Nat.le_refl _, (fun h => by cases h), fun i v hi hv => by
      simp only at hi hv ⊢
      rw [putCells_get, if_pos (by omega)] at hv
      have hv' : (bytesA l)[i]? = some v := by simpa using hv
      obtain ⟨y, hy, huy⟩ := concL_getElem hcc hv'
      refine ⟨allCells_get hc hv', y, hy, ?_⟩
      rw [← huy]
      simp only [Nat.zero_add]
      rw [Array.getElem?_append_left (by have : (strOf l).data.size = l.length := strOf_size l; simp [this]; omega)]
      simp only [strOf, List.map_map, Array.getElem?_map, List.getElem?_toArray, List.getElem?_map, Option.map_map]
      rfl⟩
  refine ⟨_, .slice (some ⟨w.heap.size, 0, none⟩) l.length (grownCap w l.length 0 e), _, by simp [conc, upd_eq], hp.1, hp.2, ?_⟩
  have hm := run_markStringish (P := P) w (w.drawn + 1) ((strOf l).data.map (fun b => Value.int .u8 b.toNat) ++ Array.replicate (grownCap w l.length 0 e - l.length) (Value.int .u8 0)) e
  rw [harr] at hm
  have hsz : (strOf l).size = l.length := strOf_size l
  simp only [execOp, ho, convert, Sem.run_bind, run_und hT hs, run_und hT hd, run_und hT he, Result.andThen_ok, ev, Conv.stringToBytes, hsz]
  have hch : (choose (.appendCap l.length 0 e)).run P w = .ok (grownCap w l.length 0 e) { w with drawn := w.drawn + 1 } := rfl
  have hnew : ∀ arr, (newRow e arr).run P { w with drawn := w.drawn + 1 } = .ok ⟨w.heap.size, 0, none⟩ { w with heap := w.heap.push (.cells arr e), drawn := w.drawn + 1 } := fun _ => rfl
  simp only [hch, Result.andThen_ok, hnew, hm, Sem.run_pure]

theorem Rel.freeze {ρ : Map} {A : AW} {w : World} {b : Pos} {k : Blk} {L : Loc} (hr : Rel ρ A w) (hb : A.h.get b = some (.cells k)) (hL : ρ b = some L) (hro : k.ro = false) (off n : Nat) :
    Rel ρ (setBlk A b { k with ro := true }) (w.freeze ⟨L.r, off, none⟩ n) ∧ Goes ρ A w ρ (setBlk A b { k with ro := true }) (w.freeze ⟨L.r, off, none⟩ n) := by
  have hwr : writable (.cells k) = true := by simp [writable, hro]
  have hother : ∀ r, r ≠ L.r → (w.freeze ⟨L.r, off, none⟩ n).heap[r]? = w.heap[r]? := by
    intro r hne
    unfold World.freeze
    split
    · rfl
    · simp only [Array.getElem?_modify]
      rw [if_neg (fun e => hne e.symm)]
  have hsize : (w.freeze ⟨L.r, off, none⟩ n).heap.size = w.heap.size := by
    unfold World.freeze; split <;> simp
  have hfr : (w.freeze ⟨L.r, off, none⟩ n).os = w.os ∧ (w.freeze ⟨L.r, off, none⟩ n).tape = w.tape ∧ (w.freeze ⟨L.r, off, none⟩ n).output = w.output := by
    unfold World.freeze; split <;> exact ⟨rfl, rfl, rfl⟩
  have hcells : ∀ c e fz, w.heap[L.r]? = some (.cells c e fz) → ∃ fz', (w.freeze ⟨L.r, off, none⟩ n).heap[L.r]? = some (.cells c e fz') := by
    intro c e fz hc
    unfold World.freeze
    split
    · exact ⟨fz, hc⟩
    · simp only [Array.getElem?_modify, if_true, hc, Option.map_some]
      exact ⟨_, rfl⟩
  have hset : setBlk A b { k with ro := true } = ⟨T.set b (.cells { k with ro := true }) A.h, A.nx⟩ := rfl
  rw [hset]
  refine ⟨⟨hr.fresh, fun c oc hc => ?_, fun b1 b2 o1 o2 hne h1 h2 hw1 L1 L2 hL1 hL2 => ?_⟩, .refl ρ, Nat.le_refl _, hfr.1, hfr.2.1, hfr.2.2, by rw [hsize]; exact Nat.le_refl _, fun r hlt hown => ⟨hother r fun e => hown ⟨b, _, L, hb, hwr, hL, e.symm⟩, ?_⟩, fun _ _ h => h, fun r hlt hn => ?_⟩
  · by_cases e : c = b
    · subst e
      rw [T.get_set_eq] at hc; cases hc
      obtain ⟨cc, fz, g1, g2, g3, g4, g5⟩ := blk_obj hr (k := k) (by unfold getBlk; rw [hb]) hL
      obtain ⟨fz', hf⟩ := hcells _ _ _ g1
      exact ⟨L, hL, cc, fz', hf, g2, g3, (fun h => by cases h), g5⟩
    · rw [T.get_set_ne _ _ _ _ e] at hc
      obtain ⟨L2, hL2, hob⟩ := hr.objs c oc hc
      refine ⟨L2, hL2, ?_⟩
      by_cases hrr : L2.r = L.r
      · rcases hr.sep b c _ _ (fun x => e x.symm) hb hc hwr L L2 hL hL2 with ha | ⟨_, ⟨k2, rfl⟩, hor, _⟩
        · exact absurd hrr.symm ha
        · obtain ⟨cc, fz, g1, g2, g3, g4, g5⟩ := hob
          rw [hrr] at g1 ⊢
          obtain ⟨fz', hf⟩ := hcells _ _ _ g1
          have hro2 : k2.ro = true := by
            rcases hor with h | h
            · rw [hwr] at h; cases h
            · simpa [writable] using h
          exact ⟨cc, fz', hf, g2, g3, (fun h => by rw [hro2] at h; cases h), g5⟩
      · rw [hother _ hrr]; exact hob
  · by_cases e1 : b1 = b
    · subst e1
      rw [T.get_set_eq] at h1; cases h1
      simp [writable] at hw1
    · rw [T.get_set_ne _ _ _ _ e1] at h1
      by_cases e2 : b2 = b
      · subst e2
        rw [T.get_set_eq] at h2; cases h2
        rw [hL] at hL2; cases hL2
        rcases hr.sep b1 b2 o1 _ hne h1 hb hw1 L1 L hL1 hL with ha | ⟨a1, _, hor, hap⟩
        · exact .inl ha
        · rcases hor with h | h
          · rw [hw1] at h; cases h
          · rw [hwr] at h; cases h
      · rw [T.get_set_ne _ _ _ _ e2] at h2
        exact hr.sep b1 b2 o1 o2 hne h1 h2 hw1 L1 L2 hL1 hL2
  · rintro ⟨c, oc, Lc, hc, hwc, hLc, rfl⟩
    by_cases e : c = b
    · subst e
      rw [T.get_set_eq] at hc; cases hc
      simp [writable] at hwc
    · rw [T.get_set_ne _ _ _ _ e] at hc
      exact hown ⟨c, oc, Lc, hc, hwc, hLc, rfl⟩
  · rintro ⟨c, oc, Lc, hc, hLc, rfl⟩
    by_cases e : c = b
    · subst e
      exact hn ⟨c, _, Lc, hb, hLc, rfl⟩
    · rw [T.get_set_ne _ _ _ _ e] at hc
      exact hn ⟨c, oc, Lc, hc, hLc, rfl⟩

theorem liesAt_one (hT : TabOk P K) {u : TypeId} (h1 : szOf K u = some 1) {cells off n : Nat} (h : off + n ≤ cells) : liesAt P P.depth u (cells / P.cellsOf u) off u n = true := by
  have hc := und_info hT h1
  have hd : P.depth = (2 * (P.types.size + Made.depth) + 1) + 1 := rfl
  rw [hd]
  simp only [liesAt, Bool.or_eq_true]
  left
  rw [hd]
  simp [rowAt, hc, sameLayout, h, Nat.mod_one]
theorem usString_ok {o : Oper} {c : Call} {t u : TypeId} {ts : List TypeId} {x n : Operand} (hT : TabOk P K) (hu : K.underlying t = some (.pointer u)) (hs : szOf K u = some 1) (ho : o.op = .call c) (hc : c.callee = .builtin .unsafeString) (hargs : c.args.toList = [x, n]) (hat : c.argTypes.toList = t :: ts) :
    GOk P o (mUsString u (compLd x) (compLd n)) := by
  have ha0 := type0 hat
  intro ρ A w tm a v A' hg hr ht h
  have hev := args_of hargs a.eval
  have hsuf : ∀ {r w'}, (Builtin.unsafeString_ c.argTypes o.type #[a.eval x, a.eval n]).run P w = .ok r w' → (execOp a.eval o).run P w = .ok (.value r) w' := by
    intro r w' h
    refine builtin_op ho hc ?_
    rw [hev]
    simp only [List.map_cons, List.map_nil, builtin, Sem.run_bind, h, Result.andThen_ok, Sem.run_pure]
  unfold mUsString at h
  split at h
  case h_2 => cases h
  rename_i xv kk nn hx hn
  have hx := ld_ok hg ht hx
  have hn := ld_ok hg ht hn
  obtain ⟨n', rfl⟩ : ∃ n', nn = n' + 1 := by
    cases nn with
    | zero => cases h
    | succ n => exact ⟨n, rfl⟩
  simp only [usString] at h
  split at h
  case h_2 => cases h
  split at h
  case h_2 => cases h
  rename_i b off _ _ _ k l hk hl
  split at h
  case h_2 => cases h
  rename_i m hm hcond
  cases h
  simp only [Bool.and_eq_true, Bool.not_eq_true'] at hcond
  obtain ⟨⟨hro, hel⟩, hbig⟩ := hcond
  have hel := beq_iff.1 hel
  have hbig := ble_iff.1 hbig
  obtain ⟨L, hL, e1⟩ := conc_p hx
  obtain ⟨L', us, hL', hca, hlen, hus, hcell⟩ := loadC_ok hr hl
  rw [hL] at hL'; cases hL'
  obtain ⟨hb, hml, rfl⟩ := bytesOfA_ok hm hus
  obtain ⟨cc, fz, g1, g2, g3, g4, g5⟩ := blk_obj hr hk hL
  have hfz := Rel.freeze hr (getBlk_some hk) hL hro (L.sh + off) (n' + 1)
  have hle : off + (n' + 1) ≤ k.n := by
    unfold loadC at hl
    rw [hk] at hl
    simp only at hl
    split at hl
    · rename_i hle; exact ble_iff.1 hle
    · cases hl
  have en : a.eval n = .int kk (n' + 1 : Nat) := (Option.some.inj hn).symm
  have hlb := Go.Lib.run_loadBytes (P := P) w (m.map UInt8.ofNat) ⟨L.r, L.sh + off, none⟩ .empty (fun j y hy => hcell j _ (by rw [List.getElem?_map, hy]; rfl))
  rw [List.length_map, hml, hlen] at hlb
  have hva : (variablesAt ⟨L.r, L.sh + off, none⟩ u (n' + 1)).run P w = .ok true w := by
    have := liesAt_one hT hs (cells := cc.size) (off := L.sh + off) (n := n' + 1) (by omega)
    simp only [variablesAt, Sem.run_bind, run_program, Result.andThen_ok, run_shape, shape_cells g1, hel, this, Sem.run_pure]
  refine ⟨ρ, .string (strOf m), _, by simp [conc, hb], hfz.1, hfz.2, hsuf ?_⟩
  rw [e1, en]
  have hmt : ∀ (p : Option Addr) (l : Value) (h1 : (p : Option Addr) → (l : Value) → Sem Value) (h2 : (a : Array Value) → Sem Value), Builtin.unsafeString_.match_3 (fun _ => Sem Value) #[.pointer p, l] h1 h2 = h1 p l := fun _ _ _ _ => rfl
  delta Builtin.unsafeString_
  dsimp only
  rw [hmt]
  have hmax : IntKind.i64.max = 9223372036854775807 := rfl
  have h1 : ¬ ((n' + 1 : Nat) : Int) < 0 := by omega
  have h2 : ¬ (9223372036854775807 : Int) < ((n' + 1 : Nat) : Int) := by omega
  have h3 : ¬ ((n' + 1 : Nat) : Int) = 0 := by omega
  have hfr : ∀ w', (freeze ⟨L.r, L.sh + off, none⟩ (n' + 1)).run P w' = .ok () (w'.freeze ⟨L.r, L.sh + off, none⟩ (n' + 1)) := fun _ => rfl
  have hel2 : ∀ w, (elemOf t).run P w = .ok u w := fun w => by simp [elemOf, run_und hT hu]
  simp only [asInt, asIntOf, ha0, Sem.run_bind, Sem.run_pure, Result.andThen_ok, h1, hmax, gt_iff_lt, h2, h3, if_false, Int.toNat_natCast, hel2, hva, if_true, hlb, hfr]
  simp [strOf]
end Go.Proofs.YtcaagfgopmhilaaGreatDoor.Vai
