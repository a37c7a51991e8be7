/- A part of the proof that the law of this seat holds: P7; no condition. -/
import Derived.Test.YtcaagfgopmhilaaGreatDoorP6
import Derived.Laws.AppendOwn
namespace Go.Proofs.YtcaagfgopmhilaaGreatDoor.Vai
variable {P : Program} {K : Tab}
/-! ### lengths, first cells -/
theorem lenA_ok {ρ : Map} {v : AV} {x : Value} {n : Nat} (hv : conc ρ v = some x) (h : lenA v = some n) (w : World) : (Builtin.lenOf x).run P w = .ok n w := by
  cases v with
  | sn => cases h; cases hv; rfl
  | sx b o l c => cases h; obtain ⟨L, _, rfl⟩ := Option.map_eq_some_iff.1 hv; rfl
  | su b o l c => cases h; obtain ⟨L, _, rfl⟩ := Option.map_eq_some_iff.1 hv; rfl
  | s l => cases h; obtain ⟨_, rfl⟩ := conc_s hv; simp [Builtin.lenOf, strOf_size]
  | _ => cases h
theorem firstA_ok {ρ : Map} {A : AW} {w : World} {v : AV} {x : Value} {size n : Nat} {l : List AV} (hr : Rel ρ A w) (hv : conc ρ v = some x) (h : firstA A size n v = some l)
    (hlen : lenA v = some n ∨ ∃ m, lenA v = some m ∧ n ≤ m) :
    ∃ u, concL ρ l = some u ∧ allCells l = true ∧ l.length = n * size ∧ ∀ d, (Builtin.firstCells size n x).run P { w with drawn := d } = .ok u.toArray { w with drawn := d } := by
  have hload : ∀ {b : Pos} {o : Nat} {m : List AV} {len cap : Nat}, loadC A b o (n * size) = some m → ∀ L, ρ b = some L →
      ∃ u, concL ρ m = some u ∧ allCells m = true ∧ m.length = n * size ∧ ∀ d, (Builtin.firstCells size n (.slice (some ⟨L.r, L.sh + o, none⟩) len cap)).run P { w with drawn := d } = .ok u.toArray { w with drawn := d } := by
    intro b o m len cap hm L hL
    obtain ⟨L', u, hL', hc, hl, hu, hcell⟩ := loadC_ok hr hm
    rw [hL] at hL'; cases hL'
    exact ⟨u, hu, hc, hl, fun d => run_firstCells_some { w with drawn := d } size n _ len cap u (by rw [concL_length hu, hl]) hcell⟩
  have hzero : ∀ {y : Value} {ad : Addr} {len cap : Nat}, n = 0 → y = .slice (some ad) len cap → l = [] →
      ∃ u, concL ρ l = some u ∧ allCells l = true ∧ l.length = n * size ∧ ∀ d, (Builtin.firstCells size n y).run P { w with drawn := d } = .ok u.toArray { w with drawn := d } := by
    intro y ad len cap hn hy hl
    subst hn hy hl
    exact ⟨[], rfl, rfl, by simp, fun d => by simp [Builtin.firstCells, loadCells, loadCellsFrom]⟩
  cases v with
  | sn =>
    cases h; cases hv
    have hn : n = 0 := by
      rcases hlen with h | ⟨m, h, hle⟩
      · cases h; rfl
      · cases h; omega
    subst hn
    exact ⟨[], rfl, rfl, by simp, fun d => by simp [Builtin.firstCells]⟩
  | sx b o len c =>
    obtain ⟨L, hL, rfl⟩ := Option.map_eq_some_iff.1 hv
    unfold firstA at h
    simp only at h
    split at h
    · cases h; exact hzero rfl rfl rfl
    · exact hload h L hL
  | su b o len c =>
    obtain ⟨L, hL, rfl⟩ := Option.map_eq_some_iff.1 hv
    unfold firstA at h
    simp only at h
    split at h
    · cases h; exact hzero rfl rfl rfl
    · exact hload h L hL
  | s s =>
    unfold firstA at h
    simp only at h
    split at h
    case h_2 => cases h
    cases h
    obtain ⟨hb, rfl⟩ := conc_s hv
    have hbt : byteOk (s.take n) = true := byteOk_of fun c hc => byteOk_mem hb c (List.mem_of_mem_take hc)
    obtain ⟨h1, h2, h3⟩ := bytesA_spec (ρ := ρ) hbt
    have hn : n ≤ s.length := by
      rcases hlen with h | ⟨m, h, hle⟩
      · cases h; exact Nat.le_refl _
      · cases h; exact hle
    refine ⟨_, h3, h1, by simp [h2]; omega, fun d => ?_⟩
    simp only [Builtin.firstCells]
    have e : ((strOf s).extract 0 n).data = ((s.take n).map UInt8.ofNat).toArray := by
      apply Array.ext'
      rw [Go.Lib.extract_data]
      simp [strOf, List.map_take]
    rw [e]
    simp only [List.map_toArray, List.map_map]
    rfl
  | _ => cases h

/-! ### append -/
structure AppOk (P : Program) (I : AppI) (t : TypeId) (u : TypeId) : Prop where
  el : P.underlying t = some (.slice I.el)
  size : 0 < I.size
  bytes : I.bytes ≤ 1000000
  info : ∃ i x z, P.info? I.el = some i ∧ i.size = I.size ∧ i.bytes = I.bytes ∧ i.zero = some x ∧ absV x = some z ∧ allCells z.cells = true ∧ z.cells.length = I.size ∧ (∀ y, I.zero = some y → y = z.cells)
  zeros : match I.zero with
    | some _ => ∃ k, P.underlying u = some (.int k)
    | none => ∃ d, P.underlying u = some d ∧ (∀ k, d ≠ .int k)
theorem appInfo_ok {t u : TypeId} {I : AppI} (hT : TabOk P K) (h : appInfo K t u = some I) : AppOk P I t u := by
  unfold appInfo at h
  split at h
  · rename_i e he
    split at h
    · rename_i i z d hi hz hd
      split at h
      · rename_i hb
        simp only [Bool.and_eq_true] at hb
        have h1 := blt_iff.1 hb.1.1.1
        have h2 := ble_iff.1 hb.1.1.2
        have h3 := beq_iff.1 hb.1.2
        have h4 := hb.2
        have hz' : ∃ x, i.zero = some x ∧ absV x = some z := by
          unfold zeroA at hz
          rw [hi] at hz
          simp only at hz
          split at hz
          · rename_i x hx; exact ⟨x, hx, hz⟩
          · cases hz
        obtain ⟨x, hx, hxz⟩ := hz'
        split at h
        · cases h
          exact ⟨hT.ud _ _ he, h1, h2, ⟨i, x, z, hT.ty _ _ hi, rfl, rfl, hx, hxz, h4, h3, fun y hy => (Option.some.inj hy).symm⟩, ⟨_, hT.ud _ _ hd⟩⟩
        · rename_i hne
          cases h
          exact ⟨hT.ud _ _ he, h1, h2, ⟨i, x, z, hT.ty _ _ hi, rfl, rfl, hx, hxz, h4, h3, fun y hy => by cases hy⟩, ⟨d, hT.ud _ _ hd, fun k e => hne k e⟩⟩
      · cases h
    · cases h
  · cases h

/-- the new cells, in the abstract and in the model -/
theorem appNew_ok {I : AppI} {t u : TypeId} (hA : AppOk P I t u) {i : TypeInfo} (hi : P.info? I.el = some i) {ρ : Map} {A : AW} {w : World} {x : AV} {xv : Value} {n : Nat} {new : List AV} (hr : Rel ρ A w) (hx : conc ρ x = some xv) (h : appNew I A x = some (n, new)) :
    ∃ (un : List Value) (zeros : Bool), concL ρ new = some un ∧ allCells new = true ∧ new.length = n * I.size ∧
      (if zeros then ∃ k, P.underlying u = some (.int k) else ∃ d, P.underlying u = some d ∧ (∀ k, d ≠ .int k)) ∧
      (if zeros then (∃ k : IntKind, xv = .int k n) ∧ n ≤ 1000000 ∧ ∃ i z, P.info? I.el = some i ∧ i.zero = some z ∧ (if n * i.size = 0 then un.toArray = #[] else un.toArray = Builtin.zeroCells z.cells n)
       else (∀ (w : World), (Builtin.lenOf xv).run P w = .ok n w) ∧ ∀ d, (Builtin.firstCells i.size n xv).run P { w with drawn := d } = .ok un.toArray { w with drawn := d }) := by
  unfold appNew at h
  have hz := hA.zeros
  obtain ⟨i', zx, z', hi', hsz, hby, hix, hzx, hzc, hzl, hzeq⟩ := hA.info
  rw [hi] at hi'; cases hi'
  split at h
  · rename_i z hzz
    rw [hzz] at hz
    have := hzeq z hzz
    subst this
    split at h
    · rename_i m hm
      split at h
      · rename_i hle
        split at h
        · rename_i l hl
          cases h
          obtain ⟨k', rfl⟩ := natOf_some hm
          have e1 := conc_i hx
          obtain ⟨v, hv, hxv, _, _⟩ := zero_cells (ρ := ρ) hzx hzc
          have htr := zeros_trOk (ρ := ρ) n (by rw [hzl]; exact hA.size) hzc hv
          have hszz : ((Array.range (n * z'.cells.length)).map fun i => v.toArray[i % v.toArray.size]!).size = n * I.size := by simp [hzl]
          have hc := trOk_get htr (i := 0) (by rw [hszz]; omega) hl
          simp only [List.drop_zero] at hc
          have hcell : allCells new = true ∧ new.length = n * I.size := by
            have : ∀ (m i : Nat) (l : List AV), i + m ≤ n * I.size → getCells (zerosA n 0 z'.cells .leaf) i m = some l → allCells l = true ∧ l.length = m := by
              intro m
              induction m with
              | zero => intro i l _ h; cases h; exact ⟨rfl, rfl⟩
              | succ m ih =>
                intro i l hle h
                simp only [getCells] at h
                split at h
                · rename_i a ha
                  split at h
                  · rename_i l' hl'
                    cases h
                    obtain ⟨h1, h2⟩ := ih (i + 1) l' (by omega) hl'
                    obtain ⟨a', _, g1, g2, _⟩ := htr.all i (by rw [hszz]; omega)
                    rw [ha] at g1; cases g1
                    exact ⟨by simp [allCells, g2, h1], by simp [h2]⟩
                  · cases h
                · cases h
            exact this _ 0 _ (by omega) hl
          refine ⟨_, true, hc, hcell.1, hcell.2, by simpa using hz, ?_⟩
          simp only [if_true]
          refine ⟨⟨k', e1⟩, ble_iff.1 hle, i, zx, hi, hix, ?_⟩
          split
          · rename_i h0
            apply Array.ext'
            rw [hsz] at h0
            simp [h0, hzl]
          · apply Array.ext'
            simp only [Builtin.zeroCells, hxv, List.size_toArray, concL_length hv]
        · cases h
      · cases h
    · cases h
  · rename_i hzz
    rw [hzz] at hz
    split at h
    · rename_i m hm
      split at h
      · rename_i l hl
        cases h
        obtain ⟨un, h1, h2, h3, h4⟩ := firstA_ok (P := P) hr hx hl (.inl hm)
        refine ⟨un, false, h1, h2, h3, by simpa using hz, ?_⟩
        simp only [Bool.false_eq_true, if_false]
        exact ⟨fun w => lenA_ok hx hm w, by rw [hsz]; exact h4⟩
      · cases h
    · cases h
theorem isInt_false {d : TypeDesc} (h : ∀ k, d ≠ .int k) : (match d with
    | .int _ => true
    | _ => false) = false := by
  cases d <;> first | rfl | exact absurd rfl (h _)

theorem app_fits {w : World} {P : Program} {t u ty el : TypeId} {i : TypeInfo} {xv : Value} {n : Nat} {un : List Value} {zeros : Bool} (hel : P.underlying t = some (.slice el)) (hi : P.info? el = some i)
    (hu : if zeros then ∃ k, P.underlying u = some (.int k) else ∃ d, P.underlying u = some d ∧ (∀ k, d ≠ .int k)) (hb : i.bytes ≤ 1000000)
    (hcase : if zeros then (∃ k : IntKind, xv = .int k n) ∧ n ≤ 1000000 ∧ ∃ i z, P.info? el = some i ∧ i.zero = some z ∧ (if n * i.size = 0 then un.toArray = #[] else un.toArray = Builtin.zeroCells z.cells n)
       else (∀ (w : World), (Builtin.lenOf xv).run P w = .ok n w) ∧ ∀ d, (Builtin.firstCells i.size n xv).run P { w with drawn := d } = .ok un.toArray { w with drawn := d })
    (base : Option Addr) (sLen sCap : Nat) (hle : sLen + n ≤ sCap) : (Builtin.append_ #[t, u] ty #[.slice base sLen sCap, xv]).run P w = (match base with
      | some a => (storeCells (a.add (sLen * i.size)) un).run P w
      | none => .ok () w).andThen fun _ w' => .ok (.slice base (sLen + n) sCap) w' := by
  cases zeros with
  | false =>
    simp only [Bool.false_eq_true, if_false] at hu hcase
    obtain ⟨d, hd, hne⟩ := hu
    obtain ⟨h1, h2⟩ := hcase
    have h2' := h2 w.drawn
    have e : ({ w with drawn := w.drawn } : World) = w := rfl
    rw [e] at h2'
    have hi0 := isInt_false hne
    cases base with
    | none => simp [Builtin.append_, run_underlying hel, run_underlying hd, sizeOf, typeInfo, hi, hi0, h1, hle, h2']
    | some a => simp [Builtin.append_, run_underlying hel, run_underlying hd, sizeOf, typeInfo, hi, hi0, h1, hle, h2']
  | true =>
    simp only [if_true] at hu hcase
    obtain ⟨k, hk⟩ := hu
    obtain ⟨⟨k', rfl⟩, hn, i', z, hi', hz, hun⟩ := hcase
    rw [hi] at hi'; cases hi'
    have hw : IntKind.i64.wrap (n : Int) = n := IntWalk.i64_in _ (by omega)
    have h0 : ¬ ((n : Int) < 0) := by omega
    have h1 : ¬ (281474976710656 < (n : Int) * (i.bytes : Int)) := by
      have : n * i.bytes ≤ 1000000 * 1000000 := Nat.mul_le_mul hn hb
      have h2 : ((n * i.bytes : Nat) : Int) ≤ 1000000000000 := by omega
      rw [Int.natCast_mul] at h2
      omega
    by_cases hz0 : n * i.size = 0
    · rw [if_pos hz0] at hun
      have hun' : un = [] := by simpa using congrArg Array.toList hun
      subst hun'
      cases base with
      | none => simp [Builtin.append_, run_underlying hel, run_underlying hk, sizeOf, typeInfo, hi, asInt, asIntOf, hw, h0, h1, hle, hz0]
      | some a => simp [Builtin.append_, run_underlying hel, run_underlying hk, sizeOf, typeInfo, hi, asInt, asIntOf, hw, h0, h1, hle, hz0]
    · rw [if_neg hz0] at hun
      have hun' : un = (Builtin.zeroCells z.cells n).toList := by rw [← hun]
      subst hun'
      cases base with
      | none => simp [Builtin.append_, run_underlying hel, run_underlying hk, sizeOf, typeInfo, hi, asInt, asIntOf, hw, h0, h1, hle, hz0, zeroValue, hz]
      | some a => simp [Builtin.append_, run_underlying hel, run_underlying hk, sizeOf, typeInfo, hi, asInt, asIntOf, hw, h0, h1, hle, hz0, zeroValue, hz]

theorem app_grow {w : World} {P : Program} {t u ty el : TypeId} {i : TypeInfo} {z : Value} {xv : Value} {n : Nat} {un old : List Value} {zeros : Bool} (hel : P.underlying t = some (.slice el)) (hi : P.info? el = some i) (hz : i.zero = some z)
    (hu : if zeros then ∃ k, P.underlying u = some (.int k) else ∃ d, P.underlying u = some d ∧ (∀ k, d ≠ .int k)) (hb : i.bytes ≤ 1000000)
    (hcase : if zeros then (∃ k : IntKind, xv = .int k n) ∧ n ≤ 1000000 ∧ ∃ i z, P.info? el = some i ∧ i.zero = some z ∧ (if n * i.size = 0 then un.toArray = #[] else un.toArray = Builtin.zeroCells z.cells n)
       else (∀ (w : World), (Builtin.lenOf xv).run P w = .ok n w) ∧ ∀ d, (Builtin.firstCells i.size n xv).run P { w with drawn := d } = .ok un.toArray { w with drawn := d })
    (base : Option Addr) (sLen sCap : Nat) (hg : sCap < sLen + n) (h9 : sLen + n ≤ 100000000)
    (hold : ∀ d, (Builtin.firstCells i.size sLen (.slice base sLen sCap)).run P { w with drawn := d } = .ok old.toArray { w with drawn := d }) :
    (Builtin.append_ #[t, u] ty #[.slice base sLen sCap, xv]).run P w =
        .ok (.slice (some ⟨w.heap.size, 0, none⟩) (sLen + n) (grownCap w (sLen + n) sCap el))
          (w.drew.alloc (.cells (old.toArray ++ un.toArray ++ Builtin.zeroCells z.cells (grownCap w (sLen + n) sCap el - (sLen + n))) el)) := by
  have hn' : ¬ (sLen + n ≤ sCap) := by omega
  have h63' : ¬ (9223372036854775807 < ((sLen : Int) + (n : Int))) := by omega
  have hbb : (sLen + n) * i.bytes ≤ 140737488355328 := Nat.le_trans (Nat.mul_le_mul h9 hb) (by decide)
  have h48' : ¬ (281474976710656 < Builtin.nextslicecap (sLen + n) sCap * i.bytes) := by
    have := growslice_fits hg hbb
    omega
  have hd := hold (w.drawn + 1)
  cases zeros with
  | false =>
    simp only [Bool.false_eq_true, if_false] at hu hcase
    obtain ⟨d, hd', hne⟩ := hu
    obtain ⟨h1, h2⟩ := hcase
    have h2' := h2 (w.drawn + 1)
    have hi0 := isInt_false hne
    have e : ({ w with drawn := w.drawn + 1 } : World) = w.drew := rfl
    rw [e] at h2' hd
    simp [Builtin.append_, run_underlying hel, run_underlying hd', sizeOf, typeInfo, hi, hi0, h1, hn', h63', h48', Question.forced, h2', hd, zeroValue, hz, newRow, grownCap]
    try (congr 2; apply Array.ext'; simp [List.append_assoc])
  | true =>
    simp only [if_true] at hu hcase
    obtain ⟨k, hk⟩ := hu
    obtain ⟨⟨k', rfl⟩, hnn, i', z', hi', hz', hun⟩ := hcase
    rw [hi] at hi'; cases hi'
    rw [hz] at hz'; cases hz'
    have hw : IntKind.i64.wrap (n : Int) = n := IntWalk.i64_in _ (by omega)
    have h0 : ¬ ((n : Int) < 0) := by omega
    have h1 : ¬ (281474976710656 < (n : Int) * (i.bytes : Int)) := by
      have : n * i.bytes ≤ 1000000 * 1000000 := Nat.mul_le_mul hnn hb
      have h2 : ((n * i.bytes : Nat) : Int) ≤ 1000000000000 := by omega
      rw [Int.natCast_mul] at h2
      omega
    have e : ({ w with drawn := w.drawn + 1 } : World) = w.drew := rfl
    rw [e] at hd
    by_cases hz0 : n * i.size = 0
    · rw [if_pos hz0] at hun
      have hun' : un = [] := by simpa using congrArg Array.toList hun
      subst hun'
      simp [Builtin.append_, run_underlying hel, run_underlying hk, sizeOf, typeInfo, hi, asInt, asIntOf, hw, h0, h1, hn', h63', h48', Question.forced, hd, zeroValue, hz, newRow, grownCap, hz0]
      try (congr 2; apply Array.ext'; simp [List.append_assoc])
    · rw [if_neg hz0] at hun
      have hun' : un = (Builtin.zeroCells z.cells n).toList := by rw [← hun]
      subst hun'
      simp [Builtin.append_, run_underlying hel, run_underlying hk, sizeOf, typeInfo, hi, asInt, asIntOf, hw, h0, h1, hn', h63', h48', Question.forced, hd, zeroValue, hz, newRow, grownCap, hz0]
      try (congr 2; apply Array.ext'; simp [List.append_assoc])

theorem zeroCells_size (z : Array Value) (n : Nat) : (Builtin.zeroCells z n).size = n * z.size := by simp [Builtin.zeroCells]

theorem append_op {o : Oper} {x y : Operand} {t u : TypeId} (ho : o.op = .call { callee := .builtin .append, args := #[x, y], argTypes := #[t, u] }) {a : Act} {w w' : World} {r : Value}
    (h : (Builtin.append_ #[t, u] o.type #[a.eval x, a.eval y]).run P w = .ok r w') : (execOp a.eval o).run P w = .ok (.value r) w' := by
  simp [execOp, ho, resolve, invoke, builtin, h]

/-- a new row behind growth -/
theorem appGrow_ok {I : AppI} {t u : TypeId} (hA : AppOk P I t u) {ρ : Map} {A A' : AW} {w : World} {old new : List AV} {uo un : List Value} {need cap : Nat} {v : AV} {z : Value} {i : TypeInfo} (hr : Rel ρ A w) (hi : P.info? I.el = some i) (hz : i.zero = some z)
    (ho : concL ρ old = some uo) (hn : concL ρ new = some un) (co : allCells old = true) (cn : allCells new = true) (hl : (old ++ new).length = need * I.size) (hcap : need ≤ cap) (h : appGrow I A old new need = some (v, A')) :
    ∃ ρ', conc ρ' v = some (.slice (some ⟨w.heap.size, 0, none⟩) need cap) ∧
      Rel ρ' A' (w.drew.alloc (.cells (uo.toArray ++ un.toArray ++ Builtin.zeroCells z.cells (cap - need)) I.el)) ∧
      Goes ρ A w ρ' A' (w.drew.alloc (.cells (uo.toArray ++ un.toArray ++ Builtin.zeroCells z.cells (cap - need)) I.el)) := by
  cases h
  obtain ⟨i', zx, z', hi', hsz, hby, hix, hzx, hzc, hzl, hzeq⟩ := hA.info
  rw [hi] at hi'; cases hi'
  rw [hz] at hix; cases hix
  obtain ⟨vz, hvz, hxv, _, _⟩ := zero_cells (ρ := ρ) hzx hzc
  have hzs : z.cells.size = I.size := by rw [hxv]; simp [concL_length hvz, hzl]
  have hcat : allCells (old ++ new) = true := by
    clear hl ho
    induction old with
    | nil => exact cn
    | cons a l ih =>
      simp only [allCells] at co
      split at co
      · rename_i ha; simp [allCells, ha, ih co]
      · cases co
  have hun := concL_append ho hn
  have hlen : (uo ++ un).length = need * I.size := by rw [concL_length hun]; exact hl
  have hasz : (uo.toArray ++ un.toArray ++ Builtin.zeroCells z.cells (cap - need)).size = cap * I.size := by
    have h1 : uo.length + un.length = need * I.size := by rw [← List.length_append]; exact hlen
    simp only [Array.size_append, List.size_toArray, zeroCells_size, hzs, h1, ← Nat.add_mul]
    congr 1; omega
  have hp := push_cells hr (w.drawn + 1) (k := ⟨putCells 0 (old ++ new) .leaf, need * I.size, I.el, true, false⟩) (arr := uo.toArray ++ un.toArray ++ Builtin.zeroCells z.cells (cap - need))
    (by rw [hasz]; exact Nat.mul_le_mul_right _ hcap)
    (fun j y hj hy => by
      have := putCells_conc hcat hun (Builtin.zeroCells z.cells (cap - need)).toList j y (by rw [hl]; exact hj) hy
      obtain ⟨h1, x, h2, h3⟩ := this
      refine ⟨h1, x, h2, ?_⟩
      rw [← h3]
      congr 1
      apply Array.ext'
      simp)
  refine ⟨_, ?_, hp.1, hp.2⟩
  simp only [conc, upd_eq, Option.map_some, Nat.zero_add, Nat.sub_zero, hasz, Nat.mul_div_cancel _ hA.size]

theorem store_row {ρ : Map} {A A' : AW} {w : World} {b : Pos} {off : Nat} {new : List AV} {un : List Value} {v r : AV} (hr : Rel ρ A w) (hn : concL ρ new = some un) (cn : allCells new = true) (h : appStore A b off new v = some (r, A')) {L : Loc} (hL : ρ b = some L) :
    r = v ∧ ∃ w', Rel ρ A' w' ∧ Goes ρ A w ρ A' w' ∧ (storeCells ⟨L.r, L.sh + off, none⟩ un).run P w = .ok () w' := by
  unfold appStore at h
  split at h
  · cases h; cases hn
    exact ⟨rfl, w, hr, .refl _ _ _, rfl⟩
  · split at h
    · rename_i A1 hst
      cases h
      obtain ⟨L', w', hL', h1, h2, h3⟩ := storeC_ok (P := P) hr cn hst hn
      rw [hL] at hL'; cases hL'
      exact ⟨rfl, w', h1, h2, h3⟩
    · cases h
end Go.Proofs.YtcaagfgopmhilaaGreatDoor.Vai
