/- A part of the proof that the law of this seat holds: P3; no condition. -/
import Derived.Test.YtcaagfgopmhilaaGreatDoorP2
import Derived.Laws.Strings
import Derived.Lib.Strings
namespace Go.Proofs.YtcaagfgopmhilaaGreatDoor.Vai
/-! ### strings -/
theorem strOf_size (l : List Nat) : (strOf l).size = l.length := by simp [strOf, ByteArray.size]
theorem toNat_ofNat {c : Nat} (h : c < 256) : (UInt8.ofNat c).toNat = c := by simp [Nat.mod_eq_of_lt h]
theorem blt_iff {a b : Nat} : Nat.blt a b = true ↔ a < b := by simp [Nat.blt, Nat.ble_eq, Nat.succ_le_iff]
theorem blt_false {a b : Nat} (h : Nat.blt a b = false) : b ≤ a := by
  rcases Nat.lt_or_ge a b with h' | h'
  · rw [blt_iff.2 h'] at h; cases h
  · exact h'
theorem ble_iff {a b : Nat} : Nat.ble a b = true ↔ a ≤ b := by rw [Nat.ble_eq]
theorem ble_false {a b : Nat} (h : Nat.ble a b = false) : b < a := by
  rcases Nat.lt_or_ge b a with h' | h'
  · exact h'
  · rw [ble_iff.2 h'] at h; cases h
theorem beq_iff {a b : Nat} : Nat.beq a b = true ↔ a = b := ⟨Nat.eq_of_beq_eq_true, fun h => by subst h; simp⟩
theorem beq_false {a b : Nat} (h : Nat.beq a b = false) : a ≠ b := fun e => by rw [beq_iff.2 e] at h; cases h
theorem byteOk_cons {c : Nat} {l : List Nat} : byteOk (c :: l) = true ↔ c < 256 ∧ byteOk l = true := by
  simp [byteOk]
theorem byteOk_bytes : ∀ (l : List UInt8), byteOk (l.map (·.toNat)) = true
  | [] => rfl
  | a :: l => byteOk_cons.2 ⟨a.toNat_lt, byteOk_bytes l⟩
theorem strOf_bytes (s : ByteArray) : strOf (s.data.toList.map (·.toNat)) = s := by
  unfold strOf
  have : (List.map (UInt8.ofNat ∘ fun x : UInt8 => x.toNat) s.data.toList) = s.data.toList := by
    have h : (UInt8.ofNat ∘ fun x : UInt8 => x.toNat) = id := by funext x; simp
    rw [h, List.map_id]
  rw [List.map_map, this]
theorem byteOk_append {l k : List Nat} (h : byteOk l = true) (h' : byteOk k = true) : byteOk (l ++ k) = true := by
  induction l with
  | nil => exact h'
  | cons a l ih => have ⟨x, y⟩ := byteOk_cons.1 h; exact byteOk_cons.2 ⟨x, ih y⟩
theorem byteOk_mem {l : List Nat} (h : byteOk l = true) : ∀ c ∈ l, c < 256 := by
  induction l with
  | nil => intro c hc; cases hc
  | cons a l ih =>
    have ⟨x, y⟩ := byteOk_cons.1 h
    intro c hc
    cases hc with
    | head => exact x
    | tail _ h' => exact ih y c h'
theorem byteOk_of {l : List Nat} (h : ∀ c ∈ l, c < 256) : byteOk l = true := by
  induction l with
  | nil => rfl
  | cons a l ih => exact byteOk_cons.2 ⟨h a (by simp), ih fun c hc => h c (by simp [hc])⟩
theorem strEq_iff : ∀ {l k : List Nat}, strEq l k = true ↔ l = k
  | [], [] => by simp [strEq]
  | [], _ :: _ => by simp [strEq]
  | _ :: _, [] => by simp [strEq]
  | a :: l, b :: k => by
    simp only [strEq]
    cases h : Nat.beq a b
    · simp [beq_false h]
    · simp [beq_iff.1 h, strEq_iff (l := l) (k := k)]
theorem map_ofNat_inj : ∀ {l k : List Nat}, byteOk l = true → byteOk k = true → l.map UInt8.ofNat = k.map UInt8.ofNat → l = k
  | [], [], _, _, _ => rfl
  | [], _ :: _, _, _, h => by simp at h
  | _ :: _, [], _, _, h => by simp at h
  | a :: l, b :: k, h1, h2, h => by
    have ⟨x, y⟩ := byteOk_cons.1 h1
    have ⟨x', y'⟩ := byteOk_cons.1 h2
    simp only [List.map_cons, List.cons.injEq] at h
    have e : a = b := by rw [← toNat_ofNat x, h.1, toNat_ofNat x']
    rw [e, map_ofNat_inj y y' h.2]
theorem strOf_toList (l : List Nat) : (strOf l).toList = l.map UInt8.ofNat := by
  rw [Go.Lib.toList_data]; simp [strOf]
theorem strEq_spec {l k : List Nat} (h : byteOk l = true) (h' : byteOk k = true) : strEq l k = ((strOf l).toList == (strOf k).toList) := by
  rw [Bool.eq_iff_iff, strEq_iff, strOf_toList, strOf_toList]
  simp only [beq_iff_eq]
  exact ⟨fun e => by rw [e], map_ofNat_inj h h'⟩

/-! ### operands -/
theorem absAtom_ok {ρ : Map} {v : Value} {a : AV} (h : absAtom v = some a) : conc ρ a = some v ∧ isCell a = v.oneCell' := by
  unfold absAtom at h
  split at h <;> first
    | (cases h; exact ⟨rfl, rfl⟩)
    | (cases h; exact ⟨by simp [conc, byteOk_bytes, strOf_bytes], rfl⟩)
    | skip
  · rename_i fn x y
    split at h
    · rename_i h1 h2
      cases h
      have e1 : x = #[] := Array.toList_inj.1 (by simpa using h1)
      have e2 : y = #[] := Array.toList_inj.1 (by simpa using h2)
      subst e1 e2
      exact ⟨rfl, rfl⟩
    · cases h
  · rename_i x
    split at h
    · rename_i h1
      cases h
      have e1 : x = #[] := Array.toList_inj.1 (by simpa using h1)
      subst e1
      exact ⟨rfl, rfl⟩
    · cases h
  · cases h
theorem absL_ok {ρ : Map} : ∀ {l : List Value} {m : List AV}, absL l = some m → concL ρ m = some l
  | [], m, h => by cases h; rfl
  | v :: l, m, h => by
    unfold absL at h
    split at h
    · rename_i a ha
      split at h
      · rename_i k hk
        cases h
        exact concL_mk (absAtom_ok ha).1 (absL_ok hk)
      · cases h
    · cases h
theorem absV_ok {ρ : Map} {v : Value} {a : AV} (h : absV v = some a) : conc ρ a = some v := by
  unfold absV at h
  split at h
  · split at h
    · rename_i l hl
      cases h
      have := absL_ok (ρ := ρ) hl
      simp [conc, this]
    · cases h
  · exact (absAtom_ok h).1

def Globs (ρ : Map) : Prop := ∀ g, g < 32 → ∃ lim, ρ (pos g) = some ⟨g, 0, lim⟩
theorem Globs.mono {ρ ρ' : Map} (h : Globs ρ) (e : Ext' ρ ρ') : Globs ρ' := fun g hg => let ⟨l, hl⟩ := h g hg; ⟨l, e _ _ hl⟩

def TmOk (ρ : Map) (tm : T AV) (tmps : Array Value) : Prop := ∀ t v, tm.get (pos t) = some v → ∃ x, conc ρ v = some x ∧ tmps[t]? = some x
theorem TmOk.mono {ρ ρ' : Map} {tm : T AV} {tmps : Array Value} (h : TmOk ρ tm tmps) (e : Ext' ρ ρ') : TmOk ρ' tm tmps :=
  fun t v hv => let ⟨x, hx, hy⟩ := h t v hv; ⟨x, conc_mono e _ _ hx, hy⟩

variable {ρ : Map} {tm : T AV} {a : Act}

theorem ld_ok {x : Operand} {v : AV} (hg : Globs ρ) (ht : TmOk ρ tm a.tmps) (h : (compLd x).get tm = some v) : conc ρ v = some (a.eval x) := by
  cases x with
  | tmp t =>
    obtain ⟨y, hy, hz⟩ := ht t v h
    simp [Act.eval, Array.getD_eq_getD_getElem?, hz, hy]
  | const c =>
    simp only [compLd] at h
    split at h
    · rename_i b hb
      simp only [ldC, Option.some.injEq] at h
      subst h
      exact absV_ok hb
    · cases h
  | global g =>
    simp only [compLd] at h
    split at h
    · rename_i hb
      simp only [ldC, Option.some.injEq] at h
      subst h
      obtain ⟨lim, hl⟩ := hg g (blt_iff.1 hb)
      simp [conc, hl, Act.eval]
    · cases h
  | func f =>
    simp only [compLd, ldC, Option.some.injEq] at h
    subst h
    rfl

theorem lds_ok (hg : Globs ρ) (ht : TmOk ρ tm a.tmps) : ∀ {l : List Operand} {m : List AV}, lds (compLds l) tm = some m → concL ρ m = some (l.map a.eval)
  | [], m, h => by cases h; rfl
  | x :: l, m, h => by
    simp only [compLds, lds] at h
    split at h
    · rename_i v hv
      split at h
      · rename_i k hk
        cases h
        exact concL_mk (ld_ok hg ht hv) (lds_ok hg ht hk)
      · cases h
    · cases h

/-! ### reading -/
theorem Addr.add_none (b o n : Nat) : Addr.add ⟨b, o, none⟩ n = ⟨b, o + n, none⟩ := by unfold Addr.add; split <;> simp_all

theorem getBlk_some {A : AW} {b : Pos} {k : Blk} (h : getBlk A b = some k) : A.h.get b = some (.cells k) := by
  unfold getBlk at h
  split at h
  · rename_i k' hk; cases h; exact hk
  · cases h

theorem load1_ok {A : AW} {w : World} {b : Pos} {o : Nat} {v : AV} (hr : Rel ρ A w) (h : load1 A b o = some v) :
    ∃ L x, ρ b = some L ∧ conc ρ v = some x ∧ isCell v = true ∧ w.cell? ⟨L.r, L.sh + o, none⟩ = some x := by
  unfold load1 at h
  split at h
  · rename_i k hk
    split at h
    · rename_i hlt
      obtain ⟨L, hL, c, fz, h1, h2, h3, h4, h5⟩ := hr.objs b _ (getBlk_some hk)
      obtain ⟨hc, x, hx, hcx⟩ := h5 o v (blt_iff.1 hlt) h
      exact ⟨L, x, hL, hx, hc, by simp [World.cell?, h1, hcx]⟩
    · cases h
  · cases h

theorem getCells_ok {k : Blk} {ob : Option Obj} {L : Loc} (hr : ObjRel ρ ob L (.cells k)) : ∀ {n o : Nat} {l : List AV}, o + n ≤ k.n → getCells k.c o n = some l →
    allCells l = true ∧ l.length = n ∧ ∃ u, concL ρ l = some u ∧ ∀ c e fz, ob = some (.cells c e fz) → ∀ j x, u[j]? = some x → c[L.sh + o + j]? = some x
  | 0, o, l, _, h => by cases h; exact ⟨rfl, rfl, [], rfl, fun _ _ _ _ j x hx => by simp at hx⟩
  | n + 1, o, l, hn, h => by
    simp only [getCells] at h
    split at h
    · rename_i v hv
      split at h
      · rename_i m hm
        cases h
        obtain ⟨h1, h2, u, hu, h3⟩ := getCells_ok hr (by omega) hm
        obtain ⟨c, fz, e1, e2, e3, e4, e5⟩ := hr
        obtain ⟨hc, x, hx, hcx⟩ := e5 o v (by omega) hv
        refine ⟨by simp [allCells, hc, h1], by simp [h2], x :: u, concL_mk hx hu, fun c' e' fz' hob j y hy => ?_⟩
        cases j with
        | zero =>
          rw [e1] at hob
          cases hob
          simp only [List.getElem?_cons_zero, Option.some.injEq] at hy
          subst hy
          simpa using hcx
        | succ j =>
          have := h3 c' e' fz' hob j y (by simpa using hy)
          rw [← this]; congr 1; omega
      · cases h
    · cases h

theorem loadC_ok {A : AW} {w : World} {b : Pos} {o n : Nat} {l : List AV} (hr : Rel ρ A w) (h : loadC A b o n = some l) :
    ∃ L u, ρ b = some L ∧ allCells l = true ∧ l.length = n ∧ concL ρ l = some u ∧ ∀ j x, u[j]? = some x → w.cell? ((⟨L.r, L.sh + o, none⟩ : Addr).add j) = some x := by
  unfold loadC at h
  split at h
  · rename_i k hk
    split at h
    · rename_i hle
      obtain ⟨L, hL, hob⟩ := hr.objs b _ (getBlk_some hk)
      obtain ⟨h1, h2, u, hu, h3⟩ := getCells_ok hob (ble_iff.1 hle) h
      obtain ⟨c, fz, e1, _⟩ := hob
      refine ⟨L, u, hL, h1, h2, hu, fun j x hx => ?_⟩
      rw [Addr.add_none]
      have := h3 c _ fz e1 j x hx
      simp only [World.cell?, e1]
      simpa using this
    · cases h
  · cases h

/-! ### tables -/
/-- what stands for a function without a body -/
def rowOf : Ext → Array Value → Sem Value
  | .load k => Extern.Atomic.loadT (.int k)
  | .store => Extern.Atomic.storeT
  | .add k => Extern.Atomic.update (Op.intArith .add) k true
  | .cas k => Extern.Atomic.casT (.int k)
  | .nothing true => fun _ => do mark .disable; pure Extern.Race.none_
  | .nothing false => fun _ => do mark .enable; pure Extern.Race.none_
  | .marked true => Extern.Race.marked .acquire
  | .marked false => Extern.Race.marked .releaseMerge
  | .same => Extern.AbiNoEscape.same
  | .indexByte => Extern.BytealgIndexByte.indexByte
structure TabOk (P : Program) (K : Tab) : Prop where
  fn : ∀ f x, K.fnc f = some x → P.funcs[f]? = some x
  ty : ∀ t x, K.info? t = some x → P.info? t = some x
  ud : ∀ t x, K.underlying t = some x → P.underlying t = some x
  st : ∀ t x, K.stood t = some x → P.stoodInHeld t = x
  gd : ∀ t x, K.grd t = some x → P.eqGuardType P.depth t = x
  nm : ∀ f x, K.fnc f = some x → ∀ (args : Array Value) (w : World), (callFunc f args).run P w = .ok (.enter f args) w
  ex : ∀ f e, K.ext f = some e → ∃ fn, P.funcs[f]? = some fn ∧ (fn.name == "runtime.NumGoroutine") = false ∧ fn.body.isNone = true ∧ Extern.findNext fn = none ∧ Extern.find fn = some (rowOf e)

variable {P : Program} {K : Tab}
theorem run_und {t : TypeId} {d : TypeDesc} (hT : TabOk P K) (h : K.underlying t = some d) (w : World) : (underlying t).run P w = .ok d w := run_underlying (hT.ud _ _ h) w
theorem run_size {t : TypeId} {n : Nat} (hT : TabOk P K) (h : szOf K t = some n) (w : World) : (sizeOf t).run P w = .ok n w := by
  unfold szOf at h
  obtain ⟨i, hi, rfl⟩ := Option.map_eq_some_iff.1 h
  simp [sizeOf, typeInfo, hT.ty _ _ hi]
theorem run_isAgg {t : TypeId} {b : Bool} (hT : TabOk P K) (h : isAggA K t = some b) (w : World) : (isAgg t).run P w = .ok b w := by
  unfold isAggA at h
  unfold isAgg
  rw [Sem.run_bind]
  cases hd : K.underlying t with
  | none => rw [hd] at h; cases h
  | some d =>
    rw [hd] at h
    rw [run_und hT hd]
    cases d <;> (cases h; rfl)
theorem run_zero {t : TypeId} {z : AV} (hT : TabOk P K) (h : zeroA K t = some z) (w : World) : ∃ x, (zeroValue t).run P w = .ok x w ∧ absV x = some z := by
  unfold zeroA at h
  split at h
  · rename_i i hi
    split at h
    · rename_i x hx
      exact ⟨x, by simp [zeroValue, typeInfo, hT.ty _ _ hi, hx], h⟩
    · cases h
  · cases h
def ShOk (P : Program) (s : Sh) (t : TypeId) : Prop := match s with
  | .one => ∀ w, (isAgg t).run P w = .ok false w
  | .many n => (∀ w, (isAgg t).run P w = .ok true w) ∧ ∀ w, (sizeOf t).run P w = .ok n w
theorem sh_ok {t : TypeId} {s : Sh} (hT : TabOk P K) (h : shOf K t = some s) : ShOk P s t := by
  unfold shOf at h
  split at h
  · rename_i ha
    split at h
    · rename_i n hn
      cases h
      exact ⟨run_isAgg hT ha, run_size hT hn⟩
    · cases h
  · rename_i ha
    cases h
    exact run_isAgg hT ha
  · cases h

theorem loadA_ok {A : AW} {w : World} {s : Sh} {t : TypeId} {p v : AV} {x : Value} (hs : ShOk P s t) (hr : Rel ρ A w) (hp : conc ρ p = some x) (h : loadA A s p = some v) :
    ∃ y, conc ρ v = some y ∧ (∃ ad, x = .pointer (some ad) ∧ (loadVar t ad).run P w = .ok y w) := by
  unfold loadA at h
  split at h
  · rename_i b o
    cases s with
    | one =>
      obtain ⟨L, y, hL, hy, _, hc⟩ := load1_ok hr h
      simp only [conc, hL, Option.map_some, Option.some.injEq] at hp
      subst hp
      refine ⟨y, hy, _, rfl, ?_⟩
      have := hs w
      simp [loadVar, this, hc]
    | many n =>
      simp only at h
      split at h
      · rename_i l hl
        cases h
        obtain ⟨L, u, hL, _, hn, hu, hc⟩ := loadC_ok hr hl
        simp only [conc, hL, Option.map_some, Option.some.injEq] at hp
        subst hp
        refine ⟨.agg u.toArray, by simp [conc, hu], _, rfl, ?_⟩
        have h1 := hs.1 w
        have h2 := hs.2 w
        have h3 := run_loadCells_list (P := P) w _ u hc
        rw [concL_length hu, hn] at h3
        simp [loadVar, h1, h2, h3]
      · cases h
  · cases h

theorem partA_ok {s : Sh} {t : TypeId} {l : List AV} {u : List Value} {off : Nat} {v : AV} (hs : ShOk P s t) (hu : concL ρ l = some u) (h : partA s l off = some v) (w : World) :
    ∃ y, conc ρ v = some y ∧ (part t u.toArray off).run P w = .ok y w := by
  unfold partA at h
  split at h
  · obtain ⟨y, hy, hv⟩ := concL_get hu off v h
    have := hs w
    refine ⟨y, hy, ?_⟩
    simp [part, this, hv]
  · rename_i n
    split at h
    · rename_i hle
      cases h
      have := concL_take n (concL_drop off hu)
      refine ⟨.agg ((u.drop off).take n).toArray, by simp [conc, this], ?_⟩
      have h1 := hs.1 w
      have h2 := hs.2 w
      simp only [part, Sem.run_bind, h1, Result.andThen_ok, if_true, h2, Sem.run_pure, Result.ok.injEq, Value.agg.injEq, and_true]
      apply Array.ext'
      simp [List.drop_take]
    · cases h
end Go.Proofs.YtcaagfgopmhilaaGreatDoor.Vai
