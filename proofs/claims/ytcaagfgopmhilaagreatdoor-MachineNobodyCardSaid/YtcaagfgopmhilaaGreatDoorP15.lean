/- A part of the proof that the law of this seat holds: P15; no condition. -/
import Derived.Test.YtcaagfgopmhilaaGreatDoorP14
namespace Go.Proofs.YtcaagfgopmhilaaGreatDoor.Vai
variable {P : Program} {K : Tab}

theorem store1 {ρ : Map} {A A' : AW} {w : World} {b : Pos} {o : Nat} {v : AV} {x : Value} (hr : Rel ρ A w) (hc : isCell v = true) (hv : conc ρ v = some x) (h : storeC A b o [v] = some A') :
    ∃ L w', ρ b = some L ∧ Rel ρ A' w' ∧ Goes ρ A w ρ A' w' ∧ ∀ m, (store ⟨L.r, L.sh + o, none⟩ x m).run P w = .ok () w' := by
  obtain ⟨L, w', hL, h1, h2, h3⟩ := storeC_ok (P := P) hr (l := [v]) (by simp [allCells, hc]) h (concL_mk hv rfl)
  refine ⟨L, w', hL, h1, h2, fun m => ?_⟩
  have hcell : ∃ y, w.cell? ⟨L.r, L.sh + o, none⟩ = some y := by
    unfold storeC at h
    split at h
    · rename_i k hk
      split at h
      · cases h
      · split at h
        · rename_i hle
          have hle := ble_iff.1 hle
          obtain ⟨c, fz, g1, g2, g3, _⟩ := blk_obj hr hk hL
          have : L.sh + o < c.size := by simp only [List.length_cons, List.length_nil] at hle; omega
          exact ⟨c[L.sh + o], by simp [World.cell?, g1, Array.getElem?_eq_getElem this]⟩
        · cases h
    · cases h
  obtain ⟨y, hy⟩ := hcell
  have e0 : Addr.add ⟨L.r, L.sh + o, none⟩ 0 = ⟨L.r, L.sh + o, none⟩ := by rw [Addr.add_none]; rfl
  simp only [storeCells, e0, Sem.run_bind] at h3
  have hm : (store ⟨L.r, L.sh + o, none⟩ x m).run P w = (store ⟨L.r, L.sh + o, none⟩ x).run P w := by
    unfold store
    cases x <;> simp only [Sem.run, hy]
  rw [hm]
  cases hs : (store ⟨L.r, L.sh + o, none⟩ x).run P w with
  | ok u w2 =>
    rw [hs] at h3
    simp only [Result.andThen_ok, Sem.run_pure] at h3
    cases h3; rfl
  | _ => rw [hs] at h3; cases h3

theorem one_list {ρ : Map} {v : AV} {us : List Value} (h : concL ρ [v] = some us) : ∃ x, conc ρ v = some x ∧ us = [x] := by
  obtain ⟨x, r, h1, h2, rfl⟩ := concL_cons h
  cases h2
  exact ⟨x, h1, rfl⟩
theorem indexB_ok (c : UInt8) (s : ByteArray) : ∀ (l : List UInt8) (i : Nat), s.data.toList.drop i = l → indexB c.toNat (l.map (·.toNat)) i = (match (List.range' i l.length).find? fun j => s[j]! == c with
      | some j => (j : Int)
      | none => -1)
  | [], i, _ => rfl
  | x :: l, i, hd => by
    have hi : i < s.data.toList.length := by
      apply Classical.byContradiction
      intro h
      rw [List.drop_eq_nil_of_le (by omega)] at hd; cases hd
    have hx : s.data.toList[i] = x := by
      rw [List.drop_eq_getElem_cons hi] at hd
      exact (List.cons.inj hd).1
    have hl : s.data.toList.drop (i + 1) = l := by
      rw [List.drop_eq_getElem_cons hi] at hd
      exact (List.cons.inj hd).2
    have hsi : s[i]! = x := by
      have : i < s.size := by have h := hi; rw [Array.length_toList] at h; exact h
      rw [getElem!_pos s i this, ← hx]; rfl
    simp only [List.map_cons, indexB, List.length_cons, List.range'_succ, List.find?_cons, hsi]
    by_cases hxc : x = c
    · subst hxc
      rw [show Nat.beq x.toNat x.toNat = true from beq_iff.2 rfl, show (x == x) = true from beq_self_eq_true x]
      rfl
    · have hne : (x == c) = false := beq_eq_false_iff_ne.2 hxc
      have hbq : Nat.beq x.toNat c.toNat = false := by
        cases hq : Nat.beq x.toNat c.toNat with
        | true => exact absurd (UInt8.toNat_inj.1 (beq_iff.1 hq)) hxc
        | false => rfl
      simp only [hne, hbq]
      exact indexB_ok c s l (i + 1) hl

theorem run_mark (m : Mark) (w : World) : (mark m).run P w = .ok () w := rfl
theorem two_list {ρ : Map} {v u : AV} {us : List Value} (h : concL ρ [v, u] = some us) : ∃ x y, conc ρ v = some x ∧ conc ρ u = some y ∧ us = [x, y] := by
  obtain ⟨x, r, h1, h2, rfl⟩ := concL_cons h
  obtain ⟨y, h3, rfl⟩ := one_list h2
  exact ⟨x, y, h1, h3, rfl⟩
theorem extA_ok {ρ : Map} {A A' : AW} {w : World} {e : Ext} {l : List AV} {us : List Value} {v : AV} (hr : Rel ρ A w) (hl : concL ρ l = some us) (h : extA e A l = some (v, A')) :
    ∃ ρ' x w', conc ρ' v = some x ∧ Rel ρ' A' w' ∧ Goes ρ A w ρ' A' w' ∧ (rowOf e us.toArray).run P w = .ok x w' := by
  unfold extA at h
  split at h
  · -- load
    rename_i k b o
    obtain ⟨x, hx, rfl⟩ := one_list hl
    obtain ⟨L, hL, rfl⟩ := conc_p hx
    split at h
    · rename_i k' n hld
      split at h
      · rename_i hk
        cases h
        have := ikEq_iff.1 hk
        subst this
        obtain ⟨L', y, hL', hy, _, hcell⟩ := load1_ok hr hld
        rw [hL] at hL'; cases hL'
        cases hy
        refine ⟨ρ, _, w, rfl, hr, .refl ρ A w, ?_⟩
        have hd : rowOf (.load k) [Value.pointer (some ⟨L.r, L.sh + o, none⟩)].toArray = (asAddr (.pointer (some ⟨L.r, L.sh + o, none⟩)) >>= fun a => Extern.Atomic.read (.int k) a) := rfl
        rw [hd]
        simp [asAddr, Extern.Atomic.read, load, Sem.run, hcell]
      · cases h
    · cases h
  · -- nothing
    rename_i d
    cases h
    refine ⟨ρ, .tuple #[], w, rfl, hr, .refl ρ A w, ?_⟩
    cases d <;> rfl
  · -- marked
    rename_i d b o l'
    cases h
    obtain ⟨x, r, hx, _, rfl⟩ := concL_cons hl
    obtain ⟨L, hL, rfl⟩ := conc_p hx
    refine ⟨ρ, .tuple #[], w, rfl, hr, .refl ρ A w, ?_⟩
    cases d <;> simp [rowOf, Extern.Race.marked, Extern.Race.at_, Extern.Race.none_, run_mark]
  · -- same
    cases h
    obtain ⟨x, hx, rfl⟩ := one_list hl
    exact ⟨ρ, x, w, hx, hr, .refl ρ A w, rfl⟩
  · -- indexByte
    rename_i l' c
    split at h
    case h_2 => cases h
    rename_i hlt
    have hlt := blt_iff.1 hlt
    cases h
    obtain ⟨x, y, hx, hy, rfl⟩ := two_list hl
    obtain ⟨hb, rfl⟩ := conc_s hx
    cases hy
    refine ⟨ρ, _, w, rfl, hr, .refl ρ A w, ?_⟩
    have := run_indexByte_string (P := P) (strOf l') (c : Int) w
    have hi := indexB_ok (UInt8.ofNat c) (strOf l') (l'.map UInt8.ofNat) 0 (by simp [strOf])
    have hmap : (l'.map UInt8.ofNat).map (·.toNat) = l' := by
      rw [List.map_map]
      conv => rhs; rw [← List.map_id l']
      exact List.map_congr_left fun x hx => toNat_ofNat (byteOk_mem hb x hx)
    rw [hmap, toNat_ofNat hlt] at hi
    have hsz : (l'.map UInt8.ofNat).length = (strOf l').size := by rw [strOf_size]; simp
    have hc : (c : Int).toNat.toUInt8 = UInt8.ofNat c := rfl
    refine Eq.trans this ?_
    rw [hi, firstIdx, hc, hsz, List.range_eq_range']
    cases (List.range' 0 (strOf l').size).find? fun j => (strOf l')[j]! == UInt8.ofNat c <;> rfl
  · -- store
    rename_i b o k n
    split at h
    · rename_i A1 hst
      cases h
      obtain ⟨x, y, hx, hy, rfl⟩ := two_list hl
      obtain ⟨L, hL, rfl⟩ := conc_p hx
      obtain ⟨L', w', hL', h1, h2, h3⟩ := store1 (P := P) hr rfl hy hst
      rw [hL] at hL'; cases hL'
      refine ⟨ρ, .tuple #[], w', rfl, h1, h2, ?_⟩
      have hd : rowOf .store [Value.pointer (some ⟨L.r, L.sh + o, none⟩), y].toArray = (do store (← asAddr (.pointer (some ⟨L.r, L.sh + o, none⟩))) y .atomic; pure Extern.Atomic.none_) := rfl
      rw [hd]
      simp only [asAddr, Sem.run_bind, Sem.run_pure, Result.andThen_ok, h3]; rfl
    · cases h
  · -- add
    rename_i k b o k0 n
    split at h
    · rename_i k' m hld
      split at h
      · rename_i hk
        have := ikEq_iff.1 hk
        subst this
        split at h
        · rename_i A1 hst
          cases h
          obtain ⟨x, y, hx, hy, rfl⟩ := two_list hl
          obtain ⟨L, hL, rfl⟩ := conc_p hx
          cases hy
          obtain ⟨L', y, hL', hy, _, hcell⟩ := load1_ok hr hld
          rw [hL] at hL'; cases hL'
          cases hy
          obtain ⟨L', w', hL', h1, h2, h3⟩ := store1 (P := P) hr rfl (x := .int k (wrapF k (Int.add m n))) rfl hst
          rw [hL] at hL'; cases hL'
          refine ⟨ρ, _, w', rfl, h1, h2, ?_⟩
          have hd : rowOf (.add k) [Value.pointer (some ⟨L.r, L.sh + o, none⟩), .int k0 n].toArray = (do
            let a ← asAddr (.pointer (some ⟨L.r, L.sh + o, none⟩))
            let old ← Extern.Atomic.read (.int k) a
            let new ← Op.intArith .add k (← asInt old) (← asInt (.int k0 n))
            store a new .atomic
            pure (if true then new else old)) := rfl
          rw [hd]
          have h4 : (store ⟨L.r, L.sh + o, none⟩ (.int k (k.wrap (m + n))) .atomic).run P w = .ok () w' := by have := h3 .atomic; rw [wrapF_spec] at this; exact this
          have hrd : (Extern.Atomic.read (.int k) ⟨L.r, L.sh + o, none⟩).run P w = .ok (.int k m) w := by
            simp [Extern.Atomic.read, load, Sem.run, hcell]
          rw [wrapF_spec]
          simp only [asAddr, Sem.run_bind, Sem.run_pure, Result.andThen_ok, hrd, asInt, asIntOf, Op.intArith, h4, if_true]
          rfl
        · cases h
      · cases h
    · cases h
  · -- cas
    rename_i k b o k0 n k2 y0
    split at h
    · rename_i k' m hld
      split at h
      · rename_i hk
        have := ikEq_iff.1 hk
        subst this
        split at h
        · rename_i heq
          split at h
          · rename_i A1 hst
            cases h
            obtain ⟨x, r, hx, hrest, rfl⟩ := concL_cons hl
            obtain ⟨y, z, hy, hz, rfl⟩ := two_list hrest
            obtain ⟨L, hL, rfl⟩ := conc_p hx
            cases hy; cases hz
            obtain ⟨L', y, hL', hy, _, hcell⟩ := load1_ok hr hld
            rw [hL] at hL'; cases hL'
            cases hy
            obtain ⟨L', w', hL', h1, h2, h3⟩ := store1 (P := P) hr rfl (x := .int k2 y0) rfl hst
            rw [hL] at hL'; cases hL'
            refine ⟨ρ, _, w', rfl, h1, h2, ?_⟩
            have hd : rowOf (.cas k) [Value.pointer (some ⟨L.r, L.sh + o, none⟩), .int k0 n, .int k2 y0].toArray = (do
              let a ← asAddr (.pointer (some ⟨L.r, L.sh + o, none⟩))
              if ← Extern.Atomic.touchesFrozen a then unsupported (.unsafePointer "a write to bytes that a string shares")
              let eq ← match Extern.Atomic.T.int k, ← Extern.Atomic.read (.int k) a, (Value.int k0 n) with
                | _, .int _ x, .int _ y => pure (x == y)
                | .ptr, .pointer x, .pointer y => samePointer x y
                | .int _, .pointer (some _), .int _ 0 | .int _, .int _ 0, .pointer (some _) => pure false
                | .int _, .pointer (some _), _ | .int _, _, .pointer (some _) => unsupported .addressObserved
                | _, _, _ => stuck "atomic.CompareAndSwap: old is no T"
              if eq then store a (.int k2 y0) .atomic
              pure (.bool eq)) := rfl
            rw [hd]
            have hrd : (Extern.Atomic.read (.int k) ⟨L.r, L.sh + o, none⟩).run P w = .ok (.int k m) w := by
              simp [Extern.Atomic.read, load, Sem.run, hcell]
            have hsh : ∃ e c, w.heap[L.r]? = some (.cells c e (0, 0)) := by
              unfold storeC at hst
              split at hst
              · rename_i kk hk2
                split at hst
                · cases hst
                · rename_i hro
                  obtain ⟨c, fz, g1, g2, g3, g4, _⟩ := blk_obj hr hk2 hL
                  rw [(g4 hro).1] at g1
                  exact ⟨_, _, g1⟩
              · cases hst
            obtain ⟨ee, cc, hsh⟩ := hsh
            have htf : (Extern.Atomic.touchesFrozen ⟨L.r, L.sh + o, none⟩).run P w = .ok false w := by
              have : w.shape? L.r = some (ee, cc.size) := shape_cells hsh
              have hfz : (frozen ⟨L.r, L.sh + o, none⟩).run P w = .ok (w.frozen? ⟨L.r, L.sh + o, none⟩) w := rfl
              have hfz2 : w.frozen? ⟨L.r, L.sh + o, none⟩ = false := by simp [World.frozen?, hsh]
              simp only [Extern.Atomic.touchesFrozen, viewAt, Sem.run_bind, run_shape, this, Result.andThen_ok]
              simp [hfz, hfz2]
            rw [intEq_spec] at heq
            have heq := of_decide_eq_true heq
            subst heq
            have h4 := h3 .atomic
            simp only [asAddr, Sem.run_bind, Sem.run_pure, Result.andThen_ok, htf, hrd]
            simp [hrd, h4]
          · cases h
        · cases h
      · cases h
    · cases h
  · cases h
end Go.Proofs.YtcaagfgopmhilaaGreatDoor.Vai
