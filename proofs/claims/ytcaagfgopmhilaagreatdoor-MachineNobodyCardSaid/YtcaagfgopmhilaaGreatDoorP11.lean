/- A part of the proof that the law of this seat holds: P11; no condition. -/
import Derived.Test.YtcaagfgopmhilaaGreatDoorP10
import Derived.Lib.UnsafeStr
import Derived.Laws.BytesString
import Derived.Laws.Externs
namespace Go.Proofs.YtcaagfgopmhilaaGreatDoor.Vai
variable {P : Program} {K : Tab}

theorem byteA_ok {ρ : Map} {v : AV} {c : Nat} (h : byteA v = some c) : c < 256 ∧ conc ρ v = some (.int .u8 ((UInt8.ofNat c).toNat : Int)) := by
  unfold byteA at h
  split at h
  · split at h
    · rename_i hb
      cases h
      have hc := blt_iff.1 hb
      exact ⟨hc, by rw [toNat_ofNat hc]; rfl⟩
    · cases h
  · cases h
theorem bytesOfA_ok {ρ : Map} : ∀ {l : List AV} {m : List Nat} {us : List Value}, bytesOfA l = some m → concL ρ l = some us →
    byteOk m = true ∧ m.length = l.length ∧ us = (m.map UInt8.ofNat).map fun b => Value.int .u8 (b.toNat : Int)
  | [], m, us, h, hu => by cases h; cases hu; exact ⟨rfl, rfl, rfl⟩
  | v :: l, m, us, h, hu => by
    simp only [bytesOfA] at h
    split at h
    · rename_i c hc
      split at h
      · rename_i m' hm
        cases h
        obtain ⟨X, us', hX, hus, rfl⟩ := concL_cons hu
        obtain ⟨h1, h2⟩ := byteA_ok (ρ := ρ) hc
        rw [hX] at h2; cases h2
        obtain ⟨g1, g2, rfl⟩ := bytesOfA_ok hm hus
        exact ⟨byteOk_cons.2 ⟨h1, g1⟩, by simp [g2], by simp⟩
      · cases h
    · cases h
theorem foldl_push (l : List UInt8) : ∀ (s : ByteArray), (l.map fun b => (b.toNat : Int)).foldl (fun r n => r.push (UInt8.ofNat n.toNat)) s = ⟨s.data ++ l.toArray⟩ := by
  induction l with
  | nil => intro s; simp
  | cons b l ih =>
    intro s
    simp only [List.map_cons, List.foldl_cons, ih]
    simp [ByteArray.push]
theorem ofBytes_ok {ρ : Map} {A : AW} {w : World} {b : Pos} {o n : Nat} {l : List AV} {m : List Nat} {len cap : Nat} {L : Loc} (hr : Rel ρ A w) (hl : loadC A b o n = some l) (hm : bytesOfA l = some m) (hL : ρ b = some L) :
    conc ρ (.s m) = some (.string (strOf m)) ∧ (Conv.bytesToString (.slice (some ⟨L.r, L.sh + o, none⟩) n cap)).run P w = .ok (.string (strOf m)) w := by
  obtain ⟨L', u, hL', hc, hlen, hu, hcell⟩ := loadC_ok hr hl
  rw [hL] at hL'; cases hL'
  obtain ⟨h1, h2, rfl⟩ := bytesOfA_ok hm hu
  refine ⟨by simp [conc, h1], ?_⟩
  have hld := run_loadCells_list (P := P) w _ _ hcell
  have hn : ((m.map UInt8.ofNat).map fun b => Value.int .u8 (b.toNat : Int)).length = n := by simp [h2, hlen]
  rw [hn] at hld
  have := run_bytesToString (P := P) w ⟨L.r, L.sh + o, none⟩ n cap ((m.map UInt8.ofNat).map fun b => (b.toNat : Int)) (by rw [hld]; simp)
  rw [this, foldl_push]
  simp [strOf]

/-! ### what lies where -/
theorem und_info {t : TypeId} {n : Nat} (hT : TabOk P K) (h : szOf K t = some n) : P.cellsOf t = n := by
  unfold szOf at h
  obtain ⟨i, hi, rfl⟩ := Option.map_eq_some_iff.1 h
  simp [Program.cellsOf, hT.ty _ _ hi]
theorem fieldHas_ok {rec : TypeId → Nat → Bool} {r : Nat} : ∀ {fs : List Field}, fieldHas K rec r fs = true → ∃ f ∈ fs, ∃ s, szOf K f.type = some s ∧ f.offset ≤ r ∧ r < f.offset + s ∧ rec f.type (r - f.offset) = true
  | [], h => by cases h
  | f :: fs, h => by
    simp only [fieldHas, Bool.or_eq_true] at h
    rcases h with h | h
    · split at h
      · rename_i s hs
        simp only [Bool.and_eq_true] at h
        exact ⟨f, List.mem_cons_self, s, hs, ble_iff.1 h.1.1, blt_iff.1 h.1.2, h.2⟩
      · cases h
    · obtain ⟨g, hg, rest⟩ := fieldHas_ok h
      exact ⟨g, List.mem_cons_of_mem _ hg, rest⟩
theorem rowA_ok (hT : TabOk P K) (u : TypeId) (E : Nat) : ∀ (d : Nat) (e : TypeId) (r : Nat), rowA K u d e r = true → ∀ (D : Nat), d ≤ D → ∀ (count i : Nat), i < count →
    ∃ s, szOf K e = some s ∧ r < s ∧ rowAt P (fun t => sameLayout P (E + 1) t u) D e count (i * s + r) 1 = true
  | 0, e, r, h => by cases h
  | d + 1, e, r, h => by
    intro D hD count i hi
    obtain ⟨D, rfl⟩ : ∃ F, D = F + 1 := ⟨D - 1, by omega⟩
    simp only [rowA] at h
    split at h
    · rename_i s hs
      simp only [Bool.and_eq_true] at h
      obtain ⟨h1, h2⟩ := h
      have h1 := blt_iff.1 h1
      refine ⟨s + 1, hs, h1, ?_⟩
      have hc := und_info hT hs
      have hdiv : (i * (s + 1) + r) / (s + 1) = i := by
        rw [Nat.add_comm, Nat.mul_comm, Nat.add_mul_div_left _ _ (by omega), Nat.div_eq_of_lt h1]; omega
      have hmod : (i * (s + 1) + r) % (s + 1) = r := by
        rw [Nat.add_comm, Nat.mul_comm, Nat.add_mul_mod_self_left, Nat.mod_eq_of_lt h1]
      unfold rowAt
      simp only [hc, hdiv, hmod, Nat.succ_ne_zero, if_false, Bool.or_eq_true] at h2 ⊢
      rcases h2 with h2 | h2
      · left
        simp only [Bool.and_eq_true] at h2
        have e1 := beq_iff.1 h2.1
        have e2 := beq_iff.1 h2.2
        subst e1 e2
        simp [sameLayout]; omega
      · right
        split at h2
        · rename_i fs hu hst
          have hst := hT.st _ _ hst
          simp only [hT.ud _ _ hu, hst, Bool.not_false, Bool.true_and, Bool.and_eq_true, decide_eq_true_eq]
          refine ⟨hi, ?_⟩
          obtain ⟨f, hf, s', hs', hle, hlt, hrec⟩ := fieldHas_ok h2
          obtain ⟨s2, hs2, hlt2, hrow⟩ := rowA_ok hT u E d f.type (r - f.offset) hrec D (by omega) 1 0 (by omega)
          rw [hs'] at hs2; cases hs2
          rw [← Array.any_toList, List.any_eq_true]
          refine ⟨f, hf, ?_⟩
          simp only [und_info hT hs', Bool.and_eq_true, decide_eq_true_eq]
          exact ⟨⟨hle, hlt⟩, by simpa using hrow⟩
        · cases h2
    · cases h
theorem shape_cells {w : World} {r : Nat} {c : Array Value} {e : TypeId} {fz : Nat × Nat} (h : w.heap[r]? = some (.cells c e fz)) : w.shape? r = some (e, c.size) := by simp [World.shape?, h]
theorem run_shape (w : World) (r : Nat) : (shape r).run P w = .ok (w.shape? r) w := rfl
theorem run_program (w : World) : (program).run P w = .ok P w := rfl
end Go.Proofs.YtcaagfgopmhilaaGreatDoor.Vai
