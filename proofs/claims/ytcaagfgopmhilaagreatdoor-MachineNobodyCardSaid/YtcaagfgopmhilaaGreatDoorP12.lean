/- A part of the proof that the law of this seat holds: P12; no condition. -/
import Derived.Test.YtcaagfgopmhilaaGreatDoorP11
namespace Go.Proofs.YtcaagfgopmhilaaGreatDoor.Vai
variable {P : Program} {K : Tab}

theorem blk_obj {ρ : Map} {A : AW} {w : World} {b : Pos} {k : Blk} {L : Loc} (hr : Rel ρ A w) (h : getBlk A b = some k) (hL : ρ b = some L) : ObjRel ρ w.heap[L.r]? L (.cells k) := by
  obtain ⟨L', hL', ho⟩ := hr.objs b _ (getBlk_some h)
  rw [hL] at hL'; cases hL'; exact ho
theorem ofBytesA_ok {ρ : Map} {A : AW} {w : World} {b : Pos} {o n : Nat} {v : AV} {cap : Nat} {L : Loc} (hr : Rel ρ A w) (h : ofBytesA A b o n = some v) (hL : ρ b = some L) :
    ∃ x, conc ρ v = some x ∧ (Conv.bytesToString (.slice (some ⟨L.r, L.sh + o, none⟩) n cap)).run P w = .ok x w := by
  unfold ofBytesA at h
  split at h
  · rename_i l hl
    split at h
    · rename_i m hm
      cases h
      exact ⟨_, ofBytes_ok (len := 0) hr hl hm hL⟩
    · cases h
  · cases h
theorem seenAt_cells {w : World} {a : Addr} {e : TypeId} {n : Nat} (h : w.shape? a.block = some (e, n)) : (Conv.seenAt a).run P w = .ok a w := by
  simp [Conv.seenAt, viewAt, h]
theorem conv_ok {o : Oper} {s d : TypeId} {x : Operand} {c : Conv} (hT : TabOk P K) (ho : o.op = .convert s d x) (hc : convOf K s d = some c) : QOk P o (mConv c (compLd x)) := by
  intro ρ A w tm a v hg hr ht h
  unfold mConv at h
  split at h
  case h_2 => cases h
  rename_i xv hx
  have hx := ld_ok hg ht hx
  have hsuf : ∀ {r}, (convert s d (a.eval x)).run P w = .ok r w → (execOp a.eval o).run P w = .ok (.value r) w := fun h => by
    simp only [execOp, ho, Sem.run_bind, h, Result.andThen_ok, Sem.run_pure]
  unfold convOf at hc
  split at hc
  · rename_i k0 k hs hd
    cases hc
    simp only [convQ] at h
    split at h
    · cases h
      have e := (Option.some.inj hx).symm
      refine ⟨_, rfl, hsuf ?_⟩
      simp [convert, run_und hT hs, run_und hT hd, e, Conv.intToInt, wrapF_spec]
    · cases h
  · rename_i hs hd
    cases hc
    simp only [convQ] at h
    split at h
    · cases h
      obtain ⟨hb, e⟩ := conc_s hx
      refine ⟨_, hx, hsuf ?_⟩
      simp [convert, run_und hT hs, run_und hT hd, e]
    · cases h
  · split at hc
    · cases hc; cases h
    · cases hc
  · rename_i e hs hd
    split at hc
    · rename_i he
      cases hc
      simp only [convQ] at h
      split at h
      · cases h
        have e1 := (Option.some.inj hx).symm
        refine ⟨.string (strOf []), rfl, hsuf ?_⟩
        simp only [convert, Sem.run_bind, run_und hT hs, run_und hT hd, Result.andThen_ok, e1, run_und hT he, Conv.bytesToString]
        rfl
      · obtain ⟨L, hL, e1⟩ := Option.map_eq_some_iff.1 hx
        obtain ⟨r, h1, h2⟩ := ofBytesA_ok (P := P) hr h hL
        refine ⟨r, h1, hsuf ?_⟩
        rw [← e1, run_convert_bytes_string w s d e _ _ _ (hT.ud _ _ hs) (hT.ud _ _ he) (hT.ud _ _ hd)]
        exact h2
      · obtain ⟨L, hL, e1⟩ := Option.map_eq_some_iff.1 hx
        obtain ⟨r, h1, h2⟩ := ofBytesA_ok (P := P) hr h hL
        refine ⟨r, h1, hsuf ?_⟩
        rw [← e1, run_convert_bytes_string w s d e _ _ _ (hT.ud _ _ hs) (hT.ud _ _ he) (hT.ud _ _ hd)]
        exact h2
      · cases h
    · cases hc
  · rename_i u hs hd
    split at hc
    · rename_i n hsz
      cases hc
      simp only [convQ] at h
      split at h
      · rename_i b off _
        split at h
        · rename_i k hk
          split at h
          · rename_i sz hse
            split at h
            · rename_i hcond
              cases h
              simp only [Bool.and_eq_true, Bool.not_eq_true'] at hcond
              obtain ⟨⟨⟨hro, hsp⟩, hfit⟩, hle⟩ := hcond
              have hle := ble_iff.1 hle
              obtain ⟨L, hL, e1⟩ := conc_p hx
              obtain ⟨cc, fz, g1, g2, g3, g4, _⟩ := blk_obj hr hk hL
              have hsh : L.sh = 0 := (g4 hro).2 hsp
              have hshape := shape_cells g1
              refine ⟨_, hx, hsuf ?_⟩
              have hcs := und_info hT hse
              have hlt : off / sz < cc.size / sz := by
                have hpos : 0 < sz := by
                  rcases Nat.eq_zero_or_pos sz with h0 | h0
                  · exfalso
                    subst h0
                    simp only [rowA, hse] at hfit
                    cases hfit
                  · exact h0
                have hle' : (off / sz + 1) * sz ≤ k.n := hle
                have : off / sz + 1 ≤ cc.size / sz := (Nat.le_div_iff_mul_le hpos).2 (by omega)
                omega
              have hdep : P.depth = (2 * (P.types.size + Made.depth) + 1) + 1 := rfl
              obtain ⟨s2, hs2, _, hrow⟩ := rowA_ok hT u (2 * (P.types.size + Made.depth) + 1) 10 k.el (off % sz) hfit P.depth (by rw [hdep]; simp only [Made.depth]; omega) (cc.size / sz) (off / sz) hlt
              rw [hse] at hs2; cases hs2
              have hoff : off / sz * sz + off % sz = off := by rw [Nat.mul_comm]; exact Nat.div_add_mod off sz
              rw [hoff] at hrow
              have hva : (variablesAt ⟨L.r, L.sh + off, none⟩ u 1).run P w = .ok true w := by
                simp only [variablesAt, Sem.run_bind, run_program, Result.andThen_ok, run_shape, hshape, Sem.run_pure, hcs, hsh, Nat.zero_add]
                rw [hdep] at hrow ⊢
                simp only [liesAt]
                rw [hdep]
                simp only [hrow, Bool.true_or]
              simp only [convert, Sem.run_bind, run_und hT hs, run_und hT hd, Result.andThen_ok, e1, Conv.unsafePointer, seenAt_cells (a := ⟨L.r, L.sh + off, none⟩) hshape, run_size hT hsz, hva]
              simp
            · cases h
          · cases h
        · cases h
      · cases h
    · cases hc
  · rename_i u hs hd
    split at hc
    · rename_i n hsz
      cases hc
      simp only [convQ] at h
      split at h
      · rename_i b off _
        split at h
        · rename_i k hk
          split at h
          · rename_i hlt
            cases h
            have hlt := blt_iff.1 hlt
            obtain ⟨L, hL, e1⟩ := conc_p hx
            obtain ⟨cc, fz, g1, g2, g3, g4, _⟩ := blk_obj hr hk hL
            have hshape := shape_cells g1
            refine ⟨_, hx, hsuf ?_⟩
            have hno : ¬ (L.sh + off ≥ cc.size) := by omega
            simp only [convert, Sem.run_bind, run_und hT hs, run_und hT hd, Result.andThen_ok, e1, Conv.unsafePointer, seenAt_cells (a := ⟨L.r, L.sh + off, none⟩) hshape, run_size hT hsz, cellsIn, run_shape, hshape]
            simp [hno]
          · cases h
        · cases h
      · cases h
    · cases hc
  · cases hc
end Go.Proofs.YtcaagfgopmhilaaGreatDoor.Vai
