/- A part of the proof that the law of this seat holds: P18; no condition. -/
import Derived.Test.YtcaagfgopmhilaaGreatDoorP17
namespace Go.Proofs.YtcaagfgopmhilaaGreatDoor.Vai
variable {P : Program} {K : Tab}

theorem sliceSx_ok {ρ : Map} {s : Nat} {b : Pos} {off cap o h m : Nat} {v : AV} {L : Loc} (hL : ρ b = some L) (hs : sliceSx s b off cap o h m = some v) :
    m ≤ cap ∧ h ≤ m ∧ o ≤ h ∧ conc ρ v = some (.slice (some (if m = o then ⟨L.r, L.sh + off, none⟩ else Addr.add ⟨L.r, L.sh + off, none⟩ (o * s))) (h - o) (m - o)) := by
  unfold sliceSx at hs
  split at hs
  · rename_i hc
    simp only [Bool.and_eq_true] at hc
    refine ⟨ble_iff.1 hc.1.1, ble_iff.1 hc.1.2, ble_iff.1 hc.2, ?_⟩
    split at hs
    · rename_i he
      cases hs
      simp [conc, hL, beq_iff.1 he]
    · rename_i he
      cases hs
      have := beq_false he
      simp [conc, hL, this, Addr.add_none, Nat.add_assoc]
  · cases hs
theorem slice_array {o : Oper} {t e : TypeId} {n s : Nat} {x : Operand} {lo hi mx : Option Operand} (hT : TabOk P K) (hu : K.underlying t = some (.array n e)) (hsz : szOf K e = some s) (hal : maxAlone hi mx = false) (ho : o.op = .slice t x lo hi mx) :
    SOk P o (mSlice (.array n e) s (compLd x) (ldO lo) (ldO hi) (ldO mx)) := by
  intro ρ A w tm a v A' hg hr ht h
  unfold mSlice at h
  split at h
  case h_2 => cases h
  rename_i xv nl nh nm hx h1 h2 h3
  have hx := ld_ok hg ht hx
  have h1 := ldNat_ok hg ht h1
  have h2 := ldNat_ok hg ht h2
  have h3 := ldNat_ok hg ht h3
  unfold sliceA at h
  cases xv with
  | p b off =>
    simp only at h
    split at h
    · rename_i v' hv
      cases h
      obtain ⟨L, hL, e1⟩ := conc_p hx
      obtain ⟨c1, c2, c3, c4⟩ := sliceSx_ok hL hv
      have hbo := bounds_ok (P := P) (len := n) (cap := n) false h1 h2 h3 hal c1 (.inl c2) c3 w
      refine ⟨ρ, _, c4, hr, .refl ρ A w, fun _ => rfl, ?_⟩
      simp only [execOp, ho, Instr.sliceAt, Sem.run_bind, run_und hT hu, Result.andThen_ok, e1, Instr.sureAddr, hbo, run_size hT hsz, Sem.run_pure]
    · cases h
  | _ => simp only at h; cases h
/-- an empty slice at the end of what is known of a row -/
theorem tail_ok {ρ : Map} {A : AW} {w : World} {b : Pos} {k : Blk} {L : Loc} (hr : Rel ρ A w) (hk : getBlk A b = some k) (hL : ρ b = some L) {sh lim : Nat} (h1 : sh ≤ lim) (h2 : lim ≤ L.lim) :
    Rel (upd ρ (pos A.nx) ⟨L.r, sh, lim⟩) (newBlk A k.el [] 0 false true) w ∧ Goes ρ A w (upd ρ (pos A.nx) ⟨L.r, sh, lim⟩) (newBlk A k.el [] 0 false true) w := by
  obtain ⟨c, fz, g1, g2, g3, g4, g5⟩ := blk_obj hr hk hL
  have hf := hr.fresh A.nx (Nat.le_refl _)
  refine ⟨hr.add (L := ⟨L.r, sh, lim⟩) (fun _ _ _ _ _ => rfl) ⟨c, fz, g1, by simpa using h1, by simp only; omega, (fun h => by cases h), fun i v hi _ => by simp only at hi; omega⟩ (fun b2 o2 L2 hb2 hL2 hw => ?_), upd_ext _ hf, Nat.le_succ _, rfl, rfl, rfl, Nat.le_refl _, fun r hlt hown => ⟨rfl, ?_⟩, fun n hn h0 => by rw [upd_ne _ _ (pos_ne (by omega))]; exact h0, fun r hlt hn => ?_⟩
  · by_cases hrr : L.r = L2.r
    · right
      refine ⟨⟨_, rfl⟩, ?_, .inl rfl, fun i ⟨p, _⟩ => ?_⟩
      · obtain ⟨L3, hL3, hob⟩ := hr.objs b2 o2 hb2
        rw [hL2] at hL3; cases hL3
        rw [← hrr, g1] at hob
        cases o2 with
        | cells k2 => exact ⟨k2, rfl⟩
        | map _ _ => obtain ⟨_, _, h, _⟩ := hob; cases h
        | siter _ _ => obtain ⟨_, _, h⟩ := hob; cases h
        | miter _ _ _ _ => obtain ⟨_, _, _, h⟩ := hob; cases h
        | loop => obtain ⟨_, _, h, _⟩ := hob; cases h
        | dfr => obtain ⟨_, h⟩ := hob; cases h
      · simp [Has] at p; omega
    · exact .inl hrr
  · rintro ⟨b2, o2, L2, k1, k2, k3, rfl⟩
    by_cases e : b2 = pos A.nx
    · subst e
      simp only [newBlk, newObj, T.get_set_eq, Option.some.injEq] at k1
      subst k1
      simp [writable] at k2
    · rw [upd_ne _ _ e] at k3
      simp only [newBlk, newObj, T.get_set_ne _ _ _ _ e] at k1
      exact hown ⟨b2, o2, L2, k1, k2, k3, rfl⟩
  · rintro ⟨b2, o2, L2, k1, k3, rfl⟩
    by_cases e : b2 = pos A.nx
    · subst e
      rw [upd_eq] at k3; cases k3
      exact hn ⟨b, _, L, getBlk_some hk, hL, rfl⟩
    · rw [upd_ne _ _ e] at k3
      simp only [newBlk, newObj, T.get_set_ne _ _ _ _ e] at k1
      exact hn ⟨b2, o2, L2, k1, k3, rfl⟩
theorem slice_slice {o : Oper} {t e : TypeId} {s : Nat} {x : Operand} {lo hi mx : Option Operand} (hT : TabOk P K) (hu : K.underlying t = some (.slice e)) (hsz : szOf K e = some (s + 1)) (hal : maxAlone hi mx = false) (ho : o.op = .slice t x lo hi mx) :
    SOk P o (mSlice (.slice e) (s + 1) (compLd x) (ldO lo) (ldO hi) (ldO mx)) := by
  intro ρ A w tm a v A' hg hr ht h
  unfold mSlice at h
  split at h
  case h_2 => cases h
  rename_i xv nl nh nm hx h1 h2 h3
  have hx := ld_ok hg ht hx
  have h1 := ldNat_ok hg ht h1
  have h2 := ldNat_ok hg ht h2
  have h3 := ldNat_ok hg ht h3
  have hrun : ∀ {q : Option Addr} {len cap : Nat}, a.eval x = .slice q len cap → getD nm cap ≤ cap → (getD nh len ≤ getD nm cap ∨ nh = none) → getD nl 0 ≤ getD nh len → ∀ w,
      (execOp a.eval o).run P w = .ok (.value (.slice (if getD nm cap = getD nl 0 then q else q.map (·.add (getD nl 0 * (s + 1)))) (getD nh len - getD nl 0) (getD nm cap - getD nl 0))) w := by
    intro q len cap e1 c1 c2 c3 w
    have hbo := bounds_ok (P := P) (len := len) (cap := cap) true h1 h2 h3 hal c1 c2 c3 w
    simp only [execOp, ho, Instr.sliceAt, Instr.slice, Sem.run_bind, run_und hT hu, Result.andThen_ok, e1, hbo, run_size hT hsz, Sem.run_pure]
  unfold sliceA at h
  cases xv with
  | sn =>
    simp only at h
    split at h
    · rename_i hc
      cases h
      simp only [Bool.and_eq_true] at hc
      have c1 := beq_iff.1 hc.1.1
      have c2 := beq_iff.1 hc.1.2
      have c3 := beq_iff.1 hc.2
      have e1 : a.eval x = .slice none 0 0 := (Option.some.inj hx).symm
      refine ⟨ρ, .slice none 0 0, rfl, hr, .refl ρ A w, fun _ => rfl, ?_⟩
      rw [hrun e1 (by omega) (.inl (by omega)) (by omega)]
      simp [c1, c2, c3]
    · cases h
  | sx b off len cap =>
    simp only at h
    split at h
    · rename_i v' hv
      cases h
      obtain ⟨L, hL, e1⟩ := Option.map_eq_some_iff.1 hx
      obtain ⟨c1, c2, c3, c4⟩ := sliceSx_ok hL hv
      refine ⟨ρ, _, c4, hr, .refl ρ A w, fun _ => rfl, ?_⟩
      rw [hrun e1.symm c1 (.inl c2) c3]
      by_cases hq : getD nm cap = getD nl 0 <;> simp [hq]
    · cases h
  | su b off len sz =>
    simp only at h
    split at h
    case h_2 => cases h
    rename_i k hk hss
    have hss := beq_iff.1 hss
    subst hss
    obtain ⟨L, hL, e1⟩ := Option.map_eq_some_iff.1 hx
    obtain ⟨c, fz, g1, g2, g3, g4, g5⟩ := blk_obj hr hk hL
    have hcap : ∀ q, off + q * (s + 1) ≤ k.n → q ≤ (L.lim - (L.sh + off)) / (s + 1) := fun q hq => (Nat.le_div_iff_mul_le (by omega)).2 (by omega)
    cases nm with
    | some m =>
      simp only at h
      split at h
      · rename_i hc
        cases h
        simp only [Bool.and_eq_true] at hc
        have c1 := ble_iff.1 hc.1.1.1
        have c2 := ble_iff.1 hc.1.1.2
        have c3 := ble_iff.1 hc.1.2
        have c4 := blt_iff.1 hc.2
        refine ⟨ρ, .slice (some ⟨L.r, L.sh + (off + getD nl 0 * (s + 1)), none⟩) (getD nh len - getD nl 0) (m - getD nl 0), by simp [conc, hL], hr, .refl ρ A w, fun _ => rfl, ?_⟩
        rw [hrun e1.symm (hcap m c1) (.inl c2) c3]
        have : ¬ m = getD nl 0 := by omega
        simp [getD, Addr.add_none, Nat.add_assoc]
        intro hq
        exact absurd hq (by simpa [getD] using this)
      · cases h
    | none =>
      simp only at h
      split at h
      · cases h
      · rename_i hc
        simp only [Bool.and_eq_true] at hc
        have c1 := ble_iff.1 hc.1
        have c2 := ble_iff.1 hc.2
        have hhi := hcap _ c2
        have hg0 : ∀ d, getD none d = d := fun _ => rfl
        have hrn := hrun e1.symm (Nat.le_refl _) (.inl hhi) c1
        simp only [hg0] at hrn
        split at h
        · rename_i hlo
          cases h
          refine ⟨ρ, .slice (some ⟨L.r, L.sh + off, none⟩) (getD nh len) ((L.lim - (L.sh + off)) / (s + 1)), by simp [conc, hL], hr, .refl ρ A w, fun _ => rfl, ?_⟩
          rw [hrn, hlo]
          simp [Addr.add_none]
        · rename_i lo' hlo
          rw [hlo] at c1 hrn
          simp only [Nat.succ_eq_add_one] at c1 hrn
          split at h
          · rename_i hb
            cases h
            have hb := ble_iff.1 hb
            have hC : lo' + 1 + 1 ≤ (L.lim - (L.sh + off)) / (s + 1) := hcap _ (by rw [Nat.add_mul]; omega)
            refine ⟨ρ, .slice (some ⟨L.r, L.sh + (off + (lo' + 1) * (s + 1)), none⟩) (getD nh len - (lo' + 1)) ((L.lim - (L.sh + (off + (lo' + 1) * (s + 1)))) / (s + 1)), by simp [conc, hL], hr, .refl ρ A w, fun _ => rfl, ?_⟩
            have hne : ¬ (L.lim - (L.sh + off)) / (s + 1) = lo' + 1 := by omega
            have hdv : (L.lim - (L.sh + (off + (lo' + 1) * (s + 1)))) / (s + 1) = (L.lim - (L.sh + off)) / (s + 1) - (lo' + 1) := by
              rw [← Nat.sub_mul_div (L.lim - (L.sh + off)) (s + 1) (lo' + 1)]
              congr 1
              rw [Nat.mul_comm (s + 1)]; omega
            rw [hrn, if_neg hne, hdv]
            simp [Addr.add_none, Nat.add_assoc]
          · rename_i hb
            cases h
            have hb := ble_false hb
            have hhl : getD nh len = lo' + 1 := by
              apply Classical.byContradiction
              intro hne
              have : lo' + 1 + 1 ≤ getD nh len := by omega
              have := Nat.mul_le_mul_right (s + 1) this
              rw [Nat.add_mul (lo' + 1) 1] at this
              omega
            rw [hhl] at hrn c2
            by_cases hC : (L.lim - (L.sh + off)) / (s + 1) = lo' + 1
            · have ht := tail_ok hr hk hL (sh := L.sh + off) (lim := L.sh + off) (Nat.le_refl _) (by omega)
              refine ⟨_, .slice (some ⟨L.r, L.sh + off, none⟩) 0 0, by simp [conc, upd_eq], ht.1, ht.2, fun e => absurd e (Nat.succ_ne_self _), ?_⟩
              rw [hrn, if_pos hC, hC]
              simp
            · have ht := tail_ok hr hk hL (sh := L.sh + off + (lo' + 1) * (s + 1)) (lim := L.lim) (by omega) (Nat.le_refl _)
              refine ⟨_, .slice (some ⟨L.r, L.sh + off + (lo' + 1) * (s + 1), none⟩) 0 ((L.lim - (L.sh + off + (lo' + 1) * (s + 1))) / (s + 1)), by simp [conc, upd_eq], ht.1, ht.2, fun e => absurd e (Nat.succ_ne_self _), ?_⟩
              have hdv : (L.lim - (L.sh + off + (lo' + 1) * (s + 1))) / (s + 1) = (L.lim - (L.sh + off)) / (s + 1) - (lo' + 1) := by
                rw [← Nat.sub_mul_div (L.lim - (L.sh + off)) (s + 1) (lo' + 1)]
                congr 1
                rw [Nat.mul_comm (s + 1)]; omega
              rw [hrn, if_neg hC, hdv]
              simp [Addr.add_none]
  | _ => simp only at h; cases h
end Go.Proofs.YtcaagfgopmhilaaGreatDoor.Vai
