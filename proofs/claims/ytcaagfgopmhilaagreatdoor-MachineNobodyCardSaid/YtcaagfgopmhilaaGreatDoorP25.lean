/- A part of the proof that the law of this seat holds: P25; no condition. -/
import Derived.Test.YtcaagfgopmhilaaGreatDoorP23
import Derived.Orders
namespace Go.Proofs.YtcaagfgopmhilaaGreatDoor.Vai
variable {P : Program} {K : Tab}

/-! ### bits: what comes ahead of what -/
theorem bit_test (m i : Nat) : bit m i = m.testBit i := by
  have h1 : (m >>> i) &&& 1 = (m >>> i) % 2 := Nat.and_one_is_mod _
  have h2 : m.testBit i = ((m >>> i) % 2 == 1) := by
    rw [Nat.testBit_eq_decide_div_mod_eq, Nat.shiftRight_eq_div_pow]
    rw [Bool.eq_iff_iff]; simp
  rw [h2, ← h1]
  unfold bit
  rw [Bool.eq_iff_iff, beq_iff, beq_iff_eq]
  exact Iff.rfl
theorem bit_or (a b i : Nat) : bit (Nat.lor a b) i = (bit a i || bit b i) := by
  rw [bit_test, bit_test, bit_test]; exact Nat.testBit_or a b i
theorem bit_one (k i : Nat) : bit (Nat.shiftLeft 1 k) i = true ↔ k = i := by
  rw [bit_test]
  show (1 <<< k).testBit i = true ↔ _
  rw [Nat.shiftLeft_eq, Nat.one_mul, Nat.testBit_two_pow]
  simp
theorem bit_zero (i : Nat) : bit 0 i = false := by rw [bit_test]; simp

def B (pre : T Nat) (i j : Nat) : Prop := bit (natAt pre i) j = true

theorem preE_spec {acc : T Nat} {n : Nat} (hA : ∀ k j, B acc k j → j < n) : ∀ (es : List Edge) (m m' : Nat), preE acc n es m = some m' → (∀ j, bit m j = true → j < n) →
    (∀ j, bit m' j = true → j < n) ∧ (∀ j, bit m j = true → bit m' j = true) ∧
    (∀ j, bit m' j = true → bit m j = true ∨ ∃ e ∈ es, Region.binds .any e = true ∧ (e.on = j ∨ (e.on < n ∧ B acc e.on j))) ∧ (∀ e ∈ es, Region.binds .any e = true → bit m' e.on = true)
  | [], m, m', h, hm => by cases h; exact ⟨hm, fun _ h => h, fun _ h => .inl h, fun _ h => by cases h⟩
  | e :: es, m, m', h, hm => by
    simp only [preE] at h
    split at h
    · rename_i hb
      obtain ⟨h1, h2, h3, h4⟩ := preE_spec hA es m m' h hm
      refine ⟨h1, h2, fun j hj => (h3 j hj).imp id fun ⟨e', he', hh⟩ => ⟨e', List.mem_cons_of_mem _ he', hh⟩, fun e' he' hb' => ?_⟩
      rcases List.mem_cons.1 he' with rfl | he'
      · rw [hb] at hb'; cases hb'
      · exact h4 e' he' hb'
    · rename_i hb
      split at h
      · rename_i hbit
        obtain ⟨h1, h2, h3, h4⟩ := preE_spec hA es m m' h hm
        refine ⟨h1, h2, fun j hj => (h3 j hj).imp id fun ⟨e', he', hh⟩ => ⟨e', List.mem_cons_of_mem _ he', hh⟩, fun e' he' hb' => ?_⟩
        rcases List.mem_cons.1 he' with rfl | he'
        · exact h2 _ hbit
        · exact h4 e' he' hb'
      · split at h
        · rename_i hlt
          have hlt := blt_iff.1 hlt
          have key : ∀ j, bit (Nat.lor m (Nat.lor (Nat.shiftLeft 1 e.on) (natAt acc e.on))) j = true ↔ bit m j = true ∨ e.on = j ∨ B acc e.on j := fun j => by
            rw [bit_or, bit_or, Bool.or_eq_true, Bool.or_eq_true, bit_one]; rfl
          obtain ⟨h1, h2, h3, h4⟩ := preE_spec hA es _ m' h (fun j hj => by
            rcases (key j).1 hj with h | h | h
            · exact hm j h
            · omega
            · exact hA _ _ h)
          refine ⟨h1, fun j hj => h2 j ((key j).2 (.inl hj)), fun j hj => ?_, fun e' he' hb' => ?_⟩
          · rcases h3 j hj with h | ⟨e', he', hh⟩
            · rcases (key j).1 h with h | h | h
              · exact .inl h
              · exact .inr ⟨e, List.mem_cons_self, hb, .inl h⟩
              · exact .inr ⟨e, List.mem_cons_self, hb, .inr ⟨hlt, h⟩⟩
            · exact .inr ⟨e', List.mem_cons_of_mem _ he', hh⟩
          · rcases List.mem_cons.1 he' with rfl | he'
            · exact h2 _ ((key _).2 (.inr (.inl rfl)))
            · exact h4 e' he' hb'
        · cases h

theorem natAt_set_eq (t : T Nat) (n m : Nat) : natAt (t.set (pos n) m) n = m := by unfold natAt; rw [T.get_set_eq]
theorem natAt_set_ne (t : T Nat) {n k : Nat} (m : Nat) (h : k ≠ n) : natAt (t.set (pos n) m) k = natAt t k := by unfold natAt; rw [T.get_set_ne _ _ _ _ (pos_ne h)]
/-- what is known of each operation's place among the others -/
def PreOk (pre : T Nat) (i : Nat) (o : Oper) : Prop :=
  (∀ j, B pre i j → ∃ e ∈ o.after, Region.binds .any e = true ∧ (e.on = j ∨ B pre e.on j)) ∧ (∀ e ∈ o.after, Region.binds .any e = true → e.on < i) ∧ (∀ j, B pre i j → j < i)
theorem preF_spec : ∀ (os : List Oper) (acc acc' : T Nat) (n : Nat), preF os acc n = some acc' → (∀ k j, B acc k j → j < n ∧ k < n) →
    (∀ k, k < n → natAt acc' k = natAt acc k) ∧ ∀ t o, os[t]? = some o → PreOk acc' (n + t) o
  | [], acc, acc', n, h, _ => by cases h; exact ⟨fun _ _ => rfl, fun t o ho => by simp at ho⟩
  | o :: os, acc, acc', n, h, hA => by
    simp only [preF] at h
    split at h
    · rename_i m hm
      obtain ⟨g1, _, g3, g4⟩ := preE_spec (fun k j h => (hA k j h).1) o.after.toList 0 m hm (fun j h => by rw [bit_zero] at h; cases h)
      obtain ⟨f1, f2⟩ := preF_spec os _ acc' (n + 1) h (fun k j hk => by
        by_cases e : k = n
        · subst e
          unfold B at hk; rw [natAt_set_eq] at hk
          have := g1 j hk; omega
        · unfold B at hk; rw [natAt_set_ne _ _ e] at hk
          have := hA k j hk; omega)
      have hlow : ∀ k, k < n → natAt acc' k = natAt acc k := fun k hk => by rw [f1 k (by omega), natAt_set_ne _ _ (by omega)]
      have hn : natAt acc' n = m := by rw [f1 n (by omega), natAt_set_eq]
      refine ⟨hlow, fun t o' ho => ?_⟩
      cases t with
      | zero =>
        cases ho
        refine ⟨fun j hj => ?_, fun e he hb => ?_, fun j hj => ?_⟩
        · unfold B at hj; rw [Nat.add_zero, hn] at hj
          rcases g3 j hj with h | ⟨e, he, hb, hh⟩
          · rw [bit_zero] at h; cases h
          · refine ⟨e, by simpa using he, hb, hh.imp id fun ⟨hlt, hB⟩ => ?_⟩
            unfold B at hB ⊢; rw [hlow _ hlt]; exact hB
        · have := g1 _ (g4 e (by simpa using he) hb); omega
        · unfold B at hj; rw [Nat.add_zero, hn] at hj
          have := g1 _ hj; omega
      | succ t =>
        have := f2 t o' (by simpa using ho)
        rwa [show n + 1 + t = n + (t + 1) by omega] at this
    · cases h

/-! ### who writes a slot -/
theorem writers_spec : ∀ (os : List Oper) (i : Nat) (W W' : T Nat), writers os i W = some W' → (∀ p j, W.get p = some j → j < i) →
    (∀ p j, W.get p = some j → W'.get p = some j) ∧ (∀ t o d, os[t]? = some o → o.dst = some d → W'.get (pos d) = some (i + t)) ∧
    (∀ p j, W'.get p = some j → W.get p = some j ∨ ∃ t o d, os[t]? = some o ∧ o.dst = some d ∧ p = pos d ∧ j = i + t)
  | [], i, W, W', h, _ => by cases h; exact ⟨fun _ _ h => h, fun t o d ho => by simp at ho, fun _ _ h => .inl h⟩
  | o :: os, i, W, W', h, hW => by
    simp only [writers] at h
    split at h
    · rename_i hd
      obtain ⟨h1, h2, h3⟩ := writers_spec os (i + 1) W W' h (fun p j h => by have := hW p j h; omega)
      refine ⟨h1, fun t o' d ho hd' => ?_, fun p j hj => (h3 p j hj).imp id fun ⟨t, o', d, a, b, c, e⟩ => ⟨t + 1, o', d, by simpa using a, b, c, by omega⟩⟩
      cases t with
      | zero => cases ho; rw [hd] at hd'; cases hd'
      | succ t => rw [h2 t o' d (by simpa using ho) hd']; congr 1; omega
    · rename_i d hd
      split at h
      · cases h
      · rename_i hno
        have hne : ∀ p j, W.get p = some j → p ≠ pos d := fun p j h e => by rw [e, hno] at h; cases h
        obtain ⟨h1, h2, h3⟩ := writers_spec os (i + 1) _ W' h (fun p j h => by
          by_cases e : p = pos d
          · subst e; rw [T.get_set_eq] at h; cases h; omega
          · rw [T.get_set_ne _ _ _ _ e] at h; have := hW p j h; omega)
        refine ⟨fun p j hp => h1 p j (by rw [T.get_set_ne _ _ _ _ (hne p j hp)]; exact hp), fun t o' d' ho hd' => ?_, fun p j hj => ?_⟩
        · cases t with
          | zero => cases ho; rw [hd] at hd'; cases hd'; exact h1 _ _ (T.get_set_eq _ _ _)
          | succ t => rw [h2 t o' d' (by simpa using ho) hd']; congr 1; omega
        · rcases h3 p j hj with h | ⟨t, o', d', a, b, c, e⟩
          · by_cases e : p = pos d
            · subst e; rw [T.get_set_eq] at h; cases h
              exact .inr ⟨0, o, d, rfl, hd, rfl, rfl⟩
            · rw [T.get_set_ne _ _ _ _ e] at h; exact .inl h
          · exact .inr ⟨t + 1, o', d', by simpa using a, b, c, by omega⟩

/-! ### the kinds -/
def DKOk (P : Program) (o : Oper) : DK → Prop
  | .q f => QOk P o f
  | .a f => LOk P o f
  | .e m => MOk P o m
theorem dkOf_ok {o : Oper} (hT : TabOk P K) : DKOk P o (dkOf K o.op) := by
  have hM := compOp_ok (o := o) hT
  unfold dkOf
  split
  · rename_i f hf; rw [hf] at hM; exact hM
  · rename_i t x lo hi mx f ho hf
    rw [ho] at hf
    simp only [compOp, compSlice, moNo] at hf
    split at hf
    · cases hf
    · rename_i hal
      split at hf
      · rename_i hu; cases hf; exact SOk.q (slice_string hT hu hal ho)
      · rename_i e hu
        split at hf
        · rename_i s hs; cases hf; exact SOk.q (slice_slice hT hu hs hal ho)
        · cases hf
      · rename_i n e hu
        split at hf
        · rename_i s hs; cases hf; exact SOk.q (slice_array hT hu hs hal ho)
        · cases hf
      · cases hf
  · rename_i t f ho hf
    rw [ho] at hf
    simp only [compOp, moNo] at hf
    split at hf
    · rename_i z hz
      split at hf
      · rename_i hc; cases hf; exact alloc_ok hT ho hz hc
      · cases hf
    · cases hf
  · rename_i t x f ho hf
    rw [ho] at hf
    cases hf; exact box_ok ho
  · rename_i t len parts f ho hf
    rw [ho] at hf
    simp only [compOp, compBuildSlice, moNo] at hf
    split at hf
    · rename_i e hu
      split at hf
      · rename_i s z hs hz
        split at hf
        · rename_i hc
          simp only [Bool.and_eq_true] at hc
          cases hf
          exact buildSlice_ok hT ho hu hs hz (beq_iff.1 hc.1.1) hc.1.2 (blt_iff.1 hc.2)
        · cases hf
      · cases hf
    · cases hf
  · rename_i t r f ho hf
    rw [ho] at hf
    cases r with
    | none => cases hf; exact map_ok ho
    | some r =>
      simp only [compOp, moNo] at hf
      split at hf
      · rename_i kt e hu; cases hf; exact mapR_ok hT ho hu
      · cases hf
  · rename_i t l c f ho hf
    rw [ho] at hf
    simp only [compOp, compMake, moNo] at hf
    split at hf
    · rename_i e hu
      split at hf
      · rename_i i z hi hz
        split at hf
        · rename_i hc
          simp only [Bool.and_eq_true] at hc
          cases hf
          exact make_ok hT ho hu hi hz (beq_iff.1 hc.1.1.1) hc.1.1.2 (blt_iff.1 hc.1.2) (ble_iff.1 hc.2)
        · cases hf
      · cases hf
    · cases hf
  · exact hM
end Go.Proofs.YtcaagfgopmhilaaGreatDoor.Vai
