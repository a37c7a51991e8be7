/- A part of the proof that the law of this seat holds: W3; no condition. -/
import Derived.Test.YtcaagfgopmhilaaGreatDoorW2
namespace Go.Proofs.YtcaagfgopmhilaaGreatDoor
open Go.RowKit
set_option maxHeartbeats 1000000 in
theorem large06_any (W : World) (v0 v1 v2 v3 : Value) (h : TermAt W v0 v1 v2 v3) (w : World) (hb : Below W.heap.size W w) :
    Calls Tryz.prog 18 #[.agg #[v0, v1, v2, v3]] w (SomeBool fun w' => Below w.heap.size w w') := by
  have H := Lib.hid h; clear h
  have hw2 : Below w.heap.size w ((w.alloc (.cells #[v0, v1, v2, v3] 24)).alloc (.cells #[.int .i64 0] 3)) := ((Below.refl _ w).alloc (Nat.le_refl _) _).alloc (by simp) _
  have hp : ((w.alloc (.cells #[v0, v1, v2, v3] 24)).alloc (.cells #[.int .i64 0] 3)).heap[w.heap.size + 1]? = some (.cells #[.int .i64 0] 3 (0, 0)) := by
    show ((w.heap.push _).push _)[w.heap.size + 1]? = _
    rw [Array.getElem?_push, if_pos (by simp)]
  have hsz : ((w.alloc (.cells #[v0, v1, v2, v3] 24)).alloc (.cells #[.int .i64 0] 3)).heap.size = w.heap.size + 2 := by
    show ((w.heap.push _).push _).size = _
    simp
  go_enter Tryz.func18, Tryz.ntmps18
  go_wp2_with fail
  refine (large_any W v0 v1 v2 v3 H.out _ _ 0 (w.heap.size + 1) (hb.trans (hw2.mono hb.size)) (by have := hb.size; omega) hp).mono ?_
  rintro e w' ⟨⟨b', rfl⟩, hw', hcn⟩
  go_wp2_with fail
  go_ret
  exact ⟨⟨_, rfl⟩, hw'.os, hw'.tape, hw'.output, by have := hw'.size; omega, fun k hk => by rw [hw'.block k (by omega) (by omega), hw2.block k hk]⟩

/-- six values are a clause -/
def GoalsAt (w : World) (v : Value) : Prop := (∃ x cap, v = .slice x 0 cap) ∨ ∃ b o len cap, v = .slice (some ⟨b, o, none⟩) len cap ∧ len ≤ cap ∧ cap ≤ maxLen ∧ ∃ g : Nat → Nat → Value,
  (∀ i j, i < len → j < 5 → w.cell? ⟨b, o + i * 5 + j, none⟩ = some (g i j)) ∧ ∀ i, i < len → TermAt w (g i 1) (g i 2) (g i 3) (g i 4)
set_option maxHeartbeats 2000000 in
theorem large15_nil (W : World) (v0 v1 v2 v3 v5 : Value) (xx : Option Addr) (cap : Nat) (h : TermAt W v0 v1 v2 v3) (w : World) (hb : Below W.heap.size W w) :
    Calls Tryz.prog 4 #[.agg #[v0, v1, v2, v3, .slice xx 0 cap, v5]] w (SomeBool fun w' => Below w.heap.size w w') := by
  have H := Lib.hid h; clear h
  have hw1 : Below w.heap.size w (w.alloc (.cells #[v0, v1, v2, v3, .slice xx 0 cap, v5] 27)) := (Below.refl _ w).alloc (Nat.le_refl _) _
  have hs1 : (w.alloc (.cells #[v0, v1, v2, v3, .slice xx 0 cap, v5] 27)).heap.size = w.heap.size + 1 := by
    show (w.heap.push _).size = _
    simp
  have hbox : ∀ w', Below (w.heap.size + 1) (w.alloc (.cells #[v0, v1, v2, v3, .slice xx 0 cap, v5] 27)) w' → ∀ j x, #[v0, v1, v2, v3, .slice xx 0 cap, v5][j]? = some x → w'.cell? ⟨w.heap.size, j, none⟩ = some x := fun w' hbw j x hx => by
    rw [hbw.cell (p := ⟨w.heap.size, j, none⟩) (Nat.lt_succ_self _), World.cell?_alloc_new]; exact hx
  have HB := Lib.hid hbox; clear hbox
  have HS := Lib.hid hs1; clear hs1
  go_enter Tryz.func4, Tryz.ntmps4
  go_wp2_with fail
  refine (large06_any W v0 v1 v2 v3 H.out _ (hb.trans (hw1.mono hb.size))).mono ?_
  rintro e w2 ⟨⟨b', rfl⟩, hw2⟩
  rw [HS.out] at hw2
  have h20 := HB.out w2 hw2 0 _ rfl
  have h21 := HB.out w2 hw2 1 _ rfl
  have h22 := HB.out w2 hw2 2 _ rfl
  have h23 := HB.out w2 hw2 3 _ rfl
  have h24 := HB.out w2 hw2 4 _ rfl
  cases b' with
  | true =>
    go_wp2_with fail
    go_ret
    exact ⟨⟨_, rfl⟩, hw1.trans (hw2.mono (Nat.le_succ _))⟩
  | false =>
    go_wp2_with fail
    have hbW2 : Below W.heap.size W w2 := (hb.trans (hw1.mono hb.size)).trans (hw2.mono (by have := hb.size; omega))
    refine (size_any W v0 v1 v2 v3 H.out _ hbW2).mono ?_
    rintro e w3 ⟨⟨n3, rfl⟩, hw3⟩
    have hw23 : Below (w.heap.size + 1) (w.alloc (.cells #[v0, v1, v2, v3, .slice xx 0 cap, v5] 27)) w3 := hw2.trans (hw3.mono (by have := hw2.size; rw [HS.out] at this; exact this))
    have h34 := HB.out w3 hw23 4 _ rfl
    clear h20 h21 h22 h23 h24
    go_wp2_with fail
    go_loop [4] (fun i => i = .int .i64 0) (fun _ => 0)
    case atStart => rfl
    case round =>
      obtain rfl := hrel
      go_wp2_with fail
      go_ret
      exact ⟨⟨_, rfl⟩, hw1.trans (hw23.mono (Nat.le_succ _))⟩
set_option maxHeartbeats 4000000 in
theorem large15_some (W : World) (v0 v1 v2 v3 v5 : Value) (b o len cap : Nat) (g : Nat → Nat → Value) (hlc : len ≤ cap) (hcap : cap ≤ maxLen) (h : TermAt W v0 v1 v2 v3)
    (hg : ∀ i j, i < len → j < 5 → W.cell? ⟨b, o + i * 5 + j, none⟩ = some (g i j)) (hgt : ∀ i, i < len → TermAt W (g i 1) (g i 2) (g i 3) (g i 4)) (w : World) (hb : Below W.heap.size W w) :
    Calls Tryz.prog 4 #[.agg #[v0, v1, v2, v3, .slice (some ⟨b, o, none⟩) len cap, v5]] w (SomeBool fun w' => Below w.heap.size w w') := by
  unfold maxLen at hcap
  have H := Lib.hid h; clear h
  have HG := Lib.hid hg; clear hg
  have HT := Lib.hid hgt; clear hgt
  have hw1 : Below w.heap.size w (w.alloc (.cells #[v0, v1, v2, v3, .slice (some ⟨b, o, none⟩) len cap, v5] 27)) := (Below.refl _ w).alloc (Nat.le_refl _) _
  have hs1 : (w.alloc (.cells #[v0, v1, v2, v3, .slice (some ⟨b, o, none⟩) len cap, v5] 27)).heap.size = w.heap.size + 1 := by
    show (w.heap.push _).size = _
    simp
  have hbox : ∀ w', Below (w.heap.size + 1) (w.alloc (.cells #[v0, v1, v2, v3, .slice (some ⟨b, o, none⟩) len cap, v5] 27)) w' → ∀ j x, #[v0, v1, v2, v3, .slice (some ⟨b, o, none⟩) len cap, v5][j]? = some x → w'.cell? ⟨w.heap.size, j, none⟩ = some x := fun w' hbw j x hx => by
    rw [hbw.cell (p := ⟨w.heap.size, j, none⟩) (Nat.lt_succ_self _), World.cell?_alloc_new]; exact hx
  have HB := Lib.hid hbox; clear hbox
  have HS := Lib.hid hs1; clear hs1
  go_enter Tryz.func4, Tryz.ntmps4
  go_wp2_with fail
  refine (large06_any W v0 v1 v2 v3 H.out _ (hb.trans (hw1.mono hb.size))).mono ?_
  rintro e w2 ⟨⟨b', rfl⟩, hw2⟩
  rw [HS.out] at hw2
  have h20 := HB.out w2 hw2 0 _ rfl
  have h21 := HB.out w2 hw2 1 _ rfl
  have h22 := HB.out w2 hw2 2 _ rfl
  have h23 := HB.out w2 hw2 3 _ rfl
  have h24 := HB.out w2 hw2 4 _ rfl
  have fin : ∀ w', Below (w.heap.size + 1) (w.alloc (.cells #[v0, v1, v2, v3, .slice (some ⟨b, o, none⟩) len cap, v5] 27)) w' → Below w.heap.size w w' := fun w' h => hw1.trans (h.mono (Nat.le_succ _))
  have HF := Lib.hid fin; clear fin
  have toW : ∀ w', Below (w.heap.size + 1) (w.alloc (.cells #[v0, v1, v2, v3, .slice (some ⟨b, o, none⟩) len cap, v5] 27)) w' → Below W.heap.size W w' := fun w' h => (hb.trans (hw1.mono hb.size)).trans (h.mono (by have := hb.size; omega))
  have HW := Lib.hid toW; clear toW
  have nxt : ∀ w' w'', Below (w.heap.size + 1) (w.alloc (.cells #[v0, v1, v2, v3, .slice (some ⟨b, o, none⟩) len cap, v5] 27)) w' → Below w'.heap.size w' w'' → Below (w.heap.size + 1) (w.alloc (.cells #[v0, v1, v2, v3, .slice (some ⟨b, o, none⟩) len cap, v5] 27)) w'' := fun w' w'' h k => h.trans (k.mono (by have := h.size; rw [HS.out] at this; exact this))
  have HN := Lib.hid nxt; clear nxt
  cases b' with
  | true =>
    go_wp2_with fail
    go_ret
    exact ⟨⟨_, rfl⟩, HF.out _ hw2⟩
  | false =>
    by_cases h80 : 80 < len
    · have h80' : (80 : Int) < len := by omega
      go_wp2_with fail
      go_ret
      exact ⟨⟨_, rfl⟩, HF.out _ hw2⟩
    · have h80' : ¬ (80 : Int) < len := by omega
      go_wp2_with fail
      refine (size_any W v0 v1 v2 v3 H.out _ (HW.out _ hw2)).mono ?_
      rintro e w3 ⟨⟨n3, rfl⟩, hw3⟩
      have hw23 := HN.out _ _ hw2 hw3
      clear h20 h21 h22 h23 h24 hw3
      go_wp2_with fail
      go_loopw [3, 4] (fun t i wr => (∃ m : Int, t = .int .i64 m) ∧ (∃ q : Nat, q ≤ len ∧ i = .int .i64 q) ∧ Below (w.heap.size + 1) (w.alloc (.cells #[v0, v1, v2, v3, .slice (some ⟨b, o, none⟩) len cap, v5] 27)) wr) (fun _ i _ => len - (intOf i).toNat)
      case atStart => exact ⟨⟨_, rfl⟩, ⟨0, Nat.zero_le _, rfl⟩, hw23⟩
      case round =>
        obtain ⟨⟨m, rfl⟩, ⟨q, hq, rfl⟩, hbw⟩ := hrel
        have h44 := HB.out _ hbw 4 _ rfl
        have cl : ∀ w', Below (w.heap.size + 1) (w.alloc (.cells #[v0, v1, v2, v3, .slice (some ⟨b, o, none⟩) len cap, v5] 27)) w' → ∀ j, j < 5 → q < len → w'.cell? ⟨b, o + q * 5 + j, none⟩ = some (g q j) := fun w' hw' j hj hlt => by
          have h0 := HG.out q j hlt hj
          rw [(HW.out w' hw').cell (p := ⟨b, _, none⟩) (cell_lt h0)]
          exact h0
        have HC := Lib.hid cl; clear cl
        by_cases hlt : q < len
        · have g1 := HC.out _ hbw 1 (by omega) hlt
          have g2 := HC.out _ hbw 2 (by omega) hlt
          have g3 := HC.out _ hbw 3 (by omega) hlt
          have g4 := HC.out _ hbw 4 (by omega) hlt
          go_wp2_with fail
          refine (large06_any W _ _ _ _ (HT.out q hlt) _ (HW.out _ hbw)).mono ?_
          rintro e w4 ⟨⟨b4, rfl⟩, hw4⟩
          have hw44 := HN.out _ _ hbw hw4
          clear h44 g1 g2 g3 g4 hw4
          have h44 := HB.out _ hw44 4 _ rfl
          have g1 := HC.out _ hw44 1 (by omega) hlt
          have g2 := HC.out _ hw44 2 (by omega) hlt
          have g3 := HC.out _ hw44 3 (by omega) hlt
          have g4 := HC.out _ hw44 4 (by omega) hlt
          cases b4 with
          | true =>
            go_wp2_with fail
            go_ret
            exact ⟨⟨_, rfl⟩, HF.out _ hw44⟩
          | false =>
            go_wp2_with fail
            refine (size_any W _ _ _ _ (HT.out q hlt) _ (HW.out _ hw44)).mono ?_
            rintro e w5 ⟨⟨n5, rfl⟩, hw5⟩
            have hw55 := HN.out _ _ hw44 hw5
            clear h44 g1 g2 g3 g4 hw5
            go_wp2_with fail
            · go_ret
              exact ⟨⟨_, rfl⟩, HF.out _ hw55⟩
            · go_roundw
              case rel => exact ⟨⟨_, rfl⟩, ⟨q + 1, by omega, by go_num⟩, hw55⟩
              case measure => simp [intOf]; omega
        · go_wp2_with fail
          go_ret
          exact ⟨⟨_, rfl⟩, HF.out _ hbw⟩
theorem large15_any (W : World) (v0 v1 v2 v3 v4 v5 : Value) (h : TermAt W v0 v1 v2 v3) (hg : GoalsAt W v4) (w : World) (hb : Below W.heap.size W w) :
    Calls Tryz.prog 4 #[.agg #[v0, v1, v2, v3, v4, v5]] w (SomeBool fun w' => Below w.heap.size w w') := by
  rcases hg with ⟨x, cap, rfl⟩ | ⟨b, o, len, cap, rfl, hl, hc, g, h1, h2⟩
  · exact large15_nil W v0 v1 v2 v3 v5 x cap h w hb
  · exact large15_some W v0 v1 v2 v3 v5 b o len cap g hl hc h h1 h2 w hb
end Go.Proofs.YtcaagfgopmhilaaGreatDoor
