/- A part of the proof that the law of this seat holds: N2; no condition. -/
import Derived.Test.YtcaagfgopmhilaaGreatDoorN1
namespace Go.Proofs.YtcaagfgopmhilaaGreatDoor
open Go.Proofs.YtcaagfgopmhilaaGreatDoor.Vai Go.RowKit
theorem types_below {w w' : World} {ty : TypeId} {fz : Nat × Nat} (h : w.heap[1]? = some (.cells typesV ty fz)) (hb : Below w.heap.size w w') : w'.heap[1]? = some (.cells typesV ty fz) := by
  rw [hb.block 1 (Array.getElem?_eq_some_iff.1 h).1]; exact h
set_option maxHeartbeats 4000000 in
theorem nobody_any {w : World} {ty : TypeId} {fz : Nat × Nat} (h : w.heap[1]? = some (.cells typesV ty fz)) (v0 v1 v2 v3 v4 v5 : Value) (n : Int) (ht : TermAt w v0 v1 v2 v3) (hg : GoalsAt w v4)
    (h0 : v0.oneCell' = true) (h1 : v1.oneCell' = true) (h2 : v2.oneCell' = true) (h3 : v3.oneCell' = true) (h4 : v4.oneCell' = true) (h5 : v5.oneCell' = true) :
    Calls Tryz.prog 3 #[.agg #[v0, v1, v2, v3, v4, v5], .int .i64 n] w fun e w' => e = .returned (.bool true) ∧ Below w.heap.size w w' := by
  have H := Lib.hid h; clear h
  have HT := Lib.hid ht; clear ht
  have HG := Lib.hid hg; clear hg
  have hw1 : Below w.heap.size w (w.alloc (.cells #[v0, v1, v2, v3, v4, v5] 27)) := (Below.refl _ w).alloc (Nat.le_refl _) _
  have hs1 : (w.alloc (.cells #[v0, v1, v2, v3, v4, v5] 27)).heap.size = w.heap.size + 1 := by
    show (w.heap.push _).size = _
    simp
  have HS := Lib.hid hs1; clear hs1
  have hbox : ∀ w', Below (w.heap.size + 1) (w.alloc (.cells #[v0, v1, v2, v3, v4, v5] 27)) w' → ∀ j x, #[v0, v1, v2, v3, v4, v5][j]? = some x → w'.cell? ⟨w.heap.size, j, none⟩ = some x := fun w' hbw j x hx => by
    rw [hbw.cell (p := ⟨w.heap.size, j, none⟩) (Nat.lt_succ_self _), World.cell?_alloc_new]; exact hx
  have HB := Lib.hid hbox; clear hbox
  have nxt : ∀ w' w'', Below (w.heap.size + 1) (w.alloc (.cells #[v0, v1, v2, v3, v4, v5] 27)) w' → Below w'.heap.size w' w'' → Below (w.heap.size + 1) (w.alloc (.cells #[v0, v1, v2, v3, v4, v5] 27)) w'' := fun w' w'' h k => h.trans (k.mono (by have := h.size; rw [HS.out] at this; exact this))
  have HN := Lib.hid nxt; clear nxt
  have fin : ∀ w', Below (w.heap.size + 1) (w.alloc (.cells #[v0, v1, v2, v3, v4, v5] 27)) w' → Below w.heap.size w w' := fun w' h => hw1.trans (h.mono (Nat.le_succ _))
  have HF := Lib.hid fin; clear fin
  have typ : ∀ w', Below (w.heap.size + 1) (w.alloc (.cells #[v0, v1, v2, v3, v4, v5] 27)) w' → w'.heap[1]? = some (.cells typesV ty fz) := fun w' h => types_below H.out (HF.out w' h)
  have HY := Lib.hid typ; clear typ
  go_enter Tryz.func3, Tryz.ntmps3
  go_wp2_with fail
  refine (large15_any w v0 v1 v2 v3 v4 v5 HT.out HG.out _ hw1).mono ?_
  rintro e w2 ⟨⟨b', rfl⟩, hw2⟩
  rw [HS.out] at hw2
  cases b' with
  | true =>
    go_wp2_with fail
    refine (lives_any (HY.out _ hw2)).mono ?_
    rintro e w3 ⟨rfl, hw3⟩
    have k3 := HN.out _ _ hw2 hw3
    clear hw3
    go_wp2_with fail
    go_ret
    exact ⟨rfl, HF.out _ k3⟩
  | false =>
    have c0 := HB.out _ hw2 0 _ rfl
    have c1 := HB.out _ hw2 1 _ rfl
    have c2 := HB.out _ hw2 2 _ rfl
    have c3 := HB.out _ hw2 3 _ rfl
    have c4 := HB.out _ hw2 4 _ rfl
    have c5 := HB.out _ hw2 5 _ rfl
    go_wp2_with fail
    refine (load_nil (HY.out _ hw2) h0 h1 h2 h3 h4 h5).mono ?_
    rintro e w3 ⟨rfl, hw3⟩
    have k3 := HN.out _ _ hw2 hw3
    clear hw3 c0 c1 c2 c3 c4 c5
    go_wp2_with fail
    refine (lives_any (HY.out _ k3)).mono ?_
    rintro e w4 ⟨rfl, hw4⟩
    have k4 := HN.out _ _ k3 hw4
    clear hw4
    have c0 := HB.out _ k4 0 _ rfl
    have c1 := HB.out _ k4 1 _ rfl
    have c2 := HB.out _ k4 2 _ rfl
    have c3 := HB.out _ k4 3 _ rfl
    go_wp2_with fail
    refine (ask_nil (HY.out _ k4) h0 h1 h2 h3).mono ?_
    rintro e w5 ⟨rfl, hw5⟩
    have k5 := HN.out _ _ k4 hw5
    clear hw5 c0 c1 c2 c3
    go_wp2_with fail
    refine (step_nil (HY.out _ k5)).mono ?_
    rintro e w6 ⟨rfl, hw6⟩
    have k6 := HN.out _ _ k5 hw6
    clear hw6
    go_wp2_with fail
    refine (run_nil (HY.out _ k6) n).mono ?_
    rintro e w7 ⟨rfl, hw7⟩
    have k7 := HN.out _ _ k6 hw7
    clear hw7
    go_wp2_with fail
    refine (state_nil (HY.out _ k7)).mono ?_
    rintro e w8 ⟨rfl, hw8⟩
    have k8 := HN.out _ _ k7 hw8
    clear hw8
    go_wp2_with fail
    refine (steps_nil (HY.out _ k8)).mono ?_
    rintro e w9 ⟨rfl, hw9⟩
    have k9 := HN.out _ _ k8 hw9
    clear hw9
    go_wp2_with fail
    refine (events_nil (HY.out _ k9)).mono ?_
    rintro e w10 ⟨rfl, hw10⟩
    have k10 := HN.out _ _ k9 hw10
    clear hw10
    go_wp2_with fail
    refine (heap_nil (HY.out _ k10)).mono ?_
    rintro e w11 ⟨rfl, hw11⟩
    have k11 := HN.out _ _ k10 hw11
    clear hw11
    go_wp2_with fail
    refine (stack_nil (HY.out _ k11)).mono ?_
    rintro e w12 ⟨rfl, hw12⟩
    have k12 := HN.out _ _ k11 hw12
    clear hw12
    go_wp2_with fail
    refine (base_nil (HY.out _ k12)).mono ?_
    rintro e w13 ⟨rfl, hw13⟩
    have k13 := HN.out _ _ k12 hw13
    clear hw13
    go_wp2_with fail
    refine (words_nil (HY.out _ k13)).mono ?_
    rintro e w14 ⟨rfl, hw14⟩
    have k14 := HN.out _ _ k13 hw14
    clear hw14
    go_wp2_with fail
    refine (places_nil (HY.out _ k14)).mono ?_
    rintro e w15 ⟨rfl, hw15⟩
    have k15 := HN.out _ _ k14 hw15
    clear hw15
    go_wp2_with fail
    go_ret
    exact ⟨rfl, HF.out _ k15⟩
end Go.Proofs.YtcaagfgopmhilaaGreatDoor
