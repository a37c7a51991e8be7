/- A part of the proof that the law of this seat holds: W1; no condition. -/
import Derived.Test.YtcaagfgopmhilaaGreatDoorProg
import Derived.WalkKit
import Derived.WalkSpells
import Derived.Lib.Hide
namespace Go.Proofs.YtcaagfgopmhilaaGreatDoor
open Go.RowKit

/-- four values are a term, with all its parts, in the memory of w -/
inductive TermAt (w : World) : Value → Value → Value → Value → Prop where
  | nil (k n : Int) (s : ByteArray) (x : Option Addr) (cap : Nat) (hs : s.size ≤ maxLen) : TermAt w (.int .i64 k) (.int .i64 n) (.string s) (.slice x 0 cap)
  | mk (k n : Int) (s : ByteArray) (b o len cap : Nat) (hs : s.size ≤ maxLen) (hl : len ≤ cap) (hc : cap ≤ maxLen) (c : Nat → Nat → Value)
      (h : ∀ i j, i < len → j < 4 → w.cell? ⟨b, o + i * 4 + j, none⟩ = some (c i j)) (hr : ∀ i, i < len → TermAt w (c i 0) (c i 1) (c i 2) (c i 3)) :
      TermAt w (.int .i64 k) (.int .i64 n) (.string s) (.slice (some ⟨b, o, none⟩) len cap)

theorem cell_lt {w : World} {b o : Nat} {v : Value} (h : w.cell? ⟨b, o, none⟩ = some v) : b < w.heap.size := by
  apply Classical.byContradiction
  intro hn
  have : w.heap[b]? = none := Array.getElem?_eq_none (by omega)
  simp [World.cell?, this] at h
theorem cell_old {w : World} {b o : Nat} (ob : Obj) (h : b < w.heap.size) : (w.alloc ob).cell? ⟨b, o, none⟩ = w.cell? ⟨b, o, none⟩ := World.cell?_alloc_lt (a := ⟨b, o, none⟩) w _ h
def SomeInt (P : World → Prop) (e : Ending) (w' : World) : Prop := (∃ n : Int, e = .returned (.int .i64 n)) ∧ P w'
set_option maxHeartbeats 400000 in
theorem size_nil (k n : Int) (s : ByteArray) (x : Option Addr) (cap : Nat) (w : World) :
    Calls Tryz.prog 19 #[.agg #[.int .i64 k, .int .i64 n, .string s, .slice x 0 cap]] w (SomeInt fun w' => Below w.heap.size w w') := by
  go_enter Tryz.func19, Tryz.ntmps19
  go_wp2_with fail
  go_loop [3, 4] (fun t i => (∃ m : Int, t = .int .i64 m) ∧ i = .int .i64 0) (fun _ i => 0)
  case atStart => exact ⟨⟨1, rfl⟩, rfl⟩
  case round =>
    obtain ⟨⟨m, rfl⟩, rfl⟩ := hrel
    go_wp2_with fail
    go_ret
    exact ⟨⟨m, rfl⟩, (Below.refl _ _).alloc (Nat.le_refl _) _⟩
set_option maxHeartbeats 1000000 in
theorem size_any (W : World) (v0 v1 v2 v3 : Value) (h : TermAt W v0 v1 v2 v3) : ∀ (w : World), Below W.heap.size W w →
    Calls Tryz.prog 19 #[.agg #[v0, v1, v2, v3]] w (SomeInt fun w' => Below w.heap.size w w') := by
  induction h with
  | nil k n s x cap hs => intro w _; exact size_nil k n s x cap w
  | mk k n s b o len cap hs hl hc c hcell hr ih =>
    intro w hb
    unfold maxLen at hc
    go_enter Tryz.func19, Tryz.ntmps19
    go_wp2_with fail
    go_loopw [3, 4] (fun t i wr => (∃ m : Int, t = .int .i64 m) ∧ (∃ q : Nat, q ≤ len ∧ i = .int .i64 q) ∧ Below (w.heap.size + 1) (w.alloc (.cells #[.int .i64 k, .int .i64 n, .string s, .slice (some ⟨b, o, none⟩) len cap] 24)) wr) (fun _ i _ => len - (intOf i).toNat)
    case atStart => exact ⟨⟨1, rfl⟩, ⟨0, Nat.zero_le _, rfl⟩, Below.refl _ _⟩
    case round =>
      obtain ⟨⟨m, rfl⟩, ⟨q, hq, rfl⟩, hbw⟩ := hrel
      have hbox : ∀ j x, #[Value.int .i64 k, .int .i64 n, .string s, .slice (some ⟨b, o, none⟩) len cap][j]? = some x → wr.cell? ⟨w.heap.size, j, none⟩ = some x := fun j x hx => by
        rw [hbw.cell (p := ⟨w.heap.size, j, none⟩) (Nat.lt_succ_self _), World.cell?_alloc_new]; exact hx
      have hb3 : wr.cell? ⟨w.heap.size, 3, none⟩ = some (.slice (some ⟨b, o, none⟩) len cap) := hbox 3 _ rfl
      clear hbox
      have hcl : ∀ j, j < 4 → q < len → wr.cell? ⟨b, o + q * 4 + j, none⟩ = some (c q j) := fun j hj hlt => by
        have h0 := hcell q j hlt hj
        have hbl : b < W.heap.size := cell_lt h0
        have := hb.size
        rw [hbw.cell (p := ⟨b, _, none⟩) (by show b < w.heap.size + 1; omega), cell_old _ (by omega), hb.cell (p := ⟨b, _, none⟩) hbl]
        exact h0
      have h0 := fun h => hcl 0 (by omega) h
      have h1 := fun h => hcl 1 (by omega) h
      have h2 := fun h => hcl 2 (by omega) h
      have h3 := fun h => hcl 3 (by omega) h
      clear hcl
      simp only [Nat.add_zero] at h0
      have hbw1 : Below W.heap.size w wr := ((Below.refl W.heap.size w).alloc hb.size _).trans (hbw.mono (by have := hb.size; omega))
      have hbw2 : Below W.heap.size W wr := hb.trans hbw1
      have H := Lib.hid ih; clear ih
      have H2 := Lib.hid hr; clear hr
      have H3 := Lib.hid hcell; clear hcell
      go_wp2_with fail
      · have hlt : q < len := by assumption
        refine (H.out q hlt _ hbw2).mono ?_
        rintro e w' ⟨⟨n', rfl⟩, hw'⟩
        have hbw3 : Below (w.heap.size + 1) (w.alloc (.cells #[.int .i64 k, .int .i64 n, .string s, .slice (some ⟨b, o, none⟩) len cap] 24)) w' := hbw.trans (hw'.mono (by have := hbw.size; simpa using this))
        go_wp2_with fail
        go_roundw
        case rel => exact ⟨⟨_, rfl⟩, ⟨q + 1, by omega, by go_num⟩, hbw3⟩
        case measure => simp [intOf]; omega
      · go_ret
        exact ⟨⟨m, rfl⟩, ((Below.refl _ w).alloc (Nat.le_refl _) _).trans (hbw.mono (Nat.le_succ _))⟩
end Go.Proofs.YtcaagfgopmhilaaGreatDoor
