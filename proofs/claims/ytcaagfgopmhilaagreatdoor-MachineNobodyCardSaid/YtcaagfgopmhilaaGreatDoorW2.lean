/- A part of the proof that the law of this seat holds: W2; no condition. -/
import Derived.Test.YtcaagfgopmhilaaGreatDoorW1
import Derived.RegionTactic
import Derived.ChangeAlike
import Derived.BigRegion
namespace Go.Proofs.YtcaagfgopmhilaaGreatDoor
open Go.RowKit
/-- of what was there nothing has turned but block p -/
structure But (p : Nat) (w w' : World) : Prop where
  os : w'.os = w.os
  tape : w'.tape = w.tape
  output : w'.output = w.output
  size : w.heap.size ≤ w'.heap.size
  block : ∀ k, k < w.heap.size → k ≠ p → w'.heap[k]? = w.heap[k]?
def Counts (p : Nat) (w : World) : Prop := ∃ m : Int, w.heap[p]? = some (.cells #[.int .i64 m] 3 (0, 0))
def SomeBool (P : World → Prop) (e : Ending) (w' : World) : Prop := (∃ b : Bool, e = .returned (.bool b)) ∧ P w'
theorem But.refl (p : Nat) (w : World) : But p w w := ⟨rfl, rfl, rfl, Nat.le_refl _, fun _ _ _ => rfl⟩
theorem But.trans {p : Nat} {a b c : World} (h : But p a b) (k : But p b c) : But p a c :=
  ⟨k.os.trans h.os, k.tape.trans h.tape, k.output.trans h.output, Nat.le_trans h.size k.size, fun i hi hp => (k.block i (Nat.lt_of_lt_of_le hi h.size) hp).trans (h.block i hi hp)⟩
theorem But.cell {p : Nat} {w w' : World} (h : But p w w') {b o : Nat} (hb : b < w.heap.size) (hp : b ≠ p) : w'.cell? ⟨b, o, none⟩ = w.cell? ⟨b, o, none⟩ := World.cell?_of_block (w := w) (h.block b hb hp)
theorem but_counted {p : Nat} {w : World} {m x : Int} {ob : Obj} (hp : w.heap[p]? = some (.cells #[.int .i64 m] 3 (0, 0))) :
    But p w (((w.setCell ⟨p, 0, none⟩ (.int .i64 x)).alloc ob).drew) ∧ (((w.setCell ⟨p, 0, none⟩ (.int .i64 x)).alloc ob).drew).heap[p]? = some (.cells #[.int .i64 x] 3 (0, 0)) := by
  have hlt := (Array.getElem?_eq_some_iff.1 hp).1
  have h1 := one_setCell (u := .int .i64 x) hp
  have hs : (w.setCell ⟨p, 0, none⟩ (.int .i64 x)).heap.size = w.heap.size := by simp [World.setCell]
  refine ⟨⟨rfl, rfl, rfl, ?_, fun k hk hne => ?_⟩, ?_⟩
  · show w.heap.size ≤ ((w.setCell ⟨p, 0, none⟩ (.int .i64 x)).heap.push ob).size
    rw [Array.size_push]; omega
  · show ((w.setCell ⟨p, 0, none⟩ (.int .i64 x)).heap.push ob)[k]? = _
    rw [Array.getElem?_push, if_neg (by omega)]
    exact Below.heap_setCell _ _ _ _ hne
  · show ((w.setCell ⟨p, 0, none⟩ (.int .i64 x)).heap.push ob)[p]? = _
    rw [Array.getElem?_push, if_neg (by omega)]
    exact h1
theorem counted_size {p : Nat} {w : World} {v : Value} {ob : Obj} : (((w.setCell ⟨p, 0, none⟩ v).alloc ob).drew).heap.size = w.heap.size + 1 := by
  show ((w.setCell ⟨p, 0, none⟩ v).heap.push ob).size = _
  simp [World.setCell]
theorem counted_box {p : Nat} {w : World} {v : Value} {c : Array Value} {t : TypeId} (i : Nat) : (((w.setCell ⟨p, 0, none⟩ v).alloc (.cells c t (0, 0))).drew).cell? ⟨w.heap.size, i, none⟩ = c[i]? := by
  have hs : (w.setCell ⟨p, 0, none⟩ v).heap.size = w.heap.size := by simp [World.setCell]
  show ((w.setCell ⟨p, 0, none⟩ v).alloc (.cells c t (0, 0))).cell? ⟨w.heap.size, i, none⟩ = c[i]?
  rw [← hs, World.cell?_alloc_new]
set_option maxHeartbeats 1000000 in
theorem large_nil (k n : Int) (s : ByteArray) (x : Option Addr) (cap : Nat) (hs : s.size ≤ maxLen) (d m : Int) (p : Nat) (w : World) (hp : w.heap[p]? = some (.cells #[.int .i64 m] 3 (0, 0))) :
    Calls Tryz.prog 39 #[.agg #[.int .i64 k, .int .i64 n, .string s, .slice x 0 cap], .int .i64 d, .pointer (some ⟨p, 0, none⟩)] w (SomeBool fun w' => But p w w' ∧ Counts p w') := by
  have hpl : p < w.heap.size := (Array.getElem?_eq_some_iff.1 hp).1
  have hc := cell_of_one hp
  have hf := free_of_one hp
  go_enter Tryz.func39, Tryz.ntmps39
  go_wp2_with fail
  go_region
  go_wp2_with fail
  · go_loop [7] (fun i => i = .int .i64 0) (fun _ => 0)
    case atStart => rfl
    case round =>
      obtain rfl := hrel
      go_wp2_with fail
      go_ret
      exact ⟨⟨_, rfl⟩, (but_counted hp).1, _, (but_counted hp).2⟩
  · go_ret
    exact ⟨⟨_, rfl⟩, (but_counted hp).1, _, (but_counted hp).2⟩
  · go_ret
    exact ⟨⟨_, rfl⟩, (but_counted hp).1, _, (but_counted hp).2⟩
set_option maxHeartbeats 2000000 in
theorem large_any (W : World) (v0 v1 v2 v3 : Value) (h : TermAt W v0 v1 v2 v3) : ∀ (w : World) (d m : Int) (p : Nat), Below W.heap.size W w → W.heap.size ≤ p → w.heap[p]? = some (.cells #[.int .i64 m] 3 (0, 0)) →
    Calls Tryz.prog 39 #[.agg #[v0, v1, v2, v3], .int .i64 d, .pointer (some ⟨p, 0, none⟩)] w (SomeBool fun w' => But p w w' ∧ Counts p w') := by
  induction h with
  | nil k n s x cap hs => intro w d m p _ _ hp; exact large_nil k n s x cap hs d m p w hp
  | mk k n s b o len cap hs hl hc c hcell hr ih =>
    intro w d m p hb hWp hp
    unfold maxLen at hc
    have hpl : p < w.heap.size := (Array.getElem?_eq_some_iff.1 hp).1
    have hcp := cell_of_one hp
    have hf := free_of_one hp
    have H := Lib.hid ih; clear ih
    have H2 := Lib.hid hr; clear hr
    have H3 := Lib.hid hcell; clear hcell
    go_enter Tryz.func39, Tryz.ntmps39
    go_wp2_with fail
    go_region
    go_wp2_with fail
    any_goals (go_ret; exact ⟨⟨_, rfl⟩, (but_counted hp).1, _, (but_counted hp).2⟩)
    have hB := (but_counted (x := wrap64 (wrap64 (m + 1) + wrap64 (↑s.size / 16))) (ob := (Obj.cells #[Value.int IntKind.i64 k, Value.int IntKind.i64 n, Value.string s, Value.slice (some ⟨b, o, none⟩) len cap] 24)) hp).1
    have hC := (but_counted (x := wrap64 (wrap64 (m + 1) + wrap64 (↑s.size / 16))) (ob := (Obj.cells #[Value.int IntKind.i64 k, Value.int IntKind.i64 n, Value.string s, Value.slice (some ⟨b, o, none⟩) len cap] 24)) hp).2
    have hS := counted_size (p := p) (w := w) (v := .int .i64 (wrap64 (wrap64 (m + 1) + wrap64 (↑s.size / 16)))) (ob := (Obj.cells #[Value.int IntKind.i64 k, Value.int IntKind.i64 n, Value.string s, Value.slice (some ⟨b, o, none⟩) len cap] 24))
    have hX := counted_box (p := p) (w := w) (v := .int .i64 (wrap64 (wrap64 (m + 1) + wrap64 (↑s.size / 16)))) (c := #[Value.int IntKind.i64 k, Value.int IntKind.i64 n, Value.string s, Value.slice (some ⟨b, o, none⟩) len cap]) (t := 24) 3
    generalize World.drew ((w.setCell ⟨p, 0, none⟩ (Value.int IntKind.i64 (wrap64 (wrap64 (m + 1) + wrap64 (↑s.size / 16))))).alloc (Obj.cells #[Value.int IntKind.i64 k, Value.int IntKind.i64 n, Value.string s, Value.slice (some ⟨b, o, none⟩) len cap] 24)) = w1 at *
    have hX' : w1.cell? ⟨w.heap.size, 3, none⟩ = some (.slice (some ⟨b, o, none⟩) len cap) := hX
    clear hX
    have HS := Lib.hid hS; clear hS
    go_loopw [7] (fun i wr => (∃ q : Nat, q ≤ len ∧ i = .int .i64 q) ∧ But p w1 wr ∧ Counts p wr) (fun i _ => len - (intOf i).toNat)
    case atStart => exact ⟨⟨0, Nat.zero_le _, rfl⟩, But.refl _ _, _, hC⟩
    case round =>
      obtain ⟨⟨q, hq, rfl⟩, hbw, m', hm'⟩ := hrel
      have hb3 : wr.cell? ⟨w.heap.size, 3, none⟩ = some (.slice (some ⟨b, o, none⟩) len cap) := by
        rw [hbw.cell (by rw [HS.out]; omega) (by omega)]; exact hX'
      have hcl : ∀ j, j < 4 → q < len → wr.cell? ⟨b, o + q * 4 + j, none⟩ = some (c q j) := fun j hj hlt => by
        have h0 := H3.out q j hlt hj
        have hbl : b < W.heap.size := cell_lt h0
        have hsz := hb.size
        rw [hbw.cell (by rw [HS.out]; omega) (by omega), hB.cell (by omega) (by omega), hb.cell (p := ⟨b, _, none⟩) hbl]
        exact h0
      have h0 := fun h => hcl 0 (by omega) h
      have h1 := fun h => hcl 1 (by omega) h
      have h2 := fun h => hcl 2 (by omega) h
      have h3 := fun h => hcl 3 (by omega) h
      clear hcl
      simp only [Nat.add_zero] at h0
      have hbW : Below W.heap.size W wr := by
        have hsz := hb.size
        refine ⟨hbw.os.trans (hB.os.trans hb.os), hbw.tape.trans (hB.tape.trans hb.tape), hbw.output.trans (hB.output.trans hb.output), Nat.le_trans hb.size (Nat.le_trans hB.size hbw.size), fun i hi => ?_⟩
        rw [hbw.block i (by rw [HS.out]; omega) (by omega), hB.block i (by omega) (by omega), hb.block i hi]
      have HM := Lib.hid hm'; clear hm'
      clear hcp hf hC hp
      clear hX'
      go_wp2_with fail
      · have hlt : q < len := by assumption
        refine (H.out q hlt _ _ m' p hbW hWp HM.out).mono ?_
        rintro e w' ⟨⟨b', rfl⟩, hw', hcn⟩
        have hbw3 : But p w1 w' := hbw.trans hw'
        cases b' with
        | true =>
          go_wp2_with fail
          go_ret
          exact ⟨⟨_, rfl⟩, hB.trans hbw3, hcn⟩
        | false =>
          go_wp2_with fail
          go_roundw
          case rel => exact ⟨⟨q + 1, by omega, by go_num⟩, hbw3, hcn⟩
          case measure => simp [intOf]; omega
      · go_ret
        exact ⟨⟨_, rfl⟩, hB.trans hbw, m', HM.out⟩
end Go.Proofs.YtcaagfgopmhilaaGreatDoor
