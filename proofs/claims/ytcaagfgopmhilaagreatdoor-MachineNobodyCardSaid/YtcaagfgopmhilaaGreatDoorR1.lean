/- A part of the proof that the law of this seat holds: R1; no condition. -/
import Derived.Test.YtcaagfgopmhilaaGreatDoorRows
import Derived.ProofKit
import Derived.LaidMore
import Derived.OpenShut
import Derived.Carry
import Derived.Lib.SmallJoins
import Derived.Test.YtcaagfgopmhilaaGreatDoorW3
namespace Go.Proofs.YtcaagfgopmhilaaGreatDoor
open Go.ChangeShapes Go.WideShapes Go.ChangeAt Go.RowKit
section
variable {H : Type} {enc : TypeId × Value → H} {W : World} {sp : Nat → Bool}
theorem Tryz.cells3 : Tryz.prog.cellsOf 3 = 1 := by kernel_rfl
theorem Tryz.cells9 : Tryz.prog.cellsOf 9 = 1 := by kernel_rfl
theorem Tryz.cells22 : Tryz.prog.cellsOf 22 = 1 := by kernel_rfl
theorem Tryz.cells24 : Tryz.prog.cellsOf 24 = 4 := by kernel_rfl
theorem Tryz.cells25 : Tryz.prog.cellsOf 25 = 1 := by kernel_rfl
theorem Tryz.cells27 : Tryz.prog.cellsOf 27 = 6 := by kernel_rfl
theorem Tryz.cells53 : Tryz.prog.cellsOf 53 = 5 := by kernel_rfl

theorem spot_none {w : World} {a : Addr} {v : Value} (h : w.cell? a = some v) : a = ⟨a.block, a.off, none⟩ := by
  obtain ⟨b, o, s⟩ := a
  cases s with
  | none => rfl
  | some x => unfold World.cell? at h; split at h <;> simp at h
theorem cells_four {w : World} {a : Addr} {cs : List Value} (h : w.cells? 0 a 4 = some cs) : ∃ c0 c1 c2 c3, cs = [c0, c1, c2, c3] ∧ w.cell? a = some c0 ∧ w.cell? (a.add 1) = some c1 ∧ w.cell? (a.add 2) = some c2 ∧ w.cell? (a.add 3) = some c3 := by
  unfold World.cells? at h
  rw [if_pos (Nat.zero_le _)] at h
  have e : List.range 4 = [0, 1, 2, 3] := rfl
  rw [e] at h
  simp only [List.mapM_cons, List.mapM_nil, Option.bind_eq_bind, Option.bind_eq_some_iff, Option.pure_def, Option.some.injEq] at h
  obtain ⟨c0, h0, _, ⟨c1, h1, _, ⟨c2, h2, _, ⟨c3, h3, _, rfl, rfl⟩, rfl⟩, rfl⟩, rfl⟩ := h
  exact ⟨c0, c1, c2, c3, rfl, h0, h1, h2, h3⟩
theorem cells_five {w : World} {a : Addr} {cs : List Value} (h : w.cells? 0 a 5 = some cs) : ∃ c0 c1 c2 c3 c4, cs = [c0, c1, c2, c3, c4] ∧ w.cell? a = some c0 ∧ w.cell? (a.add 1) = some c1 ∧ w.cell? (a.add 2) = some c2 ∧ w.cell? (a.add 3) = some c3 ∧ w.cell? (a.add 4) = some c4 := by
  unfold World.cells? at h
  rw [if_pos (Nat.zero_le _)] at h
  have e : List.range 5 = [0, 1, 2, 3, 4] := rfl
  rw [e] at h
  simp only [List.mapM_cons, List.mapM_nil, Option.bind_eq_bind, Option.bind_eq_some_iff, Option.pure_def, Option.some.injEq] at h
  obtain ⟨c0, h0, _, ⟨c1, h1, _, ⟨c2, h2, _, ⟨c3, h3, _, ⟨c4, h4, _, rfl, rfl⟩, rfl⟩, rfl⟩, rfl⟩, rfl⟩ := h
  exact ⟨c0, c1, c2, c3, c4, rfl, h0, h1, h2, h3, h4⟩
theorem add_add_spot {b o : Nat} (i j : Nat) : ((⟨b, o, none⟩ : Addr).add i).add j = ⟨b, o + i + j, none⟩ := by
  unfold Addr.add
  split <;> split <;> simp_all <;> omega

set_option maxRecDepth 100000 in
/-- a term that can be read is a term -/
theorem term_of : ∀ (fuel : Nat) (cs : List Value) (x : DataW H × List MemPlace), DataW.trod enc Tryz.prog W 0 sp true fuel 24 cs = some x →
    ∃ v0 v1 v2 v3, cs = [v0, v1, v2, v3] ∧ TermAt W v0 v1 v2 v3 ∧ v0.oneCell' = true ∧ v1.oneCell' = true ∧ v2.oneCell' = true ∧ v3.oneCell' = true := by
  intro fuel
  induction fuel using Nat.strongRecOn with
  | _ fuel ih =>
    intro cs x h
    obtain ⟨xs, n, rfl, hx, hl, hxs, hf⟩ := DataW.trod_struct Tryz.underlying24 h
    rw [Tryz.cells24] at hl
    obtain ⟨v0, v1, v2, v3, rfl⟩ : ∃ v0 v1 v2 v3, cs = [v0, v1, v2, v3] := by
      match cs, hl with
      | [a, b, c, d], _ => exact ⟨a, b, c, d, rfl⟩
    have hxs : xs.length = 4 := hxs
    obtain ⟨x0, x1, x2, x3, rfl⟩ : ∃ x0 x1 x2 x3, xs = [x0, x1, x2, x3] := by
      match xs, hxs with
      | [a, b, c, d], _ => exact ⟨a, b, c, d, rfl⟩
    have f0 : DataW.trod enc Tryz.prog W 0 sp true n 3 (([v0, v1, v2, v3].drop 0).take (Tryz.prog.cellsOf 3)) = some x0 := hf 0 _ rfl
    have f1 : DataW.trod enc Tryz.prog W 0 sp true n 3 (([v0, v1, v2, v3].drop 1).take (Tryz.prog.cellsOf 3)) = some x1 := hf 1 _ rfl
    have f2 : DataW.trod enc Tryz.prog W 0 sp true n 9 (([v0, v1, v2, v3].drop 2).take (Tryz.prog.cellsOf 9)) = some x2 := hf 2 _ rfl
    have f3 : DataW.trod enc Tryz.prog W 0 sp true n 22 (([v0, v1, v2, v3].drop 3).take (Tryz.prog.cellsOf 22)) = some x3 := hf 3 _ rfl
    rw [Tryz.cells3] at f0 f1
    rw [Tryz.cells9] at f2
    rw [Tryz.cells22] at f3
    obtain ⟨k, e0, _⟩ := DataW.trod_int Tryz.underlying3 (show DataW.trod enc Tryz.prog W 0 sp true n 3 [v0] = some x0 from f0)
    obtain ⟨m, e1, _⟩ := DataW.trod_int Tryz.underlying3 (show DataW.trod enc Tryz.prog W 0 sp true n 3 [v1] = some x1 from f1)
    obtain ⟨s, e2, _, hs⟩ := DataW.trod_string Tryz.underlying9 (show DataW.trod enc Tryz.prog W 0 sp true n 9 [v2] = some x2 from f2)
    cases e0; cases e1; cases e2
    refine ⟨_, _, _, v3, rfl, ?_, rfl, rfl, rfl, ?_⟩
    all_goals rcases DataW.trod_slice Tryz.underlying22 (show DataW.trod enc Tryz.prog W 0 sp true n 22 [v3] = some x3 from f3) with ⟨e3, _⟩ | ⟨a, len, cap, elems, rest, n', rfl, e3, _, _, hlc, hcm, hel, hE, _, _⟩
    · cases e3; exact .nil k m s none 0 hs
    · cases e3
      by_cases h0 : len = 0
      · subst h0; exact .nil k m s (some a) cap hs
      · rw [Tryz.cells24] at hE
        have each : ∀ i, i < len → ∃ c0 c1 c2 c3, W.cell? (a.add (i * 4)) = some c0 ∧ W.cell? ((a.add (i * 4)).add 1) = some c1 ∧ W.cell? ((a.add (i * 4)).add 2) = some c2 ∧ W.cell? ((a.add (i * 4)).add 3) = some c3 ∧ TermAt W c0 c1 c2 c3 := by
          intro i hi
          have hh := hE i hi
          rw [List.getElem?_eq_getElem (by omega)] at hh
          obtain ⟨cs', hcs, htr⟩ := Option.bind_eq_some_iff.1 hh
          obtain ⟨c0, c1, c2, c3, rfl, g0, g1, g2, g3⟩ := cells_four hcs
          obtain ⟨w0, w1, w2, w3, e, hT, _⟩ := ih n' (by omega) _ _ htr
          cases e
          exact ⟨c0, c1, c2, c3, g0, g1, g2, g3, hT⟩
        have hsp : a = ⟨a.block, a.off, none⟩ := by
          obtain ⟨c0, _, _, _, g0, _⟩ := each 0 (by omega)
          have : a.add (0 * 4) = a := by simp [Addr.add]
          rw [this] at g0
          exact spot_none g0
        obtain ⟨b, o, z⟩ := a
        cases hsp
        refine .mk k m s b o len cap hs hlc hcm (fun i j => match W.cell? ⟨b, o + i * 4 + j, none⟩ with | some v => v | none => undef) (fun i j hi hj => ?_) (fun i hi => ?_)
        · obtain ⟨c0, c1, c2, c3, g0, g1, g2, g3, _⟩ := each i hi
          rw [add_add_spot] at g1 g2 g3
          have g0' : W.cell? ⟨b, o + i * 4 + 0, none⟩ = some c0 := by rw [← add_add_spot (i * 4) 0]; exact g0
          match j, hj with
          | 0, _ => simp only [g0']
          | 1, _ => simp only [g1]
          | 2, _ => simp only [g2]
          | 3, _ => simp only [g3]
        · obtain ⟨c0, c1, c2, c3, g0, g1, g2, g3, hT⟩ := each i hi
          rw [add_add_spot] at g1 g2 g3
          have g0' : W.cell? ⟨b, o + i * 4 + 0, none⟩ = some c0 := by rw [← add_add_spot (i * 4) 0]; exact g0
          simp only [g0', g1, g2, g3]
          exact hT
    · cases e3; rfl
    · cases e3; rfl
set_option maxRecDepth 100000 in
theorem goals_of {fuel : Nat} {v : Value} {x : DataW H × List MemPlace} (h : DataW.trod enc Tryz.prog W 0 sp true fuel 25 [v] = some x) : GoalsAt W v ∧ v.oneCell' = true := by
  rcases DataW.trod_slice Tryz.underlying25 h with ⟨e3, _⟩ | ⟨a, len, cap, elems, rest, n', rfl, e3, _, _, hlc, hcm, hel, hE, _, _⟩
  · cases e3; exact ⟨.inl ⟨_, _, rfl⟩, rfl⟩
  · cases e3
    refine ⟨?_, rfl⟩
    by_cases h0 : len = 0
    · subst h0; exact .inl ⟨_, _, rfl⟩
    · rw [Tryz.cells53] at hE
      have each : ∀ i, i < len → ∃ c0 c1 c2 c3 c4, W.cell? (a.add (i * 5)) = some c0 ∧ W.cell? ((a.add (i * 5)).add 1) = some c1 ∧ W.cell? ((a.add (i * 5)).add 2) = some c2 ∧ W.cell? ((a.add (i * 5)).add 3) = some c3 ∧ W.cell? ((a.add (i * 5)).add 4) = some c4 ∧ TermAt W c1 c2 c3 c4 := by
        intro i hi
        have hh := hE i hi
        rw [List.getElem?_eq_getElem (by omega)] at hh
        obtain ⟨cs', hcs, htr⟩ := Option.bind_eq_some_iff.1 hh
        obtain ⟨c0, c1, c2, c3, c4, rfl, g0, g1, g2, g3, g4⟩ := cells_five hcs
        obtain ⟨xs, m, rfl, hx, hl, hxs, hf⟩ := DataW.trod_struct Tryz.underlying53 htr
        have hxs : xs.length = 2 := hxs
        obtain ⟨x0, x1, rfl⟩ : ∃ x0 x1, xs = [x0, x1] := by
          match xs, hxs with
          | [a, b], _ => exact ⟨a, b, rfl⟩
        have f1 : DataW.trod enc Tryz.prog W 0 sp true m 24 (([c0, c1, c2, c3, c4].drop 1).take (Tryz.prog.cellsOf 24)) = some x1 := hf 1 _ rfl
        rw [Tryz.cells24] at f1
        obtain ⟨w0, w1, w2, w3, e, hT, _⟩ := term_of m _ _ (show DataW.trod enc Tryz.prog W 0 sp true m 24 [c1, c2, c3, c4] = some x1 from f1)
        cases e
        exact ⟨c0, c1, c2, c3, c4, g0, g1, g2, g3, g4, hT⟩
      have hsp : a = ⟨a.block, a.off, none⟩ := by
        obtain ⟨c0, _, _, _, _, g0, _⟩ := each 0 (by omega)
        have : a.add (0 * 5) = a := by simp [Addr.add]
        rw [this] at g0
        exact spot_none g0
      obtain ⟨b, o, z⟩ := a
      cases hsp
      refine .inr ⟨b, o, len, cap, rfl, hlc, hcm, (fun i j => match W.cell? ⟨b, o + i * 5 + j, none⟩ with | some v => v | none => undef), (fun i j hi hj => ?_), (fun i hi => ?_)⟩
      · obtain ⟨c0, c1, c2, c3, c4, g0, g1, g2, g3, g4, _⟩ := each i hi
        rw [add_add_spot] at g1 g2 g3 g4
        have g0' : W.cell? ⟨b, o + i * 5 + 0, none⟩ = some c0 := by rw [← add_add_spot (i * 5) 0]; exact g0
        match j, hj with
        | 0, _ => simp only [g0']
        | 1, _ => simp only [g1]
        | 2, _ => simp only [g2]
        | 3, _ => simp only [g3]
        | 4, _ => simp only [g4]
      · obtain ⟨c0, c1, c2, c3, c4, g0, g1, g2, g3, g4, hT⟩ := each i hi
        rw [add_add_spot] at g1 g2 g3 g4
        simp only [g1, g2, g3, g4]
        exact hT
set_option maxRecDepth 100000 in
/-- a clause that can be read is a clause -/
theorem clause_of {v : Value} {d : DataW H} {p : List MemPlace} {base : Nat} {r : Reach} (hv : Value.okWide Tryz.prog W r base 27 v) (h : DataW.Trod enc Tryz.prog W 0 sp true 27 v d p) :
    ∃ v0 v1 v2 v3 v4 v5, v = .agg #[v0, v1, v2, v3, v4, v5] ∧ TermAt W v0 v1 v2 v3 ∧ GoalsAt W v4 ∧ v0.oneCell' = true ∧ v1.oneCell' = true ∧ v2.oneCell' = true ∧ v3.oneCell' = true ∧ v4.oneCell' = true ∧ v5.oneCell' = true := by
  obtain ⟨cs, rfl, hsz⟩ := okWide_struct Tryz.underlying27 hv
  obtain ⟨fuel, hf⟩ := h
  obtain ⟨xs, n, rfl, hx, hl, hxs, hff⟩ := DataW.trod_struct Tryz.underlying27 hf
  rw [Tryz.cells27] at hl
  obtain ⟨l⟩ := cs
  have hl : l.length = 6 := hl
  obtain ⟨v0, v1, v2, v3, v4, v5, rfl⟩ : ∃ v0 v1 v2 v3 v4 v5, l = [v0, v1, v2, v3, v4, v5] := by
    match l, hl with
    | [a, b, c, d, e, f], _ => exact ⟨a, b, c, d, e, f, rfl⟩
  have hxs : xs.length = 3 := hxs
  obtain ⟨x0, x1, x2, rfl⟩ : ∃ x0 x1 x2, xs = [x0, x1, x2] := by
    match xs, hxs with
    | [a, b, c], _ => exact ⟨a, b, c, rfl⟩
  have f0 : DataW.trod enc Tryz.prog W 0 sp true n 24 (([v0, v1, v2, v3, v4, v5].drop 0).take (Tryz.prog.cellsOf 24)) = some x0 := hff 0 _ rfl
  have f1 : DataW.trod enc Tryz.prog W 0 sp true n 25 (([v0, v1, v2, v3, v4, v5].drop 4).take (Tryz.prog.cellsOf 25)) = some x1 := hff 1 _ rfl
  have f2 : DataW.trod enc Tryz.prog W 0 sp true n 3 (([v0, v1, v2, v3, v4, v5].drop 5).take (Tryz.prog.cellsOf 3)) = some x2 := hff 2 _ rfl
  rw [Tryz.cells24] at f0
  rw [Tryz.cells25] at f1
  rw [Tryz.cells3] at f2
  obtain ⟨w0, w1, w2, w3, e, hT, o0, o1, o2, o3⟩ := term_of n _ _ (show DataW.trod enc Tryz.prog W 0 sp true n 24 [v0, v1, v2, v3] = some x0 from f0)
  cases e
  obtain ⟨hG, o4⟩ := goals_of (show DataW.trod enc Tryz.prog W 0 sp true n 25 [v4] = some x1 from f1)
  obtain ⟨q, e5, _⟩ := DataW.trod_int Tryz.underlying3 (show DataW.trod enc Tryz.prog W 0 sp true n 3 [v5] = some x2 from f2)
  cases e5
  exact ⟨v0, v1, v2, v3, v4, _, rfl, hT, hG, o0, o1, o2, o3, o4, rfl⟩
end
end Go.Proofs.YtcaagfgopmhilaaGreatDoor
