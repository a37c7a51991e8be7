/- A part of the proof that the law of this seat holds: R2; no condition. -/
import Derived.Test.YtcaagfgopmhilaaGreatDoorR1
import Derived.Test.YtcaagfgopmhilaaGreatDoorN2
import Derived.Stop.Joined
namespace Go.Proofs.YtcaagfgopmhilaaGreatDoor
open Go.ChangeShapes Go.WideShapes Go.ChangeAt Go.WideMaps Go.WideElems Go.RowKit Go.Proofs.YtcaagfgopmhilaaGreatDoor.Vai
noncomputable abbrev laid4 : List (String × DataW Unit) := Rows.machineNobodyRow.laid
theorem Tryz.own : ownKnob Tryz.prog.godebug = none := by kernel_rfl
theorem Tryz.laidOut : laidOutB Tryz.prog = true := by kernel_rfl
theorem gTypes : Tryz.prog.globalNamed "elenchus/oper.types" = some 1 := by kernel_rfl
theorem tTypes : (Tryz.prog.globals[1]?).map (·.type) = some 538 := by kernel_rfl
theorem Tryz.cells538 : Tryz.prog.cellsOf 538 = 6 := by kernel_rfl
theorem string_is {s : ByteArray} {l : List UInt8} (h : s.data.toList = l) : Value.string s = .string ⟨l.toArray⟩ := by
  subst h; congr 1
theorem var_row {P : Program} {w : World} {n : String} {g : Nat} {cs : Array Value} (hg : P.globalNamed n = some g) (h : w.var? P n = some cs) : ∃ t fz, w.heap[g]? = some (.cells cs t fz) := by
  unfold World.var? at h
  rw [hg] at h
  simp only [Option.bind_some] at h
  split at h
  · cases h; exact ⟨_, _, by assumption⟩
  · cases h
set_option maxRecDepth 100000 in
/-- what the condition gives: the operators' types lie where they lay -/
theorem of_laid {W : World} (h : laidMetH Tryz.prog laid4 W) : ∃ ty fz, W.heap[1]? = some (.cells typesV ty fz) := by
  rw [MakeChecks.laidMetH_plain _ _ _ (by kernel_rfl)] at h
  obtain ⟨ps, ⟨g0, t0, cs0, f0, p0, q0, hg0, ht0, hv0, hd0, ⟨g1, t1, cs1, f1, p1, q1, hg1, ht1, hv1, hd1, ⟨g2, t2, cs2, f2, p2, q2, hg2, ht2, hv2, hd2, ⟨g3, t3, cs3, f3, p3, q3, hg3, ht3, hv3, hd3, _, _⟩, _⟩, _⟩, _⟩, _, _⟩ := h
  obtain rfl := Option.some.inj (gTypes.symm.trans hg3)
  obtain rfl := Option.some.inj (tTypes.symm.trans ht3)
  obtain ⟨ty, fz, hrow⟩ := var_row gTypes hv3
  refine ⟨ty, fz, ?_⟩
  rw [hrow]
  obtain ⟨xs, m, rfl, hx, hl, hxs, hel⟩ := DataW.trod_array Tryz.underlying538 hd3
  rw [Tryz.cells538] at hl
  obtain ⟨l⟩ := cs3
  have hl : l.length = 6 := hl
  obtain ⟨v0, v1, v2, v3, v4, v5, rfl⟩ : ∃ v0 v1 v2 v3 v4 v5, l = [v0, v1, v2, v3, v4, v5] := by
    match l, hl with
    | [a, b, c, d, e, f], _ => exact ⟨a, b, c, d, e, f, rfl⟩
  obtain ⟨x0, x1, x2, x3, x4, x5, rfl⟩ : ∃ x0 x1 x2 x3 x4 x5, xs = [x0, x1, x2, x3, x4, x5] := by
    match xs, hxs with
    | [a, b, c, d, e, f], _ => exact ⟨a, b, c, d, e, f, rfl⟩
  simp only [Prod.mk.injEq, List.map_cons, List.map_nil] at hx
  have hx := hx.1
  rw [Tryz.cells9] at hel
  have each : ∀ (v : Value) (x : DataW Unit × List MemPlace), DataW.trod (fun _ => ()) Tryz.prog W 0 (fun _ => true) false m 9 [v] = some x → ∃ s : ByteArray, v = .string s ∧ x.1 = .lit (.string s.data.toList) := fun v x h => by
    obtain ⟨s, e, e2, _⟩ := DataW.trod_string Tryz.underlying9 h
    cases e; exact ⟨s, rfl, by rw [e2]⟩
  obtain ⟨s0, rfl, e0⟩ := each v0 x0 (hel 0 (by decide))
  obtain ⟨s1, rfl, e1⟩ := each v1 x1 (hel 1 (by decide))
  obtain ⟨s2, rfl, e2⟩ := each v2 x2 (hel 2 (by decide))
  obtain ⟨s3, rfl, e3⟩ := each v3 x3 (hel 3 (by decide))
  obtain ⟨s4, rfl, e4⟩ := each v4 x4 (hel 4 (by decide))
  obtain ⟨s5, rfl, e5⟩ := each v5 x5 (hel 5 (by decide))
  rw [e0, e1, e2, e3, e4, e5] at hx
  have hx : DataW.agg [.lit (.string []), .lit (.string [120, 102, 120]), .lit (.string [120, 102, 121]), .lit (.string [121, 102, 120]), .lit (.string [102, 121]), .lit (.string [102, 120])] = DataW.agg (H := Unit) [.lit (.string s0.data.toList), .lit (.string s1.data.toList), .lit (.string s2.data.toList), .lit (.string s3.data.toList), .lit (.string s4.data.toList), .lit (.string s5.data.toList)] := hx
  simp only [DataW.agg.injEq, List.cons.injEq, DataW.lit.injEq, Lit.string.injEq, and_true] at hx
  obtain ⟨k0, k1, k2, k3, k4, k5⟩ := hx
  rw [string_is k0.symm, string_is k1.symm, string_is k2.symm, string_is k3.symm, string_is k4.symm, string_is k5.symm]
  rfl
end Go.Proofs.YtcaagfgopmhilaaGreatDoor
