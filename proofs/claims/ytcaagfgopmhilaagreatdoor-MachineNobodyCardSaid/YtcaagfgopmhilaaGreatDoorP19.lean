/- A part of the proof that the law of this seat holds: P19; no condition. -/
import Derived.Test.YtcaagfgopmhilaaGreatDoorP18
namespace Go.Proofs.YtcaagfgopmhilaaGreatDoor.Vai
variable {P : Program} {K : Tab}

theorem append_ok' {o : Oper} {c : Call} {x y : Operand} {t u : TypeId} {I : AppI} (hA : AppOk P I t u) (ho : o.op = .call c) (hc : c.callee = .builtin .append) (hargs : c.args.toList = [x, y]) (hat : c.argTypes.toList = [t, u]) : GOk P o (mAppend I (compLd x) (compLd y)) := by
  refine append_ok hA (t := t) (u := u) ?_
  rw [ho]
  obtain ⟨callee, args, ats⟩ := c
  simp only at hc hargs hat
  have e1 : args = #[x, y] := by apply Array.ext'; simpa using hargs
  have e2 : ats = #[t, u] := by apply Array.ext'; simpa using hat
  rw [hc, e1, e2]
theorem compBin_ok {o : Oper} {op : BinOp} {t t' : TypeId} {x y : Operand} (hT : TabOk P K) (ho : o.op = .binOp op t x y t') : MOk P o (compBin K op t x y) := by
  cases op <;> simp only [compBin] <;> first
    | exact moNo_ok o
    | exact addA_ok ho
    | exact subA_ok ho
    | exact mulA_ok ho
    | exact quoA_ok ho
    | exact remA_ok ho
    | exact landA_ok ho
    | exact lorA_ok ho
    | exact shlA_ok ho
    | exact shrA_ok ho
    | exact lss_ok ho
    | exact leq_ok ho
    | exact gtr_ok ho
    | exact geq_ok ho
    | exact mEq_ok hT ho
    | exact mNe_ok hT ho
theorem compBuild_ok {o : Oper} {t : TypeId} {parts : Array (Nat × Operand)} (hT : TabOk P K) (ho : o.op = .build t parts) : MOk P o (compBuild K t parts.toList) := by
  unfold compBuild
  split
  · rename_i z fs hz hu
    split
    · rename_i pl hpl hc; exact build_ok hT ho hz hu hpl hc
    · exact moNo_ok o
  · rename_i z n e hz hu
    split
    · rename_i s hs hc; exact buildArr_ok hT ho hz hu hs hc
    · exact moNo_ok o
  · exact moNo_ok o
theorem compBuildSlice_ok {o : Oper} {t : TypeId} {len : Nat} {parts : Array (Nat × Operand)} (hT : TabOk P K) (ho : o.op = .buildSlice t len parts) : MOk P o (compBuildSlice K t len parts.toList) := by
  unfold compBuildSlice
  split
  · rename_i e hu
    split
    · rename_i s z hs hz
      split
      · rename_i hc
        simp only [Bool.and_eq_true] at hc
        exact LOk.g <| buildSlice_ok hT ho hu hs hz (beq_iff.1 hc.1.1) hc.1.2 (blt_iff.1 hc.2)
      · exact moNo_ok o
    · exact moNo_ok o
  · exact moNo_ok o
theorem compMake_ok {o : Oper} {t : TypeId} {l c : Operand} (hT : TabOk P K) (ho : o.op = .makeSlice t l c) : MOk P o (compMake K t l c) := by
  unfold compMake
  split
  · rename_i e hu
    split
    · rename_i i z hi hz
      split
      · rename_i hc
        simp only [Bool.and_eq_true] at hc
        exact LOk.g <| make_ok hT ho hu hi hz (beq_iff.1 hc.1.1.1) hc.1.1.2 (blt_iff.1 hc.1.2) (ble_iff.1 hc.2)
      · exact moNo_ok o
    · exact moNo_ok o
  · exact moNo_ok o
theorem compSlice_ok {o : Oper} {t : TypeId} {x : Operand} {lo hi mx : Option Operand} (hT : TabOk P K) (ho : o.op = .slice t x lo hi mx) : MOk P o (compSlice K t x lo hi mx) := by
  unfold compSlice
  split
  · exact moNo_ok o
  · rename_i hal
    split
    · rename_i hu; exact SOk.g <| slice_string hT hu hal ho
    · rename_i e hu
      split
      · rename_i s hs; exact SOk.g <| slice_slice hT hu hs hal ho
      · exact moNo_ok o
    · rename_i n e hu
      split
      · rename_i s hs; exact SOk.g <| slice_array hT hu hs hal ho
      · exact moNo_ok o
    · exact moNo_ok o
theorem compFieldAddr_ok {o : Oper} {t : TypeId} {x : Operand} {f : Nat} (hT : TabOk P K) (ho : o.op = .fieldAddr t x f) : MOk P o (compFieldAddr K t x f) := by
  unfold compFieldAddr
  split
  · rename_i fd hf
    split
    · rename_i n hn; exact fieldAddr_ok hT ho hf hn
    · exact moNo_ok o
  · exact moNo_ok o
theorem compField_ok {o : Oper} {t : TypeId} {x : Operand} {f : Nat} (hT : TabOk P K) (ho : o.op = .field t x f) : MOk P o (compField K t x f) := by
  unfold compField
  split
  · rename_i fd hf
    split
    · rename_i n hn; exact field_ok hT ho hf hn
    · exact moNo_ok o
  · exact moNo_ok o
theorem compIndexAddr_ok {o : Oper} {t : TypeId} {x i : Operand} (hT : TabOk P K) (ho : o.op = .indexAddr t x i) : MOk P o (compIndexAddr K t x i) := by
  unfold compIndexAddr
  split
  · rename_i n e hu
    split
    · rename_i s hs; exact idxA_ok hT ho hu hs
    · exact moNo_ok o
  · rename_i e hu
    split
    · rename_i s hs; exact idxS_ok hT ho hu hs
    · exact moNo_ok o
  · exact moNo_ok o
theorem compIndex_ok {o : Oper} {t : TypeId} {x i : Operand} (hT : TabOk P K) (ho : o.op = .index t x i) : MOk P o (compIndex K t x i) := by
  unfold compIndex
  split
  · rename_i n e hu
    split
    · rename_i s sh hs hsh; exact index_ok hT ho hu hs hsh
    · exact moNo_ok o
  · rename_i hu; exact indexS_ok hT ho hu
  · exact moNo_ok o
theorem compLookup_ok {o : Oper} {t : TypeId} {x i : Operand} {ok : Bool} (hT : TabOk P K) (ho : o.op = .lookup t x i ok) : MOk P o (compLookup K t x i ok) := by
  unfold compLookup
  split
  · rename_i kt e hu
    split
    · rename_i z hz; exact lookup_ok hT hu hz ho
    · exact moNo_ok o
  · exact moNo_ok o
theorem update_ok' {o : Oper} {t kt e : TypeId} {m k x : Operand} (hT : TabOk P K) (hu : K.underlying t = some (.map kt e)) (ho : o.op = .insert t m k x) : UOk P o (mUpdate K kt (compLd m) (compLd k) (compLd x)) := by
  intro ρ A w tm a A' hg hr ht h
  obtain ⟨ρ', w', h1, h2, h3⟩ := update_ok (o := { o with op := .mapUpdate t m k x }) hT hu rfl ρ A w tm a A' hg hr ht h
  exact ⟨ρ', w', h1, h2, by rw [mapUpdate_same (o' := { o with op := .mapUpdate t m k x }) ho rfl]; exact h3⟩
theorem compUpdate_ok {o : Oper} {t : TypeId} {m k x : Operand} (hT : TabOk P K) (ho : o.op = .mapUpdate t m k x ∨ o.op = .insert t m k x) : MOk P o (compUpdate K t m k x) := by
  unfold compUpdate
  split
  · rename_i kt e hu
    rcases ho with ho | ho
    · exact update_ok hT hu ho
    · exact update_ok' hT hu ho
  · exact moNo_ok o
theorem convOf_toBytes {s d e : TypeId} (h : convOf K s d = some (.toBytes e)) : K.underlying s = some .string ∧ K.underlying d = some (.slice e) ∧ K.underlying e = some (.int .u8) := by
  unfold convOf at h
  split at h
  · cases h
  · cases h
  · rename_i e' hs hd
    split at h
    · rename_i he; cases h; exact ⟨hs, hd, he⟩
    · cases h
  · split at h <;> cases h
  · split at h <;> cases h
  · split at h <;> cases h
  · cases h
theorem compConv_ok {o : Oper} {s d : TypeId} {x : Operand} (hT : TabOk P K) (ho : o.op = .convert s d x) : MOk P o (compConv K s d x) := by
  unfold compConv
  split
  · rename_i e hc
    obtain ⟨h1, h2, h3⟩ := convOf_toBytes hc
    exact toBytes_ok hT ho h1 h2 h3
  · rename_i c hc; exact conv_ok hT ho hc
  · exact moNo_ok o
theorem compBuiltin_ok {o : Oper} {c : Call} {b : Builtin} (hT : TabOk P K) (ho : o.op = .call c) (hc : c.callee = .builtin b) : MOk P o (compBuiltin K b c.argTypes.toList c.args.toList) := by
  unfold compBuiltin
  split
  · rename_i x ha
    split
    · rename_i t ts hat
      split
      · rename_i d hu; exact len_ok hT hu ho hc ha hat
      · exact moNo_ok o
    · exact moNo_ok o
  · rename_i x ha
    split
    · rename_i t ts hat
      split
      · rename_i d hu; exact cap_ok hT hu ho hc ha hat
      · exact moNo_ok o
    · exact moNo_ok o
  · rename_i x y ha
    split
    · rename_i t u hat
      split
      · rename_i I hI; exact append_ok' (appInfo_ok hT hI) ho hc ha hat
      · exact moNo_ok o
    · exact moNo_ok o
  · rename_i x y ha
    split
    · rename_i t ts hat
      split
      · rename_i e hu
        split
        · rename_i n hn; exact copy_ok hT hu hn ho hc ha hat
        · exact moNo_ok o
      · exact moNo_ok o
    · exact moNo_ok o
  · rename_i x l ha; exact min_ok ho hc ha
  · rename_i x l ha; exact max_ok ho hc ha
  · rename_i x y ha
    split
    · rename_i t ts hat
      split
      · rename_i kt e hu; exact delete_ok hT hu ho hc ha hat
      · exact moNo_ok o
    · exact moNo_ok o
  · rename_i x ha; exact sliceData_ok ho hc ha
  · rename_i x y ha
    split
    · rename_i t ts hat
      split
      · rename_i u hu
        split
        · rename_i hs; exact usString_ok hT hu hs ho hc ha hat
        · exact moNo_ok o
      · exact moNo_ok o
    · exact moNo_ok o
  · exact moNo_ok o
theorem compCall_ok {o : Oper} {c : Call} (hT : TabOk P K) (ho : o.op = .call c) : MOk P o (compCall K c) := by
  unfold compCall
  split
  · rename_i b hc; exact compBuiltin_ok hT ho hc
  · rename_i f hc
    split
    · rename_i e he; exact ext_ok hT ho hc he
    · split
      · rename_i fn hf
        split
        · rename_i body hb; exact callF_ok hT ho hc hf hb
        · exact moNo_ok o
      · exact moNo_ok o
  · rename_i f hf hc; exact callV_ok hT ho hc
  · exact moNo_ok o
/-- THE OPERATIONS: what an operation is compiled to is what it does. -/
theorem compOp_ok {o : Oper} (hT : TabOk P K) : MOk P o (compOp K o.op) := by
  cases ho : o.op <;> simp only [compOp]
  case move => exact move_ok (.inl ho)
  case assign => exact move_ok (.inr ho)
  case pick => exact pick_ok ho
  case alloc =>
    split
    · rename_i z hz
      split
      · rename_i hc; exact LOk.g <| alloc_ok hT ho hz hc
      · exact moNo_ok o
    · exact moNo_ok o
  case box => exact LOk.g <| box_ok ho
  case build => exact compBuild_ok hT ho
  case buildSlice => exact compBuildSlice_ok hT ho
  case load =>
    split
    · rename_i s hs; exact load_ok ho (sh_ok hT hs)
    · exact moNo_ok o
  case store =>
    split
    · rename_i n hn; exact store_ok hT ho hn
    · exact moNo_ok o
  case nilCheck => exact nil_ok ho
  case binOp => exact compBin_ok hT ho
  case unOp =>
    split
    · exact not_ok ho
    · exact neg_ok ho
    · exact moNo_ok o
  case convert => exact compConv_ok hT ho
  case makeInterface =>
    split
    · exact moNo_ok o
    · rename_i d hd hu; exact iface_ok hT ho hu (fun ms e => hd ms (e ▸ rfl))
    · exact moNo_ok o
  case makeFunc => exact func_ok ho
  case makeMap t r =>
    cases r with
    | none => exact LOk.g <| map_ok ho
    | some r =>
      simp only
      split
      · rename_i kt e hu; exact LOk.g <| mapR_ok hT ho hu
      · exact moNo_ok o
  case makeSlice => exact compMake_ok hT ho
  case slice => exact compSlice_ok hT ho
  case fieldAddr => exact compFieldAddr_ok hT ho
  case field => exact compField_ok hT ho
  case indexAddr => exact compIndexAddr_ok hT ho
  case index => exact compIndex_ok hT ho
  case lookup => exact compLookup_ok hT ho
  case mapUpdate => exact compUpdate_ok hT (.inl ho)
  case insert => exact compUpdate_ok hT (.inr ho)
  case range =>
    split
    · rename_i d hu; exact range_ok hT ho hu
    · exact moNo_ok o
  case next =>
    split
    · exact next_ok ho
    · exact moNo_ok o
  case extract => exact extract_ok ho
  case call => exact compCall_ok hT ho
  case defer =>
    split
    · rename_i f hc; exact deferV_ok hT ho hc
    · exact moNo_ok o
  all_goals exact moNo_ok o
end Go.Proofs.YtcaagfgopmhilaaGreatDoor.Vai
