/- A part of the proof that the law of this seat holds: P17; no condition. -/
import Derived.Test.YtcaagfgopmhilaaGreatDoorP16
namespace Go.Proofs.YtcaagfgopmhilaaGreatDoor.Vai
variable {P : Program} {K : Tab}

theorem byteOk_take {l : List Nat} (h : byteOk l = true) (n : Nat) : byteOk (l.take n) = true := byteOk_of fun c hc => byteOk_mem h c (List.mem_of_mem_take hc)
theorem byteOk_drop {l : List Nat} (h : byteOk l = true) (n : Nat) : byteOk (l.drop n) = true := byteOk_of fun c hc => byteOk_mem h c (List.mem_of_mem_drop hc)
theorem strOf_extract (l : List Nat) (i j : Nat) : (strOf l).extract i j = strOf ((l.take j).drop i) := by
  apply ByteArray.ext
  simp only [strOf, ByteArray.data_extract]
  apply Array.ext'
  simp [List.drop_take]
theorem slice_string {o : Oper} {t : TypeId} {x : Operand} {lo hi mx : Option Operand} (hT : TabOk P K) (hu : K.underlying t = some .string) (hal : maxAlone hi mx = false) (ho : o.op = .slice t x lo hi mx) : SOk P o (mSlice .string 1 (compLd x) (ldO lo) (ldO hi) (ldO mx)) := by
  intro ρ A w tm a v A' hg hr ht h
  unfold mSlice at h
  split at h
  case h_2 => cases h
  rename_i xv nl nh nm hx h1 h2 h3
  have hx := ld_ok hg ht hx
  have h1 := ldNat_ok hg ht h1
  have h2 := ldNat_ok hg ht h2
  have h3 := ldNat_ok hg ht h3
  unfold sliceA at h
  cases xv with
  | s l =>
    simp only at h
    split at h
    · cases h
    · split at h
      · rename_i hb
        cases h
        simp only [Bool.and_eq_true] at hb
        have b1 := ble_iff.1 hb.1
        have b2 := ble_iff.1 hb.2
        obtain ⟨hby, e⟩ := conc_s hx
        have hmx : mx = none := by
          cases mx with
          | none => rfl
          | some _ => exact h3.elim
        subst hmx
        have hbo := bounds_ok (P := P) (len := (strOf l).size) (cap := (strOf l).size) false h1 h2 h3 hal (Nat.le_refl _) (.inl (by rw [strOf_size]; exact b1)) (by rw [strOf_size]; exact b2) w
        simp only [Option.map_none] at hbo
        refine ⟨ρ, .string (strOf ((l.take (getD nh l.length)).drop (getD nl 0))), by simp only [conc]; rw [if_pos (byteOk_drop (byteOk_take hby _) _)], hr, .refl ρ A w, fun _ => rfl, ?_⟩
        simp only [execOp, ho, Instr.sliceAt, Instr.slice, Sem.run_bind, run_und hT hu, Result.andThen_ok, e, Option.map_none, Option.isSome_none, Bool.false_eq_true, if_false, hbo, Sem.run_pure]
        rw [strOf_size, strOf_extract]
      · cases h
  | _ => simp only at h; cases h
end Go.Proofs.YtcaagfgopmhilaaGreatDoor.Vai
