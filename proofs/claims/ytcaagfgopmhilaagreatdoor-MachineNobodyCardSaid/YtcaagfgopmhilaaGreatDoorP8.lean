/- A part of the proof that the law of this seat holds: P8; no condition. -/
import Derived.Test.YtcaagfgopmhilaaGreatDoorP7
namespace Go.Proofs.YtcaagfgopmhilaaGreatDoor.Vai
variable {P : Program} {K : Tab}

theorem shift_le {a b n k lim sh : Nat} (h : a + b ≤ n) (h2 : sh + n ≤ lim) : sh + a + b ≤ lim := by omega

/-- a block that is given up, within whose part of its row is written -/
theorem Rel.write {ρ : Map} {A : AW} {w : World} {b : Pos} {k : Blk} {L : Loc} {c c' : Array Value} {lo hi : Nat} (hr : Rel ρ A w) (hb : A.h.get b = some (.cells k)) (hL : ρ b = some L) (hro : k.ro = false)
    (h1 : w.heap[L.r]? = some (.cells c k.el (0, 0))) (hsz : c'.size = c.size) (hout : ∀ i, i < lo ∨ hi ≤ i → c'[i]? = c[i]?) (hin : ∀ i, lo ≤ i → i < hi → Has (.cells k) L i) :
    Rel ρ ⟨T.del b A.h, A.nx⟩ (w.setRow L.r c') ∧ Goes ρ A w ρ ⟨T.del b A.h, A.nx⟩ (w.setRow L.r c') := by
  have hwr : writable (.cells k) = true := by simp [writable, hro]
  refine ⟨⟨hr.fresh, fun b2 o2 h2 => ?_, fun b1 b2 o1 o2 hne h1 h2 => hr.sep b1 b2 o1 o2 hne (del_sub h1) (del_sub h2)⟩, .refl ρ, Nat.le_refl _, rfl, rfl, rfl, by simp, fun r hlt hown => ⟨?_, fun ⟨b2, o2, L2, g1, g2, g3, g4⟩ => hown ⟨b2, o2, L2, del_sub g1, g2, g3, g4⟩⟩, fun _ _ h => h, fun _ _ h ⟨b2, o2, L2, g1, g2, g3⟩ => h ⟨b2, o2, L2, del_sub g1, g2, g3⟩⟩
  · have hne : b2 ≠ b := by
      intro e
      subst e
      rw [T.get_del_eq] at h2; cases h2
    have h2' := del_sub h2
    obtain ⟨L2, hL2, hob⟩ := hr.objs b2 o2 h2'
    refine ⟨L2, hL2, ?_⟩
    by_cases hrr : L2.r = L.r
    · rcases hr.sep b b2 _ _ (fun e => hne e.symm) hb h2' hwr L L2 hL hL2 with hap | ⟨_, ⟨k2, rfl⟩, _, hap⟩
      · exact absurd hrr.symm hap
      · obtain ⟨c2, fz2, g1, g2, g3, g4, g5⟩ := hob
        rw [hrr, h1] at g1
        obtain ⟨rfl, e2, rfl⟩ : c = c2 ∧ k.el = k2.el ∧ (0, 0) = fz2 := by injection g1 with g1; injection g1 with a b c; exact ⟨a, b, c⟩
        rw [hrr, setRow_heap w L.r c c' k.el (0, 0) h1, e2]
        refine ⟨c', (0, 0), rfl, g2, by rw [hsz]; exact g3, fun e => ⟨rfl, (g4 e).2⟩, fun i v hi' hv => ?_⟩
        obtain ⟨q1, x, q2, q3⟩ := g5 i v hi' hv
        refine ⟨q1, x, q2, ?_⟩
        rw [hout, q3]
        by_cases hlt : L2.sh + i < lo
        · exact .inl hlt
        · by_cases hge : hi ≤ L2.sh + i
          · exact .inr hge
          · exfalso
            refine hap (L2.sh + i) ⟨hin _ (by omega) (by omega), ?_⟩
            simp only [Has]; constructor
            · omega
            · split <;> omega
    · rw [setRow_other w L.r L2.r c' hrr]; exact hob
  · exact setRow_other w L.r r c' fun e => hown ⟨b, _, L, hb, hwr, hL, e.symm⟩

theorem append_ok {o : Oper} {x y : Operand} {t u : TypeId} {I : AppI} (hA : AppOk P I t u) (ho : o.op = .call { callee := .builtin .append, args := #[x, y], argTypes := #[t, u] }) : GOk P o (mAppend I (compLd x) (compLd y)) := by
  intro ρ A w tm a v A' hg hr ht h
  unfold mAppend at h
  split at h
  case h_2 => cases h
  rename_i sv xv hs hx
  have hsv := ld_ok hg ht hs
  have hxv := ld_ok hg ht hx
  obtain ⟨i, zx, z', hi, hsz, hby, hix, hzx, hzc, hzl, hzeq⟩ := hA.info
  have hb : i.bytes ≤ 1000000 := by rw [hby]; exact hA.bytes
  unfold appendA at h
  split at h
  case h_1 => cases h
  rename_i n new hnew
  obtain ⟨un, zeros, hun, cn, ln, hzt, hcase⟩ := appNew_ok hA hi hr hxv hnew
  split at h
  · -- nil
    have e1 : a.eval x = .slice none 0 0 := (Option.some.inj hsv).symm
    split at h
    · cases h
      have := app_fits (w := w) (ty := o.type) hA.el hi hzt hb hcase none 0 0 (Nat.le_refl _)
      refine ⟨ρ, .slice none 0 0, w, rfl, hr, .refl _ _ _, append_op ho ?_⟩
      rw [e1, this]; rfl
    · rename_i m
      split at h
      · rename_i hle
        have hle' := ble_iff.1 hle
        have hge := grownCap_ge w (0 + (m + 1)) 0 I.el
        obtain ⟨ρ', h1, h2, h3⟩ := appGrow_ok hA (w := w) (cap := grownCap w (0 + (m + 1)) 0 I.el) (uo := []) hr hi hix rfl hun rfl cn (by simpa using ln) (by simpa using hge) h
        have := app_grow (w := w) (ty := o.type) hA.el hi hix hzt hb hcase none 0 0 (by omega) (by omega) (old := []) (fun d => by simp [Builtin.firstCells])
        refine ⟨ρ', _, _, h1, h2, h3, append_op ho ?_⟩
        rw [e1, this]
        simp only [Nat.zero_add]
      · cases h
  · -- exact
    rename_i b off len cap
    obtain ⟨L, hL, e1⟩ := Option.map_eq_some_iff.1 hsv
    split at h
    · rename_i hle
      obtain ⟨rfl, w', h1, h2, h3⟩ := store_row (P := P) hr hun cn h hL
      have := app_fits (w := w) (ty := o.type) hA.el hi hzt hb hcase (some ⟨L.r, L.sh + off, none⟩) len cap (ble_iff.1 hle)
      refine ⟨ρ, .slice (some ⟨L.r, L.sh + off, none⟩) (len + n) cap, w', by simp [conc, hL], h1, h2, append_op ho ?_⟩
      rw [← e1, this]
      simp only [Addr.add_none, hsz, Nat.add_assoc] at h3 ⊢
      rw [h3]; rfl
    · rename_i hlt
      have hlt' := ble_false hlt
      split at h
      · rename_i old hold hle
        have hle' := ble_iff.1 hle
        obtain ⟨uo, ho1, ho2, ho3, ho4⟩ := firstA_ok (P := P) hr hsv hold (.inl rfl)
        have hge := grownCap_ge w (len + n) cap I.el
        obtain ⟨ρ', h1, h2, h3⟩ := appGrow_ok hA (w := w) (cap := grownCap w (len + n) cap I.el) hr hi hix ho1 hun ho2 cn (by rw [List.length_append, ho3, ln, Nat.add_mul]) hge h
        have := app_grow (w := w) (ty := o.type) hA.el hi hix hzt hb hcase (some ⟨L.r, L.sh + off, none⟩) len cap hlt' (by omega) (old := uo) (by rw [hsz]; rw [← e1] at ho4; exact ho4)
        refine ⟨ρ', _, _, h1, h2, h3, append_op ho ?_⟩
        rw [← e1, this]
      · cases h
  · -- open
    rename_i b off len sz
    obtain ⟨L, hL, e1⟩ := Option.map_eq_some_iff.1 hsv
    split at h
    case h_2 => cases h
    rename_i k hk hsz'
    have hsz'' := beq_iff.1 hsz'
    subst hsz''
    split at h
    · cases h
    · rename_i hro
      obtain ⟨L', hL', c, fz, g1, g2, g3, g4, g5⟩ := hr.objs b _ (getBlk_some hk)
      rw [hL] at hL'; cases hL'
      have hpos := hA.size
      split at h
      · rename_i hle
        have hle' := ble_iff.1 hle
        obtain ⟨rfl, w', h1, h2, h3⟩ := store_row (P := P) hr hun cn h hL
        have hroom : len + n ≤ (L.lim - (L.sh + off)) / I.size := by
          rw [Nat.le_div_iff_mul_le hpos]; omega
        have := app_fits (w := w) (ty := o.type) hA.el hi hzt hb hcase (some ⟨L.r, L.sh + off, none⟩) len ((L.lim - (L.sh + off)) / I.size) hroom
        refine ⟨ρ, .slice (some ⟨L.r, L.sh + off, none⟩) (len + n) ((L.lim - (L.sh + off)) / I.size), w', by simp [conc, hL], h1, h2, append_op ho ?_⟩
        rw [← e1, this]
        simp only [Addr.add_none, hsz, Nat.add_assoc] at h3 ⊢
        rw [h3]; rfl
      · split at h
        case h_2 => cases h
        rename_i old hsp hold hle9
        simp only [Bool.and_eq_true] at hsp
        have hsp1 := hsp.1.1
        have hsp2 := ble_iff.1 hsp.1.2
        have hel : k.el = I.el := beq_iff.1 hsp.2
        have hle9' := ble_iff.1 hle9
        obtain ⟨uo, ho1, ho2, ho3, ho4⟩ := firstA_ok (P := P) hr hsv hold (.inl rfl)
        have hr' : Rel ρ ⟨T.del b A.h, A.nx⟩ w := hr.forget rfl fun _ _ => del_sub
        have hgo' : Goes ρ A w ρ ⟨T.del b A.h, A.nx⟩ w := Goes.forget w rfl fun _ _ => del_sub
        have hlen : (old ++ new).length = (len + n) * I.size := by rw [List.length_append, ho3, ln, Nat.add_mul]
        by_cases hroom : len + n ≤ (L.lim - (L.sh + off)) / I.size
        · -- there was room: the same row, under a new name
          cases h
          have hrm := (Nat.le_div_iff_mul_le hpos).1 hroom
          have hfz := (g4 hro).1
          subst hfz
          have hone := allCells_one cn hun
          have hunl : un.length = n * I.size := (concL_length hun).trans ln
          have huol : uo.length = len * I.size := (concL_length ho1).trans ho3
          have hmul : (len + n) * I.size = len * I.size + n * I.size := Nat.add_mul _ _ _
          rw [hmul] at hrm hlen
          generalize hp : len * I.size = p at *
          generalize hq : n * I.size = q at *
          have hst := run_storeCells_at P L.r (L.sh + off + p) k.el un 0 c w g1 (by omega) hone
          simp only [Nat.add_zero] at hst
          generalize hc' : (c.toList.take (L.sh + off + p) ++ un ++ c.toList.drop (L.sh + off + p + un.length)).toArray = c' at hst
          have htk : (c.toList.take (L.sh + off + p)).length = L.sh + off + p := by simp; omega
          have hasz : c'.size = c.size := by rw [← hc']; simp only [List.size_toArray, List.length_append, htk, List.length_drop, Array.length_toList]; omega
          have hcell : ∀ i, c'[i]? = if L.sh + off + p ≤ i ∧ i < L.sh + off + p + un.length then un[i - (L.sh + off + p)]? else c[i]? := by
            intro i
            rw [← hc']
            simp only [List.getElem?_toArray]
            by_cases h1 : i < L.sh + off + p
            · rw [if_neg (by omega), List.append_assoc, List.getElem?_append_left (by rw [htk]; exact h1), List.getElem?_take, if_pos h1]; simp
            · by_cases h2 : i < L.sh + off + p + un.length
              · rw [if_pos (by omega), List.getElem?_append_left (by rw [List.length_append, htk]; omega), List.getElem?_append_right (by rw [htk]; omega), htk]
              · rw [if_neg (by omega), List.getElem?_append_right (by rw [List.length_append, htk]; omega), List.getElem?_drop, List.length_append, htk]
                rw [← Array.getElem?_toList]
                congr 1; omega
          obtain ⟨hr1, hgo1⟩ := hr.write (lo := L.sh + off + p) (hi := L.sh + off + p + un.length) (getBlk_some hk) hL hro g1 hasz
            (fun i hi' => by rw [hcell, if_neg (by omega)])
            (fun i h1 h2 => by simp only [Has, hsp1, if_true]; omega)
          have holdc : ∀ j x, uo[j]? = some x → c[L.sh + off + j]? = some x := by
            intro j x hj
            unfold firstA at hold
            simp only at hold
            split at hold
            · cases hold; cases ho1; simp at hj
            · obtain ⟨L2, u2, hL2, _, _, hu2, hc2⟩ := loadC_ok hr hold
              rw [hL] at hL2; cases hL2
              rw [ho1] at hu2; cases hu2
              have := hc2 j x hj
              rw [Addr.add_none] at this
              simpa [World.cell?, g1] using this
          have hcat := concL_append ho1 hun
          have hcc : allCells (old ++ new) = true := by
            clear hlen ho1 ho3 ho4 hcat holdc hold
            revert ho2
            induction old with
            | nil => intro _; exact cn
            | cons a l ih =>
              intro ho2
              simp only [allCells] at ho2
              split at ho2
              · rename_i ha; simp [allCells, ha, ih ho2]
              · cases ho2
          have hnewobj : ∀ ρ', Ext' ρ ρ' → ObjRel ρ' (w.setRow L.r c').heap[L.r]? ⟨L.r, L.sh + off, L.lim⟩ (.cells ⟨putCells 0 (old ++ new) .leaf, p + q, I.el, true, false⟩) := by
            intro ρ' hx'
            rw [setRow_heap w L.r c c' k.el (0, 0) g1, hel]
            refine ⟨c', (0, 0), rfl, by simp only; omega, by rw [hasz]; exact g3, fun _ => ⟨rfl, fun e => by cases e⟩, fun j y hj hy => ?_⟩
            simp only at hj hy ⊢
            rw [putCells_get, if_pos (by omega)] at hy
            have hy' : (old ++ new)[j]? = some y := by simpa using hy
            obtain ⟨x, hx, hux⟩ := concL_getElem hcat hy'
            refine ⟨allCells_get hcc hy', x, conc_mono hx' _ _ hx, ?_⟩
            rw [hcell]
            by_cases hjp : j < p
            · rw [if_neg (by omega)]
              rw [List.getElem?_append_left (by omega)] at hux
              exact holdc j x hux
            · rw [if_pos (by omega)]
              rw [List.getElem?_append_right (by omega)] at hux
              rw [← hux]; congr 1; omega
          have hadd := hr1.add (w' := w.setRow L.r c') (o := .cells ⟨putCells 0 (old ++ new) .leaf, p + q, I.el, true, false⟩) (L := ⟨L.r, L.sh + off, L.lim⟩) (fun _ _ _ _ _ => rfl)
            (hnewobj _ (upd_ext _ (hr1.fresh A.nx (Nat.le_refl _))))
            (fun b2 o2 L2 hb2 hL2 _ => by
              have hne : b ≠ b2 := by
                intro e
                subst e
                rw [T.get_del_eq] at hb2; cases hb2
              rcases hr.sep b b2 _ _ hne (getBlk_some hk) (del_sub hb2) (by simp [writable, hro]) L L2 hL hL2 with hap | ⟨_, hc2, hor, hap⟩
              · exact .inl hap
              · refine .inr ⟨⟨_, rfl⟩, hc2, hor.imp (fun e => by simp [writable, hro] at e) id, fun i ⟨p1, p2⟩ => hap i ⟨?_, p2⟩⟩
                simp only [Has, if_true, hsp1] at p1 ⊢
                omega)
          have hfits := app_fits (w := w) (ty := o.type) hA.el hi hzt hb hcase (some ⟨L.r, L.sh + off, none⟩) len ((L.lim - (L.sh + off)) / I.size) hroom
          have hadd' : Rel (upd ρ (pos A.nx) ⟨L.r, L.sh + off, L.lim⟩) (newBlk ⟨T.del b A.h, A.nx⟩ I.el (old ++ new) ((len + n) * I.size) true false) (w.setRow L.r c') := by rw [hmul]; exact hadd
          refine ⟨_, .slice (some ⟨L.r, L.sh + off, none⟩) (len + n) ((L.lim - (L.sh + off)) / I.size), _, by simp [conc, upd_eq], hadd', ⟨upd_ext _ (hr1.fresh A.nx (Nat.le_refl _)), Nat.le_succ _, rfl, rfl, rfl, hgo1.size, fun r hlt hown => ⟨(hgo1.keep r hlt hown).1, ?_⟩, fun n hn h0 => by rw [upd_ne _ _ (pos_ne (by omega))]; exact h0, fun r hlt hnn => ?_⟩, append_op ho ?_⟩
          · rintro ⟨b2, o2, L2, k1, k2, k3, rfl⟩
            by_cases e : b2 = pos A.nx
            · subst e
              rw [upd_eq] at k3; cases k3
              exact hown ⟨b, _, L, getBlk_some hk, by simp [writable, hro], hL, rfl⟩
            · rw [upd_ne _ _ e] at k3
              simp only [newBlk, newObj, T.get_set_ne _ _ _ _ e] at k1
              exact hown ⟨b2, o2, L2, del_sub k1, k2, k3, rfl⟩
          · rintro ⟨b2, o2, L2, k1, k3, rfl⟩
            by_cases e : b2 = pos A.nx
            · subst e
              rw [upd_eq] at k3; cases k3
              exact hnn ⟨b, _, L, getBlk_some hk, hL, rfl⟩
            · rw [upd_ne _ _ e] at k3
              simp only [newBlk, newObj, T.get_set_ne _ _ _ _ e] at k1
              exact hnn ⟨b2, o2, L2, del_sub k1, k3, rfl⟩
          · rw [← e1, hfits]
            simp only [Addr.add_none, hsz, hp, hst]; rfl
        · -- it grew
          have hge := grownCap_ge w (len + n) ((L.lim - (L.sh + off)) / I.size) I.el
          obtain ⟨ρ', h1, h2, h3⟩ := appGrow_ok hA (w := w) (cap := grownCap w (len + n) ((L.lim - (L.sh + off)) / I.size) I.el) hr' hi hix ho1 hun ho2 cn hlen hge h
          have := app_grow (w := w) (ty := o.type) hA.el hi hix hzt hb hcase (some ⟨L.r, L.sh + off, none⟩) len ((L.lim - (L.sh + off)) / I.size) (by omega) (by omega) (old := uo) (by rw [hsz]; rw [← e1] at ho4; exact ho4)
          refine ⟨ρ', _, _, h1, h2, hgo'.trans h3, append_op ho ?_⟩
          rw [← e1, this]
  · cases h
end Go.Proofs.YtcaagfgopmhilaaGreatDoor.Vai
