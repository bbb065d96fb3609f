/- An own row cut at its end stays own: its other handles are forgotten; conditions: none. -/
import Derived.Test.YtfaofikhabccoaaGreatDoorJvOps7
namespace Go.Proofs.YtfaofikhabccoaaGreatDoor.Jv
open Go Go.RowKit
set_option linter.unusedVariables false
set_option linter.unusedSimpArgs false
section
variable {ρ : Type} {P : Program} {S : Mem} {L : Locs} {H : Hp} {w : World} {t : List IV} {out : ρ}
theorem truncK_sound {a : Act} {o : Oper} (hi : Inv S L H w) (ht : RIs S L t a.tmps.toList) {ty : TypeId} {x : Operand} {hb : Operand} {b sz : Nat} {K : IV → Option Nat → Hp → Option ρ} (hop : o.op = .slice ty x none (some hb) none) (hx : evI t x = .row b sz)
    (h : truncK P t H ty b sz hb K = some out) : OpOK S L H w t a.tmps.toList ((execOp a.eval o).run P w) K out := by
  have hxr := ev_rel (S := S) (L := L) ht x
  rw [hx] at hxr
  unfold truncK at h
  split at h
  · rename_i q l k n hH he
    split at h
    · rename_i hc
      obtain ⟨hsl, hez, rfl⟩ := hc
      obtain ⟨g1, h⟩ := chk_some h
      obtain ⟨g2, h⟩ := chk_some h
      have g1 := of_decide_eq_true g1
      have g2 := of_decide_eq_true g2
      obtain ⟨e, hu⟩ := isSliceT_some hsl
      obtain ⟨lo, e1, e2, ad, m, cap, e3, e4, e5, e6, e7, e8⟩ := hxr
      rcases hi.blk b _ hH with e9 | ⟨lo', e10, cs, f1, f2, f3, f4, f5, f6, f7⟩
      · cases e9
      rw [e1] at e10; cases e10
      rw [List.length_map, cellsL_len, ← e4] at f2
      have hm : m = l.length := (Nat.eq_of_mul_eq_mul_right (by omega) f2).symm
      have hlt : b < H.length := (List.getElem?_eq_some_iff.1 hH).1
      have hhi : optBound t (some hb) (m : Nat) = some n := by unfold optBound; simp only; rw [he]
      obtain ⟨inf, q1, q2, q3⟩ := elemSz_slice hu hez
      have hrun : (Instr.sliceAt ty (.slice ad m cap) none (some (a.eval hb)) none).run P w = .ok (.slice (if cap = 0 then ad else ad.map (·.add (0 * sizeTy q))) (n.toNat - 0) (cap - 0)) w := by
        have := run_bounds (P := P) (w := w) (isSlice := true) (len := m) (cap := cap) (lo := none) (hi := some (a.eval hb)) (a := 0) (b := n) (.inl ⟨rfl, rfl⟩) (optBound_some ht hhi) (by omega) g1 (by omega)
        simp only [Instr.sliceAt, Sem.run_bind, run_underlying hu, Result.andThen_ok, Instr.slice, this, sizeOf, typeInfo, run_program, q1, Sem.run_pure, q2]
        rfl
      have had : (if cap = 0 then ad else ad.map (·.add (0 * sizeTy q))) = ad := by
        split
        · rfl
        · cases ad with
          | none => rfl
          | some p => simp [Addr.add]
      rw [had, Nat.sub_zero, Nat.sub_zero] at hrun
      have hle : n.toNat ≤ l.length := by omega
      have hmul : n.toNat * sizeTy q ≤ lo.len := by rw [← e4]; exact Nat.mul_le_mul_right _ (by omega)
      have hcut : ∀ L', (∀ i a, i ≠ b → L i = some a → L' i = some a) → BR S L' w { lo with len := n.toNat * sizeTy q } (mapB (kill b) (.tc q (l.take n.toNat))) := by
        intro L' _
        refine ⟨cs, f1, ?_, by show n.toNat * sizeTy q ≤ lo.size; omega, f4, f5, f6, ?_⟩
        · rw [List.length_map, cellsL_len, List.length_take, show min n.toNat l.length = n.toNat by omega]
        · refine RIs_mapP.2 ?_
          rw [cellsL_take]
          have := (RIs_mapP.1 f7).take (n.toNat * sizeTy q)
          rwa [List.take_take, show min (n.toNat * sizeTy q) lo.len = n.toNat * sizeTy q by omega] at this
      have hext := Ext.upd (w' := w) (lo' := { lo with len := n.toNat * sizeTy q }) (k := .tc q (l.take n.toNat)) hi e1 e2 rfl rfl rfl (Nat.le_refl _) (fun _ _ _ => rfl) (by
        by_cases h0 : lo.size = 0
        · exact .inr (.inl h0)
        · exact .inl ⟨h0, rfl⟩) (fun h0 => hi.inh b lo e1 h0) hlt hcut
      refine ⟨.row b (sizeTy q), some b, _, h, .slice ad n.toNat cap, w, _, .inl ?_, hext, ?_, ?_⟩
      · obtain ⟨dst, op, type, pos, after, guard⟩ := o
        simp only at hop
        subst hop
        simp only [execOp]
        rw [e3]
        exact run_v hrun
      · exact ⟨{ lo with len := n.toNat * sizeTy q }, by simp [addL], e2, ad, n.toNat, cap, rfl, rfl, e5, by omega, e7, e8⟩
      · exact RIs_of _ (RI_mapI _ (RI_kill (fun a h => by rw [e1] at h; cases h; exact e2) (fun _ _ _ h => h) (fun i a hne h1 => by unfold addL; rw [if_neg hne]; exact h1))) ht
    · cases h
  · cases h
end
end Go.Proofs.YtfaofikhabccoaaGreatDoor.Jv
