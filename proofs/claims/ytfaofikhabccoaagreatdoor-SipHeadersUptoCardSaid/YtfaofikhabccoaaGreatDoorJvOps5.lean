/- The ideal machine's arithmetic and tests; conditions: none. -/
import Derived.Test.YtfaofikhabccoaaGreatDoorJvOps4
import Derived.Laws.StructEq
namespace Go.Proofs.YtfaofikhabccoaaGreatDoor.Jv
open Go Go.RowKit
set_option linter.unusedVariables false
set_option linter.unusedSimpArgs false
section
variable {ρ : Type} {P : Program} {S : Mem} {L : Locs} {H : Hp} {w : World} {t : List IV} {vs : List Value} {run : Result Next} {K : IV → Option Nat → Hp → Option ρ} {out : ρ}

theorem slen_size (s : ByteArray) : slen s = s.size := by unfold slen; simp
theorem str_append (a b : ByteArray) : (⟨⟨a.data.toList ++ b.data.toList⟩⟩ : ByteArray) = a ++ b := by
  apply ByteArray.ext
  apply Array.ext'
  simp
theorem strEq_eq (a b : ByteArray) : strEq a b = (a.toList == b.toList) := by rw [ByteArray.toList_eq, ByteArray.toList_eq]; rfl
theorem binI_sound {op : BinOp} {k : IntKind} {a b : Int} {ty : TypeId} {Kv : Value → Option ρ} (hs : isSh op = false) (h : binI op k a b Kv = some out) : ∃ r, Kv r = some out ∧ (binOp op ty (.int k a) (.int k b)).run P w = .ok r w := by
  cases op <;> simp only [isSh] at hs <;> try (cases hs; done)
  all_goals (simp only [binI] at h)
  case quo =>
    obtain ⟨h1, h2⟩ := chk_some h
    have : ¬ b = 0 := by simpa using h1
    exact ⟨_, h2, by simp [binOp, Op.intDiv, this]⟩
  case rem =>
    obtain ⟨h1, h2⟩ := chk_some h
    have : ¬ b = 0 := by simpa using h1
    exact ⟨_, h2, by simp [binOp, Op.intDiv, this]⟩
  all_goals (refine ⟨_, h, ?_⟩; simp only [binOp, ne_eq, not_true_eq_false, if_false]; rfl)
theorem shI_sound {op : BinOp} {k k' : IntKind} {a b : Int} {ty : TypeId} {Kv : Value → Option ρ} (h : shI op k a b Kv = some out) : ∃ r, Kv r = some out ∧ (binOp op ty (.int k a) (.int k' b)).run P w = .ok r w := by
  cases op <;> simp only [shI] at h <;> try (cases h; done)
  case shl =>
    obtain ⟨h1, h2⟩ := chk_some h
    have : ¬ b < 0 := by simp at h1; omega
    exact ⟨_, h2, by simp [binOp, Op.shift, this]⟩
  case shr =>
    obtain ⟨h1, h2⟩ := chk_some h
    have : ¬ b < 0 := by simp at h1; omega
    exact ⟨_, h2, by simp [binOp, Op.shift, this]⟩
/-- A value of a type, out of its cells. -/
def valOf (P : Program) (ty : TypeId) (cs : List Value) : Value := if isStructT P ty then .agg ⟨cs⟩ else cs.headD Go.undef
theorem eqC_append {ks : List CK} {a b : List Value} {kr : List CK} {ar br : List Value} {q : Bool} (ha : a.length = ks.length) (hb : b.length = ks.length) (h : eqC (ks ++ kr) (a ++ ar) (b ++ br) = some q) :
    ∃ x y, eqC ks a b = some x ∧ eqC kr ar br = some y ∧ q = (x && y) := by
  induction ks generalizing a b q with
  | nil =>
    cases a with
    | nil => cases b with
      | nil => exact ⟨true, q, rfl, h, rfl⟩
      | cons _ _ => simp at hb
    | cons _ _ => simp at ha
  | cons k ks ih =>
    cases a with
    | nil => simp at ha
    | cons u a =>
      cases b with
      | nil => simp at hb
      | cons v b =>
        simp only [List.cons_append, eqC] at h
        split at h
        · rename_i p r h1 h2
          cases h
          obtain ⟨x, y, h3, h4, rfl⟩ := ih (by simpa using ha) (by simpa using hb) h2
          exact ⟨p && x, y, by simp [eqC, h1, h3], h4, by rw [Bool.and_assoc]⟩
        · cases h
theorem eqC_length {ks : List CK} {a b : List Value} {q : Bool} (h : eqC ks a b = some q) : a.length = ks.length ∧ b.length = ks.length := by
  induction ks generalizing a b q with
  | nil => cases a <;> cases b <;> simp_all [eqC]
  | cons k ks ih =>
    cases a <;> cases b <;> simp only [eqC] at h <;> try (cases h; done)
    split at h
    · rename_i _ _ h2
      have := ih h2
      simp [this.1, this.2]
    · cases h
theorem run_part {ty : TypeId} {n : Nat} {xs : List Value} {off : Nat} (hn : sizeT P ty = some n) (hk : isStructT P ty = true ∨ (n = 1 ∧ isAggT P ty = false ∧ ∃ d, P.underlying ty = some d)) (hl : off + n ≤ xs.length) :
    (part ty ⟨xs⟩ off).run P w = .ok (valOf P ty ((xs.drop off).take n)) w := by
  obtain ⟨i, h1, rfl⟩ := sizeT_some hn
  unfold valOf
  by_cases hst : isStructT P ty = true
  · rw [if_pos hst]
    have hagg : (isAgg ty).run P w = .ok true w := by
      unfold isStructT at hst
      split at hst
      · rename_i hd; simp [isAgg, run_underlying hd]
      · cases hst
    simp [part, hagg, sizeOf, typeInfo, h1]
  · rcases hk with hk | ⟨hk, hk2, d, hd⟩
    · exact absurd hk hst
    · rw [if_neg hst]
      have hagg : (isAgg ty).run P w = .ok false w := by
        unfold isAggT at hk2
        rw [hd] at hk2
        unfold isAgg
        rw [Sem.run_bind, run_underlying hd w]
        cases d <;> simp_all
      have hlt : off < xs.length := by omega
      rw [hk]
      simp only [part, Sem.run_bind, hagg, Result.andThen_ok]
      have : (xs.drop off).take 1 = [xs[off]] := by
        rw [List.drop_eq_getElem_cons hlt]; rfl
      rw [this]
      simp [hlt]
theorem eks_kind {d : Nat} {ty : TypeId} {ks : List CK} (h : eks P d ty = some ks) : isStructT P ty = true ∨ (ks.length = 1 ∧ isAggT P ty = false ∧ ∃ d, P.underlying ty = some d) := by
  cases d with
  | zero => cases h
  | succ d =>
    simp only [eks] at h
    split at h
    · rename_i e; cases h; right; exact ⟨rfl, by simp [isAggT, e], _, e⟩
    · rename_i e; cases h; right; exact ⟨rfl, by simp [isAggT, e], _, e⟩
    · rename_i e; cases h; right; exact ⟨rfl, by simp [isAggT, e], _, e⟩
    · rename_i e; left; simp [isStructT, e]
    · cases h
theorem equalIn_sound (d : Nat) : ∀ (ty : TypeId) (ks : List CK), eks P d ty = some ks → ∀ D, d ≤ D → ∀ (a b : List Value) (q : Bool), eqC ks a b = some q → (Op.equalIn D ty (valOf P ty a) (valOf P ty b)).run P w = .ok q w := by
  induction d with
  | zero => intro ty ks h; cases h
  | succ d ih =>
    intro ty ks h D hD a b q hq
    obtain ⟨D, rfl⟩ : ∃ m, D = m + 1 := ⟨D - 1, by omega⟩
    have hlen := eqC_length hq
    simp only [eks] at h
    have one : ∀ k, ks = [k] → isStructT P ty = false → ∃ x y, a = [x] ∧ b = [y] ∧ eq1 k x y = some q ∧ valOf P ty a = x ∧ valOf P ty b = y := by
      rintro k rfl hst
      obtain ⟨x, rfl⟩ := List.length_eq_one_iff.1 hlen.1
      obtain ⟨y, rfl⟩ := List.length_eq_one_iff.1 hlen.2
      refine ⟨x, y, rfl, rfl, ?_, by simp [valOf, hst], by simp [valOf, hst]⟩
      simp only [eqC] at hq
      split at hq
      · rename_i h1 h2; cases h2; cases hq; simpa using h1
      · cases hq
    split at h
    · rename_i e
      cases h
      obtain ⟨x, y, _, _, h1, h2, h3⟩ := one _ rfl (by simp [isStructT, e])
      rw [h2, h3]
      cases x <;> cases y <;> simp only [eq1] at h1 <;> try (cases h1; done)
      cases h1
      exact run_equalIn_bool' w D ty _ _ e
    · rename_i k e
      cases h
      obtain ⟨x, y, _, _, h1, h2, h3⟩ := one _ rfl (by simp [isStructT, e])
      rw [h2, h3]
      cases x <;> cases y <;> simp only [eq1] at h1 <;> try (cases h1; done)
      split at h1
      · rename_i hk
        obtain ⟨rfl, rfl⟩ := hk
        cases h1
        exact run_equalIn_int w D ty _ _ _ _ e
      · cases h1
    · rename_i e
      cases h
      obtain ⟨x, y, _, _, h1, h2, h3⟩ := one _ rfl (by simp [isStructT, e])
      rw [h2, h3]
      cases x <;> cases y <;> simp only [eq1] at h1 <;> try (cases h1; done)
      cases h1
      rw [strEq_eq]
      exact run_equalIn_string w D ty _ _ e
    · rename_i fs e
      split at h
      · cases h
      · rename_i hst
        have hst' : P.stoodInHeld ty = false := by simpa using hst
        have hfs : P.fieldsOf ty = fs := by simp [Program.fieldsOf, e]
        have hv : isStructT P ty = true := by simp [isStructT, e]
        simp only [valOf, hv, if_true]
        rw [run_equalIn_struct w D ty ⟨a⟩ ⟨b⟩ (by rw [hfs]; exact e) hst', hfs]
        have key : ∀ (l : List Field) (off : Nat) (kr : List CK) (q : Bool), off ≤ a.length → off ≤ b.length → eksF P (eks P d) off l = some kr → eqC kr (a.drop off) (b.drop off) = some q → (Op.eqFields D ⟨a⟩ ⟨b⟩ l).run P w = .ok q w := by
          intro l
          induction l with
          | nil =>
            intro off kr q _ _ h1 h2
            cases h1
            have := eqC_length h2
            have ha : a.drop off = [] := List.eq_nil_of_length_eq_zero (by simpa using this.1)
            have hb : b.drop off = [] := List.eq_nil_of_length_eq_zero (by simpa using this.2)
            rw [ha, hb] at h2
            cases h2
            rfl
          | cons f l ihl =>
            intro off kr q ho1 ho2 h1 h2
            simp only [eksF] at h1
            split at h1
            · rename_i hc
              simp only [Bool.and_eq_true, bne_iff_ne, beq_iff_eq] at hc
              obtain ⟨hname, rfl⟩ := hc
              split at h1
              · rename_i kf n e1 e2
                split at h1
                · rename_i hkn
                  split at h1
                  · rename_i r e3
                    cases h1
                    have hl2 := eqC_length h2
                    simp only [List.length_drop, List.length_append] at hl2
                    have ha : a.drop f.offset = (a.drop f.offset).take n ++ a.drop (f.offset + n) := by rw [← List.drop_drop, List.take_append_drop]
                    have hb : b.drop f.offset = (b.drop f.offset).take n ++ b.drop (f.offset + n) := by rw [← List.drop_drop, List.take_append_drop]
                    rw [ha, hb] at h2
                    obtain ⟨x, y, e4, e5, rfl⟩ := eqC_append (by simp; omega) (by simp; omega) h2
                    have hk := eks_kind e1
                    rw [hkn] at hk
                    have p1 := run_part (P := P) (w := w) (xs := a) (off := f.offset) e2 hk (by omega)
                    have p2 := run_part (P := P) (w := w) (xs := b) (off := f.offset) e2 hk (by omega)
                    have p3 := ih f.type kf e1 D (by omega) _ _ _ e4
                    have p4 := ihl _ _ _ (by omega) (by omega) e3 e5
                    simp only [Op.eqFields, if_pos hname, Sem.run_bind, p1, p2, p3, Result.andThen_ok]
                    cases x
                    · simp
                    · simpa using p4
                  · cases h1
                · cases h1
              · cases h1
            · cases h1
        exact key fs.toList 0 ks q (by omega) (by omega) h (by simpa using hq)
    · cases h
theorem eqGuardType_plain (d : Nat) : ∀ (ty : TypeId) (ks : List CK), eks P d ty = some ks → ∀ D, d ≤ D → P.eqGuardType D ty = false := by
  induction d with
  | zero => intro ty ks h; cases h
  | succ d ih =>
    intro ty ks h D hD
    obtain ⟨D, rfl⟩ : ∃ m, D = m + 1 := ⟨D - 1, by omega⟩
    simp only [eks] at h
    simp only [Program.eqGuardType]
    split at h
    · rename_i e; simp [e]
    · rename_i e; simp [e]
    · rename_i e; simp [e]
    · rename_i fs e
      simp only [e]
      split at h
      · cases h
      · have key : ∀ (l : List Field) (off : Nat) (kr : List CK), eksF P (eks P d) off l = some kr → ∀ f ∈ l, P.eqGuardType D f.type = false := by
          intro l
          induction l with
          | nil => intro off kr _ f hf; cases hf
          | cons g l ihl =>
            intro off kr h1 f hf
            simp only [eksF] at h1
            split at h1
            · split at h1
              · rename_i kf n e1 e2
                split at h1
                · split at h1
                  · rename_i r e3
                    rcases List.mem_cons.1 hf with rfl | hf
                    · exact ih _ _ e1 D (by omega)
                    · exact ihl _ _ e3 f hf
                  · cases h1
                · cases h1
              · cases h1
            · cases h1
        rw [Bool.eq_false_iff]
        intro hany
        rw [Array.any_eq_true] at hany
        obtain ⟨i, hi, hf⟩ := hany
        have := key fs.toList 0 ks h fs[i] (by simp)
        simp [this] at hf
    · cases h
theorem run_equal_nilp {t e : TypeId} (h : P.underlying t = some (.pointer e)) : (Op.equal t (.pointer none) (.pointer none)).run P w = .ok true w := by
  show (Op.equalIn (9999 + 1) t (.pointer none) (.pointer none)).run P w = _
  generalize 9999 = d
  simp [Op.equalIn, run_underlying h]
theorem run_equal_somep {t e : TypeId} (h : P.underlying t = some (.pointer e)) (a : Addr) : (Op.equal t (.pointer (some a)) (.pointer none)).run P w = .ok false w := by
  show (Op.equalIn (9999 + 1) t (.pointer (some a)) (.pointer none)).run P w = _
  generalize 9999 = d
  simp [Op.equalIn, run_underlying h]
theorem binK_sound {op : BinOp} {ty : TypeId} {x y : Operand} {a b : Value} {Kv : Value → Option ρ} (h : binK P op ty a b Kv = some out) :
    ∃ r, Kv r = some out ∧ (do eqGuard op ty x y a b; binOp op ty a b : Sem Value).run P w = .ok r w := by
  unfold binK at h
  split at h
  · rename_i k a k' b
    have hg : (eqGuard op ty x y (.int k a) (.int k' b)).run P w = .ok () w := by simp [eqGuard]
    simp only [Sem.run_bind, hg, Result.andThen_ok]
    split at h
    · exact shI_sound h
    · rename_i hs
      split at h
      · rename_i hk; subst hk; exact binI_sound (by simpa using hs) h
      · cases h
  · rename_i a b
    have hg : (eqGuard op ty x y (.string a) (.string b)).run P w = .ok () w := by simp [eqGuard]
    simp only [Sem.run_bind, hg, Result.andThen_ok]
    split at h
    · obtain ⟨h1, h2⟩ := chk_some h
      have := of_decide_eq_true h1
      rw [slen_size, slen_size] at this
      refine ⟨_, h2, ?_⟩
      rw [str_append]
      simp [binOp, Op.stringOp]
      omega
    · exact ⟨_, h, by simp [binOp, Op.stringOp, strEq_eq]⟩
    · exact ⟨_, h, by simp [binOp, Op.stringOp, strEq_eq]⟩
    · cases h
  · have hg : (eqGuard op ty x y (.pointer none) (.pointer none)).run P w = .ok () w := by simp [eqGuard]
    simp only [Sem.run_bind, hg, Result.andThen_ok]
    split at h
    · rename_i e hu; exact ⟨_, h, by simp [binOp, run_equal_nilp hu]⟩
    · rename_i e hu; exact ⟨_, h, by simp [binOp, run_equal_nilp hu]⟩
    · cases h
  · rename_i a b
    have hg : (eqGuard op ty x y (.bool a) (.bool b)).run P w = .ok () w := by simp [eqGuard]
    simp only [Sem.run_bind, hg, Result.andThen_ok]
    split at h
    · rename_i e; exact ⟨_, h, by simp [binOp, run_equal_bool w ty a b e]⟩
    · rename_i e; exact ⟨_, h, by simp [binOp, run_equal_bool w ty a b e]⟩
    · cases h
  · rename_i a b
    split at h
    · rename_i ks hst hks
      have hd : 8 ≤ P.depth := by unfold Program.depth Made.depth; omega
      have hg := run_eqGuard_agg (P := P) w op ty x y a b (eqGuardType_plain 8 ty ks hks _ hd)
      simp only [Sem.run_bind, hg, Result.andThen_ok]
      split at h
      · rename_i r hr
        refine ⟨_, h, ?_⟩
        rw [run_eql_struct]
        have := equalIn_sound (P := P) (w := w) 8 ty ks hks 10000 (by omega) _ _ _ hr
        simp only [valOf, hst, if_true] at this
        rw [this]
        rfl
      · rename_i r hr
        refine ⟨_, h, ?_⟩
        rw [run_neq_struct]
        have := equalIn_sound (P := P) (w := w) 8 ty ks hks 10000 (by omega) _ _ _ hr
        simp only [valOf, hst, if_true] at this
        rw [this]
        rfl
      · cases h
    · cases h
  · cases h
end
end Go.Proofs.YtfaofikhabccoaaGreatDoor.Jv
