/- Layer 19: the shape of what is read, and that what is written is read back; conditions: none. -/
import Derived.Test.YtdhogcppmnfekaaDoorTftp4
namespace Go.Proofs.YtdhogcppmnfekaaDoor.Jv
open Go
set_option linter.unusedVariables false
set_option linter.unusedSimpArgs false
/-- A part that may be. -/
def okP (b : By) : Prop := (∀ c ∈ b, c ≠ 0) ∧ 1 ≤ b.length ∧ b.length ≤ 128
theorem prt_shape {b : By} {p : By × By} (h : prt b = some p) : b = p.1 ++ 0 :: p.2 ∧ okP p.1 := by
  obtain ⟨h1, h2⟩ := prt_spl h
  obtain ⟨h3, h4⟩ := spl_eq h1
  exact ⟨h3, h4, h2⟩
theorem prt_of {a : By} (h : okP a) (r : By) : prt (a ++ 0 :: r) = some (a, r) := by
  unfold prt
  rw [spl_of a r h.1]
  simp only
  rw [if_pos h.2]
theorem prt_no {b : By} (h : ∀ c ∈ b, c ≠ 0) : prt b = none := by
  unfold prt
  rw [spl_no h]
def okO (o : Ops) : Prop := ∀ p ∈ o, okP p.1 ∧ okP p.2
theorem optsB_cons (p : By × By) (o : Ops) : optsB (p :: o) = p.1 ++ 0 :: (p.2 ++ 0 :: optsB o) := by
  simp [optsB]
theorem optsF_shape : ∀ (n : Nat) (b : By) (o : Ops), optsF n b = some o → b = optsB o ∧ okO o
  | 0, b, o, h => by
    unfold optsF at h
    split at h
    · rename_i hb; cases h; subst hb; exact ⟨rfl, fun _ hp => by cases hp⟩
    · cases h
  | n + 1, b, o, h => by
    unfold optsF at h
    split at h
    · rename_i hb; cases h; subst hb; exact ⟨rfl, fun _ hp => by cases hp⟩
    · split at h
      · cases h
      · rename_i p hp
        split at h
        · cases h
        · rename_i q hq
          cases ho : optsF n q.2 with
          | none => rw [ho] at h; cases h
          | some k =>
            rw [ho] at h
            cases h
            obtain ⟨h1, h2⟩ := prt_shape hp
            obtain ⟨h3, h4⟩ := prt_shape hq
            obtain ⟨h5, h6⟩ := optsF_shape n q.2 k ho
            refine ⟨?_, fun x hx => ?_⟩
            · rw [optsB_cons, h1]
              simp only
              rw [← h5, ← h3]
            · rcases List.mem_cons.1 hx with e | e
              · subst e; exact ⟨h2, h4⟩
              · exact h6 x e
theorem optsF_of : ∀ (o : Ops) (n : Nat), okO o → (optsB o).length ≤ n → optsF n (optsB o) = some o
  | [], n, _, _ => by rw [show optsB [] = [] from rfl, optsF_nil]
  | p :: o, n, h, hn => by
    obtain ⟨h1, h2⟩ := h p (by simp)
    rw [optsB_cons] at hn ⊢
    simp only [List.length_append, List.length_cons] at hn
    obtain ⟨k, rfl⟩ : ∃ k, n = k + 1 := ⟨n - 1, by omega⟩
    rw [optsF, if_neg (by intro e; have := congrArg List.length e; simp at this), prt_of h1]
    simp only
    rw [prt_of h2]
    simp only
    rw [optsF_of o k (fun x hx => h x (by simp [hx])) (by omega)]
    rfl
/-- What is read is of a shape. -/
structure Shape (b : By) (r : Rq) (m0 : By) : Prop where
  eq : b = 0 :: (if r.1 then 2 else 1) :: (r.2.1 ++ 0 :: (m0 ++ 0 :: optsB r.2.2.2))
  name : okP r.2.1
  prn : r.2.1.all printable = true
  okm : okP m0
  low : m0.map lowB = r.2.2.1
  mode : isMode r.2.2.1 = true
  opts : okO r.2.2.2
theorem parseS_shape {b : By} {r : Rq} (h : parseS b = some r) : ∃ m0, Shape b r m0 := by
  unfold parseS at h
  split at h
  · rename_i a c l
    split at h
    · rename_i hc
      unfold parseB at h
      split at h
      · cases h
      · rename_i p hp
        split at h
        · rename_i hpr
          split at h
          · cases h
          · rename_i q hq
            split at h
            · rename_i hm
              cases ho : optsF q.2.length q.2 with
              | none => rw [ho] at h; cases h
              | some k =>
                rw [ho] at h
                cases h
                obtain ⟨h1, h2⟩ := prt_shape hp
                obtain ⟨h3, h4⟩ := prt_shape hq
                obtain ⟨h5, h6⟩ := optsF_shape _ _ _ ho
                refine ⟨q.1, ?_, h2, hpr, h4, rfl, hm, h6⟩
                simp only
                rw [← h5, ← h3, ← h1, hc.1]
                rcases hc.2 with rfl | rfl <;> rfl
            · cases h
        · cases h
    · cases h
  · cases h
theorem isMode_low {m : By} (h : isMode m = true) : m.map lowB = m ∧ okP m := by
  unfold isMode at h
  simp only [Bool.or_eq_true, beq_iff_eq] at h
  rcases h with rfl | rfl | rfl <;> (unfold okP; decide)
theorem parseS_cons (w : Bool) (l : By) : parseS (0 :: (if w then 2 else 1) :: l) = parseB w l := by
  cases w
  · have h : parseS (0 :: 1 :: l) = parseB ((1 : UInt8) == 2) l := by simp [parseS]
    exact h
  · have h : parseS (0 :: 2 :: l) = parseB ((2 : UInt8) == 2) l := by simp [parseS]
    exact h
theorem parseS_build {b : By} {r : Rq} {m0 : By} (h : Shape b r m0) : parseS (buildB r) = some r := by
  obtain ⟨w, n, m, o⟩ := r
  have hm := isMode_low h.mode
  simp only at hm
  have e : buildB (w, n, m, o) = 0 :: (if w then 2 else 1) :: (n ++ 0 :: (m ++ 0 :: optsB o)) := by
    simp [buildB, headB]
  rw [e, parseS_cons]
  unfold parseB
  rw [show prt (n ++ 0 :: (m ++ 0 :: optsB o)) = _ from prt_of h.name _]
  simp only
  rw [if_pos h.prn, prt_of hm.2]
  simp only
  rw [hm.1, if_pos h.mode, optsF_of o _ h.opts (Nat.le_refl _)]
  rfl
/-- A beginning that ends within the name or the mode is none. -/
theorem parseS_head {b : By} {r : Rq} {m0 : By} (h : Shape b r m0) {c : Nat} (hc : c < 2 + r.2.1.length + 1 + m0.length + 1) : parseS (b.take c) = none := by
  obtain ⟨w, n, m, o⟩ := r
  have heq := h.eq
  simp only at heq hc
  rw [heq]
  match c, hc with
  | 0, _ => rfl
  | 1, _ => rfl
  | k + 2, hc =>
    simp only [List.take_succ_cons]
    rw [parseS_cons]
    unfold parseB
    by_cases hk : k ≤ n.length
    · rw [List.take_append_of_le_length hk, prt_no fun x hx => h.name.1 x (List.mem_of_mem_take hx)]
    · have e : (n ++ 0 :: (m0 ++ 0 :: optsB o)).take k = n ++ 0 :: (m0.take (k - n.length - 1)) := by
        rw [List.take_append, List.take_of_length_le (by omega)]
        obtain ⟨j, hj⟩ : ∃ j, k - n.length = j + 1 := ⟨k - n.length - 1, by omega⟩
        rw [hj, List.take_succ_cons, Nat.add_sub_cancel, List.take_append_of_le_length (by omega)]
      rw [e, show prt (n ++ 0 :: (m0.take (k - n.length - 1))) = _ from prt_of h.name _]
      simp only
      rw [if_pos h.prn, prt_no fun x hx => h.okm.1 x (List.mem_of_mem_take hx)]
end Go.Proofs.YtdhogcppmnfekaaDoor.Jv
