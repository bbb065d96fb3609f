/- AddrMasks, AddrNests, AddrRights, AddrBytes: the laws, plainly; conditions: none. -/
import Derived.Test.YtipgepjmjnafiaaDoorMask2
namespace Go.Proofs.YtipgepjmjnafiaaDoor.Jv
open Go
set_option linter.unusedSectionVars false
set_option linter.unusedVariables false
set_option linter.unusedSimpArgs false
abbrev A3 := Int × Int × Int
/-- The words are words. -/
def Rg (a : A3) : Prop := 0 ≤ a.2.1 ∧ a.2.1 < 18446744073709551616 ∧ 0 ≤ a.2.2 ∧ a.2.2 < 18446744073709551616
def okI (a : A3) : Prop := okA a.1 a.2.1.toNat a.2.2.toNat
/-- What a mask leaves, if it leaves something. -/
noncomputable def mA (a : A3) (n : Int) : Option A3 :=
  open Classical in if okI a ∧ 0 ≤ n ∧ n ≤ ((8 * octN a.1 : Nat) : Int) then some (a.1, ((mkH a.1 a.2.1.toNat n : Nat) : Int), ((mkL a.1 a.2.2.toNat n : Nat) : Int)) else none
noncomputable def enM : Option A3 → A3 × Int
  | some m => (m, 0)
  | none => ((0, 0, 0), 1)
theorem rg_nat {a : A3} (h : Rg a) : ∃ (x y : Nat), a = (a.1, (x : Int), (y : Int)) ∧ a.2.1.toNat = x ∧ a.2.2.toNat = y ∧ x < 18446744073709551616 ∧ y < 18446744073709551616 := by
  obtain ⟨f, b, c⟩ := a
  obtain ⟨h1, h2, h3, h4⟩ := h
  simp only at h1 h2 h3 h4
  refine ⟨b.toNat, c.toNat, ?_, rfl, rfl, by omega, by omega⟩
  rw [Int.toNat_of_nonneg h1, Int.toNat_of_nonneg h3]
theorem mask_en {a : A3} (h : Rg a) (n : Int) : addr_Mask a n = some (enM (mA a n)) ∧ ref02_Mask a n = some (enM (mA a n)) := by
  obtain ⟨x, y, e, e1, e2, hx, hy⟩ := rg_nat h
  have : enM (mA a n) = maskN a.1 x y n := by
    unfold mA maskN okI
    rw [e1, e2]
    split <;> rfl
  rw [this, e]
  exact ⟨addr_Mask_eq hx hy n, ref02_Mask_eq hx hy n⟩
theorem mA_some {a m : A3} {n : Int} (h : mA a n = some m) : okI a ∧ 0 ≤ n ∧ n ≤ ((8 * octN a.1 : Nat) : Int) ∧ m = (a.1, ((mkH a.1 a.2.1.toNat n : Nat) : Int), ((mkL a.1 a.2.2.toNat n : Nat) : Int)) := by
  unfold mA at h
  split at h
  · rename_i hc; cases h; exact ⟨hc.1, hc.2.1, hc.2.2, rfl⟩
  · cases h
theorem mA_is {a : A3} {n : Int} (h1 : okI a) (h2 : 0 ≤ n) (h3 : n ≤ ((8 * octN a.1 : Nat) : Int)) : mA a n = some (a.1, ((mkH a.1 a.2.1.toNat n : Nat) : Int), ((mkL a.1 a.2.2.toNat n : Nat) : Int)) := by
  unfold mA
  rw [if_pos ⟨h1, h2, h3⟩]
theorem okA_lt {f : Int} {h l : Nat} (ho : okA f h l) : h < 18446744073709551616 ∧ l < 18446744073709551616 := by
  rcases ho with ⟨rfl, rfl, hl⟩ | ⟨rfl, hh, hl⟩ <;> constructor <;> omega
theorem mA_rg {a m : A3} {n : Int} (h : mA a n = some m) : Rg m ∧ m.1 = a.1 ∧ okI m := by
  obtain ⟨h1, h2, h3, rfl⟩ := mA_some h
  have ho := okA_mk h1 n
  have := okA_lt ho
  refine ⟨⟨?_, ?_, ?_, ?_⟩, rfl, ?_⟩
  · simp only; omega
  · simp only; omega
  · simp only; omega
  · simp only; omega
  · unfold okI
    simp only [Int.toNat_natCast]
    exact ho
theorem mA_mA {a m : A3} {n k : Int} (h : mA a n = some m) (h0 : 0 ≤ k) (hk : k ≤ n) : mA m k = mA a k := by
  obtain ⟨_, hm1, hm2⟩ := mA_rg h
  obtain ⟨h1, h2, h3, rfl⟩ := mA_some h
  rw [mA_is hm2 h0 (by simp only; omega), mA_is h1 h0 (by omega)]
  simp only [Int.toNat_natCast]
  have := mk_mk (f := a.1) (h := a.2.1.toNat) (l := a.2.2.toNat) hk
  rw [this.1, this.2]
theorem mA_self {a m : A3} {n : Int} (h : mA a n = some m) : mA m n = some m := (mA_mA h (mA_some h).2.1 (Int.le_refl _)).trans h
theorem rg_ok {a : A3} (h : okT (.pair (.int .i64) (.pair (.int .u64) (.int .u64))) a) : Rg a := by
  obtain ⟨f, b, c⟩ := a
  obtain ⟨_, h1, h2⟩ := h
  obtain ⟨b, rfl, hb⟩ := u64_nat h1
  obtain ⟨c, rfl, hc⟩ := u64_nat h2
  exact ⟨by simp only; omega, by simp only; omega, by simp only; omega, by simp only; omega⟩
/-- Are two addresses one? -/
def sameA (a b : A3) : Bool := (a.1 == b.1) && ((a.2.1 == b.2.1) && ((a.2.2 == b.2.2) && true))
theorem sameA_iff (a b : A3) : sameA a b = decide (a = b) := by
  obtain ⟨a1, a2, a3⟩ := a
  obtain ⟨b1, b2, b3⟩ := b
  rw [Bool.eq_iff_iff]
  simp [sameA]
noncomputable def rp (p : A3 × Int) : Bool := decide (mA p.1 p.2 = some p.1)
noncomputable def hs (p : A3 × Int) (a : A3) : Bool := decide (mA a p.2 = some p.1)
theorem addr_RightPrefix_eq {p : A3 × Int} (h : Rg p.1) : addr_RightPrefix p = some (rp p) := by
  unfold addr_RightPrefix
  have := (mask_en h p.2).1
  rw [show addr_Mask (p.1.1, p.1.2.1, p.1.2.2) p.2 = some (enM (mA p.1 p.2)) from this]
  simp only [Option.bind_some, rp]
  cases hm : mA p.1 p.2 with
  | none => rfl
  | some m =>
    show some (sameA m p.1) = _
    rw [sameA_iff]
    simp
theorem ref02_RightPrefix_eq {p : A3 × Int} (h : Rg p.1) : ref02_RightPrefix p = some (rp p) := by
  unfold ref02_RightPrefix
  have := (mask_en h p.2).2
  rw [show ref02_Mask (p.1.1, p.1.2.1, p.1.2.2) p.2 = some (enM (mA p.1 p.2)) from this]
  simp only [Option.bind_some, rp]
  cases hm : mA p.1 p.2 with
  | none => rfl
  | some m =>
    show some (sameA m p.1) = _
    rw [sameA_iff]
    simp
theorem hs_rp {p : A3 × Int} {a : A3} (h : hs p a = true) : rp p = true ∧ a.1 = p.1.1 ∧ okI a := by
  have h' : mA a p.2 = some p.1 := of_decide_eq_true h
  exact ⟨decide_eq_true (mA_self h'), (mA_rg h').2.1.symm, (mA_some h').1⟩
theorem addr_Has_eq {p : A3 × Int} {a : A3} (h : Rg p.1) (ha : Rg a) : addr_Has p a = some (hs p a) := by
  unfold addr_Has
  rw [show addr_Mask (a.1, a.2.1, a.2.2) p.2 = some (enM (mA a p.2)) from (mask_en ha p.2).1, show addr_RightPrefix ((p.1.1, p.1.2.1, p.1.2.2), p.2) = some (rp p) from addr_RightPrefix_eq h]
  simp only [Option.bind_some]
  cases hm : mA a p.2 with
  | none =>
    have : hs p a = false := by unfold hs; rw [hm]; simp
    rw [this]; rfl
  | some m =>
    have e : hs p a = decide (m = p.1) := by unfold hs; rw [hm]; simp
    show (bif a.1 == p.1.1 then (bif rp p then some (sameA m p.1) else some false) else some false) = _
    rw [sameA_iff, ← e]
    cases hh : hs p a with
    | false => cases a.1 == p.1.1 <;> cases rp p <;> rfl
    | true =>
      obtain ⟨g1, g2, _⟩ := hs_rp hh
      rw [g1, g2]
      simp
theorem ref02_Right_eq {a : A3} (ha : Rg a) : ∃ b, addr_Right a = some b ∧ ref02_Right a = some b ∧ (b = true ↔ okI a) := by
  obtain ⟨x, y, e, e1, e2, hx, hy⟩ := rg_nat ha
  have hi : okI a ↔ okA a.1 x y := by unfold okI; rw [e1, e2]
  rcases right_cases (f := a.1) hx hy with ho | ⟨ho, h1, h2⟩
  · refine ⟨true, ?_, ?_, ?_⟩
    · rw [e]; exact addr_Right_ok ho
    · rw [e]; exact ref02_Right_ok ho
    · simp [hi, ho]
  · refine ⟨false, ?_, ?_, ?_⟩
    · rw [e]; exact h1
    · rw [e]; exact h2
    · simp [hi, ho]
theorem ref02_Has_eq {p : A3 × Int} {a : A3} (h : Rg p.1) (ha : Rg a) : ref02_Has p a = some (hs p a) := by
  unfold ref02_Has ref02_Has_p5
  obtain ⟨b, _, hb, hi⟩ := ref02_Right_eq ha
  simp only
  rw [show ref02_RightPrefix ((p.1.1, p.1.2.1, p.1.2.2), p.2) = some (rp p) from ref02_RightPrefix_eq h, show ref02_Right (a.1, a.2.1, a.2.2) = some b from hb]
  simp only [Option.bind_some]
  cases hr : rp p with
  | false =>
    have : hs p a = false := by
      cases hh : hs p a with
      | false => rfl
      | true => rw [(hs_rp hh).1] at hr; cases hr
    rw [this]; rfl
  | true =>
    cases hbb : b with
    | false =>
      have : hs p a = false := by
        cases hh : hs p a with
        | false => rfl
        | true => rw [hi.2 (hs_rp hh).2.2] at hbb; cases hbb
      rw [this]; rfl
    | true =>
      have ho := hi.1 hbb
      simp only [Bool.not_true, cond_false]
      by_cases hf : a.1 = p.1.1
      · have e : (a.1 != p.1.1) = false := by simp [hf]
        rw [e]
        simp only [cond_false, Option.bind_some, Sum.elim_inl]
        rw [show ref02_Mask (a.1, a.2.1, a.2.2) p.2 = some (enM (mA a p.2)) from (mask_en ha p.2).2]
        obtain ⟨_, g2, g3, _⟩ := mA_some (of_decide_eq_true hr)
        rw [← hf] at g3
        have hm := mA_is ho g2 g3
        rw [hm]
        simp only [Option.bind_some, enM]
        show some (sameA (a.1, ((mkH a.1 a.2.1.toNat p.2 : Nat) : Int), ((mkL a.1 a.2.2.toNat p.2 : Nat) : Int)) p.1) = _
        rw [sameA_iff, hs, hm]
        simp
      · have e : (a.1 != p.1.1) = true := by simp [hf]
        rw [e]
        simp only [cond_true, Option.bind_some, Sum.elim_inr]
        cases hh : hs p a with
        | false => rfl
        | true => exact absurd (hs_rp hh).2.1 hf
abbrev tA : Ty := .pair (.int .i64) (.pair (.int .u64) (.int .u64))
theorem addrMasks_ok (y0 : A3 × Int) (y1 : A3) (y2 : Int) (k0 : okT (.pair tA (.int .i64)) y0) (k1 : okT tA y1) (k2 : okT (.int .i64) y2) : law02_AddrMasks y0 y1 y2 = some true := by
  have r0 := rg_ok k0.1
  have r1 := rg_ok k1
  obtain ⟨b, hb, _, hi⟩ := ref02_Right_eq r1
  unfold law02_AddrMasks
  rw [show addr_Mask (y1.1, y1.2.1, y1.2.2) y2 = some (enM (mA y1 y2)) from (mask_en r1 y2).1]
  simp only [Option.bind_some]
  have hp11 : law02_AddrMasks_p11 (y2, (enM (mA y1 y2)).2, y0.1.1, y0.1.2.1, y0.1.2.2, y0.2, y1.1, y1.2.1, y1.2.2, (enM (mA y1 y2)).1.1, (enM (mA y1 y2)).1.2.1, (enM (mA y1 y2)).1.2.2) = some (.inl (y0.1.1, y0.1.2.1, y0.1.2.2, y0.2, y1.1, y1.2.1, y1.2.2)) := by
    unfold law02_AddrMasks_p11
    cases hm : mA y1 y2 with
    | none => rfl
    | some m =>
      obtain ⟨g1, g2, g3⟩ := mA_rg hm
      have hs1 : hs (m, y2) y1 = true := decide_eq_true hm
      simp only [enM, beq_self_eq_true, cond_true]
      rw [show addr_Mask (m.1, m.2.1, m.2.2) y2 = some (enM (mA m y2)) from (mask_en g1 y2).1, mA_self hm, show addr_Has ((m.1, m.2.1, m.2.2), y2) (y1.1, y1.2.1, y1.2.2) = some (hs (m, y2) y1) from addr_Has_eq (p := (m, y2)) g1 r1, hs1]
      simp [enM]
  rw [hp11]
  simp only [Option.bind_some, Sum.elim_inl]
  have hh : addr_Has ((y0.1.1, y0.1.2.1, y0.1.2.2), y0.2) (y1.1, y1.2.1, y1.2.2) = some (hs y0 y1) := addr_Has_eq r0 r1
  unfold law02_AddrMasks_p23
  simp only
  rw [show addr_RightPrefix ((y0.1.1, y0.1.2.1, y0.1.2.2), y0.2) = some (rp y0) from addr_RightPrefix_eq r0, show addr_Right (y1.1, y1.2.1, y1.2.2) = some b from hb, hh]
  simp only [Option.bind_some]
  cases hr : rp y0 with
  | false =>
    have : hs y0 y1 = false := by
      cases hh : hs y0 y1 with
      | false => rfl
      | true => rw [(hs_rp hh).1] at hr; cases hr
    rw [this]; rfl
  | true =>
    cases hbb : b with
    | false =>
      have : hs y0 y1 = false := by
        cases hh : hs y0 y1 with
        | false => rfl
        | true => rw [hi.2 (hs_rp hh).2.2] at hbb; cases hbb
      rw [this]; rfl
    | true =>
      simp only [Bool.not_true, cond_false]
      by_cases hf : y1.1 = y0.1.1
      · have e : (y1.1 != y0.1.1) = false := by simp [hf]
        rw [e]
        simp only [cond_false, Option.bind_some, Sum.elim_inl]
        rw [show addr_Mask (y1.1, y1.2.1, y1.2.2) y0.2 = some (enM (mA y1 y0.2)) from (mask_en r1 y0.2).1]
        obtain ⟨_, g2, g3, _⟩ := mA_some (of_decide_eq_true hr)
        rw [← hf] at g3
        have hm := mA_is (hi.1 hbb) g2 g3
        rw [hm]
        simp only [enM, Option.bind_some, beq_self_eq_true, cond_true, hh]
        have e2 : (hs y0 y1 == sameA (y1.1, ((mkH y1.1 y1.2.1.toNat y0.2 : Nat) : Int), ((mkL y1.1 y1.2.2.toNat y0.2 : Nat) : Int)) y0.1) = true := by
          rw [sameA_iff, hs, hm]
          simp
        rw [show (hs y0 y1 == ((y1.1 == y0.1.1) && ((((mkH y1.1 y1.2.1.toNat y0.2 : Nat) : Int) == y0.1.2.1) && ((((mkL y1.1 y1.2.2.toNat y0.2 : Nat) : Int) == y0.1.2.2) && true)))) = true from e2]
        rfl
      · have e : (y1.1 != y0.1.1) = true := by simp [hf]
        have : hs y0 y1 = false := by
          cases hh : hs y0 y1 with
          | false => rfl
          | true => exact absurd (hs_rp hh).2.1 hf
        rw [e, this]
        rfl
theorem addrNests_ok (y0 y1 : A3 × Int) (y2 : A3) (k0 : okT (.pair tA (.int .i64)) y0) (k1 : okT (.pair tA (.int .i64)) y1) (k2 : okT tA y2) : law02_AddrNests y0 y1 y2 = some true := by
  have r0 := rg_ok k0.1
  have r1 := rg_ok k1.1
  have r2 := rg_ok k2
  unfold law02_AddrNests law02_AddrNests_p5
  simp only
  rw [show addr_RightPrefix ((y0.1.1, y0.1.2.1, y0.1.2.2), y0.2) = some (rp y0) from addr_RightPrefix_eq r0, show addr_RightPrefix ((y1.1.1, y1.1.2.1, y1.1.2.2), y1.2) = some (rp y1) from addr_RightPrefix_eq r1]
  simp only [Option.bind_some]
  cases hr : rp y0 with
  | false => rfl
  | true =>
    cases hr1 : rp y1 with
    | false => rfl
    | true =>
      simp only [Bool.not_true, cond_false]
      by_cases hb : y0.2 > y1.2
      · rw [bif_dec hb]; rfl
      · rw [bif_ndec hb]
        simp only [Option.bind_some, Sum.elim_inl]
        rw [show addr_Has ((y0.1.1, y0.1.2.1, y0.1.2.2), y0.2) (y1.1.1, y1.1.2.1, y1.1.2.2) = some (hs y0 y1.1) from addr_Has_eq r0 r1,
          show addr_Has ((y0.1.1, y0.1.2.1, y0.1.2.2), y0.2) (y2.1, y2.2.1, y2.2.2) = some (hs y0 y2) from addr_Has_eq r0 r2,
          show addr_Has ((y1.1.1, y1.1.2.1, y1.1.2.2), y1.2) (y2.1, y2.2.1, y2.2.2) = some (hs y1 y2) from addr_Has_eq r1 r2]
        have hm := mA_some (of_decide_eq_true hr)
        have key : hs y1 y2 = true → hs y0 y1.1 = hs y0 y2 := fun h => by
          have h' : mA y2 y1.2 = some y1.1 := of_decide_eq_true h
          unfold hs
          rw [mA_mA h' hm.2.1 (by omega)]
        simp only [Option.bind_some]
        cases h1 : hs y0 y1.1 with
        | true =>
          cases h2 : hs y1 y2 with
          | true => rw [← key h2, h1]; rfl
          | false => rfl
        | false =>
          cases h3 : hs y0 y2 with
          | false => rfl
          | true =>
            cases h2 : hs y1 y2 with
            | true => have := key h2; rw [h1, h3] at this; cases this
            | false => rfl
end Go.Proofs.YtipgepjmjnafiaaDoor.Jv
