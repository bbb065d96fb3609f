/- AddrRights, AddrBytes: the laws, plainly; conditions: none. -/
import Derived.Test.YtipgepjmjnafiaaDoorMasksL
namespace Go.Proofs.YtipgepjmjnafiaaDoor.Jv
open Go
set_option linter.unusedSectionVars false
set_option linter.unusedVariables false
set_option linter.unusedSimpArgs false
/-- How two numbers stand. -/
def cmpI (a b : Int) : Int := if a < b then -1 else if a > b then 1 else 0
theorem cmp_int (a b : Int) : cmp_Compare_int a b = some (cmpI a b) := by
  unfold cmp_Compare_int cmp_isNaN_int cmpI
  have h1 : (a != a) = false := by simp
  have h2 : (b != b) = false := by simp
  simp only [h1, h2, Option.bind_some, cond_false]
  by_cases h : a < b
  · simp [h]
  · by_cases h' : a > b
    · have h'' : b < a := h'
      simp [h, h'']
    · have h'' : ¬ b < a := h'
      simp [h, h'']
theorem cmp_u64 (a b : Int) : cmp_Compare_uint64 a b = some (cmpI a b) := by
  unfold cmp_Compare_uint64 cmp_isNaN_uint64 cmpI
  have h1 : (a != a) = false := by simp
  have h2 : (b != b) = false := by simp
  simp only [h1, h2, Option.bind_some, cond_false]
  by_cases h : a < b
  · simp [h]
  · by_cases h' : a > b
    · have h'' : b < a := h'
      simp [h, h'']
    · have h'' : ¬ b < a := h'
      simp [h, h'']
theorem or3 (a b c : Int) : cmp_Or_int [a, b, c] = some (if a ≠ 0 then a else if b ≠ 0 then b else c) := by
  have w1 : IntKind.i64.wrap 1 = 1 := by decide +kernel
  have w2 : IntKind.i64.wrap 2 = 2 := by decide +kernel
  have w3 : IntKind.i64.wrap 3 = 3 := by decide +kernel
  unfold cmp_Or_int cmp_Or_int_p43
  have b0 : cmp_Or_int_p43b (0, [a, b, c], 3, 0) = if a ≠ 0 then some (.inr (.inr a)) else some (.inl (0, [a, b, c], 3, 1)) := by
    unfold cmp_Or_int_p43b
    by_cases h : a = 0
    · simp [h, w1]
    · have e : (a != 0) = true := by simpa using h
      simp [h, e]
  have b1 : cmp_Or_int_p43b (0, [a, b, c], 3, 1) = if b ≠ 0 then some (.inr (.inr b)) else some (.inl (0, [a, b, c], 3, 2)) := by
    unfold cmp_Or_int_p43b
    by_cases h : b = 0
    · simp [h, w2]
    · have e : (b != 0) = true := by simpa using h
      simp [h, e]
  have b2 : cmp_Or_int_p43b (0, [a, b, c], 3, 2) = if c ≠ 0 then some (.inr (.inr c)) else some (.inl (0, [a, b, c], 3, 3)) := by
    unfold cmp_Or_int_p43b
    by_cases h : c = 0
    · simp [h, w3]
    · have e : (c != 0) = true := by simpa using h
      simp [h, e]
  have b3 : cmp_Or_int_p43b (0, [a, b, c], 3, 3) = some (.inr (.inl 0)) := by
    unfold cmp_Or_int_p43b
    simp
  show (iter cmp_Or_int_p43b (0, [a, b, c], 3, 0)).bind _ = _
  by_cases ha : a = 0
  · rw [iter_go (b0.trans (if_neg (by simp [ha])))]
    by_cases hb : b = 0
    · rw [iter_go (b1.trans (if_neg (by simp [hb])))]
      by_cases hc : c = 0
      · rw [iter_go (b2.trans (if_neg (by simp [hc]))), iter_end b3]
        simp [ha, hb, hc]
      · rw [iter_end (b2.trans (if_pos hc))]
        simp [ha, hb]
    · rw [iter_end (b1.trans (if_pos hb))]
      simp [ha, hb]
  · rw [iter_end (b0.trans (if_pos ha))]
    simp [ha]
theorem order_eq (a b : A3) : ∃ r, addr_Order a b = some r ∧ ref02_Order a b = some r := by
  refine ⟨if cmpI a.1 b.1 ≠ 0 then cmpI a.1 b.1 else if cmpI a.2.1 b.2.1 ≠ 0 then cmpI a.2.1 b.2.1 else cmpI a.2.2 b.2.2, ?_, ?_⟩
  · unfold addr_Order
    simp only [cmp_int, cmp_u64, Option.bind_some, or3]
  · unfold ref02_Order cmpI
    by_cases h1 : a.1 < b.1
    · simp [h1]
    · by_cases h2 : a.1 > b.1
      · have h2' : b.1 < a.1 := h2
        simp [h1, h2']
      · have h2' : ¬ b.1 < a.1 := h2
        by_cases h3 : a.2.1 < b.2.1
        · simp [h1, h2', h3]
        · by_cases h4 : a.2.1 > b.2.1
          · have h4' : b.2.1 < a.2.1 := h4
            simp [h1, h2', h3, h4']
          · have h4' : ¬ b.2.1 < a.2.1 := h4
            by_cases h5 : a.2.2 < b.2.2
            · simp [h1, h2', h3, h4', h5]
            · by_cases h6 : a.2.2 > b.2.2
              · have h6' : b.2.2 < a.2.2 := h6
                simp [h1, h2', h3, h4', h5, h6']
              · have h6' : ¬ b.2.2 < a.2.2 := h6
                simp [h1, h2', h3, h4', h5, h6']
theorem addrRights_ok (y0 y1 : A3) (y2 : A3 × Int) (k0 : okT tA y0) (k1 : okT tA y1) (k2 : okT (.pair tA (.int .i64)) y2) : law02_AddrRights y0 y1 y2 = some true := by
  have r0 := rg_ok k0
  have r2 := rg_ok k2.1
  obtain ⟨b, hb, hb', _⟩ := ref02_Right_eq r0
  obtain ⟨o, ho, ho'⟩ := order_eq y0 y1
  unfold law02_AddrRights
  rw [show addr_Right (y0.1, y0.2.1, y0.2.2) = some b from hb, show ref02_Right (y0.1, y0.2.1, y0.2.2) = some b from hb',
    show addr_Order (y0.1, y0.2.1, y0.2.2) (y1.1, y1.2.1, y1.2.2) = some o from ho, show ref02_Order (y0.1, y0.2.1, y0.2.2) (y1.1, y1.2.1, y1.2.2) = some o from ho',
    show addr_RightPrefix ((y2.1.1, y2.1.2.1, y2.1.2.2), y2.2) = some (rp y2) from addr_RightPrefix_eq r2, show ref02_RightPrefix ((y2.1.1, y2.1.2.1, y2.1.2.2), y2.2) = some (rp y2) from ref02_RightPrefix_eq r2,
    show addr_Has ((y2.1.1, y2.1.2.1, y2.1.2.2), y2.2) (y0.1, y0.2.1, y0.2.2) = some (hs y2 y0) from addr_Has_eq r2 r0, show ref02_Has ((y2.1.1, y2.1.2.1, y2.1.2.2), y2.2) (y0.1, y0.2.1, y0.2.2) = some (hs y2 y0) from ref02_Has_eq r2 r0]
  simp only [Option.bind_some, beq_self_eq_true, cond_true]
  rfl
theorem bytes_both {a : A3} (ha : Rg a) : ∃ l, addr_Bytes a = some l ∧ ref02_Bytes a = some l := by
  obtain ⟨x, y, e, e1, e2, hx, hy⟩ := rg_nat ha
  rcases right_cases (f := a.1) hx hy with ho | ⟨ho, h1, h2⟩
  · refine ⟨octs a.1 x y, ?_, ?_⟩
    · rw [e]; exact addr_Bytes_eq ho
    · rw [e]; exact ref02_Bytes_eq ho
  · refine ⟨[], ?_, ?_⟩
    · rw [e]; unfold addr_Bytes; simp only [h1, Option.bind_some, Bool.not_false, cond_true]
    · rw [e]; unfold ref02_Bytes; simp only [h2, Option.bind_some, Bool.not_false, cond_true]
theorem addrBytes_ok (y0 : A3) (y1 : List UInt8) (y2 : Int) (k0 : okT tA y0) (k1 : okT (.sl .u8) y1) (k2 : okT (.int .i64) y2) : law02_AddrBytes y0 y1 y2 = some true := by
  have r0 := rg_ok k0
  obtain ⟨l, hl, hl'⟩ := bytes_both r0
  unfold law02_AddrBytes
  rw [addr_From_eq, ref02_From_eq, show addr_Mask (y0.1, y0.2.1, y0.2.2) y2 = some (enM (mA y0 y2)) from (mask_en r0 y2).1, show ref02_Mask (y0.1, y0.2.1, y0.2.2) y2 = some (enM (mA y0 y2)) from (mask_en r0 y2).2,
    show addr_Bytes (y0.1, y0.2.1, y0.2.2) = some l from hl, show ref02_Bytes (y0.1, y0.2.1, y0.2.2) = some l from hl']
  simp only [Option.bind_some, ref01_Same, beq_self_eq_true, cond_true, Bool.and_self]
  rfl
end Go.Proofs.YtipgepjmjnafiaaDoor.Jv
