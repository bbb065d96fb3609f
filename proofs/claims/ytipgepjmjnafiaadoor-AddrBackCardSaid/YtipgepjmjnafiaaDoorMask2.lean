/- The document's masks; conditions: none. -/
import Derived.Test.YtipgepjmjnafiaaDoorFrom
namespace Go.Proofs.YtipgepjmjnafiaaDoor.Jv
open Go
set_option linter.unusedSectionVars false
set_option linter.unusedVariables false
set_option linter.unusedSimpArgs false
/-- One bit off, if it is past those that stay. -/
def m1 (d k : Nat) (x : UInt8) : UInt8 := if d ≤ k then UInt8.ofNat ((iand .u8 (x.toNat : Int) (ixor .u8 255 (ishr .u8 128 (k : Int)))).toNat) else x
def mr (d : Nat) : Nat → Nat → UInt8 → UInt8
  | 0, _, x => x
  | n + 1, k, x => mr d n (k + 1) (m1 d k x)
/-- How many bits of the i-th byte stay. -/
def stay (n : Int) (i : Nat) : Nat := if n < 8 * (i : Int) then 0 else if 8 * (i : Int) + 8 < n then 8 else (n - 8 * (i : Int)).toNat
theorem stay_le (n : Int) (i : Nat) : stay n i ≤ 8 := by unfold stay; split; · omega
                                                         · split <;> omega
theorem mask_in {n : Int} (h0 : 0 ≤ n) (h1 : n ≤ 128) {i : Nat} (r0 r1 r2 : Int) : ∀ (c k : Nat) (bs : List UInt8) (hi : i < bs.length), k + c = 8 → bs.length ≤ 16 →
    ref02_Mask_p5271 (n, (i : Int), (k : Int), r0, r1, r2, bs) = some (n, (i : Int), r0, r1, r2, bs.set i (mr (stay n i) c k (bs[i]))) := by
  intro c
  induction c with
  | zero =>
    intro k bs hi h2 h3
    unfold ref02_Mask_p5271
    refine iter_end ?_
    unfold ref02_Mask_p5271b
    rw [bif_ndec (by simp only; omega)]
    simp [mr]
  | succ c ih =>
    intro k bs hi h2 h3
    have e1 : IntKind.i64.wrap ((k : Int) + 1) = ((k + 1 : Nat) : Int) := by rw [wrap_i64 (by omega) (by omega)]; omega
    have e2 : IntKind.i64.wrap ((IntKind.i64.wrap ((i : Int) * 8)) + (k : Int)) = (i : Int) * 8 + (k : Int) := by
      rw [wrap_i64 (x := (i : Int) * 8) (by omega) (by omega), wrap_i64 (by omega) (by omega)]
    have hs : (i : Int) * 8 + (k : Int) ≥ n ↔ stay n i ≤ k := by
      unfold stay
      split
      · omega
      · split <;> omega
    rw [mr]
    have := ih (k + 1) (bs.set i (m1 (stay n i) k bs[i])) (by simpa using hi) (by omega) (by simpa using h3)
    rw [List.getElem_set_self, List.set_set] at this
    rw [← this]
    unfold ref02_Mask_p5271
    refine iter_go ?_
    unfold ref02_Mask_p5271b
    simp only
    rw [bif_dec (by omega), e2, e1]
    by_cases hk : stay n i ≤ k
    · rw [bif_dec (hs.2 hk), bif_dec (by omega), bif_dec (by omega), Int.toNat_natCast, List.getElem?_eq_getElem hi]
      simp only [Option.bind_some]
      rw [bif_dec (by omega), bif_dec (by omega), bif_dec (by omega), m1, if_pos hk]
    · rw [bif_ndec (fun e => hk (hs.1 e)), m1, if_neg hk, List.set_getElem_self]
theorem mr_tab : ∀ d : Fin 9, ∀ x : Fin 256, (mr d.val 8 0 (UInt8.ofNat x.val)) = UInt8.ofNat (keep (8 - d.val) x.val) := by decide +kernel
theorem mask_out {n : Int} (h0 : 0 ≤ n) (h1 : n ≤ 128) (r0 r1 r2 : Int) : ∀ (c i : Nat) (bs : List UInt8), i + c = bs.length → bs.length ≤ 16 →
    ref02_Mask_p87 (n, (i : Int), r0, r1, r2, bs) = some (r0, r1, r2, bs.take i ++ (bs.drop i).mapIdx fun j x => mr (stay n (i + j)) 8 0 x) := by
  intro c
  induction c with
  | zero =>
    intro i bs h2 h3
    unfold ref02_Mask_p87
    refine iter_end ?_
    unfold ref02_Mask_p87b
    rw [bif_ndec (by simp only; omega), List.take_of_length_le (by omega), List.drop_eq_nil_of_le (by omega)]
    simp
  | succ c ih =>
    intro i bs h2 h3
    have hi : i < bs.length := by omega
    have e1 : IntKind.i64.wrap ((i : Int) + 1) = ((i + 1 : Nat) : Int) := by rw [wrap_i64 (by omega) (by omega)]; omega
    have := ih (i + 1) (bs.set i (mr (stay n i) 8 0 bs[i])) (by simp; omega) (by simpa using h3)
    rw [List.drop_eq_getElem_cons hi, List.mapIdx_cons]
    have e3 : (bs.set i (mr (stay n i) 8 0 bs[i])).take (i + 1) = bs.take i ++ [mr (stay n i) 8 0 bs[i]] := by
      rw [List.take_succ_eq_append_getElem (by simpa using hi), List.getElem_set_self, List.take_set_of_le (Nat.le_refl _)]
    have e4 : (bs.set i (mr (stay n i) 8 0 bs[i])).drop (i + 1) = bs.drop (i + 1) := List.drop_set_of_lt (by omega)
    rw [e3, e4, List.append_assoc] at this
    have e5 : (fun j x => mr (stay n (i + 1 + j)) 8 0 x) = (fun j x => mr (stay n (i + (j + 1))) 8 0 x) := by
      funext j x; rw [show i + 1 + j = i + (j + 1) by omega]
    rw [e5] at this
    rw [show bs.take i ++ (mr (stay n (i + 0)) 8 0 bs[i] :: (bs.drop (i + 1)).mapIdx fun j x => mr (stay n (i + (j + 1))) 8 0 x) = bs.take i ++ ([mr (stay n i) 8 0 bs[i]] ++ (bs.drop (i + 1)).mapIdx fun j x => mr (stay n (i + (j + 1))) 8 0 x) from rfl, ← this]
    unfold ref02_Mask_p87
    refine iter_go ?_
    unfold ref02_Mask_p87b
    simp only
    rw [bif_dec (by omega)]
    have hin := mask_in h0 h1 (i := i) r0 r1 r2 8 0 bs hi rfl h3
    have hin' : ref02_Mask_p5271 (n, (i : Int), 0, r0, r1, r2, bs) = _ := hin
    rw [hin']
    simp only [Option.bind_some, e1]
theorem keep_oct {x : Nat} {n w e d : Nat} (h : d = if n < w - 8 - e then 0 else if w - e < n then 8 else n - (w - 8 - e)) (hw : e + 8 ≤ w) (hn : n ≤ w) :
    keep (w - n) x / 2 ^ e % 256 = keep (8 - d) (x / 2 ^ e % 256) := by
  refine Nat.eq_of_testBit_eq fun i => ?_
  rw [show 256 = 2 ^ 8 from rfl, Nat.testBit_mod_two_pow, ← Nat.shiftRight_eq_div_pow, Nat.testBit_shiftRight, keep_bit, keep_bit, Nat.testBit_mod_two_pow, ← Nat.shiftRight_eq_div_pow, Nat.testBit_shiftRight]
  by_cases hi : i < 8
  · have : decide (w - n ≤ e + i) = decide (8 - d ≤ i) := by
      congr 1
      refine propext ?_
      split at h
      · omega
      · split at h <;> omega
    rw [this, decide_eq_true hi, Bool.true_and, Bool.true_and]
  · simp [hi]
theorem oct_mk {f : Int} {h l : Nat} (ho : okA f h l) {n : Int} (h0 : 0 ≤ n) (h1 : n ≤ ((8 * octN f : Nat) : Int)) {q : Nat} (hq : q < octN f) :
    oct f (mkH f h n) (mkL f l n) q = keep (8 - stay n q) (oct f h l q) := by
  obtain ⟨n, rfl⟩ : ∃ m : Nat, n = (m : Int) := ⟨n.toNat, by omega⟩
  rcases ho with ⟨rfl, rfl, hl⟩ | ⟨rfl, hh, hl⟩
  · simp only [octN, if_true] at hq h1
    simp only [oct, mkL, if_true]
    have e : 64 - cl ((n : Int) + 32) = 32 - n := by unfold cl; split; · omega
                                                     · split <;> omega
    rw [e]
    refine keep_oct ?_ (by omega) (by omega)
    unfold stay
    split
    · split <;> (try split) <;> omega
    · split <;> split <;> (try split) <;> omega
  · simp only [octN, show ¬ ((6 : Int) = 4) by decide, if_false] at hq h1
    simp only [oct, mkL, mkH, show ¬ ((6 : Int) = 4) by decide, if_false]
    by_cases h8 : q < 8
    · simp only [h8, if_true]
      have e : 64 - cl (n : Int) = 64 - (if 64 < n then 64 else n) := by unfold cl; split; · omega
                                                                         · split <;> split <;> omega
      rw [e]
      refine keep_oct ?_ (by omega) (by split <;> omega)
      unfold stay
      by_cases hc : 64 < n
      · simp only [hc, if_true]
        split
        · omega
        · split
          · split <;> (try split) <;> omega
          · omega
      · simp only [hc, if_false]
        split
        · split <;> (try split) <;> omega
        · split <;> split <;> (try split) <;> omega
    · simp only [h8, if_false]
      have e : 64 - cl ((n : Int) - 64) = 64 - (n - 64) := by unfold cl; split; · omega
                                                              · split <;> omega
      rw [e, show 120 - 8 * q = 64 - 8 - 8 * (q - 8) by omega]
      refine keep_oct ?_ (by omega) (by omega)
      unfold stay
      split
      · split <;> (try split) <;> omega
      · split <;> split <;> (try split) <;> omega
theorem mask_octs {f : Int} {h l : Nat} (ho : okA f h l) {n : Int} (h0 : 0 ≤ n) (h1 : n ≤ ((8 * octN f : Nat) : Int)) :
    ((octs f h l).mapIdx fun j x => mr (stay n j) 8 0 x) = octs f (mkH f h n) (mkL f l n) := by
  refine List.ext_getElem (by simp [octs]) fun q a b => ?_
  have hq : q < octN f := by simpa [octs] using b
  simp only [octs, List.getElem_mapIdx, List.getElem_map, List.getElem_range]
  have := mr_tab ⟨stay n q, by have := stay_le n q; omega⟩ ⟨oct f h l q, oct_lt f h l q⟩
  simp only at this
  rw [this, oct_mk ho h0 h1 hq]
theorem ref02_Mask_eq {f : Int} {h l : Nat} (hh : h < 18446744073709551616) (hl : l < 18446744073709551616) (n : Int) : ref02_Mask (f, (h : Int), (l : Int)) n = some (maskN f h l n) := by
  unfold ref02_Mask ref02_Mask_p5
  rcases right_cases (f := f) hh hl with ho | ⟨ho, _, h1⟩
  · have h16 := octN_le f
    simp only [ref02_Right_ok ho, Option.bind_some, Bool.not_true, cond_false]
    by_cases h0 : n < 0
    · rw [bif_dec h0]
      simp only [Option.bind_some, Sum.elim_inr, maskN]
      rw [if_neg (by omega)]
    · rw [bif_ndec h0]
      simp only [size_eq ho, Option.bind_some]
      by_cases h1 : n > ((8 * octN f : Nat) : Int)
      · rw [bif_dec h1]
        simp only [Option.bind_some, Sum.elim_inr, maskN]
        rw [if_neg (by omega)]
      · rw [bif_ndec h1]
        simp only [Option.bind_some, Sum.elim_inl, maskN, ref02_Bytes_eq ho]
        rw [if_pos ⟨ho, by omega, by omega⟩]
        have hm := mask_out (n := n) (by omega) (by omega) 0 0 0 (octN f) 0 (octs f h l) (by rw [octs_len]; omega) (by rw [octs_len]; omega)
        simp only [List.take_zero, List.drop_zero, List.nil_append, Nat.zero_add] at hm
        rw [mask_octs ho (by omega) (by omega)] at hm
        have hm' : ref02_Mask_p87 (n, 0, 0, 0, 0, octs f h l) = _ := hm
        rw [hm']
        simp only [Option.bind_some, ref02_From_eq, from_octs (okA_mk ho n)]
  · simp only [h1, Option.bind_some, Bool.not_false, cond_true, Sum.elim_inr, maskN]
    rw [if_neg (fun e => ho e.1)]
end Go.Proofs.YtipgepjmjnafiaaDoor.Jv
