/- What stands behind a body says nothing; conditions: none. -/
import Derived.Test.YtfaofikhabccoaaGreatDoorDigits20
namespace Go.Proofs.YtfaofikhabccoaaGreatDoor.Jv
open Go A
set_option linter.unusedSectionVars false
set_option linter.unusedVariables false
set_option linter.unusedSimpArgs false
theorem hdr_line {n h : Nat} {l k : Option By} {p q : By} (h13 : 13 ∉ p) (hp : p ≠ []) (h64 : h ≠ 64) (h58 : 58 ∈ p) :
    hdrM (n + 1) h l k (p ++ 13 :: 10 :: q) = hdrM n (h + 1) (hLen p l) (hKind p k) q := by
  rw [hdr_succ, index_line h13, Int.toNat_natCast, List.take_left, if_neg (by omega), if_neg hp, if_neg h64, if_neg (fun e => e h58)]
  have : (p ++ 13 :: 10 :: q).drop (p.length + 2) = q := by
    rw [List.drop_append, List.drop_eq_nil_of_le (by omega)]
    simp
  rw [this]
theorem hdr_stop {n h : Nat} {l k : Option By} {q : By} : hdrM (n + 1) h l k (13 :: 10 :: q) = fin1 l k q := by
  have := index_line (p := []) (q := q) (by simp)
  rw [List.nil_append] at this
  rw [hdr_succ, this, if_neg (by decide)]
  rfl
def l0 : By := [83, 73, 80, 47, 50, 46, 48, 32, 50, 48, 48, 32, 79, 75]
def l1 : By := [67, 111, 110, 116, 101, 110, 116, 45, 84, 121, 112, 101, 58, 32, 97, 112, 112, 108, 105, 99, 97, 116, 105, 111, 110, 47, 115, 100, 112, 59, 32, 120]
def l2 : By := [67, 111, 110, 116, 101, 110, 116, 45, 76, 101, 110, 103, 116, 104, 58, 32]
def l2n : By := [67, 111, 110, 116, 101, 110, 116, 45, 76, 101, 110, 103, 116, 104]
def kin : By := [97, 112, 112, 108, 105, 99, 97, 116, 105, 111, 110, 47, 115, 100, 112, 59, 32, 120]
def headB : By := l0 ++ 13 :: 10 :: (l1 ++ 13 :: 10 :: l2)
theorem kind1 : hKind l1 none = some kin := by decide +kernel
theorem len1 : hLen l1 none = none := by decide +kernel
theorem name2 (D : By) : hName (l2 ++ D) = wLen := by
  unfold hName
  have : (Lib.cut (l2 ++ D) [58]).1 = l2n := by
    rw [cut_find]
    rfl
  rw [this]
  decide +kernel
theorem val2 {D : By} (hD : ∀ c ∈ D, 48 ≤ c.toNat ∧ c.toNat ≤ 57) : hVal (l2 ++ D) = D := by
  unfold hVal
  have : (Lib.cut (l2 ++ D) [58]).2.1 = 32 :: D := by
    rw [cut_find2]
    rfl
  rw [this]
  exact trm_dig hD
theorem len2 {D : By} (hD : ∀ c ∈ D, 48 ≤ c.toNat ∧ c.toNat ≤ 57) : hLen (l2 ++ D) none = some D := by
  unfold hLen
  rw [name2, val2 hD]
  rfl
theorem kind2 (D : By) : hKind (l2 ++ D) (some kin) = some kin := by
  unfold hKind
  rw [opt_some, Bool.and_false]
  rfl
theorem fin_kin (R : By) : fin2 (some kin) R = (R, true) := by
  unfold fin2
  have : ((trm (Lib.cut kin [59]).1).map upB == wSdp) = true := by decide +kernel
  simp only [this, if_true]
theorem body_head {D R : By} {n : Nat} (hD : ∀ c ∈ D, 48 ≤ c.toNat ∧ c.toNat ≤ 57) (hn : decM R.length D = some n) :
    bodyM (headB ++ ((D ++ [13, 10, 13, 10]) ++ R)) = (R.take n, true) := by
  have e : headB ++ ((D ++ [13, 10, 13, 10]) ++ R) = l0 ++ 13 :: 10 :: (l1 ++ 13 :: 10 :: ((l2 ++ D) ++ 13 :: 10 :: 13 :: 10 :: R)) := by
    unfold headB
    simp
  have h13D : 13 ∉ D := fun h => by
    have := hD 13 h
    simp at this
  have hix : Lib.index (l0 ++ 13 :: 10 :: (l1 ++ 13 :: 10 :: ((l2 ++ D) ++ 13 :: 10 :: 13 :: 10 :: R))) crlf = ((14 : Nat) : Int) := index_line (p := l0) (by decide)
  rw [e]
  unfold bodyM begM first
  rw [hix, Int.toNat_natCast]
  have ht : (l0 ++ 13 :: 10 :: (l1 ++ 13 :: 10 :: ((l2 ++ D) ++ 13 :: 10 :: 13 :: 10 :: R))).take 14 = l0 := List.take_left' rfl
  have hd : (l0 ++ 13 :: 10 :: (l1 ++ 13 :: 10 :: ((l2 ++ D) ++ 13 :: 10 :: 13 :: 10 :: R))).drop (14 + 2) = l1 ++ 13 :: 10 :: ((l2 ++ D) ++ 13 :: 10 :: 13 :: 10 :: R) := rfl
  rw [ht, hd]
  have hb : ¬ (((14 : Nat) : Int) = -1 ∨ (pfx l0 [83, 73, 80, 47, 50, 46, 48, 32] || sfx l0 [32, 83, 73, 80, 47, 50, 46, 48]) = false) := by decide
  rw [if_neg hb]
  obtain ⟨m, hm⟩ : ∃ m, (l0 ++ 13 :: 10 :: (l1 ++ 13 :: 10 :: ((l2 ++ D) ++ 13 :: 10 :: 13 :: 10 :: R))).length = m + 1 + 1 + 1 := by
    refine ⟨(l0 ++ 13 :: 10 :: (l1 ++ 13 :: 10 :: ((l2 ++ D) ++ 13 :: 10 :: 13 :: 10 :: R))).length - 3, ?_⟩
    have : 3 ≤ (l0 ++ 13 :: 10 :: (l1 ++ 13 :: 10 :: ((l2 ++ D) ++ 13 :: 10 :: 13 :: 10 :: R))).length := by
      rw [List.length_append, show l0.length = 14 from rfl]
      omega
    omega
  rw [hm, hdr_line (by decide) (by decide) (by decide) (by decide), len1, kind1, hdr_line (by rw [List.mem_append]; exact fun h => h.elim (by decide) h13D) (by simp [l2]) (by decide) (by rw [List.mem_append]; exact .inl (by decide)), len2 hD, kind2, hdr_stop]
  simp only [fin1, hn]
  exact fin_kin _
/-! ### The law -/
theorem behind_step {b m head : By} {n : Nat} {acc : By} {f : Bool} (hf : f = true ∨ 0 < n) (h2 : n ≤ 1048576) (h3 : acc.length ≤ 1048576) :
    law20_SipBehind_p351b (b, m, head, (n : Int), acc, f) = some (.inl (b, m, head, ((n / 10 : Nat) : Int), dg (n % 10) :: acc, false)) := by
  unfold law20_SipBehind_p351b
  simp only
  rw [dig_digit, dig_tenth h2, bif_dec (show ([dg (n % 10)] : By).length + acc.length < 2 ^ 62 by simp; omega)]
  cases f with
  | true => rfl
  | false =>
    have hn : 0 < n := hf.elim (fun e => Bool.noConfusion e) id
    rw [bif_dec (show (n : Int) > 0 by omega)]
    rfl
theorem behind_loop {b m head : By} : ∀ (k n : Nat) (acc : By) (f : Bool), (f = true ∨ 0 < n) → n < 10 ^ (k + 1) → n ≤ 1048576 → acc.length + k ≤ 1048576 →
    law20_SipBehind_p351 (b, m, head, (n : Int), acc, f) = some (b, m, head, dgF (k + 1) n ++ acc) := by
  have fin : ∀ (n : Nat) (acc : By), n < 10 → law20_SipBehind_p351b (b, m, head, ((n / 10 : Nat) : Int), acc, false) = some (.inr (b, m, head, acc)) := fun n acc h => by
    unfold law20_SipBehind_p351b
    simp only [cond_false]
    rw [bif_ndec (by omega)]
  intro k
  induction k with
  | zero =>
    intro n acc f hf h1 h2 h3
    have h10 : n < 10 := by simpa using h1
    unfold law20_SipBehind_p351
    rw [iter_go (behind_step hf h2 (by omega)), iter_end (fin n _ h10), dgF_small h10]
    rfl
  | succ k ih =>
    intro n acc f hf h1 h2 h3
    by_cases h10 : n < 10
    · unfold law20_SipBehind_p351
      rw [iter_go (behind_step hf h2 (by omega)), iter_end (fin n _ h10), dgF_small h10]
      rfl
    · unfold law20_SipBehind_p351
      rw [iter_go (behind_step hf h2 (by omega))]
      have := ih (n / 10) (dg (n % 10) :: acc) false (.inr (by omega)) (by rw [Nat.pow_succ] at h1; omega) (by omega) (by simp; omega)
      unfold law20_SipBehind_p351 at this
      rw [this, dgF_big h10, List.append_assoc]
      rfl
theorem sipBehind_ok (y0 y1 : By) (k0 : okT (.sl .u8) y0 ∧ bulkT (.sl .u8) y0 ≤ 1048576) (k1 : okT (.sl .u8) y1 ∧ bulkT (.sl .u8) y1 ≤ 1048576) : law20_SipBehind y0 y1 = some true := by
  unfold law20_SipBehind law20_SipBehind_p5
  simp only
  rw [alive_ok]
  by_cases a1 : (y0.length : Int) > 9000
  · rw [bif_dec a1]; rfl
  rw [bif_ndec a1]
  by_cases a2 : (y1.length : Int) > 9000
  · rw [bif_dec a2]; rfl
  rw [bif_ndec a2]
  simp only [Option.bind_some, Sum.elim_inl]
  rw [behind_loop 4 y0.length [] true (.inl rfl) (by omega) (by omega) (by simp)]
  simp only [Option.bind_some, List.append_nil]
  have hD := dgF_in 5 y0.length
  have hDl := dgF_len 5 y0.length
  have hdec : ∀ M, y0.length ≤ M → decM M (dgF 5 y0.length) = some y0.length := fun M hM => dec_dgF (k := 4) (by omega) hM
  show (bif decide ((dgF 5 y0.length).length + 4 < 2 ^ 62) then (bif decide (((dgF 5 y0.length) ++ ([13, 10, 13, 10] : By)).length + y0.length < 2 ^ 62) then (bif decide (headB.length + (((dgF 5 y0.length) ++ ([13, 10, 13, 10] : By)) ++ y0).length < 2 ^ 62) then ((sip_Asks (headB ++ (((dgF 5 y0.length) ++ ([13, 10, 13, 10] : By)) ++ y0))).bind fun (r4 : List Ask) => (sip_Media y0).bind fun (r5 : List Ask) => (ref18_Same r4 r5).bind fun (r6 : Bool) => bif r6 then (bif decide ((headB ++ (((dgF 5 y0.length) ++ ([13, 10, 13, 10] : By)) ++ y0)).length + y1.length < 2 ^ 62) then ((sip_Asks ((headB ++ (((dgF 5 y0.length) ++ ([13, 10, 13, 10] : By)) ++ y0)) ++ y1)).bind fun (r7 : List Ask) => (sip_Media y0).bind fun (r8 : List Ask) => (ref18_Same r7 r8).bind fun (r9 : Bool) => bif r9 then (some true) else some false) else none) else some false) else none) else none) else none) = some true
  generalize dgF 5 y0.length = D at hD hDl hdec
  have hhl : headB.length = 66 := rfl
  have e4 : (D ++ ([13, 10, 13, 10] : By)).length = D.length + 4 := by simp
  have b1 : bodyM (headB ++ ((D ++ [13, 10, 13, 10]) ++ y0)) = (y0, true) := by
    rw [body_head hD (hdec _ (Nat.le_refl _)), List.take_length]
  have b2 : bodyM ((headB ++ ((D ++ [13, 10, 13, 10]) ++ y0)) ++ y1) = (y0, true) := by
    have := body_head (D := D) (R := y0 ++ y1) hD (hdec _ (by simp))
    rw [List.take_left] at this
    rw [← this]
    simp
  have m1 : asksM (headB ++ ((D ++ [13, 10, 13, 10]) ++ y0)) = mediaM y0 := by unfold asksM; rw [b1]; rfl
  have m2 : asksM ((headB ++ ((D ++ [13, 10, 13, 10]) ++ y0)) ++ y1) = mediaM y0 := by unfold asksM; rw [b2]; rfl
  have ml := mediaM_len y0
  rw [bif_dec (by omega), bif_dec (by omega), bif_dec (by rw [List.length_append, e4]; omega), sip_Asks_eq (by rw [List.length_append, List.length_append, e4]; omega), sip_Media_eq (by omega), m1]
  simp only [Option.bind_some]
  rw [same_self (by omega)]
  simp only [Option.bind_some, cond_true]
  rw [bif_dec (by rw [List.length_append, List.length_append, e4]; omega), sip_Asks_eq (by rw [List.length_append, List.length_append, List.length_append, e4]; omega), m2]
  simp only [Option.bind_some]
  rw [same_self (by omega)]
  rfl
end Go.Proofs.YtfaofikhabccoaaGreatDoor.Jv
