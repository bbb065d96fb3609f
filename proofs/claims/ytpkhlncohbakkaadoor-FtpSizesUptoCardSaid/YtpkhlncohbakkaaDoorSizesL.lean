/- FtpSizes: the law, plainly; conditions: none. -/
import Derived.Test.YtpkhlncohbakkaaDoorPlace18
namespace Go.Proofs.YtpkhlncohbakkaaDoor.Jv
open Go
set_option linter.unusedSectionVars false
set_option linter.unusedVariables false
set_option linter.unusedSimpArgs false
def isLet (n : Nat) : Bool := (decide (97 ≤ n) && decide (n ≤ 122)) || (decide (65 ≤ n) && decide (n ≤ 90))
theorem flip_tab : ∀ x : Fin 256, isLet x.val = true → upB (UInt8.ofNat ((ixor .u8 ((x.val : Nat) : Int) 32)).toNat) = upB (UInt8.ofNat x.val) := by decide +kernel
theorem flip_up {c : UInt8} (h : isLet c.toNat = true) : upB (UInt8.ofNat ((ixor .u8 (c.toNat : Int) 32)).toNat) = upB c := by
  have := flip_tab ⟨c.toNat, c.toNat_lt⟩ h
  simp only at this
  rw [this]
  congr 1
  exact ofNat_toNat8 c
theorem size_step {s b : By} (fam which : Int) {i : Nat} (h4 : i < 4) (hb : i < b.length) (hl : b.length ≤ 1048576) :
    ∃ b', law18_FtpSizes_p87b (fam, s, which, (i : Int), b) = some (.inl (fam, s, which, ((i + 1 : Nat) : Int), b')) ∧ (b' = b ∨ (isLet b[i].toNat = true ∧ b' = b.set i (UInt8.ofNat ((ixor .u8 (b[i].toNat : Int) 32)).toNat))) := by
  have d1 : decide ((i : Int) < 4) = true := decide_eq_true (by omega)
  have d2 : decide ((0 : Int) ≤ (i : Int)) = true := decide_eq_true (by omega)
  have d3 : decide ((i : Int) < (b.length : Int)) = true := decide_eq_true (by omega)
  have e1 : IntKind.i64.wrap ((i : Int) + 1) = ((i + 1 : Nat) : Int) := by rw [wrap_i64 (by omega) (by omega)]; omega
  have g : b[i]? = some b[i] := List.getElem?_eq_getElem hb
  have q1 : decide (((b[i].toNat : Nat) : Int) ≥ 97) = decide (97 ≤ b[i].toNat) := by rw [Bool.eq_iff_iff]; simp only [decide_eq_true_eq]; omega
  have q2 : decide (((b[i].toNat : Nat) : Int) ≤ 122) = decide (b[i].toNat ≤ 122) := by rw [Bool.eq_iff_iff]; simp only [decide_eq_true_eq]; omega
  have q3 : decide (((b[i].toNat : Nat) : Int) ≥ 65) = decide (65 ≤ b[i].toNat) := by rw [Bool.eq_iff_iff]; simp only [decide_eq_true_eq]; omega
  have q4 : decide (((b[i].toNat : Nat) : Int) ≤ 90) = decide (b[i].toNat ≤ 90) := by rw [Bool.eq_iff_iff]; simp only [decide_eq_true_eq]; omega
  unfold law18_FtpSizes_p87b isLet
  simp only [d1, d2, d3, g, e1, cond_true, Option.bind_some, q1, q2, q3, q4, Int.toNat_natCast]
  cases (iand .u8 (ishr .u8 which (i : Int)) 1) == 1 with
  | false => exact ⟨b, rfl, .inl rfl⟩
  | true =>
    cases h1 : decide (97 ≤ b[i].toNat) <;> cases h2 : decide (b[i].toNat ≤ 122) <;> cases h3 : decide (65 ≤ b[i].toNat) <;> cases h4 : decide (b[i].toNat ≤ 90) <;>
      first
      | exact ⟨b, rfl, .inl rfl⟩
      | exact ⟨_, rfl, .inr ⟨rfl, rfl⟩⟩
      | (exfalso; simp only [decide_eq_true_eq, decide_eq_false_iff_not] at h1 h2 h3 h4; omega)
def SzInv (s b : By) : Prop := b.length = s.length ∧ b.map upB = s.map upB ∧ b.drop 5 = s.drop 5
theorem inv_set {s b : By} (h : SzInv s b) {i : Nat} (hi : i < b.length) (h4 : i < 4) {v : UInt8} (hv : upB v = upB b[i]) : SzInv s (b.set i v) := by
  refine ⟨by simpa using h.1, ?_, ?_⟩
  · rw [List.map_set, hv, ← h.2.1]
    have hm : i < (b.map upB).length := by simpa using hi
    have e : upB b[i] = (b.map upB)[i] := by simp
    rw [e, List.set_getElem_self]
  · rw [List.drop_set_of_lt (by omega)]
    exact h.2.2
theorem size_loop {s : By} (hs : s.length ≤ 1048576) (h4 : 4 ≤ s.length) (fam which : Int) : ∀ (k i : Nat) (b : By), i + k = 4 → SzInv s b →
    ∃ b', law18_FtpSizes_p87 (fam, s, which, (i : Int), b) = some (fam, s, b') ∧ SzInv s b' := by
  intro k
  induction k with
  | zero =>
    intro i b h1 h2
    refine ⟨b, ?_, h2⟩
    unfold law18_FtpSizes_p87
    refine iter_end ?_
    unfold law18_FtpSizes_p87b
    simp only
    rw [bif_ndec (by omega)]
  | succ k ih =>
    intro i b h1 h2
    have hb : i < b.length := by have := h2.1; omega
    obtain ⟨b1, hs1, hc⟩ := size_step (s := s) fam which (i := i) (by omega) hb (by have := h2.1; omega)
    have hi1 : SzInv s b1 := by
      rcases hc with rfl | ⟨hl, rfl⟩
      · exact h2
      · exact inv_set h2 hb (by omega) (flip_up hl)
    obtain ⟨b2, hb2, hi2⟩ := ih (i + 1) b1 (by omega) hi1
    refine ⟨b2, ?_, hi2⟩
    unfold law18_FtpSizes_p87 at hb2 ⊢
    rw [iter_go hs1]
    exact hb2
theorem p5_eq (fam side : Int) (s : By) : ftp_Place_p5 (fam, side, s, 0, 0, 0, 0, 0) = if (fam = 4 ∨ fam = 6) ∧ 5 ≤ s.length ∧ s.length ≤ 512 then some (.inl (fam, side, s, 0, 0, 0, 0, 0)) else some (.inr errQ) := by
  have key : (bif (decide ((s.length : Int) > 512)) then (some (.inr errQ) : Option ((Int × Int × List UInt8 × Int × Int × Int × Int × Int) ⊕ (AskT × Bool))) else (bif (decide ((s.length : Int) < 5)) then (some (.inr errQ)) else (some (.inl (fam, side, s, 0, 0, 0, 0, 0))))) = if 5 ≤ s.length ∧ s.length ≤ 512 then some (.inl (fam, side, s, 0, 0, 0, 0, 0)) else some (.inr errQ) := by
    by_cases a1 : (s.length : Int) > 512
    · rw [bif_dec a1, if_neg (by omega)]
    · rw [bif_ndec a1]
      by_cases a2 : (s.length : Int) < 5
      · rw [bif_dec a2, if_neg (by omega)]
      · rw [bif_ndec a2, if_pos (by omega)]
  unfold ftp_Place_p5
  simp only
  by_cases h4 : fam = 4
  · rw [show (fam != 4) = false by rw [h4]; rfl, cond_false]
    refine key.trans ?_
    simp [h4]
  · rw [show (fam != 4) = true by rw [bne_iff_ne]; exact h4, cond_true]
    by_cases h6 : fam = 6
    · rw [show (fam != 6) = false by rw [h6]; rfl, cond_false]
      refine key.trans ?_
      simp [h6]
    · rw [show (fam != 6) = true by rw [bne_iff_ne]; exact h6, cond_true, if_neg (by simp [h4, h6])]
theorem place_same (fam : Int) {s b : By} (hs : s.length ≤ 1048576) (h : SzInv s b) : ftp_Place fam 0 b = ftp_Place fam 0 s := by
  obtain ⟨h1, h2, h3⟩ := h
  unfold ftp_Place
  rw [p5_eq, p5_eq, h1]
  by_cases hc : (fam = 4 ∨ fam = 6) ∧ 5 ≤ s.length ∧ s.length ≤ 512
  · rw [if_pos hc, if_pos hc]
    simp only [Option.bind_some, Sum.elim_inl]
    have t5 : (b.take 5).map upB = (s.take 5).map upB := by rw [List.map_take, List.map_take, h2]
    rw [caps_eq (w := b.take 5) (by simp; omega), caps_eq (w := s.take 5) (by simp; omega)]
    simp only [Option.bind_some]
    rw [map_eq (w := b.take 5) (K := [80, 79, 82, 84, 32]) (by decide), map_eq (w := b.take 5) (K := [69, 80, 82, 84, 32]) (by decide), map_eq (w := s.take 5) (K := [80, 79, 82, 84, 32]) (by decide), map_eq (w := s.take 5) (K := [69, 80, 82, 84, 32]) (by decide), t5, h3, h1]
    rfl
  · rw [if_neg hc, if_neg hc]
theorem ftpSizes_ok (y0 : Int) (y1 : By) (y2 : UInt8) (k0 : okT (.int .i64) y0 ∧ bulkT (.int .i64) y0 ≤ 1048576) (k1 : okT .str y1 ∧ bulkT .str y1 ≤ 1048576) (k2 : okT .u8 y2 ∧ bulkT .u8 y2 ≤ 1048576) : law18_FtpSizes y0 y1 y2 = some true := by
  have hs : y1.length ≤ 1048576 := by
    have : y1.length + 1 ≤ 1048576 := k1.2
    omega
  have hal : law18_alive = some true := rfl
  unfold law18_FtpSizes
  rw [hal]
  by_cases h4 : (y1.length : Int) < 4
  · rw [bif_dec h4]; rfl
  · rw [bif_ndec h4]
    obtain ⟨b, hb, hi⟩ := size_loop hs (by omega) y0 (y2.toNat : Int) 4 0 y1 rfl ⟨rfl, rfl, rfl⟩
    rw [show law18_FtpSizes_p87 (y0, y1, (y2.toNat : Int), 0, y1) = some (y0, y1, b) from hb]
    simp only [Option.bind_some]
    obtain ⟨r, hr, _⟩ := place_fine y0 (side := 0) hs
    rw [place_same y0 hs hi, hr]
    simp only [Option.bind_some, beq_self_eq_true, Bool.and_self, cond_true]
end Go.Proofs.YtpkhlncohbakkaaDoor.Jv
