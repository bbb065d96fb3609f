/- SipOwn, plainly: bytes are not turned, and what was answered may be written over; conditions: none. -/
import Derived.Test.YtfaofikhabccoaaGreatDoorOut20
namespace Go.Proofs.YtfaofikhabccoaaGreatDoor.Jv
open Go A
set_option linter.unusedSectionVars false
set_option linter.unusedVariables false
set_option linter.unusedSimpArgs false
theorem spoil_body (a b : By) {n : Nat} (hn : n ≤ 1048576) : ∀ k i (M : By), M.length = n → i + k = n → law20_SipOwn_p87 (a, b, (n : Int), (i : Int), M) = some (a, b) := by
  intro k
  induction k with
  | zero =>
    intro i M h1 h2
    unfold law20_SipOwn_p87
    refine iter_end ?_
    unfold law20_SipOwn_p87b
    rw [bif_ndec (by simp only; omega)]
  | succ k ih =>
    intro i M h1 h2
    have hi : i < M.length := by omega
    have e1 : IntKind.i64.wrap ((i : Int) + 1) = ((i + 1 : Nat) : Int) := by rw [wrap_i64 (by omega) (by omega)]; omega
    unfold law20_SipOwn_p87
    refine (iter_go (s' := (a, b, (n : Int), ((i + 1 : Nat) : Int), M.set i (UInt8.ofNat ((ixor .u8 (M[i].toNat : Int) 255)).toNat))) ?_).trans (ih (i + 1) _ (by simp [h1]) (by omega))
    unfold law20_SipOwn_p87b
    simp only
    have z1 : decide ((0 : Int) ≤ (i : Int)) = true := decide_eq_true (by omega)
    have z2 : decide ((i : Int) < (M.length : Int)) = true := decide_eq_true (by omega)
    rw [bif_dec (show (i : Int) < (n : Int) by omega), Int.toNat_natCast, List.getElem?_eq_getElem hi]
    simp only [z1, z2, cond_true, Option.bind_some]
    rw [e1]
theorem spoil_asks (a b : By) {n : Nat} (hn : n ≤ 1048576) : ∀ k i (M : List Ask), M.length = n → i + k = n → law20_SipOwn_p351 (a, b, (n : Int), (i : Int), M) = some (a, b) := by
  intro k
  induction k with
  | zero =>
    intro i M h1 h2
    unfold law20_SipOwn_p351
    refine iter_end ?_
    unfold law20_SipOwn_p351b
    rw [bif_ndec (by simp only; omega)]
  | succ k ih =>
    intro i M h1 h2
    have hi : i < M.length := by omega
    have e1 : IntKind.i64.wrap ((i : Int) + 1) = ((i + 1 : Nat) : Int) := by rw [wrap_i64 (by omega) (by omega)]; omega
    unfold law20_SipOwn_p351
    refine (iter_go (s' := (a, b, (n : Int), ((i + 1 : Nat) : Int), M.set i (0, (0, 0, 0), 0))) ?_).trans (ih (i + 1) _ (by simp [h1]) (by omega))
    unfold law20_SipOwn_p351b
    simp only
    rw [bif_dec (by omega), bif_dec (by omega), bif_dec (by omega), Int.toNat_natCast, List.getElem?_eq_getElem hi]
    simp only [Option.bind_some]
    rw [e1]
theorem sipOwn_ok (y0 : By) (k0 : okT (.sl .u8) y0 ∧ bulkT (.sl .u8) y0 ≤ 1048576) : law20_SipOwn y0 = some true := by
  have hs := bulk_bytes k0.2
  have hb := bodyM_len y0
  have ha := asksM_len y0
  unfold law20_SipOwn
  rw [sip_Body_eq (by omega)]
  simp only [Option.bind_some, sw]
  rw [show ((0 : Int)) = ((0 : Nat) : Int) from rfl, spoil_body y0 y0 (by omega) (bodyM y0).1.length 0 _ rfl (by omega)]
  simp only [Option.bind_some]
  rw [sip_Asks_eq (by omega)]
  simp only [Option.bind_some]
  rw [spoil_asks y0 y0 (by omega) (asksM y0).length 0 _ rfl (by omega)]
  simp only [Option.bind_some]
  rw [bif_true (by simp), sip_Asks_eq (by omega), ref20_Asks_eq (by omega)]
  simp only [Option.bind_some]
  rw [same_self (by omega), alive_ok]
  rfl
end Go.Proofs.YtfaofikhabccoaaGreatDoor.Jv
