/- TftpHeads, plainly; conditions: none. -/
import Derived.Test.YtdhogcppmnfekaaDoorTftp5
namespace Go.Proofs.YtdhogcppmnfekaaDoor.Jv
open Go
set_option linter.unusedVariables false
theorem tmod_range (a : Int) {n : Nat} (hn : 0 < n) : -(n : Int) < Int.tmod a n ∧ Int.tmod a n < n := by
  have h1 := Int.natAbs_tmod a n
  have h2 : (Int.tmod a n).natAbs < n := by
    rw [h1]
    exact Nat.mod_lt _ (by omega)
  omega
theorem tftpHeads_ok (y0 : T (.pair .bool (.pair .str (.pair .str (.sl (.pair .str .str)))))) (y1 : Int) (k0 : okT (.pair .bool (.pair .str (.pair .str (.sl (.pair .str .str))))) y0 ∧ bulkT (.pair .bool (.pair .str (.pair .str (.sl (.pair .str .str))))) y0 ≤ 1048576)
    (k1 : okT (.int .i64) y1 ∧ bulkT (.int .i64) y1 ≤ 1048576) : law19_TftpHeads y0 y1 = some true := by
  have h := bulk_rq k0.2
  have hl : (y0 : Rq).2.2.2.length ≤ sizeR y0 := by
    have := sizeO_len (y0 : Rq).2.2.2
    unfold sizeR
    omega
  unfold law19_TftpHeads
  rw [theirs_eq (r := y0) (by omega)]
  simp only [Option.bind_some]
  rw [tbuild_eq (r := y0) (by omega)]
  simp only [Option.bind_some]
  cases hb : mkRq y0 with
  | none => rfl
  | some b =>
    obtain ⟨h1, h2⟩ := mkRq_some hb
    obtain ⟨m0, hs⟩ := parseS_shape h1
    have hlen := buildB_len y0
    rw [← h2] at hlen
    unfold sizeR at hlen h
    have hml : m0.length = (y0 : Rq).2.2.1.length := by rw [← hs.low, List.length_map]
    obtain ⟨n, hn⟩ : ∃ n : Nat, n = 2 + (y0 : Rq).2.1.length + 1 + (y0 : Rq).2.2.1.length + 1 := ⟨_, rfl⟩
    have hW : IntKind.i64.wrap (IntKind.i64.wrap (IntKind.i64.wrap (IntKind.i64.wrap (2 + ((y0 : Rq).2.1.length : Int)) + 1) + ((y0 : Rq).2.2.1.length : Int)) + 1) = (n : Int) := by
      rw [wrap_i64 (x := 2 + ((y0 : Rq).2.1.length : Int)) (by omega) (by omega), wrap_i64 (x := 2 + ((y0 : Rq).2.1.length : Int) + 1) (by omega) (by omega),
        wrap_i64 (x := 2 + ((y0 : Rq).2.1.length : Int) + 1 + ((y0 : Rq).2.2.1.length : Int)) (by omega) (by omega), wrap_i64 (by omega) (by omega)]
      omega
    simp only [hW, Bool.not_true, cond_false]
    obtain ⟨r1, r2⟩ := tmod_range y1 (n := n) (by omega)
    have hw2 : IntKind.i64.wrap (Int.tmod y1 (n : Int) + (n : Int)) = Int.tmod y1 (n : Int) + (n : Int) := wrap_i64 (by omega) (by omega)
    rw [hw2]
    obtain ⟨x, hx⟩ : ∃ x : Nat, Int.tmod y1 (n : Int) + (n : Int) = (x : Int) := ⟨(Int.tmod y1 (n : Int) + (n : Int)).toNat, by omega⟩
    have hm : Int.tmod ((x : Nat) : Int) (n : Int) = ((x % n : Nat) : Int) := by
      rw [Int.tmod_eq_emod_of_nonneg (by omega)]
      rfl
    rw [hx, hm]
    have hlt : x % n < n := Nat.mod_lt _ (by omega)
    rw [show decide ((n : Int) > (b.length : Int)) = false from decide_eq_false (by omega), show ((n : Int) != 0) = true from by simp; omega,
      show decide ((0 : Int) ≤ ((x % n : Nat) : Int)) = true from decide_eq_true (by omega), show decide (((x % n : Nat) : Int) ≤ (b.length : Int)) = true from decide_eq_true (by omega)]
    simp only [cond_true, cond_false, Int.toNat_natCast, Nat.sub_zero]
    rw [tparse_eq (by rw [List.length_take]; omega), h2, parseS_head hs (by omega)]
    rfl
end Go.Proofs.YtdhogcppmnfekaaDoor.Jv
