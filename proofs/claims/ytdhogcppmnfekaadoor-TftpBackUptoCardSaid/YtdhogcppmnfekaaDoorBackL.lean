/- TftpBack, plainly; conditions: none. -/
import Derived.Test.YtdhogcppmnfekaaDoorTftp5
namespace Go.Proofs.YtdhogcppmnfekaaDoor.Jv
open Go
set_option linter.unusedVariables false
set_option linter.unusedSimpArgs false
theorem xor32 : ∀ k : Fin 26, ixor .u8 ((65 + k.val + 32 : Nat) : Int) ((65 + k.val : Nat) : Int) = 32 := by decide +kernel
/-- Two rows that are alike but for the sizes of letters in the middle. -/
theorem mid_get (a m z : By) (i : Nat) {x y : UInt8} (hx : (a ++ (m.map lowB ++ z))[i]? = some x) (hy : (a ++ (m ++ z))[i]? = some y) : x = y ∨ (a.length ≤ i ∧ i < a.length + m.length ∧ x = lowB y) := by
  rw [List.getElem?_append] at hx hy
  by_cases h1 : i < a.length
  · rw [if_pos h1] at hx hy
    rw [hx] at hy
    cases hy
    exact .inl rfl
  · rw [if_neg h1] at hx hy
    rw [List.getElem?_append, List.length_map] at hx
    rw [List.getElem?_append] at hy
    by_cases h2 : i - a.length < m.length
    · rw [if_pos h2] at hx hy
      rw [List.getElem?_map, hy] at hx
      cases hx
      exact .inr ⟨by omega, by omega, rfl⟩
    · rw [if_neg h2] at hx hy
      rw [hx] at hy
      cases hy
      exact .inl rfl
theorem back_loop (w : Bool) (n m : By) (o : Ops) (a m0 z : By) (ha : a.length = 2 + n.length + 1) (hm : m0.length = m.length) (hl : (a ++ (m0 ++ z)).length ≤ 4194304) : ∀ (k i : Nat), i + k = (a ++ (m0 ++ z)).length →
    law19_TftpBack_p1407 (a ++ (m0 ++ z), ((a ++ (m0.map lowB ++ z)).length : Int), (i : Int), w, n, m, a ++ (m0.map lowB ++ z), o) = some (.inl ()) := by
  have hlen : (a ++ (m0.map lowB ++ z)).length = (a ++ (m0 ++ z)).length := by simp
  have hl' := hl
  simp only [List.length_append] at hl'
  intro k
  induction k with
  | zero =>
    intro i hi
    refine iter_end ?_
    unfold law19_TftpBack_p1407b
    simp only [hlen, ndlt (show ¬ i < (a ++ (m0 ++ z)).length by omega), cond_false]
  | succ k ih =>
    intro i hi
    have hlt : i < (a ++ (m0 ++ z)).length := by omega
    have hg : (a ++ (m0 ++ z))[i]? = some ((a ++ (m0 ++ z))[i]'hlt) := List.getElem?_eq_getElem hlt
    have hg' : (a ++ (m0.map lowB ++ z))[i]? = some ((a ++ (m0.map lowB ++ z))[i]'(by omega)) := List.getElem?_eq_getElem (by omega)
    have hmid := mid_get a m0 z i hg' hg
    generalize (a ++ (m0 ++ z))[i]'hlt = y at hg hmid
    generalize (a ++ (m0.map lowB ++ z))[i]'(by omega) = x at hg' hmid
    have key : law19_TftpBack_p1407b (a ++ (m0 ++ z), ((a ++ (m0.map lowB ++ z)).length : Int), (i : Int), w, n, m, a ++ (m0.map lowB ++ z), o) = some (.inl (a ++ (m0 ++ z), ((a ++ (m0.map lowB ++ z)).length : Int), ((i + 1 : Nat) : Int), w, n, m, a ++ (m0.map lowB ++ z), o)) := by
      unfold law19_TftpBack_p1407b
      simp only [hlen, dlt hlt, d0, cond_true, Int.toNat_natCast, hg, hg', Option.bind_some, wrapS (show i < 4611686018427387904 by omega)]
      by_cases hxy : x = y
      · subst hxy
        rw [show ((x.toNat : Int) != (x.toNat : Int)) = false from by simp]
        rfl
      · rcases hmid with h | ⟨h1, h2, h3⟩
        · exact absurd h hxy
        · have hne : ((x.toNat : Int) != (y.toNat : Int)) = true := by
            simp only [bne_iff_ne, ne_eq, Int.natCast_inj]
            exact fun e => hxy (UInt8.toNat_inj.1 e)
          have hy : 65 ≤ y.toNat ∧ y.toNat ≤ 90 := Classical.byContradiction fun hn => hxy (by rw [h3]; unfold lowB; rw [if_neg hn])
          have hx : x.toNat = y.toNat + 32 := by rw [h3, lowB_nat, if_pos hy]
          have h32 : ixor .u8 (x.toNat : Int) (y.toNat : Int) = 32 := by
            have := xor32 ⟨y.toNat - 65, by omega⟩
            simp only at this
            rw [show 65 + (y.toNat - 65) = y.toNat from by omega] at this
            rw [hx]
            exact this
          rw [hne, h32, show ((32 : Int) != 32) = false from rfl]
          rw [wrap_i64 (x := 2 + (n.length : Int)) (by omega) (by omega), wrap_i64 (x := 2 + (n.length : Int) + 1) (by omega) (by omega), wrap_i64 (x := 2 + (n.length : Int) + 1 + (m.length : Int)) (by omega) (by omega)]
          rw [show decide ((i : Int) < 2 + (n.length : Int) + 1) = false from decide_eq_false (by omega), show decide ((i : Int) > 2 + (n.length : Int) + 1 + (m.length : Int)) = false from decide_eq_false (by omega)]
          rfl
    exact (iter_go key).trans (ih (i + 1) (by omega))
theorem tftpBack_ok (y0 : T (.pair .bool (.pair .str (.pair .str (.sl (.pair .str .str)))))) (y1 : List UInt8) (k0 : okT (.pair .bool (.pair .str (.pair .str (.sl (.pair .str .str))))) y0 ∧ bulkT (.pair .bool (.pair .str (.pair .str (.sl (.pair .str .str))))) y0 ≤ 1048576)
    (k1 : okT (.sl .u8) y1 ∧ bulkT (.sl .u8) y1 ≤ 1048576) : law19_TftpBack y0 y1 = some true := by
  have h := bulk_rq k0.2
  have hd := bulk_bytes k1.2
  have hl : (y0 : Rq).2.2.2.length ≤ sizeR y0 := by
    have := sizeO_len (y0 : Rq).2.2.2
    unfold sizeR
    omega
  unfold law19_TftpBack
  rw [theirs_eq (r := y0) (by omega)]
  simp only [Option.bind_some]
  have hx : ∃ z : Bool × By, tftp_Build y0 = some z ∧ law19_TftpBack_p11 (y1, z.1, (y0 : Rq).1, (y0 : Rq).2.1, (y0 : Rq).2.2.1, (y0 : Rq).2.2.2, z.2) = some (.inl y1) := by
    rw [tbuild_eq (r := y0) (by omega)]
    refine ⟨_, rfl, ?_⟩
    unfold law19_TftpBack_p11
    cases hb : mkRq y0 with
    | none => rfl
    | some b =>
      obtain ⟨h1, h2⟩ := mkRq_some hb
      have hlen := buildB_len y0
      rw [← h2] at hlen
      simp only [cond_true]
      rw [tparse_eq (by omega), h2, h1]
      simp only [Option.bind_some, Bool.not_true, cond_false]
      rw [ours_eq (r := ((y0 : Rq).1, (y0 : Rq).2.1, (y0 : Rq).2.2.1, (y0 : Rq).2.2.2)) (by simp only; omega)]
      simp only [Option.bind_some]
      rw [rsame_eq (by simp only; omega), beq_self_eq_true]
      rfl
  obtain ⟨z, hz, h11⟩ := hx
  rw [hz]
  simp only [Option.bind_some]
  rw [h11]
  simp only [Option.bind_some, Sum.elim_inl]
  rw [tparse_eq (by omega)]
  simp only [Option.bind_some]
  cases hp : parseS y1 with
  | none => rfl
  | some r =>
    obtain ⟨m0, hs⟩ := parseS_shape hp
    have hb := parseS_build hs
    have hlen := buildB_len r
    have hml : m0.length = r.2.2.1.length := by rw [← hs.low, List.length_map]
    have e1 : y1 = (0 :: (if r.1 then 2 else 1) :: (r.2.1 ++ [0])) ++ (m0 ++ 0 :: optsB r.2.2.2) := by rw [hs.eq]; simp
    have e2 : buildB r = (0 :: (if r.1 then 2 else 1) :: (r.2.1 ++ [0])) ++ (m0.map lowB ++ 0 :: optsB r.2.2.2) := by rw [hs.low]; simp [buildB, headB]
    have e3 : (buildB r).length = y1.length := by rw [e1, e2]; simp
    simp only [Bool.not_true, cond_false]
    rw [tbuild_eq (r := (r.1, r.2.1, r.2.2.1, r.2.2.2)) (by show sizeR r ≤ _; omega)]
    rw [show mkRq (r.1, r.2.1, r.2.2.1, r.2.2.2) = some (buildB r) from mkRq_of hb]
    simp only [Option.bind_some]
    unfold law19_TftpBack_p191
    rw [e3]
    simp only [Bool.not_true, cond_false, bne_self_eq_false, Option.bind_some, Sum.elim_inl]
    have hloop := back_loop r.1 r.2.1 r.2.2.1 r.2.2.2 (0 :: (if r.1 then 2 else 1) :: (r.2.1 ++ [0])) m0 (0 :: optsB r.2.2.2) (by simp; omega) hml (by rw [← e1]; omega) y1.length 0 (by rw [← e1]; simp)
    rw [← e1, ← e2, show ((0 : Nat) : Int) = 0 from rfl] at hloop
    rw [hloop]
    rfl
end Go.Proofs.YtdhogcppmnfekaaDoor.Jv
