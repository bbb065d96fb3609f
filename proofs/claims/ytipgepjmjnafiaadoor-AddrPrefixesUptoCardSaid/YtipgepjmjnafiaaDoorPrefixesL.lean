/- AddrPrefixes: the law, plainly; conditions: none. -/
import Derived.Test.YtipgepjmjnafiaaDoorTextsL
namespace Go.Proofs.YtipgepjmjnafiaaDoor.Jv
open Go
set_option linter.unusedSectionVars false
set_option linter.unusedVariables false
set_option linter.unusedSimpArgs false
theorem prefixText_both {p : A3 × Int} (h : Rg p.1) : ∃ l, addr_PrefixText p = some l ∧ ref02_PrefixText p = some l := by
  obtain ⟨t, ht, ht', hl⟩ := text_both h
  unfold addr_PrefixText ref02_PrefixText
  rw [show addr_RightPrefix ((p.1.1, p.1.2.1, p.1.2.2), p.2) = some (rp p) from addr_RightPrefix_eq h, show ref02_RightPrefix ((p.1.1, p.1.2.1, p.1.2.2), p.2) = some (rp p) from ref02_RightPrefix_eq h,
    show addr_Text (p.1.1, p.1.2.1, p.1.2.2) = some t from ht, show ref02_Text (p.1.1, p.1.2.1, p.1.2.2) = some t from ht']
  simp only [Option.bind_some]
  cases hr : rp p with
  | false => exact ⟨[], rfl, rfl⟩
  | true =>
    obtain ⟨_, g2, g3, _⟩ := mA_some (of_decide_eq_true hr)
    have h16 := octN_le p.1.1
    obtain ⟨n, hn⟩ : ∃ n : Nat, p.2 = (n : Int) := ⟨p.2.toNat, by omega⟩
    have hd := d10_len n
    simp only [Bool.not_true, cond_false]
    rw [decide_eq_true (Nat.lt_of_le_of_lt (m := 1000) (show t.length + 1 ≤ 1000 by omega) (by decide)), cond_true, cond_true, hn, itoa_digs (by omega), digits10 (by omega)]
    simp only [Option.bind_some]
    rw [decide_eq_true (Nat.lt_of_le_of_lt (m := 1000) (show (t ++ ([47] : By)).length + (digs 10 20 n).length ≤ 1000 by simp only [List.length_append, List.length_cons, List.length_nil]; omega) (by decide))]
    exact ⟨_, rfl, rfl⟩
theorem fromA_cases (b : By) : fromA b = errA ∨ ((fromA b).2 = 0 ∧ Rg (fromA b).1) := by
  unfold fromA
  split
  · rename_i h
    right
    have := val_lt b
    rw [h] at this
    refine ⟨rfl, ⟨?_, ?_, ?_, ?_⟩⟩ <;> simp only <;> omega
  · split
    · rename_i h4 h16
      right
      have h1 := val_lt (b.take 8)
      have h2 := val_lt (b.drop 8)
      rw [show (b.take 8).length = 8 by simp; omega] at h1
      rw [show (b.drop 8).length = 8 by simp; omega] at h2
      refine ⟨rfl, ⟨?_, ?_, ?_, ?_⟩⟩ <;> simp only <;> omega
    · exact .inl rfl
theorem parseM_cases (s : By) : parseM s = errA ∨ ((parseM s).2 = 0 ∧ Rg (parseM s).1) := by
  unfold parseM
  split
  · unfold sixM
    split
    · split
      · split
        · exact .inl rfl
        · exact fromA_cases _
      · split
        · exact fromA_cases _
        · exact .inl rfl
    · exact .inl rfl
  · unfold fourM
    split
    · split
      · exact fromA_cases _
      · exact .inl rfl
    · exact .inl rfl
/-- A cut at a sign, and the parts between such signs. -/
theorem cut_one (s : By) (c : UInt8) : (Lib.cut s [c] = (s, [], false) ∧ spl c s = [s]) ∨ ∃ l r, Lib.cut s [c] = (l, r, true) ∧ spl c s = l :: spl c r ∧ l.length ≤ s.length ∧ r.length ≤ s.length := by
  rcases ixb s c with ⟨h1, h2⟩ | ⟨i, h1, h2, h3, h4⟩
  · left
    refine ⟨?_, spl_none h2⟩
    unfold Lib.cut
    rw [Lib.index_one, h1, if_neg (by decide)]
  · right
    refine ⟨s.take i, s.drop (i + 1), ?_, ?_, by simp; omega, by simp⟩
    · unfold Lib.cut
      rw [Lib.index_one, h1, if_pos (by omega)]
      rfl
    · conv => lhs; rw [h3, spl_app, spl_none h4]
      rfl
theorem mem_of_spl {c : UInt8} {s : By} (h : 2 ≤ (spl c s).length) : c ∈ s := by
  by_cases hc : c ∈ s
  · exact hc
  · rw [spl_none hc] at h
    simp at h
theorem one_of_spl {c : UInt8} {s : By} (h : ¬ 2 ≤ (spl c s).length) : spl c s = [s] := by
  by_cases hc : c ∈ s
  · exfalso
    rcases ixb s c with ⟨h1, h2⟩ | ⟨i, h1, h2, h3, h4⟩
    · exact h2 hc
    · rw [h3, spl_app, spl_none h4] at h
      have := spl_ne c (s.drop (i + 1))
      cases hq : spl c (s.drop (i + 1)) with
      | nil => exact this hq
      | cons a b => rw [hq] at h; simp at h
  · exact spl_none hc
abbrev errP : ((Int × Int × Int) × Int) × Int := (((0, 0, 0), 0), 1)
theorem parsePrefix_both {s : By} (hs : s.length ≤ 1048576) : ∃ r, addr_ParsePrefix s = some r ∧ ref02_ParsePrefix s = some r := by
  unfold addr_ParsePrefix ref02_ParsePrefix strings_Cut
  rw [decide_eq_true (show s.length < 4294967281 by omega), ref_Split_eq hs]
  simp only [cond_true, Option.bind_some]
  have bits : ∀ a : A3, addr_bits a = ref02_Size a.1 := fun a => rfl
  rcases cut_one s 47 with ⟨h1, h2⟩ | ⟨l, r, h1, h2, hl, hr⟩
  · rw [h1, h2]
    simp only [List.getElem?_cons_zero, Option.bind_some]
    rw [addr_Parse_eq hs, ref_Parse_eq hs]
    simp only [Option.bind_some]
    unfold ref02_ParsePrefix_p23
    rcases parseM_cases s with e | ⟨e, hg⟩
    · rw [e]
      exact ⟨errP, rfl, rfl⟩
    · rw [e]
      simp only [show ((0 : Int) != 0) = false from rfl, cond_false]
      rw [bif_ndec (by simp)]
      simp only [Option.bind_some, Sum.elim_inl]
      rw [show (((([s] : List By).length : Nat) : Int) == 2) = false from rfl]
      simp only [cond_false]
      rw [show addr_bits ((parseM s).1.1, (parseM s).1.2.1, (parseM s).1.2.2) = ref02_Size (parseM s).1.1 from rfl]
      cases hz : ref02_Size (parseM s).1.1 with
      | none => unfold ref02_Size at hz; cases hq : ((parseM s).1.1 == 4) <;> rw [hq] at hz <;> cases hz
      | some z =>
        simp only [Option.bind_some]
        rw [show addr_RightPrefix (((parseM s).1.1, (parseM s).1.2.1, (parseM s).1.2.2), z) = some (rp ((parseM s).1, z)) from addr_RightPrefix_eq (p := ((parseM s).1, z)) hg, show ref02_RightPrefix (((parseM s).1.1, (parseM s).1.2.1, (parseM s).1.2.2), z) = some (rp ((parseM s).1, z)) from ref02_RightPrefix_eq (p := ((parseM s).1, z)) hg]
        simp only [Option.bind_some]
        cases rp ((parseM s).1, z) <;> exact ⟨_, rfl, rfl⟩
  · rw [h1, h2]
    simp only [List.getElem?_cons_zero, Option.bind_some]
    rw [addr_Parse_eq (s := l) (by omega), ref_Parse_eq (s := l) (by omega)]
    simp only [Option.bind_some]
    unfold ref02_ParsePrefix_p23
    rcases parseM_cases l with e | ⟨e, hg⟩
    · rw [e]
      exact ⟨errP, rfl, rfl⟩
    · rw [e]
      simp only [show ((0 : Int) != 0) = false from rfl, cond_false]
      obtain ⟨x, hx, hv⟩ := addr_dec (s := r) (by omega) (m := 128) (by omega)
      have hx' : addr_decimal r 128 = _ := hx
      cases hz : ref02_Size (parseM l).1.1 with
      | none => unfold ref02_Size at hz; cases hq : ((parseM l).1.1 == 4) <;> rw [hq] at hz <;> cases hz
      | some z =>
        rw [show addr_bits ((parseM l).1.1, (parseM l).1.2.1, (parseM l).1.2.2) = some z from hz]
        simp only [Option.bind_some, cond_true]
        rw [hx']
        by_cases h2' : 2 ≤ (spl 47 r).length
        · have hm : decM 128 r = none := by
            unfold decM
            split
            · rfl
            · exact refN_bad 0 ⟨47, mem_of_spl h2', by decide⟩
          rw [hm, bif_dec (by simp; omega)]
          exact ⟨errP, rfl, rfl⟩
        · rw [one_of_spl h2', bif_ndec (by simp)]
          obtain ⟨x2, hx2, hv2⟩ := ref_dec (s := r) (by omega) (m := 128) (by omega) (by omega)
          have hx2' : ref02_Number r 10 128 = _ := hx2
          simp only [Option.bind_some, Sum.elim_inl]
          rw [hz]
          simp only [Option.bind_some]
          rw [show (((([l, r] : List By).length : Nat) : Int) == 2) = true from rfl]
          simp only [cond_true, List.getElem?_cons_succ, List.getElem?_cons_zero, Option.bind_some]
          rw [hx2']
          simp only [Option.bind_some]
          cases hm : decM 128 r with
          | none => exact ⟨errP, rfl, rfl⟩
          | some n =>
            have e1 := hv n hm
            have e2 := hv2 n hm
            subst e1
            subst e2
            simp only [Option.isSome_some, Bool.not_true, cond_false]
            rw [show addr_RightPrefix (((parseM l).1.1, (parseM l).1.2.1, (parseM l).1.2.2), (n : Int)) = some (rp ((parseM l).1, (n : Int))) from addr_RightPrefix_eq (p := ((parseM l).1, (n : Int))) hg, show ref02_RightPrefix (((parseM l).1.1, (parseM l).1.2.1, (parseM l).1.2.2), (n : Int)) = some (rp ((parseM l).1, (n : Int))) from ref02_RightPrefix_eq (p := ((parseM l).1, (n : Int))) hg]
            simp only [Option.bind_some]
            cases rp ((parseM l).1, (n : Int)) <;> exact ⟨_, rfl, rfl⟩
theorem addrPrefixes_ok (y0 : A3 × Int) (y1 : By) (k0 : okT (.pair tA (.int .i64)) y0 ∧ bulkT (.pair tA (.int .i64)) y0 ≤ 1048576) (k1 : okT .str y1 ∧ bulkT .str y1 ≤ 1048576) : law02_AddrPrefixes y0 y1 = some true := by
  have r0 := rg_ok k0.1.1
  have hs : y1.length ≤ 1048576 := by
    have : y1.length + 1 ≤ 1048576 := k1.2
    omega
  obtain ⟨l, hl, hl'⟩ := prefixText_both r0
  obtain ⟨r, hr, hr'⟩ := parsePrefix_both hs
  unfold law02_AddrPrefixes
  rw [hr, hr', show addr_PrefixText ((y0.1.1, y0.1.2.1, y0.1.2.2), y0.2) = some l from hl, show ref02_PrefixText ((y0.1.1, y0.1.2.1, y0.1.2.2), y0.2) = some l from hl']
  simp only [Option.bind_some, beq_self_eq_true, cond_true, Bool.and_self]
  rfl
end Go.Proofs.YtipgepjmjnafiaaDoor.Jv
