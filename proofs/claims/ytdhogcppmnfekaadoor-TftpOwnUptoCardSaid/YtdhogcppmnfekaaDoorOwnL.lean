/- TftpOwn, plainly; conditions: none. -/
import Derived.Test.YtdhogcppmnfekaaDoorTftp5
namespace Go.Proofs.YtdhogcppmnfekaaDoor.Jv
open Go
set_option linter.unusedVariables false
set_option linter.unusedSimpArgs false
theorem set_repl {α : Type} (x : α) (l : List α) (i : Nat) (h : i < l.length) : (List.replicate i x ++ l.drop i).set i x = List.replicate (i + 1) x ++ l.drop (i + 1) := by
  rw [List.set_append_right _ _ (by simp), List.length_replicate, Nat.sub_self, List.drop_eq_getElem_cons h, List.set_cons_zero, List.replicate_succ', List.append_assoc]
  rfl
theorem repl_get {α : Type} (x : α) (l : List α) (i : Nat) (h : i < l.length) : ∃ y, (List.replicate i x ++ l.drop i)[i]? = some y := by
  rw [List.getElem?_append_right (by simp), List.length_replicate, Nat.sub_self, List.drop_eq_getElem_cons h]
  exact ⟨_, rfl⟩
theorem own_loop (d s : By) (ok w : Bool) (n m : By) (l : Ops) (hl : l.length ≤ 4194304) : ∀ (k i : Nat), i + k = l.length →
    law19_TftpOwn_p87 (d, s, ok, (l.length : Int), (i : Int), w, n, m, List.replicate i ([], []) ++ l.drop i) = some (d, s, ok, w, n, m, List.replicate l.length ([], [])) := by
  intro k
  induction k with
  | zero =>
    intro i hi
    have hi' : i = l.length := by omega
    subst hi'
    rw [List.drop_length, List.append_nil]
    refine iter_end ?_
    unfold law19_TftpOwn_p87b
    simp only [ndlt (Nat.lt_irrefl _), cond_false]
  | succ k ih =>
    intro i hi
    have hlt : i < l.length := by omega
    have hlen : (List.replicate i (([], []) : By × By) ++ l.drop i).length = l.length := by simp; omega
    obtain ⟨y, hg⟩ := repl_get (([], []) : By × By) l i hlt
    have key : law19_TftpOwn_p87b (d, s, ok, (l.length : Int), (i : Int), w, n, m, List.replicate i ([], []) ++ l.drop i) = some (.inl (d, s, ok, (l.length : Int), ((i + 1 : Nat) : Int), w, n, m, List.replicate (i + 1) ([], []) ++ l.drop (i + 1))) := by
      unfold law19_TftpOwn_p87b
      simp only [hlen, dlt hlt, d0, cond_true, Int.toNat_natCast, hg, Option.bind_some, wrapS (show i < 4611686018427387904 by omega), set_repl _ _ _ hlt]
    exact (iter_go key).trans (ih (i + 1) (by omega))
theorem nine_loop (d s : By) (ok : Bool) (b : By) (hl : b.length ≤ 8388608) : ∀ (k i : Nat), i + k = b.length →
    law19_TftpOwn_p1391 (d, s, ok, (b.length : Int), (i : Int), List.replicate i 9 ++ b.drop i) = some (d, s, ok) := by
  intro k
  induction k with
  | zero =>
    intro i hi
    have hi' : i = b.length := by omega
    subst hi'
    refine iter_end ?_
    unfold law19_TftpOwn_p1391b
    simp only [ndlt (Nat.lt_irrefl _), cond_false]
  | succ k ih =>
    intro i hi
    have hlt : i < b.length := by omega
    have hlen : (List.replicate i (9 : UInt8) ++ b.drop i).length = b.length := by simp; omega
    obtain ⟨y, hg⟩ := repl_get (9 : UInt8) b i hlt
    have key : law19_TftpOwn_p1391b (d, s, ok, (b.length : Int), (i : Int), List.replicate i 9 ++ b.drop i) = some (.inl (d, s, ok, (b.length : Int), ((i + 1 : Nat) : Int), List.replicate (i + 1) 9 ++ b.drop (i + 1))) := by
      unfold law19_TftpOwn_p1391b
      simp only [hlen, dlt hlt, d0, cond_true, Int.toNat_natCast, hg, Option.bind_some, wrapS (show i < 4611686018427387904 by omega), set_repl _ _ _ hlt]
    exact (iter_go key).trans (ih (i + 1) (by omega))
theorem sizeO_repl (k : Nat) : sizeO (List.replicate k ([], [])) = 2 * k := by
  induction k with
  | zero => rfl
  | succ k ih => rw [List.replicate_succ, sizeO_cons, ih]; simp only [List.length_nil]; omega
theorem sizeO_len2 (o : Ops) : 2 * o.length ≤ sizeO o := by
  induction o with
  | nil => exact Nat.zero_le _
  | cons p o ih => rw [sizeO_cons, List.length_cons]; omega
theorem own_mid (d s : By) (ok w : Bool) (n m : By) (k : Nat) (h : n.length + m.length + 2 * k ≤ 2097148) : law19_TftpOwn_p47 (d, s, ok, w, n, m, List.replicate k ([], [])) = some (d, s, ok) := by
  have hs : sizeR (w, n, m, List.replicate k ([], [])) ≤ 2097152 := by
    unfold sizeR
    simp only [sizeO_repl]
    omega
  unfold law19_TftpOwn_p47
  rw [tbuild_eq hs]
  simp only [Option.bind_some]
  cases hb : mkRq (w, n, m, List.replicate k ([], [])) with
  | none => rfl
  | some b =>
    obtain ⟨_, h2⟩ := mkRq_some hb
    have hlen := buildB_len (w, n, m, List.replicate k ([], []))
    rw [← h2] at hlen
    simp only [cond_true]
    have hn := nine_loop d s ok b (by omega) b.length 0 (by simp)
    rw [show ((0 : Nat) : Int) = 0 from rfl] at hn
    simp only [List.replicate_zero, List.drop_zero, List.nil_append] at hn
    rw [hn]
    rfl
theorem tftpOwn_ok (y0 : List UInt8) (k0 : okT (.sl .u8) y0 ∧ bulkT (.sl .u8) y0 ≤ 1048576) : law19_TftpOwn y0 = some true := by
  have h := bulk_bytes k0.2
  unfold law19_TftpOwn
  rw [tparse_eq (by omega)]
  simp only [Option.bind_some]
  cases hp : parseS y0 with
  | none =>
    simp only
    have h1 := own_loop y0 y0 false false [] [] [] (by simp) 0 0 rfl
    rw [show ((0 : Nat) : Int) = 0 from rfl] at h1
    simp only [List.replicate_zero, List.drop_zero, List.nil_append, List.length_nil] at h1
    simp only [List.length_nil]
    rw [show ((0 : Nat) : Int) = 0 from rfl] at h1 ⊢
    rw [h1]
    simp only [Option.bind_some]
    have h2 := own_mid y0 y0 false false [] [] 0 (by simp)
    simp only [List.replicate_zero] at h2
    rw [h2]
    simp only [Option.bind_some]
    rw [tparse_eq (by omega), rparse_eq (by omega), hp]
    simp only [Option.bind_some, beq_self_eq_true, cond_true]
    rw [ours_eq (by simp)]
    simp only [Option.bind_some]
    rw [rsame_eq (by simp), beq_self_eq_true]
    rfl
  | some r =>
    obtain ⟨m0, hs⟩ := parseS_shape hp
    have hl := parseS_len hp
    have hml : m0.length = r.2.2.1.length := by rw [← hs.low, List.length_map]
    have hn := hs.name.2
    have hm := hs.okm.2
    simp only
    have h1 := own_loop y0 y0 true r.1 r.2.1 r.2.2.1 r.2.2.2 (by omega) r.2.2.2.length 0 (by simp)
    rw [show ((0 : Nat) : Int) = 0 from rfl] at h1
    simp only [List.replicate_zero, List.drop_zero, List.nil_append] at h1
    rw [h1]
    simp only [Option.bind_some]
    have hsz : 2 * r.2.2.2.length ≤ 2097140 - 256 := by
      have h2 := congrArg List.length hs.eq
      simp only [List.length_cons, List.length_append] at h2
      have h3 := optsB_len r.2.2.2
      have h4 := sizeO_len2 r.2.2.2
      omega
    rw [own_mid y0 y0 true r.1 r.2.1 r.2.2.1 r.2.2.2.length (by omega)]
    simp only [Option.bind_some]
    rw [tparse_eq (by omega), rparse_eq (by omega), hp]
    simp only [Option.bind_some, beq_self_eq_true, cond_true]
    rw [ours_eq (r := (r.1, r.2.1, r.2.2.1, r.2.2.2)) (by simp only; omega)]
    simp only [Option.bind_some]
    rw [rsame_eq (by simp only; omega), beq_self_eq_true]
    rfl
end Go.Proofs.YtdhogcppmnfekaaDoor.Jv
