/- AddrBack: the law, plainly; conditions: none. -/
import Derived.Test.YtipgepjmjnafiaaDoorTextsL
namespace Go.Proofs.YtipgepjmjnafiaaDoor.Jv
open Go
set_option linter.unusedSectionVars false
set_option linter.unusedVariables false
set_option linter.unusedSimpArgs false
theorem row_len : ∀ a b c d e f g h : Bool, (let A := bestZ [a, b, c, d, e, f, g, h] 8 0 0 0; decide (A.2 < 2) || zrL ([a, b, c, d, e, f, g, h].drop A.1.toNat) == A.2) = true := by decide +kernel
theorem zrL_rep : ∀ (q : List Bool), q.take (zrL q) = List.replicate (zrL q) true
  | true :: l => by
    simp only [zrL, List.take_succ_cons, List.replicate_succ]
    rw [zrL_rep l]
  | false :: l => by simp [zrL]
  | [] => by simp [zrL]
theorem D_not {gs : List Nat} {c : UInt8} (hc : hexC c = false) : ∀ y ∈ D gs, c ∉ y := fun y hy => by
  obtain ⟨n, _, rfl⟩ := List.mem_map.1 hy
  exact hex_not hc (digs_hex (by decide) (by decide) 4 n)
theorem D_ne {gs : List Nat} : ∀ y ∈ D gs, y ≠ [] := fun y hy => by
  obtain ⟨n, _, rfl⟩ := List.mem_map.1 hy
  exact digs_ne 16 3 n
theorem D_zero {gs : List Nat} {n m : Nat} (h : ((P0 gs).drop n).take m = List.replicate m true) : ((D gs).drop n).take m = List.replicate m [48] := by
  have h2 : (((gs.drop n).take m).map fun x => decide (x = 0)) = List.replicate m true := by
    rw [← h, P0, ← List.map_drop, ← List.map_take]
  rw [D, ← List.map_drop, ← List.map_take]
  have hlen := congrArg List.length h2
  simp only [List.length_map, List.length_replicate] at hlen
  refine List.eq_replicate_iff.2 ⟨by rw [List.length_map, hlen], fun y hy => ?_⟩
  obtain ⟨x, hx, rfl⟩ := List.mem_map.1 hy
  have h3 : decide (x = 0) ∈ (((gs.drop n).take m).map fun x => decide (x = 0)) := List.mem_map.2 ⟨x, hx, rfl⟩
  rw [h2] at h3
  have h4 := List.eq_of_mem_replicate h3
  have : x = 0 := of_decide_eq_true h4
  subst this
  rfl
theorem joinB_mem {c : UInt8} : ∀ {l : List (List UInt8)} {x : UInt8}, x ∈ joinB [c] l → x = c ∨ ∃ y ∈ l, x ∈ y
  | [], x, h => by simp [joinB] at h
  | [y], x, h => .inr ⟨y, by simp, h⟩
  | y :: z :: l, x, h => by
    rw [joinB] at h
    rcases List.mem_append.1 h with h | h
    · exact .inr ⟨y, by simp, h⟩
    · rcases List.mem_append.1 h with h | h
      · exact .inl (by simpa using h)
      · rcases joinB_mem h with h | ⟨u, hu, hx⟩
        · exact .inl h
        · exact .inr ⟨u, List.mem_cons_of_mem _ hu, hx⟩
/-! ### Where two colons stand -/
def gd : By → Bool
  | [] => true
  | [c] => c != 58
  | c :: d :: l => (c != 58 || d != 58) && gd (d :: l)
theorem pre_two (c d : UInt8) (l : By) : ([58, 58] : By).isPrefixOf (c :: d :: l) = (decide (c = 58) && decide (d = 58)) := by
  simp only [List.isPrefixOf, Bool.and_true]
  congr 1
  · rw [Bool.eq_iff_iff, beq_iff_eq, decide_eq_true_eq]; exact eq_comm
  · rw [Bool.eq_iff_iff, beq_iff_eq, decide_eq_true_eq]; exact eq_comm
theorem index_gd : ∀ (x r : By), gd x = true → Lib.index (x ++ 58 :: 58 :: r) colons = (x.length : Int)
  | [], r, _ => by
    show Lib.index (58 :: 58 :: r) [58, 58] = 0
    unfold Lib.index
    rw [if_pos (by rw [pre_two]; rfl)]
  | [c], r, h => by
    have hc : c ≠ 58 := by simpa [gd] using h
    show Lib.index (c :: 58 :: 58 :: r) [58, 58] = 1
    have h0 : Lib.index (58 :: 58 :: r) [58, 58] = 0 := index_gd [] r rfl
    unfold Lib.index
    rw [if_neg (by rw [pre_two, decide_eq_false hc]; simp), h0]
    rfl
  | c :: d :: l, r, h => by
    simp only [gd, Bool.and_eq_true] at h
    have ih := index_gd (d :: l) r h.2
    show Lib.index (c :: (d :: l ++ 58 :: 58 :: r)) [58, 58] = _
    have hn : ¬ ([58, 58] : By).isPrefixOf (c :: (d :: l ++ 58 :: 58 :: r)) = true := by
      rw [List.cons_append, pre_two]
      have := h.1
      simp only [Bool.or_eq_true, bne_iff_ne, ne_eq] at this
      simp only [Bool.and_eq_true, decide_eq_true_eq]
      rintro ⟨e1, e2⟩
      rcases this with e | e
      · exact e e1
      · exact e e2
    have ih' : Lib.index (d :: l ++ 58 :: 58 :: r) [58, 58] = (((d :: l).length : Nat) : Int) := ih
    rw [Lib.index, if_neg hn, ih']
    have e2 : ((((d :: l).length : Nat) : Int) == -1) = false := by rw [beq_eq_false_iff_ne]; omega
    rw [e2]
    simp
theorem index_gd0 : ∀ (x : By), gd x = true → Lib.index x colons = -1
  | [], _ => rfl
  | [c], h => by
    show Lib.index [c] [58, 58] = -1
    unfold Lib.index
    rw [if_neg (by simp [List.isPrefixOf])]
    rfl
  | c :: d :: l, h => by
    simp only [gd, Bool.and_eq_true] at h
    have ih : Lib.index (d :: l) [58, 58] = -1 := index_gd0 (d :: l) h.2
    have hn : ¬ ([58, 58] : By).isPrefixOf (c :: d :: l) = true := by
      rw [pre_two]
      have := h.1
      simp only [Bool.or_eq_true, bne_iff_ne, ne_eq] at this
      simp only [Bool.and_eq_true, decide_eq_true_eq]
      rintro ⟨e1, e2⟩
      rcases this with e | e
      · exact e e1
      · exact e e2
    show Lib.index (c :: d :: l) [58, 58] = -1
    rw [Lib.index, if_neg hn, ih]
    rfl
theorem gd_app : ∀ (p q : By), p ≠ [] → 58 ∉ p → (∃ d l, q = d :: l ∧ d ≠ 58) → gd q = true → gd (p ++ 58 :: q) = true
  | [], q, h, _, _, _ => absurd rfl h
  | [c], q, _, h, ⟨d, l, e, hd⟩, hq => by
    subst e
    have hc : c ≠ 58 := fun e => h (by simp [e])
    show gd (c :: 58 :: d :: l) = true
    simp only [gd, Bool.and_eq_true, Bool.or_eq_true, bne_iff_ne]
    exact ⟨.inl hc, .inr hd, hq⟩
  | c :: d :: l, q, _, h, hq, hg => by
    have hc : c ≠ 58 := fun e => h (by simp [e])
    have ih := gd_app (d :: l) q (by simp) (fun e => h (by simp [List.mem_cons.1 e])) hq hg
    show gd (c :: d :: (l ++ 58 :: q)) = true
    simp only [gd, Bool.and_eq_true, Bool.or_eq_true, bne_iff_ne]
    exact ⟨.inl hc, ih⟩
theorem gd_part : ∀ (p : By), 58 ∉ p → gd p = true
  | [], _ => rfl
  | [c], h => by
    have hc : c ≠ 58 := fun e => h (by simp [e])
    simpa [gd] using hc
  | c :: d :: l, h => by
    have hc : c ≠ 58 := fun e => h (by simp [e])
    have ih := gd_part (d :: l) (fun e => h (List.mem_cons_of_mem _ e))
    simp only [gd, Bool.and_eq_true, Bool.or_eq_true, bne_iff_ne]
    exact ⟨.inl hc, ih⟩
theorem head_part {p : By} (q : By) (h : p ≠ []) (hn : 58 ∉ p) : ∃ d l, p ++ q = d :: l ∧ d ≠ 58 := by
  cases p with
  | nil => exact absurd rfl h
  | cons c l => exact ⟨c, l ++ q, rfl, fun e => hn (by simp [e])⟩
theorem gd_tj : ∀ (l : List By) (x : By), x ≠ [] → 58 ∉ x → (∀ y ∈ l, y ≠ [] ∧ 58 ∉ y) → gd (x ++ tj 58 l) = true
  | [], x, _, h, _ => by rw [tj, List.append_nil]; exact gd_part x h
  | y :: l, x, hx, h, hl => by
    have hy := hl y (by simp)
    have ih := gd_tj l y hy.1 hy.2 fun z hz => hl z (by simp [hz])
    rw [tj]
    exact gd_app x (y ++ tj 58 l) hx h (head_part _ hy.1 hy.2) ih
theorem gd_join {L : List By} (h : ∀ y ∈ L, y ≠ [] ∧ 58 ∉ y) : gd (joinB [58] L) = true := by
  cases L with
  | nil => rfl
  | cons x l =>
    rw [joinB_cons]
    exact gd_tj l x (h x (by simp)).1 (h x (by simp)).2 fun y hy => h y (by simp [hy])
/-! ### Groups of their digits -/
theorem dv_un {c : UInt8} (h : hexC c = true) : dv c = unDg c ∧ unDg c < 16 := by
  unfold hexC at h
  simp only [Bool.or_eq_true, decide_eq_true_eq] at h
  unfold dv unDg
  rcases h with h | h
  · rw [if_pos h, if_pos h.2]; omega
  · rw [if_neg (by omega), if_pos h, if_neg (by omega)]; omega
theorem fold_ge (l : By) : ∀ a, a ≤ l.foldl (fun a c => a * 16 + unDg c) a := by
  induction l with
  | nil => intro a; exact Nat.le_refl _
  | cons c l ih => intro a; exact Nat.le_trans (show a ≤ a * 16 + unDg c by omega) (ih _)
theorem refN_val : ∀ (l : By) (a : Nat), (∀ c ∈ l, hexC c = true) → l.foldl (fun a c => a * 16 + unDg c) a ≤ 65535 → refN 16 65535 a l = some (l.foldl (fun a c => a * 16 + unDg c) a)
  | [], a, _, _ => rfl
  | c :: l, a, h, hv => by
    obtain ⟨h1, h2⟩ := dv_un (h c (by simp))
    rw [List.foldl_cons] at hv ⊢
    have := fold_ge l (a * 16 + unDg c)
    unfold refN
    rw [h1, if_neg (by omega), if_neg (by omega)]
    exact refN_val l _ (fun d hd => h d (by simp [hd])) hv
theorem hexM_digs {n : Nat} (hn : n < 65536) : hexM (digs 16 4 n) = some n := by
  have h1 := digs_val (b := 16) (by decide) (by decide) 4 n hn
  have h2 := digs_len 16 4 n
  unfold hexM
  rw [if_neg (show ¬ (digs 16 4 n = [] ∨ 4 < (digs 16 4 n).length) from fun e => e.elim (digs_ne 16 3 n) (by omega))]
  unfold valD at h1
  rw [refN_val _ 0 (digs_hex (by decide) (by decide) 4 n) (by rw [h1]; omega), h1]
theorem grpM_D : ∀ (gs : List Nat), (∀ n ∈ gs, n < 65536) → grpM (gs.map (digs 16 4)) = some (gs.flatMap hb)
  | [], _ => rfl
  | n :: gs, h => by
    rw [List.map_cons, grpM, hexM_digs (h n (by simp)), grpM_D gs fun m hm => h m (by simp [hm])]
    rfl
theorem groupsM_join (gs : List Nat) (h : ∀ n ∈ gs, n < 65536) : groupsM (joinB [58] (gs.map (digs 16 4))) = some (gs.flatMap hb) := by
  cases gs with
  | nil => rfl
  | cons n gs =>
    have hne : joinB [58] ((n :: gs).map (digs 16 4)) ≠ [] := by
      rw [List.map_cons, joinB_cons]
      intro e
      exact digs_ne 16 3 n (List.append_eq_nil_iff.1 e).1
    unfold groupsM
    rw [if_neg hne, spl_join (c := 58) (l := (n :: gs).map (digs 16 4)) (by simp) (D_not (gs := n :: gs) (c := 58) rfl)]
    exact grpM_D _ h
theorem fm_len (gs : List Nat) : (gs.flatMap hb).length = 2 * gs.length := by
  induction gs with
  | nil => rfl
  | cons n gs ih => rw [List.flatMap_cons, List.length_append, ih]; simp [hb]; omega
theorem fm_zero (m : Nat) : (List.replicate m 0).flatMap hb = List.replicate (2 * m) 0 := by
  induction m with
  | zero => rfl
  | succ m ih =>
    rw [List.replicate_succ, List.flatMap_cons, ih, show 2 * (m + 1) = 2 * m + 1 + 1 by omega, List.replicate_succ, List.replicate_succ]
    rfl
theorem hb_pair (x y : UInt8) : hb (2 ^ 8 * x.toNat + y.toNat) = [x, y] := by
  have hx := x.toNat_lt
  have hy := y.toNat_lt
  unfold hb
  rw [show (2 ^ 8 * x.toNat + y.toNat) / 256 = x.toNat by omega, show (2 ^ 8 * x.toNat + y.toNat) % 256 = y.toNat by omega, ofNat_toNat8, ofNat_toNat8]
theorem fm_gs : ∀ (b : By), b.length = 16 → (gsOf b).flatMap hb = b
  | [b0, b1, b2, b3, b4, b5, b6, b7, b8, b9, b10, b11, b12, b13, b14, b15], _ => by
    show [2 ^ 8 * b0.toNat + b1.toNat, 2 ^ 8 * b2.toNat + b3.toNat, 2 ^ 8 * b4.toNat + b5.toNat, 2 ^ 8 * b6.toNat + b7.toNat, 2 ^ 8 * b8.toNat + b9.toNat, 2 ^ 8 * b10.toNat + b11.toNat, 2 ^ 8 * b12.toNat + b13.toNat, 2 ^ 8 * b14.toNat + b15.toNat].flatMap hb = _
    simp only [List.flatMap_cons, List.flatMap_nil, hb_pair]
    rfl
theorem gs_zero {gs : List Nat} {n m : Nat} (h : ((P0 gs).drop n).take m = List.replicate m true) : (gs.drop n).take m = List.replicate m 0 := by
  have h2 : (((gs.drop n).take m).map fun x => decide (x = 0)) = List.replicate m true := by
    rw [← h, P0, ← List.map_drop, ← List.map_take]
  have hlen := congrArg List.length h2
  simp only [List.length_map, List.length_replicate] at hlen
  refine List.eq_replicate_iff.2 ⟨hlen, fun x hx => ?_⟩
  have h3 : decide (x = 0) ∈ (((gs.drop n).take m).map fun x => decide (x = 0)) := List.mem_map.2 ⟨x, hx, rfl⟩
  rw [h2] at h3
  exact of_decide_eq_true (List.eq_of_mem_replicate h3)
theorem part_ok (gs : List Nat) : ∀ y ∈ gs.map (digs 16 4), y ≠ [] ∧ 58 ∉ y := fun y hy => ⟨D_ne (gs := gs) y hy, D_not (gs := gs) rfl y hy⟩
theorem parse_text6 {b : By} (hb16 : b.length = 16) : parseM (text6 (gsOf b)) = fromA b := by
  have hfm := fm_gs b hb16
  have hlt := gs_lt b
  have h8 := gs_len b
  generalize gsOf b = gs at hfm hlt h8
  have hag := agree_P h8
  have hrow : (decide ((bestZ (P0 gs) 8 0 0 0).2 < 2) || zrL ((P0 gs).drop (bestZ (P0 gs) 8 0 0 0).1.toNat) == (bestZ (P0 gs) 8 0 0 0).2) = true := by
    match gs, h8 with
    | [a, b, c, d, e, f, g, h], _ => exact row_len _ _ _ _ _ _ _ _
  unfold text6
  generalize bestZ (P0 gs) 8 0 0 0 = A at hag hrow
  obtain ⟨a, m⟩ := A
  simp only at hrow ⊢
  split
  · have hmem : 58 ∈ joinB [58] (D gs) := by
      match gs, h8 with
      | x :: y :: r, _ =>
        show 58 ∈ joinB [58] (digs 16 4 x :: digs 16 4 y :: r.map (digs 16 4))
        rw [joinB_cons, tj]
        simp
    have hix : Lib.index (joinB [58] (D gs)) colons = -1 := index_gd0 _ (gd_join (part_ok gs))
    have hcut : Lib.cut (joinB [58] (D gs)) colons = (joinB [58] (D gs), [], false) := by
      unfold Lib.cut
      rw [hix, if_neg (by decide)]
    unfold parseM sixM
    rw [if_pos hmem, hcut]
    simp only
    rw [show groupsM (joinB [58] (D gs)) = some (gs.flatMap hb) from groupsM_join gs hlt, show groupsM [] = some [] from rfl, hfm]
    simp only [Bool.false_eq_true, if_false]
    rw [if_pos hb16]
  · rename_i hm
    unfold agreeZ at hag
    simp only at hag
    rw [if_neg hm] at hag
    simp only [Bool.and_eq_true, decide_eq_true_eq] at hag
    obtain ⟨⟨⟨_, ha0⟩, ha8⟩, hm2⟩ := hag
    rw [decide_eq_false hm, Bool.false_or, beq_iff_eq] at hrow
    generalize a.toNat = n at ha8 hrow ⊢
    have hz := zrL_rep ((P0 gs).drop n)
    rw [hrow] at hz
    have hz2 := gs_zero hz
    have hX : (D gs).take n = (gs.take n).map (digs 16 4) := by rw [D, List.map_take]
    have hY : (D gs).drop (n + m) = (gs.drop (n + m)).map (digs 16 4) := by rw [D, List.map_drop]
    rw [hX, hY]
    have hgX := groupsM_join (gs.take n) fun k hk => hlt k (List.mem_of_mem_take hk)
    have hgY := groupsM_join (gs.drop (n + m)) fun k hk => hlt k (List.mem_of_mem_drop hk)
    have hgd := gd_join (part_ok (gs.take n))
    generalize joinB [58] ((gs.take n).map (digs 16 4)) = X at hgX hgd ⊢
    generalize joinB [58] ((gs.drop (n + m)).map (digs 16 4)) = Y at hgY ⊢
    rw [show X ++ [58, 58] ++ Y = X ++ 58 :: 58 :: Y by simp]
    have hix := index_gd X Y hgd
    have hcut : Lib.cut (X ++ 58 :: 58 :: Y) colons = (X, Y, true) := by
      unfold Lib.cut
      rw [hix, if_pos (by omega), Int.toNat_natCast, List.take_left' rfl, show X ++ 58 :: 58 :: Y = (X ++ [58, 58]) ++ Y by simp, List.drop_left' (by simp [colons])]
    unfold parseM sixM
    rw [if_pos (by simp), hcut]
    simp only
    rw [hgX, hgY]
    have l1 : ((gs.take n).flatMap hb).length = 2 * n := by rw [fm_len, List.length_take]; omega
    have l2 : ((gs.drop (n + m)).flatMap hb).length = 2 * (8 - (n + m)) := by rw [fm_len, List.length_drop]; omega
    simp only [if_true]
    rw [l1, l2, if_neg (by omega), show 16 - (2 * n + 2 * (8 - (n + m))) = 2 * m by omega, ← fm_zero m, ← hz2]
    have e : gs = gs.take n ++ (gs.drop n).take m ++ gs.drop (n + m) := by
      rw [List.append_assoc, show gs.drop (n + m) = (gs.drop n).drop m by rw [List.drop_drop], List.take_append_drop, List.take_append_drop]
    have e2 : gs.flatMap hb = (gs.take n).flatMap hb ++ ((gs.drop n).take m).flatMap hb ++ (gs.drop (n + m)).flatMap hb := by
      conv => lhs; rw [e]
      rw [List.flatMap_append, List.flatMap_append]
    rw [← e2, hfm]
theorem dec_tab : ∀ n : Fin 256, decM 255 (digs 10 20 n.val) = some n.val := by decide +kernel
theorem d4M_d4 : ∀ (b : By), d4M (d4 b) = some b
  | [] => rfl
  | c :: l => by
    have h : decM 255 (digs 10 20 c.toNat) = some c.toNat := dec_tab ⟨c.toNat, c.toNat_lt⟩
    show d4M (digs 10 20 c.toNat :: d4 l) = _
    rw [d4M, h, d4M_d4 l]
    simp only [Option.bind_some, ofNat_toNat8]
theorem parse_text4 {b : By} (hb4 : b.length = 4) : parseM (joinB [46] (d4 b)) = fromA b := by
  have hp : ∀ (c : UInt8), hexC c = false → ∀ y ∈ d4 b, c ∉ y := fun c hc y hy => by
    obtain ⟨x, _, rfl⟩ := List.mem_map.1 hy
    exact hex_not hc (digs_hex (by decide) (by decide) 20 _)
  have h58 : 58 ∉ joinB [46] (d4 b) := fun h => by
    rcases joinB_mem h with e | ⟨y, hy, e⟩
    · cases e
    · exact hp 58 rfl y hy e
  have hs : spl 46 (joinB [46] (d4 b)) = d4 b := spl_join (by intro e; have := congrArg List.length e; simp [d4, hb4] at this) (hp 46 rfl)
  unfold parseM fourM
  rw [if_neg h58, hs, if_pos (by simp [d4, hb4]), d4M_d4]
theorem parse_text {f : Int} {h l : Nat} (ho : okA f h l) : parseM (textA f h l) = ((f, (h : Int), (l : Int)), 0) := by
  have hlen := octs_len f h l
  rw [← from_octs ho]
  rcases ho with ⟨rfl, rfl, hl⟩ | ⟨rfl, hh, hl⟩
  · exact parse_text4 hlen
  · exact parse_text6 hlen
theorem addrBack_ok (y0 y1 : A3) (k0 : okT tA y0) (k1 : okT tA y1) : law02_AddrBack y0 y1 = some true := by
  have r0 := rg_ok k0
  have r1 := rg_ok k1
  obtain ⟨b0, hb0, _, hi0⟩ := ref02_Right_eq r0
  obtain ⟨b1, hb1, _, hi1⟩ := ref02_Right_eq r1
  unfold law02_AddrBack law02_AddrBack_p5
  simp only
  rw [show addr_Right (y0.1, y0.2.1, y0.2.2) = some b0 from hb0, show addr_Right (y1.1, y1.2.1, y1.2.2) = some b1 from hb1]
  simp only [Option.bind_some]
  cases hB0 : b0 with
  | false => rfl
  | true =>
    cases hB1 : b1 with
    | false => rfl
    | true =>
      obtain ⟨x, y, e, e1, e2, hx, hy⟩ := rg_nat r0
      obtain ⟨z, w, e', e1', e2', hz, hw⟩ := rg_nat r1
      have ho : okA y0.1 x y := by have := hi0.1 hB0; unfold okI at this; rw [e1, e2] at this; exact this
      have ho' : okA y1.1 z w := by have := hi1.1 hB1; unfold okI at this; rw [e1', e2'] at this; exact this
      have t0 : addr_Text (y0.1, y0.2.1, y0.2.2) = some (textA y0.1 x y) := by
        have := addr_Text_eq ho
        rw [← e] at this
        exact this
      have t1 : addr_Text (y1.1, y1.2.1, y1.2.2) = some (textA y1.1 z w) := by
        have := addr_Text_eq ho'
        rw [← e'] at this
        exact this
      have c0 : addr_Bytes (y0.1, y0.2.1, y0.2.2) = some (octs y0.1 x y) := by
        have := addr_Bytes_eq ho
        rw [← e] at this
        exact this
      have p0 : addr_Parse (textA y0.1 x y) = some (y0, 0) := by
        rw [addr_Parse_eq (by have := textA_len y0.1 x y; omega), parse_text ho, ← e]
      have f0 : addr_From (octs y0.1 x y) = some (y0, 0) := by
        rw [addr_From_eq, from_octs ho, ← e]
      simp only [Bool.not_true, cond_false, Option.bind_some, Sum.elim_inl]
      rw [t0, t1, c0]
      simp only [Option.bind_some]
      rw [p0, f0]
      simp only [Option.bind_some, beq_self_eq_true, Bool.and_self, cond_true]
      have key : (textA y0.1 x y == textA y1.1 z w) = sameA y0 y1 := by
        rw [sameA_iff]
        by_cases h : y0 = y1
        · have h1 : textA y0.1 x y = textA y1.1 z w := by
            have e3 : x = z := by rw [← e1, ← e1', h]
            have e4 : y = w := by rw [← e2, ← e2', h]
            rw [h, e3, e4]
          rw [h1, decide_eq_true h]
          simp
        · rw [decide_eq_false h, beq_eq_false_iff_ne]
          intro ht
          apply h
          have g1 := parse_text ho
          have g2 := parse_text ho'
          rw [ht, g2] at g1
          rw [e, e']
          exact (Prod.mk.inj g1).1.symm
      rw [key]
      rw [show ((sameA y0 y1) == ((y0.1 == y1.1) && ((y0.2.1 == y1.2.1) && ((y0.2.2 == y1.2.2) && true)))) = true from by
        show (sameA y0 y1 == sameA y0 y1) = true
        simp]
      rfl
end Go.Proofs.YtipgepjmjnafiaaDoor.Jv
