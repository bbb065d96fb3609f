/- A way's text tells the way: the texts of addresses, and of ways; conditions: none. -/
import Derived.Test.YtgldfdpdjlohiaaDoorUnlike
namespace Go.Proofs.YtgldfdpdjlohiaaDoor.Jv
open Go
set_option linter.unusedSectionVars false
set_option linter.unusedVariables false
set_option linter.unusedSimpArgs false
/-! ### Eight groups out of their text -/
/-- The groups' digits out of the parts between colons. -/
def unF (F : List (List UInt8)) : List (List UInt8) :=
  if F.all (fun x => !x.isEmpty) then F
  else (F.filter (fun x => !x.isEmpty)).take (F.findIdx (fun x => x.isEmpty)) ++ List.replicate (8 - (F.filter (fun x => !x.isEmpty)).length) [48] ++ (F.filter (fun x => !x.isEmpty)).drop (F.findIdx (fun x => x.isEmpty))
def orNil (l : List (List UInt8)) : List (List UInt8) := if l = [] then [[]] else l
theorem spl_orNil {l : List (List UInt8)} (hl : ∀ y ∈ l, (58 : UInt8) ∉ y) : spl 58 (joinB [58] l) = orNil l := by
  unfold orNil
  split
  · rename_i h; subst h; rfl
  · rename_i h; exact spl_join h hl
theorem orNil_filter {l : List (List UInt8)} (hn : ∀ y ∈ l, y ≠ []) : (orNil l).filter (fun x => !x.isEmpty) = l := by
  unfold orNil
  split
  · rename_i h; subst h; rfl
  · exact List.filter_eq_self.2 fun x hx => by
      have := hn x hx
      cases x with
      | nil => exact absurd rfl this
      | cons a b => rfl
theorem findIdx_at {l : List (List UInt8)} (hn : ∀ y ∈ l, y ≠ []) (r : List (List UInt8)) : (orNil l ++ [] :: r).findIdx (fun x => x.isEmpty) = l.length := by
  unfold orNil
  split
  · rename_i h; subst h; rfl
  · rename_i h
    clear h
    induction l with
    | nil => rfl
    | cons x l ih =>
      have hx := hn x (by simp)
      rw [List.cons_append, List.findIdx_cons]
      have e : x.isEmpty = false := by
        cases x with
        | nil => exact absurd rfl hx
        | cons a b => rfl
      rw [e, cond_false, ih fun y hy => hn y (by simp [hy])]
      simp
theorem unF_row {l r : List (List UInt8)} (hl : ∀ y ∈ l, y ≠ []) (hr : ∀ y ∈ r, y ≠ []) : unF (orNil l ++ [] :: orNil r) = l ++ List.replicate (8 - (l.length + r.length)) [48] ++ r := by
  have e1 : (orNil l ++ [] :: orNil r).all (fun x => !x.isEmpty) = false := by simp
  have e2 : (orNil l ++ [] :: orNil r).filter (fun x => !x.isEmpty) = l ++ r := by
    rw [List.filter_append, List.filter_cons_of_neg (by simp), orNil_filter hl, orNil_filter hr]
  unfold unF
  rw [e1, if_neg (by decide), e2, findIdx_at hl, List.take_left' rfl, List.drop_left' rfl, List.length_append]
theorem row_len : ∀ a b c d e f g h : Bool, (let A := bestZ [a, b, c, d, e, f, g, h] 8 0 0 0; decide (A.2 < 2) || zrL ([a, b, c, d, e, f, g, h].drop A.1.toNat) == A.2) = true := by decide +kernel
theorem zrL_rep : ∀ (q : List Bool), q.take (zrL q) = List.replicate (zrL q) true
  | true :: l => by
    simp only [zrL, List.take_succ_cons, List.replicate_succ]
    rw [zrL_rep l]
  | false :: l => by simp [zrL]
  | [] => by simp [zrL]
theorem D_not {gs : List Nat} {c : UInt8} (hc : hexC c = false) : ∀ y ∈ D gs, c ∉ y := fun y hy => by
  obtain ⟨n, _, rfl⟩ := List.mem_map.1 hy
  exact hex_not hc (digs_hex (by decide) (by decide) 4 n)
theorem D_ne {gs : List Nat} : ∀ y ∈ D gs, y ≠ [] := fun y hy => by
  obtain ⟨n, _, rfl⟩ := List.mem_map.1 hy
  exact digs_ne 16 3 n
theorem D_zero {gs : List Nat} {n m : Nat} (h : ((P0 gs).drop n).take m = List.replicate m true) : ((D gs).drop n).take m = List.replicate m [48] := by
  have h2 : (((gs.drop n).take m).map fun x => decide (x = 0)) = List.replicate m true := by
    rw [← h, P0, ← List.map_drop, ← List.map_take]
  rw [D, ← List.map_drop, ← List.map_take]
  have hlen := congrArg List.length h2
  simp only [List.length_map, List.length_replicate] at hlen
  refine List.eq_replicate_iff.2 ⟨by rw [List.length_map, hlen], fun y hy => ?_⟩
  obtain ⟨x, hx, rfl⟩ := List.mem_map.1 hy
  have h3 : decide (x = 0) ∈ (((gs.drop n).take m).map fun x => decide (x = 0)) := List.mem_map.2 ⟨x, hx, rfl⟩
  rw [h2] at h3
  have h4 := List.eq_of_mem_replicate h3
  have : x = 0 := of_decide_eq_true h4
  subst this
  rfl
theorem text6_D {gs : List Nat} (h8 : gs.length = 8) : unF (spl 58 (text6 gs)) = D gs := by
  have hD : (D gs).length = 8 := by simp [D, h8]
  have hag := agree_P h8
  have hrow : (decide ((bestZ (P0 gs) 8 0 0 0).2 < 2) || zrL ((P0 gs).drop (bestZ (P0 gs) 8 0 0 0).1.toNat) == (bestZ (P0 gs) 8 0 0 0).2) = true := by
    match gs, h8 with
    | [a, b, c, d, e, f, g, h], _ => exact row_len _ _ _ _ _ _ _ _
  unfold text6
  generalize bestZ (P0 gs) 8 0 0 0 = A at hag hrow
  obtain ⟨a, m⟩ := A
  simp only at hrow ⊢
  split
  · rw [spl_join (by intro h; rw [h] at hD; cases hD) (D_not rfl)]
    unfold unF
    rw [if_pos]
    simp only [List.all_eq_true]
    intro x hx
    have := D_ne x hx
    cases x with
    | nil => exact absurd rfl this
    | cons a b => rfl
  · rename_i hm
    unfold agreeZ at hag
    simp only at hag
    rw [if_neg hm] at hag
    simp only [Bool.and_eq_true, decide_eq_true_eq] at hag
    obtain ⟨⟨⟨_, ha0⟩, ha8⟩, _⟩ := hag
    rw [decide_eq_false hm, Bool.false_or, beq_iff_eq] at hrow
    generalize a.toNat = n at ha8 hrow ⊢
    have hz := zrL_rep ((P0 gs).drop n)
    rw [hrow] at hz
    have hz2 := D_zero hz
    have hl : ∀ y ∈ (D gs).take n, y ≠ [] := fun y hy => D_ne y (List.mem_of_mem_take hy)
    have hr : ∀ y ∈ (D gs).drop (n + m), y ≠ [] := fun y hy => D_ne y (List.mem_of_mem_drop hy)
    rw [List.append_assoc, show ([58, 58] : List UInt8) ++ joinB [58] ((D gs).drop (n + m)) = 58 :: 58 :: joinB [58] ((D gs).drop (n + m)) from rfl, spl_app, show (58 :: joinB [58] ((D gs).drop (n + m))) = [] ++ 58 :: joinB [58] ((D gs).drop (n + m)) from rfl, spl_app,
      spl_orNil fun y hy => D_not rfl y (List.mem_of_mem_take hy), spl_orNil fun y hy => D_not rfl y (List.mem_of_mem_drop hy), show spl 58 [] = [[]] from rfl, List.singleton_append, unF_row hl hr]
    have e1 : 8 - (((D gs).take n).length + ((D gs).drop (n + m)).length) = m := by simp only [List.length_take, List.length_drop]; omega
    rw [e1, ← hz2, List.append_assoc]
    have e2 : (D gs).drop (n + m) = ((D gs).drop n).drop m := by rw [List.drop_drop]
    rw [e2, List.take_append_drop, List.take_append_drop]
theorem D_inj {gs gs' : List Nat} (h : ∀ n ∈ gs, n < 65536) (h' : ∀ n ∈ gs', n < 65536) (e : D gs = D gs') : gs = gs' := by
  have key : ∀ gs : List Nat, (∀ n ∈ gs, n < 65536) → (D gs).map (valD 16) = gs := fun gs h => by
    rw [D, List.map_map]
    conv => rhs; rw [← List.map_id gs]
    exact List.map_congr_left fun n hn => digs_val (by decide) (by decide) 4 n (h n hn)
  rw [← key gs h, ← key gs' h', e]
theorem textA_inj6 {h l h' l' : Nat} (hh : h < 18446744073709551616) (hl : l < 18446744073709551616) (hh' : h' < 18446744073709551616) (hl' : l' < 18446744073709551616) (e : text6 (gsOf (octs 6 h l)) = text6 (gsOf (octs 6 h' l'))) : h = h' ∧ l = l' := by
  have e1 := congrArg (fun s => unF (spl 58 s)) e
  simp only [text6_D (gs_len _)] at e1
  have e2 := D_inj (gs_lt _) (gs_lt _) e1
  exact octs6_inj hh hl hh' hl' (gsOf_inj (by simp [octs, octN]) (by simp [octs, octN]) e2)
theorem textA_inj4 {l l' : Nat} (hl : l < 4294967296) (hl' : l' < 4294967296) (e : joinB [46] (d4 (octs 4 0 l)) = joinB [46] (d4 (octs 4 0 l'))) : l = l' := by
  have hnot : ∀ b : List UInt8, ∀ y ∈ d4 b, (46 : UInt8) ∉ y := fun b y hy => by
    obtain ⟨n, _, rfl⟩ := List.mem_map.1 hy
    exact hex_not rfl (digs_hex (by decide) (by decide) 20 _)
  have hne : ∀ l, d4 (octs 4 0 l) ≠ [] := fun l h => by
    have := congrArg List.length h
    simp [d4, octs, octN] at this
  have e1 := congrArg (spl 46) e
  rw [spl_join (hne l) (hnot _), spl_join (hne l') (hnot _)] at e1
  have key : ∀ b : List UInt8, (d4 b).map (valD 10) = b.map (·.toNat) := fun b => by
    rw [d4, List.map_map]
    exact List.map_congr_left fun x _ => digs_val (by decide) (by decide) 20 x.toNat (by have := x.toNat_lt; omega)
  have e2 := congrArg (List.map (valD 10)) e1
  rw [key, key] at e2
  have e3 : octs 4 0 l = octs 4 0 l' := by
    have h2 := congrArg (List.map UInt8.ofNat) e2
    simp only [List.map_map] at h2
    have hid : (UInt8.ofNat ∘ fun x : UInt8 => x.toNat) = id := funext fun x => ofNat_toNat8 x
    rw [hid, List.map_id, List.map_id] at h2
    exact h2
  exact octs4_inj hl hl' e3
/-! ### Ends and ways -/
theorem joinB_mem {c : UInt8} : ∀ {l : List (List UInt8)} {x : UInt8}, x ∈ joinB [c] l → x = c ∨ ∃ y ∈ l, x ∈ y
  | [], x, h => by simp [joinB] at h
  | [y], x, h => .inr ⟨y, by simp, h⟩
  | y :: z :: l, x, h => by
    rw [joinB] at h
    rcases List.mem_append.1 h with h | h
    · exact .inr ⟨y, by simp, h⟩
    · rcases List.mem_append.1 h with h | h
      · exact .inl (by simpa using h)
      · rcases joinB_mem h with h | ⟨u, hu, hx⟩
        · exact .inl h
        · exact .inr ⟨u, List.mem_cons_of_mem _ hu, hx⟩
theorem textA_char {f : Int} {h l : Nat} {x : UInt8} (hx : x ∈ textA f h l) : hexC x = true ∨ x = 46 ∨ x = 58 := by
  unfold textA at hx
  split at hx
  · rcases joinB_mem hx with h | ⟨y, hy, hxy⟩
    · exact .inr (.inl h)
    · obtain ⟨n, _, rfl⟩ := List.mem_map.1 hy
      exact .inl (digs_hex (by decide) (by decide) 20 _ x hxy)
  · have hj : ∀ k : List (List UInt8), (∀ y ∈ k, y ∈ D (gsOf (octs 6 h l))) → x ∈ joinB [58] k → hexC x = true ∨ x = 46 ∨ x = 58 := fun k hk hx => by
      rcases joinB_mem hx with h | ⟨y, hy, hxy⟩
      · exact .inr (.inr h)
      · obtain ⟨n, _, rfl⟩ := List.mem_map.1 (hk y hy)
        exact .inl (digs_hex (by decide) (by decide) 4 _ x hxy)
    unfold text6 at hx
    split at hx
    · exact hj _ (fun y hy => hy) hx
    · rcases List.mem_append.1 hx with h | h
      · rcases List.mem_append.1 h with h | h
        · exact hj _ (fun y hy => List.mem_of_mem_take hy) h
        · exact .inr (.inr (by simpa using h))
      · exact hj _ (fun y hy => List.mem_of_mem_drop hy) h
theorem textA_not {f : Int} {h l : Nat} {c : UInt8} (h1 : hexC c = false) (h2 : c ≠ 46) (h3 : c ≠ 58) : c ∉ textA f h l := fun hx => by
  rcases textA_char hx with h | h | h
  · rw [h1] at h; cases h
  · exact h2 h
  · exact h3 h
theorem text4_not {h l : Nat} : (58 : UInt8) ∉ textA 4 h l := fun hx => by
  unfold textA at hx
  rw [if_pos rfl] at hx
  rcases joinB_mem hx with h | ⟨y, hy, hxy⟩
  · exact absurd h (by decide)
  · obtain ⟨n, _, rfl⟩ := List.mem_map.1 hy
    have := digs_hex (by decide) (by decide) 20 _ _ hxy
    exact absurd this (by decide)
theorem digs_not {k n b : Nat} (hb : 2 ≤ b) (hb2 : b ≤ 16) {c : UInt8} (h1 : hexC c = false) : c ∉ digs b k n := hex_not h1 (digs_hex hb hb2 k n)
theorem endA_not {f : Int} {h l p : Nat} {c : UInt8} (h1 : hexC c = false) (h2 : c ≠ 46) (h3 : c ≠ 58) (h4 : c ≠ 91) (h5 : c ≠ 93) : c ∉ endA f h l p := fun hx => by
  have ht := textA_not (f := f) (h := h) (l := l) h1 h2 h3
  have hd := digs_not (k := 20) (n := p) (b := 10) (by decide) (by decide) h1
  unfold endA at hx
  split at hx
  · simp only [List.mem_append, List.mem_cons, List.not_mem_nil, or_false] at hx
    rcases hx with ((((h | h) | h) | h) | h)
    · exact h4 h
    · exact ht h
    · exact h5 h
    · exact h3 h
    · exact hd h
  · simp only [List.mem_append, List.mem_cons, List.not_mem_nil, or_false] at hx
    rcases hx with ((h | h) | h)
    · exact ht h
    · exact h3 h
    · exact hd h
theorem endA_fam {f : Int} {h l p : Nat} : (91 : UInt8) ∈ endA f h l p ↔ f = 6 := by
  unfold endA
  split
  · rename_i h6; simp [h6]
  · rename_i h6
    constructor
    · intro hx
      simp only [List.mem_append, List.mem_cons, List.not_mem_nil, or_false] at hx
      rcases hx with ((h | h) | h)
      · exact absurd h (textA_not rfl (by decide) (by decide))
      · exact absurd h (by decide)
      · exact absurd h (digs_not (by decide) (by decide) rfl)
    · intro h; exact absurd h h6
theorem endA_inj {f f' : Int} {h l h' l' p p' : Nat} (ho : okA f h l) (ho' : okA f' h' l') (hp : p ≤ 65535) (hp' : p' ≤ 65535) (e : endA f h l p = endA f' h' l' p') : f = f' ∧ h = h' ∧ l = l' ∧ p = p' := by
  have hf : f = 6 ↔ f' = 6 := by rw [← endA_fam (f := f) (h := h) (l := l) (p := p), e, endA_fam]
  have port : digs 10 20 p = digs 10 20 p' → p = p' := fun e => digs_inj (by decide) (by decide) (by omega) (by omega) e
  rcases ho with ⟨rfl, rfl, hl⟩ | ⟨rfl, hh, hl⟩
  · rcases ho' with ⟨rfl, rfl, hl'⟩ | ⟨rfl, _⟩
    · have s4 : ∀ l p, spl 58 (endA 4 0 l p) = [textA 4 0 l, digs 10 20 p] := fun l p => by
        unfold endA
        rw [if_neg (by decide), List.append_assoc, List.singleton_append, spl_app, spl_none text4_not, spl_none (digs_not (by decide) (by decide) rfl)]
        rfl
      have e1 := congrArg (spl 58) e
      rw [s4, s4] at e1
      simp only [List.cons.injEq, and_true] at e1
      have e2 := e1.1
      unfold textA at e2
      rw [if_pos rfl, if_pos rfl] at e2
      exact ⟨rfl, rfl, textA_inj4 hl hl' e2, port e1.2⟩
    · exact absurd (hf.2 rfl) (by decide)
  · rcases ho' with ⟨rfl, _⟩ | ⟨rfl, hh', hl'⟩
    · exact absurd (hf.1 rfl) (by decide)
    · have s6 : ∀ h l p, spl 93 (endA 6 h l p) = [91 :: textA 6 h l, 58 :: digs 10 20 p] := fun h l p => by
        unfold endA
        rw [if_pos rfl]
        rw [show [91] ++ textA 6 h l ++ [93] ++ [58] ++ digs 10 20 p = (91 :: textA 6 h l) ++ 93 :: (58 :: digs 10 20 p) from by simp, spl_app, spl_none, spl_none]
        · rfl
        · intro hx
          rcases List.mem_cons.1 hx with h | h
          · exact absurd h (by decide)
          · exact absurd h (digs_not (by decide) (by decide) rfl)
        · intro hx
          rcases List.mem_cons.1 hx with h | h
          · exact absurd h (by decide)
          · exact absurd h (textA_not rfl (by decide) (by decide))
      have e1 := congrArg (spl 93) e
      rw [s6, s6] at e1
      simp only [List.cons.injEq, true_and, and_true] at e1
      have e2 := e1.1
      unfold textA at e2
      rw [if_neg (by decide), if_neg (by decide)] at e2
      obtain ⟨g1, g2⟩ := textA_inj6 hh hl hh' hl' e2
      exact ⟨rfl, g1, g2, port e1.2⟩
theorem wd_not (f p : Int) : (32 : UInt8) ∉ wd f p := by
  unfold wd
  split
  · decide
  · split
    · decide
    · split
      · decide
      · split <;> decide
theorem wd_inj {f p p' : Int} (h : p = 6 ∨ p = 17 ∨ (p = 1 ∧ f = 4) ∨ (p = 58 ∧ f = 6)) (h' : p' = 6 ∨ p' = 17 ∨ (p' = 1 ∧ f = 4) ∨ (p' = 58 ∧ f = 6)) (e : wd f p = wd f p') : p = p' := by
  have w6 : ∀ f, wd f 6 = [116, 99, 112] := fun _ => rfl
  have w17 : ∀ f, wd f 17 = [117, 100, 112] := fun _ => rfl
  have w1 : wd 4 1 = [105, 99, 109, 112] := rfl
  have w58 : wd 6 58 = [105, 99, 109, 112, 54] := rfl
  rcases h with rfl | rfl | ⟨rfl, rfl⟩ | ⟨rfl, rfl⟩ <;> rcases h' with rfl | rfl | ⟨rfl, h2⟩ | ⟨rfl, h2⟩ <;> first
    | rfl
    | (subst h2; simp [w6, w17, w1, w58] at e)
    | (exact absurd h2 (by decide))
    | (simp [w6, w17, w1, w58] at e)
theorem textW_inj {f p sf df f' p' sf' df' : Int} {sh sl dh dl sp dp sh' sl' dh' dl' sp' dp' : Nat} (hw : okW f p sf sh sl df dh dl sp dp) (hw' : okW f' p' sf' sh' sl' df' dh' dl' sp' dp')
    (e : textW f p sf sh sl df dh dl sp dp = textW f' p' sf' sh' sl' df' dh' dl' sp' dp') : f = f' ∧ p = p' ∧ sf = sf' ∧ sh = sh' ∧ sl = sl' ∧ df = df' ∧ dh = dh' ∧ dl = dl' ∧ sp = sp' ∧ dp = dp' := by
  have hs : ∀ (f p sf df : Int) (sh sl dh dl sp dp : Nat), spl 32 (textW f p sf sh sl df dh dl sp dp) = [wd f p, endA sf sh sl sp, [62], endA df dh dl dp] := fun f p sf df sh sl dh dl sp dp => by
    unfold textW
    rw [show wd f p ++ [32] ++ endA sf sh sl sp ++ [32, 62, 32] ++ endA df dh dl dp = wd f p ++ 32 :: (endA sf sh sl sp ++ 32 :: ([62] ++ 32 :: endA df dh dl dp)) from by simp,
      spl_app, spl_app, spl_app, spl_none (wd_not f p), spl_none (endA_not rfl (by decide) (by decide) (by decide) (by decide)), spl_none (show (32 : UInt8) ∉ [62] by decide), spl_none (endA_not rfl (by decide) (by decide) (by decide) (by decide))]
    rfl
  have e1 := congrArg (spl 32) e
  rw [hs, hs] at e1
  simp only [List.cons.injEq, true_and, and_true] at e1
  obtain ⟨e2, e3, e4⟩ := e1
  have hs1 := hw.s1
  have hs1' := hw'.s1
  have hd1 := hw.d1
  have hd1' := hw'.d1
  obtain ⟨g1, g2, g3, g4⟩ := endA_inj hw.sa hw'.sa (by omega) (by omega) e3
  obtain ⟨k1, k2, k3, k4⟩ := endA_inj hw.da hw'.da (by omega) (by omega) e4
  have hf : f = f' := hw.s.symm.trans (g1.trans hw'.s)
  subst hf
  exact ⟨rfl, wd_inj hw.pr hw'.pr e2, g1, g2, g3, k1, k2, k3, g4, k4⟩
theorem tupleUnlike_ok (y z : T tyTuple) (hy : okT tyTuple y) (hz : okT tyTuple z) : law14_TupleUnlike y z = some true := by
  obtain ⟨f, p, sf, df, sp, dp, sh, sl, dh, dl, rfl, h1, h2, h3, h4⟩ := open_tuple y hy
  obtain ⟨f', p', sf', df', sp', dp', sh', sl', dh', dl', rfl, h1', h2', h3', h4'⟩ := open_tuple z hz
  obtain ⟨b, g1, g2⟩ := tuple_Right_eq (f := f) (p := p) (sf := sf) (df := df) (sp := sp) (dp := dp) h1 h2 h3 h4
  obtain ⟨c, g3, g4⟩ := tuple_Right_eq (f := f') (p := p') (sf := sf') (df := df') (sp := sp') (dp := dp') h1' h2' h3' h4'
  unfold law14_TupleUnlike
  simp only [g1, Option.bind_some]
  cases b with
  | false => rfl
  | true =>
    simp only [Bool.not_true, cond_false, g3, Option.bind_some]
    cases c with
    | false => rfl
    | true =>
      have hw := g2.1 rfl
      have hw' := g4.1 rfl
      obtain ⟨n, rfl⟩ : ∃ n : Nat, sp = (n : Int) := ⟨sp.toNat, by have := hw.s0; omega⟩
      obtain ⟨m, rfl⟩ : ∃ m : Nat, dp = (m : Int) := ⟨dp.toNat, by have := hw.d0; omega⟩
      obtain ⟨n', rfl⟩ : ∃ n : Nat, sp' = (n : Int) := ⟨sp'.toNat, by have := hw'.s0; omega⟩
      obtain ⟨m', rfl⟩ : ∃ m : Nat, dp' = (m : Int) := ⟨dp'.toNat, by have := hw'.d0; omega⟩
      simp only [Bool.not_true, cond_false, tuple_Text_ok h1 h2 h3 h4 hw, tuple_Text_ok h1' h2' h3' h4' hw', Option.bind_some]
      have hiff : (textW f p sf sh sl df dh dl n m == textW f' p' sf' sh' sl' df' dh' dl' n' m') = ((f == f') && ((p == p') && ((sf == sf') && (((sh : Int) == (sh' : Int)) && (((sl : Int) == (sl' : Int)) && ((df == df') && (((dh : Int) == (dh' : Int)) && (((dl : Int) == (dl' : Int)) && (((n : Int) == (n' : Int)) && (((m : Int) == (m' : Int)) && true)))))))))) := by
        rw [Bool.eq_iff_iff]
        simp only [Bool.and_eq_true, beq_iff_eq, and_true]
        constructor
        · intro e
          obtain ⟨k1, k2, k3, k4, k5, k6, k7, k8, k9, k10⟩ := textW_inj hw hw' e
          subst k1 k2 k3 k4 k5 k6 k7 k8 k9 k10
          exact ⟨rfl, rfl, rfl, rfl, rfl, rfl, rfl, rfl, rfl, rfl⟩
        · rintro ⟨rfl, rfl, rfl, a, b, rfl, c, d, e, g⟩
          have := Int.ofNat_inj.1 a
          have := Int.ofNat_inj.1 b
          have := Int.ofNat_inj.1 c
          have := Int.ofNat_inj.1 d
          have := Int.ofNat_inj.1 e
          have := Int.ofNat_inj.1 g
          subst_vars
          rfl
      rw [hiff, beq_self_eq_true, cond_true]
      rfl
end Go.Proofs.YtgldfdpdjlohiaaDoor.Jv
