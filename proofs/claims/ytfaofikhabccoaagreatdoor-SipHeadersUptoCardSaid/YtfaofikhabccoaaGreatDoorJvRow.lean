/- From a row's reading of its arguments to the ideal machine's values, and back from its answer to the row's promise; conditions: none. -/
import Derived.Test.YtfaofikhabccoaaGreatDoorJvExec
import Derived.WalkKit
import Derived.ProofKit
import Derived.OpenShut
import Derived.Carry
import Derived.Deep.DeepHandedRow
namespace Go.Proofs.YtfaofikhabccoaaGreatDoor.Jv
open Go Go.RowKit Go.ChangeShapes Go.WideShapes
set_option linter.unusedVariables false
set_option linter.unusedSimpArgs false
/-! ### What the values of a type look like -/
def okT : (t : Ty) → T t → Prop
  | .int k, x => k.min ≤ x ∧ x ≤ k.max
  | .u8, _ => True
  | .bool, _ => True
  | .str, s => s.length ≤ maxLen
  | .err, _ => True
  | .sl t, l => l.length ≤ maxLen ∧ ∀ x ∈ l, okT t x
  | .pair a b, x => okT a x.1 ∧ okT b x.2
  | .opt _, _ => True
/-- How many values and letters typed data hold. -/
def bulkT : (t : Ty) → T t → Nat
  | .int _, _ => 1
  | .u8, _ => 1
  | .bool, _ => 1
  | .str, s => s.length + 1
  | .err, _ => 0
  | .sl t, l => (l.map (bulkT t)).sum + 1
  | .pair a b, x => bulkT a x.1 + bulkT b x.2
  | .opt _, _ => 0
/-- What is asked of a measure of what is read. -/
structure BulkOK {H : Type} (B : DataW H → Nat) : Prop where
  lit : ∀ l, 1 ≤ B (.lit l)
  str : ∀ s : List UInt8, s.length + 1 ≤ B (.lit (.string s))
  nil : 1 ≤ B .nil
  slice : ∀ es sp, (es.map B).sum + 1 ≤ B (.slice es sp)
  agg : ∀ ps, (ps.map B).sum ≤ B (.agg ps)
def fieldsOK (P : Program) (r : TypeId → Bool) : Nat → List Field → Nat → Bool
  | off, [], n => off == n
  | off, f :: l, n => f.offset == off && r f.type && fieldsOK P r (off + P.cellsOf f.type) l n
def layOK (P : Program) : Nat → TypeId → Bool
  | 0, _ => false
  | d + 1, t => match P.underlying t with
    | some (.int _) => true
    | some .bool => true
    | some .string => true
    | some (.slice e) => layOK P d e && decide (0 < P.cellsOf e)
    | some (.struct fs) => fieldsOK P (layOK P d) 0 fs.toList (P.cellsOf t)
    | some (.array n e) => layOK P d e && P.cellsOf t == n * P.cellsOf e
    | _ => false
/-- All of memory, as it stands. -/
def allMem (w : World) : Mem := fun b o v => w.cell? ⟨b, o, none⟩ = some v ∧ v.oneCell' = true ∧ b < w.heap.size
theorem allMem_inv (w : World) : Inv (allMem w) noL [] w :=
  ⟨(fun b k h => by simp at h), (fun _ _ => rfl), (fun i j a b h => by cases h), (fun i a h => by cases h), fun b o v h => ⟨h.1, h.2.1, h.2.2, fun i a h => by cases h⟩⟩
theorem cells?_get {w : World} {a : Addr} {n : Nat} {cs : List Value} (h : w.cells? 0 a n = some cs) : cs.length = n ∧ ∀ j v, cs[j]? = some v → w.cell? (a.add j) = some v := by
  unfold World.cells? at h
  simp only [Nat.zero_le, if_true] at h
  have hl := mapM_some_length h
  simp only [List.length_range] at hl
  refine ⟨hl, fun j v hj => ?_⟩
  have hlt : j < n := by rw [← hl]; exact (List.getElem?_eq_some_iff.1 hj).1
  have := mapM_some_get h j j (by simp [hlt])
  rw [this]; exact hj
section
variable {H : Type} {enc : TypeId × Value → H} {P : Program} {w : World}
theorem cell_lt {b o : Nat} {v : Value} (h : w.cell? ⟨b, o, none⟩ = some v) : b < w.heap.size := by
  unfold World.cell? at h
  split at h
  · rename_i hb; exact (Array.getElem?_eq_some_iff.1 hb).1
  · cases h
theorem cell_spot {a : Addr} {v : Value} (h : w.cell? a = some v) : a = ⟨a.block, a.off, none⟩ := by
  unfold World.cell? at h
  split at h
  · split at h
    · cases h
    · rename_i hs
      obtain ⟨b, o, s⟩ := a
      cases s with
      | none => rfl
      | some q => simp at hs
  · cases h
/-- What is read at a type is typed data. -/
theorem trod_ty : ∀ (d : Nat) (t : TypeId) (q : Ty) (fuel : Nat) (cs : List Value) (x : DataW H × List MemPlace), tyT P d t = some q → layOK P d t = true → DataW.trod enc P w 0 (fun _ => true) true fuel t cs = some x →
    ∃ y : T q, RPs (allMem w) (cellsT q y) cs ∧ okT q y ∧ ∀ B, BulkOK B → bulkT q y ≤ B x.1
  | 0, _, _, _, _, _, h, _, _ => by cases h
  | d + 1, t, q, fuel, cs, x, hq, hl, h => by
    unfold layOK at hl
    unfold tyT at hq
    split at hl
    · rename_i k hu
      obtain ⟨n, rfl, rfl, hw⟩ := DataW.trod_int hu h
      simp only [Lit.wf, Bool.and_eq_true, decide_eq_true_eq] at hw
      rw [hu] at hq
      simp only at hq
      split at hq
      · rename_i hk
        subst hk
        cases hq
        have h1 : 0 ≤ n ∧ n < 256 := by
          have e1 : IntKind.u8.min = 0 := by decide +kernel
          have e2 : IntKind.u8.max = 255 := by decide +kernel
          omega
        refine ⟨UInt8.ofNat n.toNat, ?_, trivial, fun B hB => hB.lit _⟩
        have : ((UInt8.ofNat n.toNat).toNat : Int) = n := by
          rw [UInt8.toNat_ofNat']
          omega
        refine RPs_cons.2 ⟨?_, by simp [RPs]⟩
        rw [this]
        rfl
      · cases hq
        exact ⟨n, RPs_mapV [.int k n], ⟨hw.1, hw.2⟩, fun B hB => hB.lit _⟩
    · rename_i hu
      obtain ⟨b, rfl, rfl⟩ := DataW.trod_bool hu h
      rw [hu] at hq
      cases hq
      exact ⟨b, RPs_mapV [.bool b], trivial, fun B hB => hB.lit _⟩
    · rename_i hu
      obtain ⟨s, rfl, rfl, hs⟩ := DataW.trod_string hu h
      rw [hu] at hq
      cases hq
      exact ⟨s.data.toList, RPs_mapV [.string s], by simpa [okT] using hs, fun B hB => hB.str _⟩
    · rename_i e hu
      rw [hu] at hq
      simp only at hq
      split at hq
      · rename_i q' hq'
        cases hq
        simp only [Bool.and_eq_true, decide_eq_true_eq] at hl
        rcases DataW.trod_slice hu h with ⟨rfl, rfl⟩ | ⟨a, len, cap, elems, rest, n, rfl, rfl, rfl, _, hlc, hcm, hel, hels, _, _⟩
        · exact ⟨([] : List (T q')), RPs_cons.2 ⟨RP_nil q' none 0, by simp [RPs]⟩, by simp [okT], fun B hB => hB.nil⟩
        · have elem : ∀ i, (hi : i < len) → ∃ cs', w.cells? 0 (a.add (i * P.cellsOf e)) (P.cellsOf e) = some cs' ∧ ∃ y : T q', RPs (allMem w) (cellsT q' y) cs' ∧ okT q' y ∧ ∀ B, BulkOK B → bulkT q' y ≤ B (elems[i]'(by omega)).1 := fun i hi => by
            have h1 := hels i hi
            rw [List.getElem?_eq_getElem (by omega)] at h1
            obtain ⟨cs', h2, h3⟩ := Option.bind_eq_some_iff.1 h1
            exact ⟨cs', h2, trod_ty d e q' n cs' _ hq' hl.1 h3⟩
          have spot : len ≠ 0 → a = ⟨a.block, a.off, none⟩ := fun hne => by
            obtain ⟨cs', h2, _⟩ := elem 0 (by omega)
            obtain ⟨h3, h4⟩ := cells?_get h2
            cases cs' with
            | nil => simp at h3; omega
            | cons v cs' =>
              have := h4 0 v rfl
              rw [Nat.zero_mul, show (a.add 0).add 0 = a from by simp [Addr.add]] at this
              exact cell_spot this
          have build : ∀ m, m ≤ len → ∃ es : List (T q'), es.length = m ∧ ((∀ c ∈ es, okT q' c) ∧ ∀ B, BulkOK B → (es.map (bulkT q')).sum ≤ (((elems.map (·.1)).take m).map B).sum) ∧ (m ≠ 0 → sizeTy q' = P.cellsOf e) ∧ (m ≠ 0 → RPm (allMem w) (cellsL q' es) a.block a.off) := by
            intro m
            induction m with
            | zero => intro _; exact ⟨[], rfl, ⟨by simp, by simp⟩, (fun h => absurd rfl h), fun h => absurd rfl h⟩
            | succ m ih =>
              intro hm
              obtain ⟨es, g1, ⟨g2, g5⟩, g3, g4⟩ := ih (by omega)
              obtain ⟨cs', h2, y, h3, h4, h8⟩ := elem m (by omega)
              obtain ⟨h6, h7⟩ := cells?_get h2
              have hsp := spot (by omega)
              rw [hsp, Addr_add] at h7
              have hsz : sizeTy q' = P.cellsOf e := by
                have := h3.length
                rw [cellsT_len] at this
                omega
              have hone := cellsT_one q' y h3
              refine ⟨es ++ [y], by simp [g1], ?_, fun _ => hsz, fun _ => ?_⟩
              · refine ⟨fun c hc => ?_, fun B hB => ?_⟩
                · rcases List.mem_append.1 hc with hc | hc
                  · exact g2 c hc
                  · simp at hc; subst hc; exact h4
                · have e1 : (elems.map (·.1)).take (m + 1) = (elems.map (·.1)).take m ++ [(elems[m]'(by omega)).1] := by
                    rw [List.take_add_one, List.getElem?_map, List.getElem?_eq_getElem (by omega)]
                    rfl
                  have h9 := g5 B hB
                  have h10 := h8 B hB
                  rw [e1, List.map_append, List.map_append, List.sum_append, List.sum_append]
                  simp only [List.map_cons, List.map_nil, List.sum_cons, List.sum_nil]
                  omega
              · rw [cellsL_append]
                refine RPm_append.2 ⟨?_, ?_⟩
                · by_cases hm0 : m = 0
                  · subst hm0
                    have : es = [] := List.eq_nil_of_length_eq_zero g1
                    subst this
                    simp [cellsL, RPm]
                  · exact g4 hm0
                · rw [cellsL_len, g1, hsz]
                  simp only [cellsL, List.append_nil]
                  refine RPm_of h3 fun j v hj => ?_
                  have := h7 j v hj
                  rw [Addr_add] at this
                  exact ⟨this, hone v (List.mem_of_getElem? hj), cell_lt this⟩
          obtain ⟨es, g1, ⟨g2, g5⟩, g3, g4⟩ := build len (Nat.le_refl _)
          have g6 : ∀ B, BulkOK B → (es.map (bulkT q')).sum + 1 ≤ B (.slice (elems.map (·.1)) (rest.map (·.1))) := fun B hB => by
            have h9 := g5 B hB
            rw [List.take_of_length_le (by rw [List.length_map]; omega)] at h9
            have h10 := hB.slice (elems.map (·.1)) (rest.map (·.1))
            omega
          refine ⟨es, RPs_cons.2 ⟨RP_sl.2 ⟨some a, cap, by rw [g1], by omega, ?_⟩, by simp [RPs]⟩, ⟨by omega, g2⟩, g6⟩
          by_cases h0 : len = 0
          · left
            exact List.eq_nil_of_length_eq_zero (by omega)
          · right
            exact ⟨a.block, a.off, by rw [← spot h0], g4 h0⟩
      · cases hq
    · rename_i fs hu
      rw [hu] at hq
      simp only at hq
      obtain ⟨xs, n, rfl, rfl, hcl, hxl, hf⟩ := DataW.trod_struct hu h
      have key : ∀ (l : List Field) (k off : Nat) (q : Ty), tyFs (tyT P d) l = some q → fs.toList.drop k = l → fieldsOK P (layOK P d) off l (P.cellsOf t) = true → off ≤ cs.length → ∃ y : T q, RPs (allMem w) (cellsT q y) (cs.drop off) ∧ okT q y ∧ ∀ B, BulkOK B → bulkT q y ≤ (((xs.map (·.1)).drop k).map B).sum := by
        have hw : ∀ (l : List Field) (off : Nat), fieldsOK P (layOK P d) off l (P.cellsOf t) = true → off ≤ P.cellsOf t := by
          intro l
          induction l with
          | nil => intro off h; simp only [fieldsOK, beq_iff_eq] at h; omega
          | cons g l ihl => intro off h; simp only [fieldsOK, Bool.and_eq_true] at h; have := ihl _ h.2; omega
        have one : ∀ (f : Field) (k off : Nat) (l : List Field) (q1 : Ty), tyT P d f.type = some q1 → fs.toList.drop k = f :: l → f.offset = off → layOK P d f.type = true → ∃ y : T q1, RPs (allMem w) (cellsT q1 y) ((cs.drop off).take (P.cellsOf f.type)) ∧ okT q1 y ∧ ∃ z, (xs.map (·.1)).drop k = z :: (xs.map (·.1)).drop (k + 1) ∧ ∀ B, BulkOK B → bulkT q1 y ≤ B z := by
          intro f k off l q1 hq1 hk h3 h4
          have hget : fs[k]? = some f := by
            rw [← Array.getElem?_toList, ← Nat.add_zero k, ← List.getElem?_drop, hk]; rfl
          have hlt : k < fs.size := (Array.getElem?_eq_some_iff.1 hget).1
          have h6 := hf k f hget
          rw [List.getElem?_eq_getElem (by omega)] at h6
          obtain ⟨y, q2, q3, q4⟩ := trod_ty d f.type q1 n _ _ hq1 h4 h6
          rw [h3] at q2
          refine ⟨y, q2, q3, (xs[k]'(by omega)).1, ?_, q4⟩
          rw [List.drop_eq_getElem_cons (by rw [List.length_map]; omega)]
          simp
        intro l
        induction l with
        | nil => intro k off q hq; cases hq
        | cons f l ih =>
          intro k off q hq hk h1 h2
          have h1' := h1
          simp only [fieldsOK, Bool.and_eq_true, beq_iff_eq] at h1
          obtain ⟨⟨h3, h4⟩, h5⟩ := h1
          have hk' : fs.toList.drop (k + 1) = l := by rw [← List.drop_drop, hk]; rfl
          cases l with
          | nil =>
            simp only [tyFs] at hq
            obtain ⟨y, g1, g2, z, g3, g4⟩ := one f k off [] q hq hk h3 h4
            refine ⟨y, ?_, g2, fun B hB => ?_⟩
            rotate_left
            · have := g4 B hB
              rw [g3, List.map_cons, List.sum_cons]
              omega
            simp only [fieldsOK, beq_iff_eq] at h5
            rwa [List.take_of_length_le (by rw [List.length_drop]; omega)] at g1
          | cons g l =>
            simp only [tyFs] at hq
            split at hq
            · rename_i qa qb hqa hqb
              cases hq
              obtain ⟨y, g1, g2, zz, g5, g6⟩ := one f k off _ qa hqa hk h3 h4
              have h7 := hw _ _ h5
              obtain ⟨z, g3, g4, g7⟩ := ih (k + 1) (off + P.cellsOf f.type) qb hqb hk' h5 (by omega)
              refine ⟨(y, z), ?_, ⟨g2, g4⟩, fun B hB => ?_⟩
              rotate_left
              · have h8 := g6 B hB
                have h9 := g7 B hB
                rw [g5, List.map_cons, List.sum_cons]
                show bulkT qa y + bulkT qb z ≤ _
                omega
              have hsplit : cs.drop off = (cs.drop off).take (P.cellsOf f.type) ++ cs.drop (off + P.cellsOf f.type) := by
                rw [← List.drop_drop, List.take_append_drop]
              rw [hsplit]
              exact g1.append g3
            · cases hq
      obtain ⟨y, q1, q2, q3⟩ := key fs.toList 0 0 q hq List.drop_zero hl (Nat.zero_le _)
      rw [List.drop_zero] at q1
      refine ⟨y, q1, q2, fun B hB => ?_⟩
      have h8 := q3 B hB
      rw [List.drop_zero] at h8
      have h9 := hB.agg (xs.map (·.1))
      exact Nat.le_trans h8 h9
    · rename_i n e hu
      rw [hu] at hq
      simp only at hq
      split at hq
      · rename_i q' hq'
        simp only [Bool.and_eq_true, beq_iff_eq] at hl
        obtain ⟨xs, m, rfl, rfl, hcl, hxl, hf⟩ := DataW.trod_array hu h
        rw [hl.2] at hcl
        have one : ∀ i, i < n → ∃ y : T q', RPs (allMem w) (cellsT q' y) ((cs.drop (i * P.cellsOf e)).take (P.cellsOf e)) ∧ okT q' y ∧ ∃ z, (xs.map (·.1)).drop i = z :: (xs.map (·.1)).drop (i + 1) ∧ ∀ B, BulkOK B → bulkT q' y ≤ B z := by
          intro i hi
          have h6 := hf i hi
          rw [List.getElem?_eq_getElem (by omega)] at h6
          obtain ⟨y, q2, q3, q4⟩ := trod_ty d e q' m _ _ hq' hl.1 h6
          refine ⟨y, q2, q3, (xs[i]'(by omega)).1, ?_, q4⟩
          rw [List.drop_eq_getElem_cons (by rw [List.length_map]; omega)]
          simp
        have key : ∀ (k : Nat) (q : Ty), tyN q' k = some q → k ≤ n → ∃ y : T q, RPs (allMem w) (cellsT q y) (cs.drop ((n - k) * P.cellsOf e)) ∧ okT q y ∧ ∀ B, BulkOK B → bulkT q y ≤ (((xs.map (·.1)).drop (n - k)).map B).sum := by
          intro k
          induction k with
          | zero => intro q hq; cases hq
          | succ k ih =>
            intro q hq hk
            obtain ⟨y, g1, g2, z, g3, g4⟩ := one (n - (k + 1)) (by omega)
            have hnk : n - (k + 1) + 1 = n - k := by omega
            cases k with
            | zero =>
              simp only [tyN] at hq
              cases hq
              refine ⟨y, ?_, g2, fun B hB => ?_⟩
              · rwa [List.take_of_length_le] at g1
                rw [List.length_drop, hcl, ← Nat.sub_mul, show n - (n - (0 + 1)) = 1 by omega, Nat.one_mul]
                exact Nat.le_refl _
              · have := g4 B hB
                rw [g3, List.map_cons, List.sum_cons]
                omega
            | succ k =>
              simp only [tyN] at hq
              split at hq
              · rename_i qb hqb
                cases hq
                obtain ⟨zz, h7, h8, h9⟩ := ih qb hqb (by omega)
                refine ⟨(y, zz), ?_, ⟨g2, h8⟩, fun B hB => ?_⟩
                · have hsplit : cs.drop ((n - (k + 1 + 1)) * P.cellsOf e) = (cs.drop ((n - (k + 1 + 1)) * P.cellsOf e)).take (P.cellsOf e) ++ cs.drop ((n - (k + 1)) * P.cellsOf e) := by
                    have : (n - (k + 1)) * P.cellsOf e = (n - (k + 1 + 1)) * P.cellsOf e + P.cellsOf e := by
                      rw [← hnk, Nat.add_mul, Nat.one_mul]
                    rw [this, ← List.drop_drop, List.take_append_drop]
                  rw [hsplit]
                  exact g1.append h7
                · have h10 := g4 B hB
                  have h11 := h9 B hB
                  rw [g3, List.map_cons, List.sum_cons, hnk]
                  show bulkT q' y + bulkT qb zz ≤ _
                  omega
              · cases hq
        obtain ⟨y, q1, q2, q3⟩ := key n q hq (Nat.le_refl _)
        rw [Nat.sub_self, Nat.zero_mul, List.drop_zero] at q1
        refine ⟨y, q1, q2, fun B hB => ?_⟩
        have h8 := q3 B hB
        rw [Nat.sub_self, List.drop_zero] at h8
        exact Nat.le_trans h8 (hB.agg (xs.map (·.1)))
      · cases hq
    · cases hl
/-! ### Arguments -/
def ArgsTy (P : Program) (Q : Nat → Prop) : List TypeId → List PV → Prop
  | [], xs => xs = []
  | t :: ts, xs => ∃ (q : Ty) (y : T q) (r : List PV), tyT P 8 t = some q ∧ (okT q y ∧ Q (bulkT q y)) ∧ ArgsTy P Q ts r ∧ xs = argP P t (cellsT q y) :: r
theorem args_open {base : Nat} {Q : Nat → Prop} : ∀ {ts : List TypeId} {vs : List Value} {ds : List (DataW H)} {pl : List MemPlace}, (∀ d ∈ ds, ∀ n, (∀ B, BulkOK B → n ≤ B d) → Q n) → ts.all (fun t => layOK P 8 t && (tyT P 8 t).isSome) = true → (∀ (j : Nat) t v, ts[j]? = some t → vs[j]? = some v → Value.okWide P w .any base t v) →
    DataW.TrodAll enc P w 0 (fun _ => true) true ts vs ds pl → ∃ xs, RPs (allMem w) xs vs ∧ ArgsTy P Q ts xs
  | [], vs, ds, pl, _, _, _, h => by
    obtain ⟨rfl, _, _⟩ := trodAll_nil h
    exact ⟨[], by simp [RPs], rfl⟩
  | t :: ts, vs, ds, pl, hq, hl, hv, h => by
    obtain ⟨v, vs, d, ds, p, q, rfl, rfl, rfl, h1, h2⟩ := trodAll_cons h
    simp only [List.all_cons, Bool.and_eq_true] at hl
    obtain ⟨xs, h3, h4⟩ := args_open (fun d hd => hq d (List.mem_cons_of_mem _ hd)) (by simpa using hl.2) (fun j t v h5 h6 => hv (j + 1) t v (by simpa using h5) (by simpa using h6)) h2
    obtain ⟨fuel, h5⟩ := h1
    obtain ⟨qt, hqt⟩ := Option.isSome_iff_exists.1 hl.1.2
    obtain ⟨y, h6, h7, h8⟩ := trod_ty 8 t qt fuel _ _ hqt hl.1.1 h5
    have h7 : okT qt y ∧ Q (bulkT qt y) := ⟨h7, hq d (List.mem_cons_self) _ h8⟩
    have hok := hv 0 t v rfl rfl
    refine ⟨argP P t (cellsT qt y) :: xs, RPs_cons.2 ⟨?_, h3⟩, qt, y, xs, hqt, h7, h4, rfl⟩
    unfold argP
    cases hag : isAggT P t with
    | true =>
      have : ∃ cs : Array Value, v = .agg cs := by
        unfold isAggT at hag
        unfold Value.okWide at hok
        split at hag
        · rename_i hu; rw [hu] at hok; obtain ⟨cs, e, _⟩ := hok; exact ⟨cs, e⟩
        · rename_i hu; rw [hu] at hok; obtain ⟨cs, e, _⟩ := hok; exact ⟨cs, e⟩
        · cases hag
      obtain ⟨cs, rfl⟩ := this
      simpa [Value.cells] using mkAggP_rel h6
    | false =>
      have hcell : v.cells.toList = [v] ∨ ∃ a, v = .agg a := by
        cases v <;> simp [Value.cells]
      have hl8 := hl.1.1
      have hu0 : ∀ cs, v = .agg cs → False := by
        intro cs e
        subst e
        unfold layOK at hl8
        unfold isAggT at hag
        unfold Value.okWide at hok
        cases hu : P.underlying t with
        | none => rw [hu] at hl8; cases hl8
        | some td =>
          rw [hu] at hl8 hag hok
          cases td <;> simp only at hl8 hag hok <;> first
            | (cases hl8; done)
            | (cases hag; done)
            | (simp [Cell.okWide, hu, Cell.ok] at hok; done)
      rcases hcell with e | ⟨cs, e⟩
      · rw [e] at h6
        generalize cellsT qt y = ps at h6
        cases ps with
        | nil => simp [RPs] at h6
        | cons x ps =>
          obtain ⟨g1, g2⟩ := RPs_cons.1 h6
          cases ps with
          | nil => exact g1
          | cons y ps => simp [RPs] at g2
      · exact (hu0 cs e).elim
/-! ### The row's promise -/
theorem trodAll_kept (hl : laidOutB P = true) {W W' : World} (hB : Below W.heap.size W W') {sp : Nat → Bool} : ∀ {ts : List TypeId} {vs : List Value} {ds : List (DataW H)} {pl : List MemPlace}, ts.all (fun t => P.readableRec t && decide (t < P.types.size)) = true →
    (∀ x ∈ pl, x.block < W.heap.size) → (∀ x ∈ pl, sp x.block = true) → DataW.TrodAll enc P W 0 (fun _ => true) true ts vs ds pl → DataW.TrodAll enc P W' 0 sp true ts vs ds pl
  | [], vs, ds, pl, _, _, _, h => by
    obtain ⟨rfl, rfl, rfl⟩ := trodAll_nil h
    exact trodAll_mk0
  | t :: ts, vs, ds, pl, hr, hlt, hsp, h => by
    obtain ⟨v, vs, d, ds, p, q, rfl, rfl, rfl, h1, h2⟩ := trodAll_cons h
    simp only [List.all_cons, Bool.and_eq_true, decide_eq_true_eq] at hr
    refine ⟨p, q, ?_, trodAll_kept hl hB hr.2 (fun x hx => hlt x (by simp [hx])) (fun x hx => hsp x (by simp [hx])) h2, rfl⟩
    exact WideElems.Trod_stays hl hr.1.1 hr.1.2 h1 (fun x hx => hB.same (hlt x (by simp [hx]))) fun x hx => hsp x (by simp [hx])
theorem trodAll_len {base : Nat} {sp : Nat → Bool} {held : Bool} : ∀ {ts : List TypeId} {vs : List Value} {ds : List (DataW H)} {pl : List MemPlace}, DataW.TrodAll enc P w base sp held ts vs ds pl → ds.length = ts.length
  | [], vs, ds, pl, h => by obtain ⟨_, rfl, _⟩ := trodAll_nil h; rfl
  | t :: ts, vs, ds, pl, h => by
    obtain ⟨v, vs, d, ds, p, q, rfl, rfl, rfl, _, h2⟩ := trodAll_cons h
    simp [trodAll_len h2]
theorem post_law {fn : Func} {s : ChangeSpec} {tb : TypeId} {W W' : World} {args : Array Value} {ds gs : List (DataW H)} {before : List MemPlace} {fresh handsOn again : Bool} (hl : laidOutB P = true)
    (hpar : fn.params.toList.all (fun t => P.readableRec t && decide (t < P.types.size)) = true) (hv : s.vars = []) (hr : fn.resultTypes = #[tb]) (hb : P.underlying tb = some .bool)
    (hs : ds.length = fn.params.size → s.fn H ds = ⟨[.lit (.bool true)], ds, []⟩)
    (hW : DataW.Whole enc P fn.params.toList s.vars false W args.toList ds gs before) (hB : Below W.heap.size W W') : s.post enc P fn false fresh handsOn again W args (.bool true) W' := by
  have hW' := hW
  obtain ⟨p, q, hA, hV, rfl, hfz, hnd⟩ := hW
  rw [hv] at hV
  obtain ⟨rfl, rfl⟩ := trodVars_none hV
  have hlen := trodAll_len hA
  have hfn : s.fn H (ds ++ []) = ⟨[.lit (.bool true)], ds, []⟩ := by rw [List.append_nil]; exact hs (by simpa using hlen)
  have hlt : ∀ x ∈ p, x.block < W.heap.size := fun x hx => hW'.lt x (by simpa using hx)
  have hargs : ∀ sp : Nat → Bool, (∀ x ∈ p, sp x.block = true) → DataW.TrodAll enc P W' 0 sp true fn.params.toList args.toList ds p := fun sp hsp => trodAll_kept hl hB hpar hlt hsp hA
  have hres : ∀ (b : Nat) (sp : Nat → Bool) (hd : Bool), DataW.TrodAll enc P W' b sp hd fn.resultTypes.toList ((Value.bool true).resultList fn.resultTypes.size) [.lit (.bool true)] [] := fun b sp hd => by
    rw [hr]
    exact trodAll_mk1 (shut_bool hb true)
  refine ⟨ds, [], p ++ [], [], p, [], hW', by rw [hfn]; exact hres _ _ _, by rw [hfn]; exact hargs _ fun x hx => by simpa using hlt x hx, by rw [hfn, hv]; rfl, ?_, fun _ => ⟨ok_one hr rfl (okWide_bool_mk hb _), _, [], ([] ++ p) ++ [], ⟨[] ++ p, [], trodAll_append (hargs _ fun _ _ => rfl) (hres _ _ _), by rw [hv]; exact (rfl : DataW.TrodVars enc P W' _ [] [] []), rfl, ?_, ?_⟩, ?_⟩⟩
  · exact hB.frame _
  · intro b off hp
    rw [hB.frozen (hlt _ (by simpa using hp))]
    exact hfz b off (by simpa using hp)
  · intro h; cases h
  · intro x hx _
    simpa using hx
/-! ### A law's contract -/
/-- A law's answer: one bool. -/
def boolS : Spec := ⟨[.one (.ty .bool)], []⟩
/-- What a machine's run says of a law. -/
theorem law_calls {E : Env} {T : Tab} (hm : E.P.follows .mixedOrders = true) (hin : IntrOK E T) (hok : OkOK E) {k : Nat} {f : FuncId} {xs : List PV} (h : (mach E k).call f boolS xs = some true)
    {W : World} {vs : List Value} (hT : Good T (allMem W) noL W) (hx : RPs (allMem W) xs vs) : Calls E.P f vs.toArray W fun e W' => e = .returned (.bool true) ∧ Below W.heap.size W W' := by
  refine ((mach_sound hm hin hok k).1 f boolS xs _ h (allMem W) W vs hT (allMem_inv W) hx).mono ?_
  rintro e W' ⟨us, S', L', rfl, h1, h2⟩
  have e1 : rebT boolS true = [.p (.v (.bool true))] := rfl
  rw [e1] at h1
  obtain ⟨v, r, rfl, h3, h4⟩ := h1
  rw [RIs_nil] at h4
  subst h4
  have h6 : v = .bool true := h3
  subst h6
  exact ⟨rfl, h2.kp.os, h2.kp.tape, h2.kp.output, h2.kp.size, fun k hk => h2.kp.block k hk own_noL⟩
theorem law_contract {E : Env} {T : Tab} (hm : E.P.follows .mixedOrders = true) (hin : IntrOK E T) (hok : OkOK E) {f : FuncId} {fn : Func} {tb : TypeId} (hlay : fn.params.toList.all (fun t => layOK E.P 8 t && (tyT E.P 8 t).isSome) = true) (hl : laidOutB E.P = true)
    (hpar : fn.params.toList.all (fun t => E.P.readableRec t && decide (t < E.P.types.size)) = true) (hr : fn.resultTypes = #[tb]) (hb : E.P.underlying tb = some .bool)
    {Q : Nat → Prop} (htrue : ∀ xs, ArgsTy E.P Q fn.params.toList xs → ∃ k, (mach E k).call f boolS xs = some true)
    {s : ChangeSpec} (hv : s.vars = []) (hs : ∀ ds : List (DataW H), ds.length = fn.params.size → s.fn H ds = ⟨[.lit (.bool true)], ds, []⟩) {W : World} {base : Nat} {args : Array Value} {ds gs : List (DataW H)} {before : List MemPlace} {fresh handsOn again : Bool}
    (hval : ∀ (j : Nat) t v, fn.params[j]? = some t → args[j]? = some v → Value.okWide E.P W .any base t v) (hW : DataW.Whole enc E.P fn.params.toList s.vars false W args.toList ds gs before) (hT : Good T (allMem W) noL W) (hQ : ∀ d ∈ ds, ∀ n, (∀ B, BulkOK B → n ≤ B d) → Q n) :
    Calls E.P f args W fun e W' => ∃ v, e = .returned v ∧ s.post enc E.P fn false fresh handsOn again W args v W' := by
  have hW' := hW
  obtain ⟨p, q, hA, hV, rfl, hfz, hnd⟩ := hW
  obtain ⟨xs, h1, h2⟩ := args_open (base := base) hQ hlay (fun j t v g1 g2 => hval j t v (by simpa using g1) (by simpa using g2)) hA
  obtain ⟨k, h3⟩ := htrue xs h2
  have := law_calls hm hin hok h3 hT h1
  refine (show Calls E.P f args W _ by simpa using this).mono ?_
  rintro e W' ⟨rfl, hB⟩
  exact ⟨_, rfl, post_law hl hpar hv hr hb (hs ds) hW' hB⟩
end
end Go.Proofs.YtfaofikhabccoaaGreatDoor.Jv
