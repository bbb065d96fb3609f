/- From a row's reading of its arguments to the ideal machine's values, and back from its answer to the row's promise; conditions: none. -/
import Derived.Test.YtgldfdpdjlohiaaDoorIvExec
import Derived.WalkKit
import Derived.ProofKit
import Derived.OpenShut
import Derived.Carry
import Derived.Deep.DeepHandedRow
namespace Go.Proofs.YtgldfdpdjlohiaaDoor.Iv
open Go Go.RowKit Go.ChangeShapes Go.WideShapes
/-! ### What the values of a type look like -/
def isF (r : TypeId → List PV → Prop) : List Field → List PV → Prop
  | [], ps => ps = []
  | f :: l, ps => ∃ a b, r f.type a ∧ isF r l b ∧ ps = a ++ b
def IsTy (P : Program) : Nat → TypeId → List PV → Prop
  | 0, _, _ => False
  | d + 1, t, ps => match P.underlying t with
    | some (.int k) => ∃ n, k.min ≤ n ∧ n ≤ k.max ∧ ps = [.v (.int k n)]
    | some .bool => ∃ b, ps = [.v (.bool b)]
    | some .string => ∃ s : ByteArray, s.size ≤ maxLen ∧ ps = [.v (.string s)]
    | some (.slice e) => ps = [.v (.slice none 0 0)] ∨ ∃ es : List (List PV), (∀ c ∈ es, IsTy P d e c) ∧ es.length ≤ maxLen ∧ ps = [.ro es.length es.flatten]
    | some (.struct fs) => isF (IsTy P d) fs.toList ps
    | _ => False
def fieldsOK (P : Program) (r : TypeId → Bool) : Nat → List Field → Nat → Bool
  | off, [], n => off == n
  | off, f :: l, n => f.offset == off && r f.type && fieldsOK P r (off + P.cellsOf f.type) l n
def layOK (P : Program) : Nat → TypeId → Bool
  | 0, _ => false
  | d + 1, t => match P.underlying t with
    | some (.int _) => true
    | some .bool => true
    | some .string => true
    | some (.slice e) => layOK P d e && decide (0 < P.cellsOf e)
    | some (.struct fs) => fieldsOK P (layOK P d) 0 fs.toList (P.cellsOf t)
    | _ => false
/-- All of memory, as it stands. -/
def allMem (w : World) : Mem := fun b o v => w.cell? ⟨b, o, none⟩ = some v ∧ v.oneCell' = true ∧ b < w.heap.size
theorem allMem_inv (w : World) : Inv (allMem w) noL [] w :=
  ⟨(fun b k h => by simp at h), (fun _ _ => rfl), (fun i j a b h => by cases h), (fun i a h => by cases h), fun b o v h => ⟨h.1, h.2.1, h.2.2, fun i a h => by cases h⟩⟩
theorem RPm_append {S : Mem} {l r : List PV} {b o : Nat} (h1 : RPm S l b o) (h2 : RPm S r b (o + l.length)) : RPm S (l ++ r) b o := by
  induction l generalizing o with
  | nil => simpa using h2
  | cons x l ih =>
    obtain ⟨h3, h4⟩ := h1
    exact ⟨h3, ih h4 (by rwa [List.length_cons, show o + (l.length + 1) = o + 1 + l.length from by omega] at h2)⟩
theorem cells?_get {w : World} {a : Addr} {n : Nat} {cs : List Value} (h : w.cells? 0 a n = some cs) : cs.length = n ∧ ∀ j v, cs[j]? = some v → w.cell? (a.add j) = some v := by
  unfold World.cells? at h
  simp only [Nat.zero_le, if_true] at h
  have hl := mapM_some_length h
  simp only [List.length_range] at hl
  refine ⟨hl, fun j v hj => ?_⟩
  have hlt : j < n := by rw [← hl]; exact (List.getElem?_eq_some_iff.1 hj).1
  have := mapM_some_get h j j (by simp [hlt])
  rw [this]; exact hj
section
variable {H : Type} {enc : TypeId × Value → H} {P : Program} {w : World}
theorem cell_lt {b o : Nat} {v : Value} (h : w.cell? ⟨b, o, none⟩ = some v) : b < w.heap.size := by
  unfold World.cell? at h
  split at h
  · rename_i hb; exact (Array.getElem?_eq_some_iff.1 hb).1
  · cases h
theorem cell_spot {a : Addr} {v : Value} (h : w.cell? a = some v) : a = ⟨a.block, a.off, none⟩ := by
  unfold World.cell? at h
  split at h
  · split at h
    · cases h
    · rename_i hs
      obtain ⟨b, o, s⟩ := a
      cases s with
      | none => rfl
      | some q => simp at hs
  · cases h
/-- What is read at a type has the type's look. -/
theorem trod_isTy : ∀ (d : Nat) (t : TypeId) (fuel : Nat) (cs : List Value) (x : DataW H × List MemPlace), layOK P d t = true → DataW.trod enc P w 0 (fun _ => true) true fuel t cs = some x →
    ∃ ps, RPs (allMem w) ps cs ∧ IsTy P d t ps ∧ ∀ v ∈ cs, v.oneCell' = true
  | 0, _, _, _, _, h, _ => by cases h
  | d + 1, t, fuel, cs, x, hl, h => by
    unfold layOK at hl
    split at hl
    · rename_i k hu
      obtain ⟨n, rfl, _, hw⟩ := DataW.trod_int hu h
      simp only [Lit.wf, Bool.and_eq_true, decide_eq_true_eq] at hw
      refine ⟨[.v (.int k n)], RPs_mapV [.int k n], ?_, by simp [Value.oneCell']⟩
      simp only [IsTy, hu]
      exact ⟨n, hw.1, hw.2, rfl⟩
    · rename_i hu
      obtain ⟨b, rfl, _⟩ := DataW.trod_bool hu h
      refine ⟨[.v (.bool b)], RPs_mapV [.bool b], ?_, by simp [Value.oneCell']⟩
      simp only [IsTy, hu]
      exact ⟨b, rfl⟩
    · rename_i hu
      obtain ⟨s, rfl, _, hs⟩ := DataW.trod_string hu h
      refine ⟨[.v (.string s)], RPs_mapV [.string s], ?_, by simp [Value.oneCell']⟩
      simp only [IsTy, hu]
      exact ⟨s, hs, rfl⟩
    · rename_i e hu
      simp only [Bool.and_eq_true, decide_eq_true_eq] at hl
      rcases DataW.trod_slice hu h with ⟨rfl, _⟩ | ⟨a, len, cap, elems, rest, n, rfl, rfl, _, _, hlc, hcm, hel, hels, _, _⟩
      · refine ⟨[.v (.slice none 0 0)], RPs_mapV [.slice none 0 0], ?_, by simp [Value.oneCell']⟩
        unfold IsTy
        rw [hu]
        exact .inl rfl
      · have elem : ∀ i, i < len → ∃ cs', w.cells? 0 (a.add (i * P.cellsOf e)) (P.cellsOf e) = some cs' ∧ ∃ ps, RPs (allMem w) ps cs' ∧ IsTy P d e ps ∧ ∀ v ∈ cs', v.oneCell' = true := fun i hi => by
          have h1 := hels i hi
          rw [List.getElem?_eq_getElem (by omega)] at h1
          obtain ⟨cs', h2, h3⟩ := Option.bind_eq_some_iff.1 h1
          exact ⟨cs', h2, trod_isTy d e n cs' _ hl.1 h3⟩
        have spot : len ≠ 0 → a = ⟨a.block, a.off, none⟩ := fun hne => by
          obtain ⟨cs', h2, _⟩ := elem 0 (by omega)
          obtain ⟨h3, h4⟩ := cells?_get h2
          cases cs' with
          | nil => simp at h3; omega
          | cons v cs' =>
            have := h4 0 v rfl
            rw [Nat.zero_mul, show (a.add 0).add 0 = a from by simp [Addr.add]] at this
            exact cell_spot this
        have build : ∀ m, m ≤ len → ∃ es : List (List PV), es.length = m ∧ (∀ c ∈ es, IsTy P d e c) ∧ es.flatten.length = m * P.cellsOf e ∧ (m ≠ 0 → RPm (allMem w) es.flatten a.block a.off) := by
          intro m
          induction m with
          | zero => intro _; exact ⟨[], rfl, by simp, by simp, fun h => absurd rfl h⟩
          | succ m ih =>
            intro hm
            obtain ⟨es, g1, g2, g3, g4⟩ := ih (by omega)
            obtain ⟨cs', h2, ps, h3, h4, h5⟩ := elem m (by omega)
            obtain ⟨h6, h7⟩ := cells?_get h2
            have hsp := spot (by omega)
            rw [hsp, Addr_add] at h7
            refine ⟨es ++ [ps], by simp [g1], ?_, ?_, fun _ => ?_⟩
            · intro c hc
              rcases List.mem_append.1 hc with hc | hc
              · exact g2 c hc
              · simp at hc; subst hc; exact h4
            · simp [g3, ← h3.length, h6, Nat.add_mul]
            · have hnew : RPm (allMem w) ps a.block (a.off + es.flatten.length) := by
                rw [g3]
                refine RPm_of h3 fun j v hj => ?_
                have := h7 j v hj
                rw [Addr_add] at this
                exact ⟨this, h5 v (List.mem_of_getElem? hj), cell_lt this⟩
              rw [List.flatten_append, List.flatten_cons, List.flatten_nil, List.append_nil]
              by_cases hm0 : m = 0
              · subst hm0
                have : es = [] := List.eq_nil_of_length_eq_zero g1
                subst this
                simpa using hnew
              · exact RPm_append (g4 hm0) hnew
        obtain ⟨es, g1, g2, g3, g4⟩ := build len (Nat.le_refl _)
        refine ⟨[.ro es.length es.flatten], ?_, ?_, by simp [Value.oneCell']⟩
        · refine RPs_cons.2 ⟨⟨some a, cap, by rw [g1], by omega, ?_⟩, by simp [RPs]⟩
          by_cases h0 : len = 0
          · left
            have : es = [] := List.eq_nil_of_length_eq_zero (by omega)
            subst this; exact ⟨rfl, rfl⟩
          · right
            exact ⟨a.block, a.off, by rw [← spot h0], g4 h0⟩
        · simp only [IsTy, hu]
          exact .inr ⟨es, g2, by omega, rfl⟩
    · rename_i fs hu
      obtain ⟨xs, n, rfl, rfl, hcl, hxl, hf⟩ := DataW.trod_struct hu h
      have key : ∀ (l : List Field) (k off : Nat), fs.toList.drop k = l → fieldsOK P (layOK P d) off l (P.cellsOf t) = true → off ≤ cs.length → ∃ ps, RPs (allMem w) ps (cs.drop off) ∧ isF (IsTy P d) l ps ∧ ∀ v ∈ cs.drop off, v.oneCell' = true := by
        intro l
        induction l with
        | nil =>
          intro k off _ h1 h2
          simp only [fieldsOK, beq_iff_eq] at h1
          rw [List.drop_eq_nil_of_le (by omega)]
          exact ⟨[], by simp [RPs], rfl, by simp⟩
        | cons f l ih =>
          intro k off hk h1 h2
          simp only [fieldsOK, Bool.and_eq_true, beq_iff_eq] at h1
          obtain ⟨⟨h3, h4⟩, h5⟩ := h1
          have hget : fs[k]? = some f := by
            rw [← Array.getElem?_toList, ← Nat.add_zero k, ← List.getElem?_drop, hk]; rfl
          have hk' : fs.toList.drop (k + 1) = l := by rw [← List.drop_drop, hk]; rfl
          have hlt : k < fs.size := (Array.getElem?_eq_some_iff.1 hget).1
          have h6 := hf k f hget
          rw [List.getElem?_eq_getElem (by omega)] at h6
          obtain ⟨p1, q1, q2, q3⟩ := trod_isTy d f.type n _ _ h4 h6
          have hw : ∀ (l : List Field) (off : Nat), fieldsOK P (layOK P d) off l (P.cellsOf t) = true → off ≤ P.cellsOf t := by
            intro l
            induction l with
            | nil => intro off h; simp only [fieldsOK, beq_iff_eq] at h; omega
            | cons g l ihl => intro off h; simp only [fieldsOK, Bool.and_eq_true] at h; have := ihl _ h.2; omega
          have h7 := hw _ _ h5
          obtain ⟨p2, q4, q5, q6⟩ := ih (k + 1) (off + P.cellsOf f.type) hk' h5 (by omega)
          rw [h3] at q1 q3
          have hsplit : cs.drop off = (cs.drop off).take (P.cellsOf f.type) ++ cs.drop (off + P.cellsOf f.type) := by
            rw [← List.drop_drop, List.take_append_drop]
          refine ⟨p1 ++ p2, ?_, ⟨p1, p2, q2, q5, rfl⟩, ?_⟩
          · rw [hsplit]; exact q1.append q4
          · rw [hsplit]
            intro v hv
            rcases List.mem_append.1 hv with hv | hv
            · exact q3 v hv
            · exact q6 v hv
      obtain ⟨ps, q1, q2, q3⟩ := key fs.toList 0 0 List.drop_zero hl (Nat.zero_le _)
      rw [List.drop_zero] at q1 q3
      refine ⟨ps, q1, ?_, q3⟩
      simp only [IsTy, hu]
      exact q2
    · cases hl
/-! ### Arguments -/
def argP (P : Program) (t : TypeId) (ps : List PV) : PV := match isAggT P t with
  | true => mkAggP ps
  | false => match ps with
    | [x] => x
    | _ => .v Go.undef
def ArgsTy (P : Program) : List TypeId → List PV → Prop
  | [], xs => xs = []
  | t :: ts, xs => ∃ ps r, IsTy P 8 t ps ∧ ArgsTy P ts r ∧ xs = argP P t ps :: r
theorem args_open {base : Nat} : ∀ {ts : List TypeId} {vs : List Value} {ds : List (DataW H)} {pl : List MemPlace}, ts.all (layOK P 8) = true → (∀ (j : Nat) t v, ts[j]? = some t → vs[j]? = some v → Value.okWide P w .any base t v) →
    DataW.TrodAll enc P w 0 (fun _ => true) true ts vs ds pl → ∃ xs, RPs (allMem w) xs vs ∧ ArgsTy P ts xs
  | [], vs, ds, pl, _, _, h => by
    obtain ⟨rfl, _, _⟩ := trodAll_nil h
    exact ⟨[], by simp [RPs], rfl⟩
  | t :: ts, vs, ds, pl, hl, hv, h => by
    obtain ⟨v, vs, d, ds, p, q, rfl, rfl, rfl, h1, h2⟩ := trodAll_cons h
    simp only [List.all_cons, Bool.and_eq_true] at hl
    obtain ⟨xs, h3, h4⟩ := args_open hl.2 (fun j t v h5 h6 => hv (j + 1) t v (by simpa using h5) (by simpa using h6)) h2
    obtain ⟨fuel, h5⟩ := h1
    obtain ⟨ps, h6, h7, h8⟩ := trod_isTy 8 t fuel _ _ hl.1 h5
    have hok := hv 0 t v rfl rfl
    refine ⟨argP P t ps :: xs, RPs_cons.2 ⟨?_, h3⟩, ps, xs, h7, h4, rfl⟩
    unfold argP
    cases hag : isAggT P t with
    | true =>
      have : ∃ cs : Array Value, v = .agg cs := by
        unfold isAggT at hag
        unfold Value.okWide at hok
        split at hag
        · rename_i hu; rw [hu] at hok; obtain ⟨cs, e, _⟩ := hok; exact ⟨cs, e⟩
        · rename_i hu; rw [hu] at hok; obtain ⟨cs, e, _⟩ := hok; exact ⟨cs, e⟩
        · cases hag
      obtain ⟨cs, rfl⟩ := this
      simpa [Value.cells] using mkAggP_rel h6
    | false =>
      have hcell : v.cells.toList = [v] ∨ ∃ a, v = .agg a := by
        cases v <;> simp [Value.cells]
      have hl8 := hl.1
      have hu0 : ∀ cs, v = .agg cs → False := by
        intro cs e
        subst e
        unfold layOK at hl8
        unfold isAggT at hag
        unfold Value.okWide at hok
        cases hu : P.underlying t with
        | none => rw [hu] at hl8; cases hl8
        | some td =>
          rw [hu] at hl8 hag hok
          cases td <;> simp only at hl8 hag hok <;> first
            | (cases hl8; done)
            | (cases hag; done)
            | (simp [Cell.okWide, hu, Cell.ok] at hok; done)
      rcases hcell with e | ⟨cs, e⟩
      · rw [e] at h6
        cases ps with
        | nil => simp [RPs] at h6
        | cons x ps =>
          obtain ⟨g1, g2⟩ := RPs_cons.1 h6
          cases ps with
          | nil => exact g1
          | cons y ps => simp [RPs] at g2
      · exact (hu0 cs e).elim
/-! ### The row's promise -/
theorem trodAll_kept (hl : laidOutB P = true) {W W' : World} (hB : Below W.heap.size W W') {sp : Nat → Bool} : ∀ {ts : List TypeId} {vs : List Value} {ds : List (DataW H)} {pl : List MemPlace}, ts.all (fun t => P.readableRec t && decide (t < P.types.size)) = true →
    (∀ x ∈ pl, x.block < W.heap.size) → (∀ x ∈ pl, sp x.block = true) → DataW.TrodAll enc P W 0 (fun _ => true) true ts vs ds pl → DataW.TrodAll enc P W' 0 sp true ts vs ds pl
  | [], vs, ds, pl, _, _, _, h => by
    obtain ⟨rfl, rfl, rfl⟩ := trodAll_nil h
    exact trodAll_mk0
  | t :: ts, vs, ds, pl, hr, hlt, hsp, h => by
    obtain ⟨v, vs, d, ds, p, q, rfl, rfl, rfl, h1, h2⟩ := trodAll_cons h
    simp only [List.all_cons, Bool.and_eq_true, decide_eq_true_eq] at hr
    refine ⟨p, q, ?_, trodAll_kept hl hB hr.2 (fun x hx => hlt x (by simp [hx])) (fun x hx => hsp x (by simp [hx])) h2, rfl⟩
    exact WideElems.Trod_stays hl hr.1.1 hr.1.2 h1 (fun x hx => hB.same (hlt x (by simp [hx]))) fun x hx => hsp x (by simp [hx])
theorem trodAll_len {base : Nat} {sp : Nat → Bool} {held : Bool} : ∀ {ts : List TypeId} {vs : List Value} {ds : List (DataW H)} {pl : List MemPlace}, DataW.TrodAll enc P w base sp held ts vs ds pl → ds.length = ts.length
  | [], vs, ds, pl, h => by obtain ⟨_, rfl, _⟩ := trodAll_nil h; rfl
  | t :: ts, vs, ds, pl, h => by
    obtain ⟨v, vs, d, ds, p, q, rfl, rfl, rfl, _, h2⟩ := trodAll_cons h
    simp [trodAll_len h2]
theorem post_law {fn : Func} {s : ChangeSpec} {tb : TypeId} {W W' : World} {args : Array Value} {ds gs : List (DataW H)} {before : List MemPlace} {fresh handsOn again : Bool} (hl : laidOutB P = true)
    (hpar : fn.params.toList.all (fun t => P.readableRec t && decide (t < P.types.size)) = true) (hv : s.vars = []) (hr : fn.resultTypes = #[tb]) (hb : P.underlying tb = some .bool)
    (hs : ds.length = fn.params.size → s.fn H ds = ⟨[.lit (.bool true)], ds, []⟩)
    (hW : DataW.Whole enc P fn.params.toList s.vars false W args.toList ds gs before) (hB : Below W.heap.size W W') : s.post enc P fn false fresh handsOn again W args (.bool true) W' := by
  have hW' := hW
  obtain ⟨p, q, hA, hV, rfl, hfz, hnd⟩ := hW
  rw [hv] at hV
  obtain ⟨rfl, rfl⟩ := trodVars_none hV
  have hlen := trodAll_len hA
  have hfn : s.fn H (ds ++ []) = ⟨[.lit (.bool true)], ds, []⟩ := by rw [List.append_nil]; exact hs (by simpa using hlen)
  have hlt : ∀ x ∈ p, x.block < W.heap.size := fun x hx => hW'.lt x (by simpa using hx)
  have hargs : ∀ sp : Nat → Bool, (∀ x ∈ p, sp x.block = true) → DataW.TrodAll enc P W' 0 sp true fn.params.toList args.toList ds p := fun sp hsp => trodAll_kept hl hB hpar hlt hsp hA
  have hres : ∀ (b : Nat) (sp : Nat → Bool) (hd : Bool), DataW.TrodAll enc P W' b sp hd fn.resultTypes.toList ((Value.bool true).resultList fn.resultTypes.size) [.lit (.bool true)] [] := fun b sp hd => by
    rw [hr]
    exact trodAll_mk1 (shut_bool hb true)
  refine ⟨ds, [], p ++ [], [], p, [], hW', by rw [hfn]; exact hres _ _ _, by rw [hfn]; exact hargs _ fun x hx => by simpa using hlt x hx, by rw [hfn, hv]; rfl, ?_, fun _ => ⟨ok_one hr rfl (okWide_bool_mk hb _), _, [], ([] ++ p) ++ [], ⟨[] ++ p, [], trodAll_append (hargs _ fun _ _ => rfl) (hres _ _ _), by rw [hv]; exact (rfl : DataW.TrodVars enc P W' _ [] [] []), rfl, ?_, ?_⟩, ?_⟩⟩
  · exact hB.frame _
  · intro b off hp
    rw [hB.frozen (hlt _ (by simpa using hp))]
    exact hfz b off (by simpa using hp)
  · intro h; cases h
  · intro x hx _
    simpa using hx
/-! ### A law's contract -/
/-- What a machine's run says of a law. -/
theorem law_calls {E : Env} {T : Tab} (hm : E.P.follows .mixedOrders = true) (hin : IntrOK E T) (hok : OkOK E) {k : Nat} {f : FuncId} {xs : List PV} (h : callP E k f xs = some (.v (.bool true)))
    {W : World} {vs : List Value} (hT : Good T (allMem W) noL W) (hx : RPs (allMem W) xs vs) : Calls E.P f vs.toArray W fun e W' => e = .returned (.bool true) ∧ Below W.heap.size W W' := by
  refine (cp_sound hin (mach_sound hm hin hok k).1 f xs _ h (allMem W) W vs hT (allMem_inv W) hx).mono ?_
  rintro e W' ⟨v, S', rfl, h1, h2, h3, h4, h5⟩
  have h6 : v = .bool true := h5
  subst h6
  exact ⟨rfl, h4⟩
theorem law_contract {E : Env} {T : Tab} (hm : E.P.follows .mixedOrders = true) (hin : IntrOK E T) (hok : OkOK E) {f : FuncId} {fn : Func} {tb : TypeId} (hlay : fn.params.toList.all (layOK E.P 8) = true) (hl : laidOutB E.P = true)
    (hpar : fn.params.toList.all (fun t => E.P.readableRec t && decide (t < E.P.types.size)) = true) (hr : fn.resultTypes = #[tb]) (hb : E.P.underlying tb = some .bool)
    (htrue : ∀ xs, ArgsTy E.P fn.params.toList xs → ∃ k, callP E k f xs = some (.v (.bool true)))
    {s : ChangeSpec} (hv : s.vars = []) (hs : ∀ ds : List (DataW H), ds.length = fn.params.size → s.fn H ds = ⟨[.lit (.bool true)], ds, []⟩) {W : World} {base : Nat} {args : Array Value} {ds gs : List (DataW H)} {before : List MemPlace} {fresh handsOn again : Bool}
    (hval : ∀ (j : Nat) t v, fn.params[j]? = some t → args[j]? = some v → Value.okWide E.P W .any base t v) (hW : DataW.Whole enc E.P fn.params.toList s.vars false W args.toList ds gs before) (hT : Good T (allMem W) noL W) :
    Calls E.P f args W fun e W' => ∃ v, e = .returned v ∧ s.post enc E.P fn false fresh handsOn again W args v W' := by
  have hW' := hW
  obtain ⟨p, q, hA, hV, rfl, hfz, hnd⟩ := hW
  obtain ⟨xs, h1, h2⟩ := args_open (base := base) hlay (fun j t v g1 g2 => hval j t v (by simpa using g1) (by simpa using g2)) hA
  obtain ⟨k, h3⟩ := htrue xs h2
  have := law_calls hm hin hok h3 hT h1
  refine (show Calls E.P f args W _ by simpa using this).mono ?_
  rintro e W' ⟨rfl, hB⟩
  exact ⟨_, rfl, post_law hl hpar hv hr hb (hs ds) hW' hB⟩
end
end Go.Proofs.YtgldfdpdjlohiaaDoor.Iv
