/- What is told of strings.Trim and bytes.Clone: each off its contract; conditions: none. -/
import Derived.Test.YtfaofikhabccoaaGreatDoorJvByt
import Derived.Lib.SlTrimSet
namespace Go.Proofs.YtfaofikhabccoaaGreatDoor.Jv
open Go Go.RowKit
set_option linter.unusedVariables false
set_option linter.unusedSimpArgs false
/-! ### strings.Trim -/
def strings_Trim (a0 a1 : List UInt8) : Option (List UInt8) := bif decide (a0.length < 4294967281) && (decide (a1.length < 4294967281) && a1.all fun b => decide (b.toNat < 128)) then some (Lib.trimS a0 a1) else none
def trimF : List PV → Option PV
  | [.v (.string s), .v (.string sep)] => match strings_Trim s.data.toList sep.data.toList with
    | some y => some (.v (.string ⟨⟨y⟩⟩))
    | none => none
  | _ => none
theorem trimF_eq {s sep y : List UInt8} (h : strings_Trim s sep = some y) : trimF [.v (.string ⟨⟨s⟩⟩), .v (.string ⟨⟨sep⟩⟩)] = some (.v (.string ⟨⟨y⟩⟩)) := by
  simp only [trimF, h]
theorem trimF_ok {P : Program} {T : Tab} {f : FuncId}
    (h : ∀ (s cs : ByteArray) (w : World), s.size ≤ 9223372036854775807 → cs.size < 4294967281 → (∀ (j : Nat) b, cs.data.toList[j]? = some b → b.toNat < 128) →
      Calls P f #[.string s, .string cs] w fun e w' => e = .returned (.string ⟨(Lib.trimS s.data.toList cs.data.toList).toArray⟩) ∧ Below w.heap.size w w') : IntrOne P T f trimF := by
  intro args r hr S w vs hG hi hx
  unfold trimF at hr
  split at hr
  · rename_i s sep
    split at hr
    · rename_i y hy
      cases hr
      unfold strings_Trim at hy
      cases hc : (decide (s.data.toList.length < 4294967281) && (decide (sep.data.toList.length < 4294967281) && sep.data.toList.all fun b => decide (b.toNat < 128))) with
      | false => rw [hc] at hy; cases hy
      | true =>
        rw [hc] at hy
        cases hy
        simp only [Bool.and_eq_true, decide_eq_true_eq] at hc
        obtain ⟨hs, hs2, hall⟩ := hc
        rw [two_strings hx]
        have e1 : s.size = s.data.toList.length := by rw [Array.length_toList]; rfl
        have e2 : sep.size = sep.data.toList.length := by rw [Array.length_toList]; rfl
        refine (h s sep w (by omega) (by omega) fun j b hb => of_decide_eq_true (List.all_eq_true.1 hall b (List.mem_of_getElem? hb))).mono ?_
        rintro e w' ⟨rfl, hb⟩
        exact ⟨_, rfl, hb, rfl⟩
    · cases hr
  · cases hr
/-! ### bytes.Clone -/
def bytes_Clone (a0 : List UInt8) : Option (List UInt8) := bif decide (a0.length < 4294967281) then some a0 else none
def bcloneF : List PV → Option PV
  | [.sl .u8 s] => match bytes_Clone s with
    | some y => some (.sl .u8 y)
    | none => none
  | _ => none
theorem bcloneF_eq {s y : List UInt8} (h : bytes_Clone s = some y) : bcloneF [.sl .u8 s] = some (.sl .u8 y) := by
  simp only [bcloneF, h]
theorem bcloneF_ok {P : Program} {T : Tab} {f : FuncId} {te : TypeId}
    (h0 : ∀ (n c : Nat) (w : World), Calls P f #[.slice none n c] w fun e w' => e = .returned (.slice none 0 0) ∧ w' = w)
    (h : ∀ (a : Addr) (n c : Nat) (xs : List Int) (w : World), xs.length = n → n ≤ 140737488355328 → (∀ i, i < n → w.cell? (a.add i) = some (.int .u8 (xs.getD i 0))) →
      Calls P f #[.slice (some a) n c] w fun e w' => ∃ v', e = .returned v' ∧ w'.ownsRow w.heap.size te 1 v' n (xs.map (Value.int .u8)) ∧ v' ≠ .slice none 0 0 ∧ Below w.heap.size w w') : IntrOne' P T f bcloneF := by
  intro args r hr S w vs hG hi hx
  unfold bcloneF at hr
  split at hr
  · rename_i s
    split at hr
    · rename_i y hy
      cases hr
      unfold bytes_Clone at hy
      cases hc : decide (s.length < 4294967281) with
      | false => rw [hc] at hy; cases hy
      | true =>
        rw [hc] at hy
        cases hy
        have hs := of_decide_eq_true hc
        obtain ⟨v1, r1, rfl, h1, h3⟩ := hx
        simp only [RPs] at h3
        subst h3
        have h1' := h1
        obtain ⟨a1, c1, rfl, _, hm⟩ := h1'
        obtain ⟨_, g1, g2⟩ := RSl_cells hi h1
        cases a1 with
        | none =>
          have hnil : s = [] := by
            rcases hm with e | ⟨b, o, e, _⟩
            · exact e
            · cases e
          subst hnil
          refine (h0 _ _ w).mono ?_
          rintro e w' ⟨rfl, rfl⟩
          exact ⟨_, S, rfl, fun _ _ _ h => h, fun _ _ _ h => .inl h, hi, Below.refl _ _, RP_nil .u8 none 0⟩
        | some a =>
          refine (h a s.length c1 (s.map fun b => (b.toNat : Int)) w (by simp) (by omega) fun i hlt => ?_).mono ?_
          · obtain ⟨b, o, e, hc⟩ := g2 (by omega)
            cases e
            rw [Addr_add]
            exact hc i hlt
          · rintro e w' ⟨v', rfl, hown, _, hb⟩
            obtain ⟨_, ⟨rfl, hn⟩ | ⟨g, cap, cur, rfl, hg, hheap, hcap, _, hcur, htake⟩⟩ := hown
            · have hnil : s = [] := List.eq_nil_of_length_eq_zero hn
              subst hnil
              exact ⟨_, S, rfl, fun _ _ _ h => h, fun _ _ _ h => .inl h, hi.below hb, hb, RP_nil .u8 none 0⟩
            · have hcell : ∀ (j : Nat) (x : UInt8), s[j]? = some x → w'.cell? ⟨g, j, none⟩ = some (.int .u8 (x.toNat : Int)) := fun j x hj => by
                have hj2 := (List.getElem?_eq_some_iff.1 hj).1
                have e1 : (cur.toList.take (s.length * 1))[j]? = some (.int .u8 (x.toNat : Int)) := by
                  rw [htake]
                  simp [hj]
                rw [List.getElem?_take] at e1
                rw [if_pos (by omega)] at e1
                unfold World.cell?
                simp only
                rw [hheap]
                simpa using e1
              have hlt : g < w'.heap.size := (Array.getElem?_eq_some_iff.1 hheap).1
              refine ⟨_, fun b o u => S b o u ∨ (b = g ∧ ∃ x, s[o]? = some x ∧ u = .int .u8 (x.toNat : Int)), rfl, fun b o u h => .inl h, fun b o u h => ?_, ⟨(fun b k h => by simp at h), (fun _ _ => rfl), (fun i j a b h => by cases h), (fun i a h => by cases h), fun b o u h => ?_⟩, hb, ?_⟩
              · rcases h with h | ⟨rfl, _⟩
                · exact .inl h
                · exact .inr hg
              · rcases h with h | ⟨rfl, x, hx2, rfl⟩
                · exact (hi.below hb).sta b o u h
                · exact ⟨hcell o x hx2, rfl, hlt, fun i a h => by cases h⟩
              · exact ⟨_, _, rfl, hcap, .inr ⟨g, 0, rfl, fun j x hj => .inr ⟨rfl, x, by simpa [sizeTy] using hj, rfl⟩⟩⟩
    · cases hr
  · cases hr
end Go.Proofs.YtfaofikhabccoaaGreatDoor.Jv
