/- What is told of bytes.Cut at one byte and of strings.Map: each off its contract; conditions: none. -/
import Derived.Test.YtfaofikhabccoaaGreatDoorJvStr
import Derived.Shelf.Bytes.SlCut
import Derived.Shelf.Strings.MapGrows
namespace Go.Proofs.YtfaofikhabccoaaGreatDoor.Jv
open Go Go.RowKit Go.Shelf
set_option linter.unusedVariables false
set_option linter.unusedSimpArgs false
section
variable {P : Program} {ρ : Ren}
set_option maxHeartbeats 1000000 in
set_option maxRecDepth 100000 in
theorem bytes_IndexByte_e (L : Lays.n187 P ρ) (c : Nat) (cv : Int) (w : World) :
    Calls P (ρ.f 187) #[.slice none 0 c, .int .u8 cv] w fun e w' => e = .returned (.int .i64 (-1)) ∧ w' = w := by
  have t3 := L.t3; have t5 := L.t5; have t37 := L.t37
  have a3 := L.a3; have a5 := L.a5; have a37 := L.a37
  have mixed := L.mixed; have z3 := L.z3; have v3 := L.v3; have z5 := L.z5; have v5 := L.v5; have z37 := L.z37; have v37 := L.v37
  go_enter L.f187, Body.n187_ntmps ρ
  go_wp2
  rw [run_callFunc_extern L.f255 (by kernel_rfl) (by kernel_rfl) (by kernel_rfl) (e := Extern.BytealgIndexByte.indexByte) (by kernel_rfl), Lib.run_indexByteNil w 0 c cv]
  simp only [Result.andThen]
  rw [Oper.upon_value]
  go_wp2
  go_ret
  exact ⟨rfl, rfl⟩
set_option maxHeartbeats 2000000 in
set_option maxRecDepth 1000000 in
theorem bytes_Index_one_e (L : Lays.n185 P ρ) (c b2 o2 d : Nat) (cv : Int) (w : World) (hc2 : w.cell? ⟨b2, o2, none⟩ = some (.int .u8 cv)) :
    Calls P (ρ.f 185) #[.slice none 0 c, .slice (some ⟨b2, o2, none⟩) 1 d] w fun e w' => e = .returned (.int .i64 (-1)) ∧ w' = w := by
  have mixed := L.mixed; have t0 := L.t0; have a0 := L.a0; have z0 := L.z0; have v0 := L.v0; have t3 := L.t3; have a3 := L.a3; have z3 := L.z3; have v3 := L.v3; have t4 := L.t4; have a4 := L.a4; have z4 := L.z4; have v4 := L.v4; have t5 := L.t5; have a5 := L.a5; have z5 := L.z5; have v5 := L.v5; have t9 := L.t9; have a9 := L.a9; have z9 := L.z9; have v9 := L.v9; have t37 := L.t37; have a37 := L.a37; have z37 := L.z37; have v37 := L.v37; have t46 := L.t46; have a46 := L.a46; have z46 := L.z46; have v46 := L.v46; have t51 := L.t51; have a51 := L.a51; have z51 := L.z51; have v51 := L.v51; have t146 := L.t146; have a146 := L.a146; have z146 := L.z146; have v146 := L.v146; have g1 := L.g1
  have e187 : ∀ args w, (callFunc (ρ.f 187) args).run P w = .ok (.enter (ρ.f 187) args) w := enters_of L.f187 (by kernel_rfl) rfl
  go_enter L.f185, Body.n185_ntmps ρ
  go_wp2_with (go_at_fn (ρ.f 187); refine (bytes_IndexByte_e (P := P) (ρ := ρ) { L with } c cv _).mono ?_; rintro e w' ⟨rfl, rfl⟩)
  go_ret
  exact ⟨rfl, rfl⟩
theorem bytes_Cut_any (L : SlLaysT.n4 P ρ) (p1 : Option Addr) (n c1 b2 o2 k c2 : Nat) (xs ys : List Int) (m : Int) (w : World) (hx : xs.length = n) (hy : ys.length = k) (hk : 1 ≤ k) (hk2 : k < 4294967281) (hr1 : ∀ x ∈ xs, 0 ≤ x ∧ x < 256) (hr2 : ∀ y ∈ ys, 0 ≤ y ∧ y < 256)
    (h1 : Lib.BytesIn w p1 n xs) (h2 : Lib.BytesIn w (some ⟨b2, o2, none⟩) k ys) (hcap : n ≤ c1) (hs : n < 4294967281) (hm : w.cell? ⟨ρ.g 0, 0, none⟩ = some (.int .i64 m)) :
    Calls P (ρ.f 4) #[.slice p1 n c1, .slice (some ⟨b2, o2, none⟩) k c2] w fun e w' => e = .returned (Lib.cutV p1 n c1 k (Lib.index (Lib.bytesOf xs) (Lib.bytesOf ys))) ∧ ∃ q, w' = w.drewN q := by
  cases p1 with
  | some a => exact Any.bytes_Cut_all L (some a) (some ⟨b2, o2, none⟩) n c1 k c2 xs ys m w hx hy hr1 hr2 h1 h2 (fun e => by cases e) hcap hs (by omega) hm
  | none =>
    have hn : n = 0 := by
      rcases Nat.eq_zero_or_pos n with h | h
      · exact h
      · obtain ⟨b, o, e, _⟩ := h1 h; cases e
    subst hn
    obtain rfl : xs = [] := List.eq_nil_of_length_eq_zero hx
    have hi : Lib.index (Lib.bytesOf []) (Lib.bytesOf ys) = -1 := Lib.index_long (by simp [Lib.bytesOf]) (fun e => by have := congrArg List.length e; rw [Lib.bytesOf_length, hy, Lib.bytesOf_length, List.length_nil] at this; omega)
    rw [hi]
    refine Any.bytes_Cut_of L none _ 0 c1 k c2 (-1) w (by omega) (by decide) (fun h => absurd h (by decide)) (by decide) ?_
    show Calls P (ρ.viaSlbt.f 185) _ _ _
    rcases Nat.lt_or_ge k 2 with hk3 | hk3
    · obtain rfl : k = 1 := by omega
      have hc2 := (h2.at (by decide))
      obtain ⟨b, o, e, hc2⟩ := hc2
      cases e
      exact (bytes_Index_one_e L.index c1 b2 o2 c2 _ w (hc2 0 (by decide))).mono fun _ _ ⟨he, hw⟩ => ⟨he, 0, hw⟩
    · exact (Any.bytes_Index_longer L.index none _ 0 c1 k c2 w hk3 (by omega) (by omega)).mono fun _ _ ⟨he, hw⟩ => ⟨he, 0, hw⟩
end
theorem bytesOf_nums (l : List UInt8) : Lib.bytesOf (l.map fun b => (b.toNat : Int)) = l := by
  unfold Lib.bytesOf
  rw [List.map_map]
  conv => rhs; rw [← List.map_id l]
  refine List.map_congr_left fun b _ => ?_
  simp
/-! ### bytes.Cut -/
def bytes_Cut (a0 a1 : List UInt8) : Option (List UInt8 × List UInt8 × Bool) := bif decide (a0.length < 4294967281) && (decide (1 ≤ a1.length) && decide (a1.length < 4294967281)) then some (Lib.cut a0 a1) else none
def bcutF : List PV → Option PV
  | [.sl .u8 s, .sl .u8 sep] => match bytes_Cut s sep with
    | some y => some (.tup [.sl .u8 y.1, .sl .u8 y.2.1, .v (.bool y.2.2)])
    | none => none
  | _ => none
theorem bcutF_eq {s sep : List UInt8} {y : List UInt8 × List UInt8 × Bool} (h : bytes_Cut s sep = some y) : bcutF [.sl .u8 s, .sl .u8 sep] = some (.tup [.sl .u8 y.1, .sl .u8 y.2.1, .v (.bool y.2.2)]) := by
  simp only [bcutF, h]
theorem nums_getD (l : List UInt8) {j : Nat} {x : UInt8} (h : l[j]? = some x) : (l.map fun b => (b.toNat : Int)).getD j 0 = (x.toNat : Int) := by
  rw [List.getD_eq_getElem?_getD, List.getElem?_map, h]
  rfl
theorem RSl_cells {S : Mem} {L : Locs} {H : Hp} {w : World} (hi : Inv S L H w) {l : List UInt8} {a : Option Addr} {n cap : Nat} (h : RP S (.sl .u8 l) (.slice a n cap)) : n = l.length ∧ n ≤ cap ∧ Lib.BytesIn w a n (l.map fun b => (b.toNat : Int)) := by
  obtain ⟨a', cap', e, hcap, hm⟩ := h
  cases e
  refine ⟨rfl, hcap, fun hn => ?_⟩
  rcases hm with rfl | ⟨b, o, rfl, hm⟩
  · simp at hn
  · refine ⟨b, o, rfl, fun i hi' => ?_⟩
    have h1 := hm i (l[i]'hi') (List.getElem?_eq_getElem hi')
    have h2 : S b (o + i) (.int .u8 ((l[i]'hi').toNat : Int)) := by simpa [RT, sizeTy] using h1
    rw [nums_getD l (List.getElem?_eq_getElem hi')]
    exact (hi.sta _ _ _ h2).1
theorem RSl_drop {S : Mem} {l : List UInt8} {p : Option Addr} {n c : Nat} (h : RP S (.sl .u8 l) (.slice p n c)) (j : Nat) (hj : j ≤ n) : RP S (.sl .u8 (l.drop j)) (Lib.fromV p n c j) := by
  obtain ⟨a', cap', e, hcap, hm⟩ := h
  cases e
  unfold Lib.fromV
  refine ⟨_, _, by rw [List.length_drop], by rw [List.length_drop]; omega, ?_⟩
  by_cases h0 : l.drop j = []
  · exact .inl h0
  · right
    have hlt : j < l.length := by
      rcases Nat.lt_or_ge j l.length with h | h
      · exact h
      · exact absurd (List.drop_eq_nil_of_le h) h0
    rcases hm with rfl | ⟨b, o, rfl, hm⟩
    · simp at hlt
    · refine ⟨b, o + j, ?_, fun i x hx => ?_⟩
      · rw [if_neg (by omega)]
        simp [Addr.add]
      · rw [List.getElem?_drop] at hx
        have := hm (j + i) x hx
        simp only [sizeTy, Nat.mul_one] at this ⊢
        rw [Nat.add_assoc]
        exact this
theorem RSl_take {S : Mem} {l : List UInt8} {p : Option Addr} {n c : Nat} (h : RP S (.sl .u8 l) (.slice p n c)) (j : Nat) (hj : j ≤ n) : RP S (.sl .u8 (l.take j)) (.slice p j c) := by
  obtain ⟨a', cap', e, hcap, hm⟩ := h
  cases e
  refine ⟨_, _, by rw [List.length_take, Nat.min_eq_left hj], by rw [List.length_take]; omega, ?_⟩
  rcases hm with rfl | ⟨b, o, rfl, hm⟩
  · left; simp
  · right
    refine ⟨b, o, rfl, fun i x hx => ?_⟩
    rw [List.getElem?_take] at hx
    split at hx
    · exact hm i x hx
    · cases hx
theorem bcutF_ok {P : Program} {T : Tab} {f : FuncId} {g : Nat} (hg : NumOK T g)
    (h : ∀ (p1 : Option Addr) (n c1 b2 o2 k c2 : Nat) (xs ys : List Int) (m : Int) (w : World), xs.length = n → ys.length = k → 1 ≤ k → k < 4294967281 → (∀ x ∈ xs, 0 ≤ x ∧ x < 256) → (∀ y ∈ ys, 0 ≤ y ∧ y < 256) →
      Lib.BytesIn w p1 n xs → Lib.BytesIn w (some ⟨b2, o2, none⟩) k ys → n ≤ c1 → n < 4294967281 → w.cell? ⟨g, 0, none⟩ = some (.int .i64 m) →
      Calls P f #[.slice p1 n c1, .slice (some ⟨b2, o2, none⟩) k c2] w fun e w' => e = .returned (Lib.cutV p1 n c1 k (Lib.index (Lib.bytesOf xs) (Lib.bytesOf ys))) ∧ ∃ q, w' = w.drewN q) : IntrOne P T f bcutF := by
  intro args r hr S w vs hG hi hx
  unfold bcutF at hr
  split at hr
  · rename_i s sep
    split at hr
    · rename_i y hy
      cases hr
      unfold bytes_Cut at hy
      cases hc : (decide (s.length < 4294967281) && (decide (1 ≤ sep.length) && decide (sep.length < 4294967281))) with
      | false => rw [hc] at hy; cases hy
      | true =>
        rw [hc] at hy
        cases hy
        simp only [Bool.and_eq_true, decide_eq_true_eq] at hc
        obtain ⟨hs, hsep, hsep2⟩ := hc
        obtain ⟨m, hm⟩ := hg.cell hG
        obtain ⟨v1, r1, rfl, h1, v2, r2, rfl, h2, h3⟩ := hx
        simp only [RPs] at h3
        subst h3
        have h1' := h1
        have h2' := h2
        obtain ⟨a1, c1, rfl, _, _⟩ := h1'
        obtain ⟨a2, c2, rfl, _, _⟩ := h2'
        obtain ⟨_, g1, g2⟩ := RSl_cells hi h1
        obtain ⟨_, _, g3⟩ := RSl_cells hi h2
        obtain ⟨b2, o2, rfl, g4⟩ := g3 (by omega)
        have hrange : ∀ (l : List UInt8), ∀ x ∈ l.map (fun b => (b.toNat : Int)), 0 ≤ x ∧ x < 256 := fun l x hx => by
          obtain ⟨b, _, rfl⟩ := List.mem_map.1 hx
          have := b.toNat_lt
          omega
        refine (h a1 s.length c1 b2 o2 sep.length c2 (s.map fun b => (b.toNat : Int)) (sep.map fun b => (b.toNat : Int)) m w (by simp) (by simp) hsep hsep2 (hrange _) (hrange _) g2 g3 g1 hs hm).mono ?_
        rintro e w' ⟨rfl, q, rfl⟩
        refine ⟨_, rfl, ⟨rfl, rfl, rfl, Nat.le_refl _, fun _ _ => rfl⟩, ?_⟩
        rw [bytesOf_nums, bytesOf_nums]
        have hroom := Lib.index_room s sep
        unfold Lib.cutV Lib.cut
        by_cases h0 : 0 ≤ Lib.index s sep
        · rw [if_pos h0, if_pos h0]
          have := hroom h0
          refine ⟨_, rfl, RPs_cons.2 ⟨RSl_take h1 _ (by omega), RPs_cons.2 ⟨?_, RPs_cons.2 ⟨rfl, by simp [RPs]⟩⟩⟩⟩
          exact RSl_drop h1 _ (by omega)
        · rw [if_neg h0, if_neg h0]
          exact ⟨_, rfl, RPs_cons.2 ⟨h1, RPs_cons.2 ⟨RP_nil .u8 none 0, RPs_cons.2 ⟨rfl, by simp [RPs]⟩⟩⟩⟩
    · cases hr
  · cases hr
/-! ### strings.Map -/
/-- The tables of unicode/utf8 stand. -/
def U8OK (T : Tab) (g3 g4 : Nat) : Prop := ∃ o3 o4, T.blks g3 o3 ∧ T.blks g4 o4 ∧ ∀ w : World, w.heap[g3]? = some o3 → w.heap[g4]? = some o4 → Lib.Utf8Tabs g3 g4 w
theorem tabOf_u8 {W : World} {gs : List Nat} {g3 g4 : Nat} (h : Lib.Utf8Tabs g3 g4 W) (h3 : g3 ∈ gs) (h4 : g4 ∈ gs) : U8OK (tabOf W gs) g3 g4 := by
  have l3 := cell_lt (h.1 0 (by decide))
  have l4 := cell_lt (h.2 0 (by decide)).1
  refine ⟨W.heap[g3], W.heap[g4], ⟨h3, by simp [l3]⟩, ⟨h4, by simp [l4]⟩, fun w w3 w4 => ⟨fun c hc => ?_, fun i hi => ⟨?_, ?_⟩⟩⟩
  · rw [← h.1 c hc]; unfold World.cell?; simp only; rw [w3, Array.getElem?_eq_getElem l3]
  · rw [← (h.2 i hi).1]; unfold World.cell?; simp only; rw [w4, Array.getElem?_eq_getElem l4]
  · rw [← (h.2 i hi).2]; unfold World.cell?; simp only; rw [w4, Array.getElem?_eq_getElem l4]
theorem U8OK.tabs {T : Tab} {g3 g4 : Nat} (h : U8OK T g3 g4) {S : Mem} {w : World} (hG : Good T S noL w) : Lib.Utf8Tabs g3 g4 w := by
  obtain ⟨o3, o4, h3, h4, h⟩ := h
  exact h w (hG.2 _ _ h3).1 (hG.2 _ _ h4).1
def strings_Map (F : Int → Int) (s : List UInt8) : Option (List UInt8) := bif decide (s.length < 35184372088832) then some (Lib.mapD F s) else none
def mapF (g : FuncId) (F : Int → Int) : List PV → Option PV
  | [.v (.func (.func h) ⟨[]⟩ ⟨[]⟩), .v (.string s)] => bif h == g then (match strings_Map F s.data.toList with
    | some y => some (.v (.string ⟨⟨y⟩⟩))
    | none => none) else none
  | _ => none
theorem mapF_eq {g : FuncId} {F : Int → Int} {s y : List UInt8} (h : strings_Map F s = some y) : mapF g F [.v (.func (.func g) ⟨[]⟩ ⟨[]⟩), .v (.string ⟨⟨s⟩⟩)] = some (.v (.string ⟨⟨y⟩⟩)) := by
  simp only [mapF, h, beq_self_eq_true, cond_true]
def i32S : Spec := ⟨[.one (.ty (.int .i32))], []⟩
theorem mapF_ok {E : Env} {T : Tab} {f g : FuncId} {k : Nat} {F : Int → Int} {g3 g4 : Nat} (hm : E.P.follows .mixedOrders = true) (hin : IntrOK E T) (hok : OkOK E) (hT : U8OK T g3 g4)
    (hF : ∀ x : Nat, x ≤ 1114111 → (mach E k).call g i32S [.v (.int .i32 x)] = some (F x)) (hnn : ∀ x : Nat, x ≤ 1114111 → -2147483648 ≤ F x ∧ F x ≤ 2147483647)
    (h : ∀ (s : ByteArray) (w : World), s.size < 35184372088832 → MapGrows E.P g #[] F w → (∀ x : Nat, x ≤ 1114111 → -2147483648 ≤ F x ∧ F x ≤ 2147483647) → Lib.Utf8Tabs g3 g4 w →
      Calls E.P f #[.func (.func g) #[] #[], .string s] w fun e w' => e = .returned (.string ⟨(Lib.mapD F s.data.toList).toArray⟩) ∧ Below w.heap.size w w') : IntrOne E.P T f (mapF g F) := by
  intro args r hr S w vs hG hi hx
  unfold mapF at hr
  split at hr
  · rename_i g' s
    cases hc : g' == g with
    | false => rw [hc] at hr; cases hr
    | true =>
      rw [hc] at hr
      simp only [cond_true] at hr
      have hgg : g' = g := by simpa using hc
      subst hgg
      split at hr
      · rename_i y hy
        cases hr
        unfold strings_Map at hy
        cases hc2 : decide (s.data.toList.length < 35184372088832) with
        | false => rw [hc2] at hy; cases hy
        | true =>
          rw [hc2] at hy
          cases hy
          have hs := of_decide_eq_true hc2
          obtain ⟨v1, r1, rfl, h1, v2, r2, rfl, h2, h3⟩ := hx
          simp only [RPs] at h3
          subst h3
          simp only [RP] at h1 h2
          subst h1 h2
          have hgrow : MapGrows E.P g' #[] F w := fun W x hx hb => by
            have hG' : Good T S noL W := ⟨hG.1, fun g o ho => ⟨by rw [hb.block g (Array.getElem?_eq_some_iff.1 (hG.2 g o ho).1).1]; exact (hG.2 g o ho).1, (hG.2 g o ho).2⟩⟩
            have := (mach_sound hm hin hok k).1 g' i32S _ (F x) (hF x hx) S W [.int .i32 x] hG' (hi.below hb) (RPs_mapV [.int .i32 x])
            refine (show Calls E.P g' (#[encR x] ++ #[]) W _ from this).mono ?_
            rintro e W' ⟨us, S', L', rfl, h1, h2⟩
            have e1 : rebT i32S (F x) = [.p (.v (.int .i32 (F x)))] := rfl
            rw [e1] at h1
            obtain ⟨v, r, rfl, h3, h4⟩ := h1
            rw [RIs_nil] at h4
            subst h4
            have h6 : v = .int .i32 (F x) := h3
            subst h6
            exact ⟨rfl, h2.kp.os, h2.kp.tape, h2.kp.output, h2.kp.size, fun k hk => h2.kp.block k hk own_noL⟩
          refine (h s w (by show s.data.size < _; rw [← Array.length_toList]; exact hs) hgrow hnn (hT.tabs hG)).mono ?_
          rintro e w' ⟨rfl, hb⟩
          exact ⟨_, rfl, hb, rfl⟩
      · cases hr
  · cases hr
end Go.Proofs.YtfaofikhabccoaaGreatDoor.Jv
