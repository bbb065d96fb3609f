/- What is told of the library's functions, of sip.small and of sip.address; conditions: none. -/
import Derived.Test.YtfaofikhabccoaaGreatDoorFns1
import Derived.Test.YtfaofikhabccoaaGreatDoorAddrW
import Derived.Test.YtfaofikhabccoaaGreatDoorRefAddrW
import Derived.Test.YtfaofikhabccoaaGreatDoorSmallW
import Derived.Lib.TrimUEq
import Derived.Lib.MapLaws
import Derived.Shelf.Strings.SlTrimAscii
namespace Go.Proofs.YtfaofikhabccoaaGreatDoor.Jv
open Go Go.RowKit Go.Shelf
set_option maxRecDepth 100000
set_option linter.unusedVariables false
set_option linter.unusedSimpArgs false
theorem bcut_ok {T : Tab} (hT : NumOK T 0) : IntrOne Tryz.prog T 20 bcutF :=
  bcutF_ok hT fun p1 n c1 b2 o2 k c2 xs ys m w hx hy hk hk2 hr1 hr2 h1 h2 hcap hs hm => bytes_Cut_any Tryz.laysSlT4 p1 n c1 b2 o2 k c2 xs ys m w hx hy hk hk2 hr1 hr2 h1 h2 hcap hs hm
theorem trim_ok {T : Tab} : IntrOne Tryz.prog T 44 trimF :=
  trimF_ok fun s cs w h1 h2 h3 => Any.strings_Trim_laid Tryz.lays160 (by kernel_rfl) s cs w h1 h2 h3
theorem clone_ok {T : Tab} : IntrOne' Tryz.prog T 45 bcloneF :=
  bcloneF_ok (te := 5) (fun n c w => Tryz.bytes_Clone_nil n c w) fun a n c xs w hx hb hc => Tryz.bytes_Clone_at a n c xs w hx hb hc
/-! ### sip.small -/
theorem smallFrom_map (s : ByteArray) : ∀ (fuel pos : Nat), s.size ≤ pos + fuel → smallFrom s fuel pos = Lib.mapD lowR (s.data.toList.drop pos) := by
  intro fuel
  induction fuel with
  | zero =>
    intro pos h
    have e : s.data.toList.drop pos = [] := List.drop_eq_nil_of_le (by rw [Array.length_toList]; exact h)
    rw [e, Lib.mapD_nil]
    rfl
  | succ n ih =>
    intro pos h
    by_cases hp : pos < s.size
    · have hne : s.data.toList.drop pos ≠ [] := by
        intro e
        have := congrArg List.length e
        rw [List.length_drop, Array.length_toList, List.length_nil] at this
        have : s.data.size - pos = 0 := this
        have h2 : pos < s.data.size := hp
        omega
      have h0 : 0 ≤ lowR ((Utf8.decode s pos).1 : Int) := by unfold lowR; split <;> omega
      have hw := small_width s pos hp
      rw [smallFrom, if_pos hp, Lib.mapD_step _ _ hne, Lib.decodeL_drop, if_pos h0, ih _ (by omega), List.drop_drop]
    · rw [smallFrom_end s _ _ hp]
      have e : s.data.toList.drop pos = [] := List.drop_eq_nil_of_le (by rw [Array.length_toList]; exact Nat.le_of_not_lt hp)
      rw [e, Lib.mapD_nil]
def sip_small (s : List UInt8) : Option (List UInt8) := bif decide (s.length ≤ 35184372088832) then some (Lib.mapD lowR s) else none
def smallF : List PV → Option PV
  | [.v (.string s)] => match sip_small s.data.toList with
    | some y => some (.v (.string ⟨⟨y⟩⟩))
    | none => none
  | _ => none
theorem smallF_eq {s y : List UInt8} (h : sip_small s = some y) : smallF [.v (.string ⟨⟨s⟩⟩)] = some (.v (.string ⟨⟨y⟩⟩)) := by
  simp only [smallF, h]
theorem small_ok {T : Tab} : IntrOne Tryz.prog T 43 smallF := by
  intro args r hr S w vs hG hi hx
  unfold smallF at hr
  split at hr
  · rename_i s
    split at hr
    · rename_i y hy
      cases hr
      unfold sip_small at hy
      cases hc : decide (s.data.toList.length ≤ 35184372088832) with
      | false => rw [hc] at hy; cases hy
      | true =>
        rw [hc] at hy
        cases hy
        obtain ⟨v1, r1, rfl, h1, h3⟩ := hx
        simp only [RPs] at h3
        subst h3
        simp only [RP] at h1
        subst h1
        have hs : s.size ≤ 35184372088832 := by show s.data.size ≤ _; rw [← Array.length_toList]; exact of_decide_eq_true hc
        refine (small_walk s w hs).mono ?_
        rintro e w' ⟨rfl, hb⟩
        refine ⟨_, rfl, hb, ?_⟩
        rw [smallFrom_map s s.size 0 (by omega)]
        rfl
    · cases hr
  · cases hr
/-! ### sip.address -/
noncomputable def sip_address (s : List UInt8) : Option ((Int × Int × Int) × Bool) :=
  bif Lib.hasPrefix s S4.data.toList then (A.addr_Parse (Lib.trimPrefix s S4.data.toList)).bind fun r => some (r.1, r.2 == 0 && r.1.1 == 4)
  else bif Lib.hasPrefix s S6.data.toList then (A.addr_Parse (Lib.trimPrefix s S6.data.toList)).bind fun r => some (r.1, r.2 == 0 && r.1.1 == 6)
  else some ((0, 0, 0), false)
noncomputable def addressF : List PV → Option PV
  | [.v (.string s)] => match sip_address s.data.toList with
    | some y => some (.v (.tuple ⟨[.agg ⟨[.int .i64 y.1.1, .int .u64 y.1.2.1, .int .u64 y.1.2.2]⟩, .bool y.2]⟩))
    | none => none
  | _ => none
theorem addressF_eq {s : List UInt8} {y : (Int × Int × Int) × Bool} (h : sip_address s = some y) : addressF [.v (.string ⟨⟨s⟩⟩)] = some (.v (.tuple ⟨[.agg ⟨[.int .i64 y.1.1, .int .u64 y.1.2.1, .int .u64 y.1.2.2]⟩, .bool y.2]⟩)) := by
  simp only [addressF, h]
theorem address_val {s : List UInt8} {y : (Int × Int × Int) × Bool} (h : sip_address s = some y) : addrV A.addr_Parse s = .tuple ⟨[.agg ⟨[.int .i64 y.1.1, .int .u64 y.1.2.1, .int .u64 y.1.2.2]⟩, .bool y.2]⟩ ∧
    (Lib.hasPrefix s S4.data.toList = true → ∃ r, A.addr_Parse (Lib.trimPrefix s S4.data.toList) = some r) ∧ (Lib.hasPrefix s S6.data.toList = true → ∃ r, A.addr_Parse (Lib.trimPrefix s S6.data.toList) = some r) := by
  unfold sip_address at h
  unfold addrV
  cases h4 : Lib.hasPrefix s S4.data.toList with
  | true =>
    have h6 : Lib.hasPrefix s S6.data.toList = false := by
      cases h6 : Lib.hasPrefix s S6.data.toList with
      | false => rfl
      | true => exact (both_not h4 h6).elim
    rw [h4] at h
    simp only [cond_true] at h
    cases hp : A.addr_Parse (Lib.trimPrefix s S4.data.toList) with
    | none => rw [hp] at h; cases h
    | some r =>
      rw [hp] at h
      cases h
      refine ⟨?_, fun _ => ⟨r, rfl⟩, (fun e => by rw [h6] at e; cases e)⟩
      simp only [if_true, resA, hp]
  | false =>
    rw [h4] at h
    simp only [cond_false] at h
    cases h6 : Lib.hasPrefix s S6.data.toList with
    | true =>
      rw [h6] at h
      simp only [cond_true] at h
      cases hp : A.addr_Parse (Lib.trimPrefix s S6.data.toList) with
      | none => rw [hp] at h; cases h
      | some r =>
        rw [hp] at h
        cases h
        refine ⟨?_, (fun e => Bool.noConfusion e), fun _ => ⟨r, rfl⟩⟩
        simp only [if_true, Bool.false_eq_true, if_false, resA, hp]
    | false =>
      rw [h6] at h
      cases h
      exact ⟨rfl, (fun e => Bool.noConfusion e), (fun e => Bool.noConfusion e)⟩
theorem address_ok {T : Tab} (hN : NumOK T 0) (hs : ErrOK T 1) (hr : ErrOK T 2) : IntrOne Tryz.prog T 35 addressF := by
  intro args r hr' S w vs hG hi hx
  unfold addressF at hr'
  split at hr'
  · rename_i s
    split at hr'
    · rename_i y hy
      cases hr'
      obtain ⟨v1, r1, rfl, h1, h3⟩ := hx
      simp only [RPs] at h3
      subst h3
      simp only [RP] at h1
      subst h1
      obtain ⟨hv, q4, q6⟩ := address_val hy
      refine (address_walk A.addr_Parse s w (fun t W hb r hp => ?_) q4 q6).mono ?_
      · obtain ⟨k, hk⟩ := A.c_addr_Parse t.data.toList r hp
        have hG' : Good T S noL W := ⟨hG.1, fun g o ho => ⟨by rw [hb.block g (Array.getElem?_eq_some_iff.1 (hG.2 g o ho).1).1]; exact (hG.2 g o ho).1, (hG.2 g o ho).2⟩⟩
        refine ((mach_sound A.mixed0 (A.intr0_ok hN hs hr) A.ok0 k).1 50 A.sp_addr_Parse _ r (hk k (Nat.le_refl _)) S W [.string t] hG' (hi.below hb) (RPs_mapV [.string t])).mono ?_
        rintro e W' ⟨us, S', L', rfl, h1, h2⟩
        have e1 : rebT A.sp_addr_Parse r = [.p (.v (.agg ⟨[.int .i64 r.1.1, .int .u64 r.1.2.1, .int .u64 r.1.2.2]⟩)), .p (.v (.int .i64 r.2))] := rfl
        rw [e1] at h1
        obtain ⟨u1, us, rfl, g1, u2, us2, rfl, g2, g3⟩ := h1
        rw [RIs_nil] at g3
        subst g3
        have g1' : u1 = .agg ⟨[.int .i64 r.1.1, .int .u64 r.1.2.1, .int .u64 r.1.2.2]⟩ := g1
        have g2' : u2 = .int .i64 r.2 := g2
        subst g1' g2'
        exact ⟨rfl, h2.kp.os, h2.kp.tape, h2.kp.output, h2.kp.size, fun k hk => h2.kp.block k hk own_noL⟩
      · rintro e w' ⟨rfl, hb⟩
        refine ⟨_, rfl, hb, ?_⟩
        rw [hv]
        rfl
    · cases hr'
  · cases hr'
/-! ### stockaderef20.address -/
noncomputable def ref20_address (s : List UInt8) : Option ((Int × Int × Int) × Bool) :=
  bif Lib.hasPrefix s S4.data.toList then (A.ref02_Parse (Lib.trimPrefix s S4.data.toList)).bind fun r => some (r.1, r.2 == 0 && r.1.1 == 4)
  else bif Lib.hasPrefix s S6.data.toList then (A.ref02_Parse (Lib.trimPrefix s S6.data.toList)).bind fun r => some (r.1, r.2 == 0 && r.1.1 == 6)
  else some ((0, 0, 0), false)
noncomputable def raddressF : List PV → Option PV
  | [.v (.string s)] => match ref20_address s.data.toList with
    | some y => some (.v (.tuple ⟨[.agg ⟨[.int .i64 y.1.1, .int .u64 y.1.2.1, .int .u64 y.1.2.2]⟩, .bool y.2]⟩))
    | none => none
  | _ => none
theorem raddressF_eq {s : List UInt8} {y : (Int × Int × Int) × Bool} (h : ref20_address s = some y) : raddressF [.v (.string ⟨⟨s⟩⟩)] = some (.v (.tuple ⟨[.agg ⟨[.int .i64 y.1.1, .int .u64 y.1.2.1, .int .u64 y.1.2.2]⟩, .bool y.2]⟩)) := by
  simp only [raddressF, h]
theorem raddress_val {s : List UInt8} {y : (Int × Int × Int) × Bool} (h : ref20_address s = some y) : addrV A.ref02_Parse s = .tuple ⟨[.agg ⟨[.int .i64 y.1.1, .int .u64 y.1.2.1, .int .u64 y.1.2.2]⟩, .bool y.2]⟩ ∧
    (Lib.hasPrefix s S4.data.toList = true → ∃ r, A.ref02_Parse (Lib.trimPrefix s S4.data.toList) = some r) ∧ (Lib.hasPrefix s S6.data.toList = true → ∃ r, A.ref02_Parse (Lib.trimPrefix s S6.data.toList) = some r) := by
  unfold ref20_address at h
  unfold addrV
  cases h4 : Lib.hasPrefix s S4.data.toList with
  | true =>
    have h6 : Lib.hasPrefix s S6.data.toList = false := by
      cases h6 : Lib.hasPrefix s S6.data.toList with
      | false => rfl
      | true => exact (both_not h4 h6).elim
    rw [h4] at h
    simp only [cond_true] at h
    cases hp : A.ref02_Parse (Lib.trimPrefix s S4.data.toList) with
    | none => rw [hp] at h; cases h
    | some r =>
      rw [hp] at h
      cases h
      refine ⟨?_, fun _ => ⟨r, rfl⟩, (fun e => by rw [h6] at e; cases e)⟩
      simp only [if_true, resA, hp]
  | false =>
    rw [h4] at h
    simp only [cond_false] at h
    cases h6 : Lib.hasPrefix s S6.data.toList with
    | true =>
      rw [h6] at h
      simp only [cond_true] at h
      cases hp : A.ref02_Parse (Lib.trimPrefix s S6.data.toList) with
      | none => rw [hp] at h; cases h
      | some r =>
        rw [hp] at h
        cases h
        refine ⟨?_, (fun e => Bool.noConfusion e), fun _ => ⟨r, rfl⟩⟩
        simp only [if_true, Bool.false_eq_true, if_false, resA, hp]
    | false =>
      rw [h6] at h
      cases h
      exact ⟨rfl, (fun e => Bool.noConfusion e), (fun e => Bool.noConfusion e)⟩
theorem raddress_ok {T : Tab} (hN : NumOK T 0) (hs : ErrOK T 1) (hr : ErrOK T 2) : IntrOne Tryz.prog T 38 raddressF := by
  intro args r hr' S w vs hG hi hx
  unfold raddressF at hr'
  split at hr'
  · rename_i s
    split at hr'
    · rename_i y hy
      cases hr'
      obtain ⟨v1, r1, rfl, h1, h3⟩ := hx
      simp only [RPs] at h3
      subst h3
      simp only [RP] at h1
      subst h1
      obtain ⟨hv, q4, q6⟩ := raddress_val hy
      refine (raddress_walk A.ref02_Parse s w (fun t W hb r hp => ?_) q4 q6).mono ?_
      · obtain ⟨k, hk⟩ := A.c_ref02_Parse t.data.toList r hp
        have hG' : Good T S noL W := ⟨hG.1, fun g o ho => ⟨by rw [hb.block g (Array.getElem?_eq_some_iff.1 (hG.2 g o ho).1).1]; exact (hG.2 g o ho).1, (hG.2 g o ho).2⟩⟩
        refine ((mach_sound A.mixed0 (A.intr0_ok hN hs hr) A.ok0 k).1 51 A.sp_ref02_Parse _ r (hk k (Nat.le_refl _)) S W [.string t] hG' (hi.below hb) (RPs_mapV [.string t])).mono ?_
        rintro e W' ⟨us, S', L', rfl, h1, h2⟩
        have e1 : rebT A.sp_ref02_Parse r = [.p (.v (.agg ⟨[.int .i64 r.1.1, .int .u64 r.1.2.1, .int .u64 r.1.2.2]⟩)), .p (.v (.int .i64 r.2))] := rfl
        rw [e1] at h1
        obtain ⟨u1, us, rfl, g1, u2, us2, rfl, g2, g3⟩ := h1
        rw [RIs_nil] at g3
        subst g3
        have g1' : u1 = .agg ⟨[.int .i64 r.1.1, .int .u64 r.1.2.1, .int .u64 r.1.2.2]⟩ := g1
        have g2' : u2 = .int .i64 r.2 := g2
        subst g1' g2'
        exact ⟨rfl, h2.kp.os, h2.kp.tape, h2.kp.output, h2.kp.size, fun k hk => h2.kp.block k hk own_noL⟩
      · rintro e w' ⟨rfl, hb⟩
        refine ⟨_, rfl, hb, ?_⟩
        rw [hv]
        rfl
    · cases hr'
  · cases hr'
end Go.Proofs.YtfaofikhabccoaaGreatDoor.Jv
