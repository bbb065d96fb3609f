/- TupleBack: the functions, plainly; conditions: none. -/
import Derived.Test.YtgldfdpdjlohiaaDoorSeat
namespace Go.Proofs.YtgldfdpdjlohiaaDoor.Iv
open Go
def F11 : Option Bool := some true
theorem eq11 (k : Nat) : (callN E0 (k + 60) 11 [] []).bind outP = some (.v (.bool true)) := by kernel_rfl
theorem c11 {k : Nat} (hk : 60 ≤ k) (K : Bool → R) : callT E0.P (callP E0 k) 11 [] false [4] [.bool] K = F11.bind fun x => K x := by
  obtain ⟨k, rfl⟩ : ∃ j, k = j + 60 := ⟨k - 60, by omega⟩
  refine (callT_call (E := E0) rfl _ _ _ _).trans ?_
  have : ((callN E0 (k + 60) 11 (List.map IV.p []) []).bind fun r => (outP r).bind (postK E0.P [4] [.bool] K)) = ((callN E0 (k + 60) 11 [] []).bind outP).bind (postK E0.P [4] [.bool] K) := by
    rw [Option.bind_assoc]; rfl
  exact (this.trans (congrArg (fun o => Option.bind o (postK E0.P [4] [.bool] K)) (eq11 k))).trans (by kernel_rfl)
def F24 (a0 : Int) (a1 : Int) (a2 : Int) : Option (Bool) :=
  (bif (a0 == 4) then (bif (a1 == 0) then some (a2.fdiv (2 ^ min (Int.toNat 32) IntKind.u64.bits) == 0)
    else some false)
  else (bif (a0 == 6) then some true
    else some false))
theorem eq24 (k : Nat) (a0 : Int) (a1 : Int) (a2 : Int) : callN E0 (k + 1) 24 (List.map IV.p [.v (.agg ⟨[.int .i64 a0, .int .u64 a1, .int .u64 a2]⟩)]) [] =
  (bif (a0 == 4) then (bif (a1 == 0) then some ((.p (.v (.bool (a2.fdiv (2 ^ min (Int.toNat 32) IntKind.u64.bits) == 0)))), [(.pc [(.v (.int .i64 a0)), (.v (.int .u64 a1)), (.v (.int .u64 a2))])])
    else some ((.p (.v (.bool false))), [(.pc [(.v (.int .i64 a0)), (.v (.int .u64 a1)), (.v (.int .u64 a2))])]))
  else (bif (a0 == 6) then some ((.p (.v (.bool true))), [(.pc [(.v (.int .i64 a0)), (.v (.int .u64 a1)), (.v (.int .u64 a2))])])
    else some ((.p (.v (.bool false))), [(.pc [(.v (.int .i64 a0)), (.v (.int .u64 a1)), (.v (.int .u64 a2))])]))) := by kernel_rfl
theorem c24 {k : Nat} (hk : 1 ≤ k) (a0 : Int) (a1 : Int) (a2 : Int) (K : Bool → R) : callT E0.P (callP E0 k) 24 [.v (.agg ⟨[.int .i64 a0, .int .u64 a1, .int .u64 a2]⟩)] false [4] [.bool] K = (F24 a0 a1 a2).bind fun x => K x := by
  obtain ⟨k, rfl⟩ : ∃ j, k = j + 1 := ⟨k - 1, by omega⟩
  refine (callT_call (E := E0) rfl _ _ _ _).trans ?_
  rw [eq24]
  unfold F24
  try simp only [bif_bind, ite_bind, Option.bind_assoc, Option.bind_none]
  kernel_rfl
def F25 (a0 : Int) (a1 : Int) : Option (ByteArray) :=
  (bif (a1 == 6) then some ⟨⟨[116, 99, 112]⟩⟩
  else (bif (a1 == 17) then some ⟨⟨[117, 100, 112]⟩⟩
    else (bif (a1 == 1) then (bif (a0 == 4) then some ⟨⟨[105, 99, 109, 112]⟩⟩
        else (bif (a1 == 58) then (bif (a0 == 6) then some ⟨⟨[105, 99, 109, 112, 54]⟩⟩
            else some ⟨⟨[]⟩⟩)
          else some ⟨⟨[]⟩⟩))
      else (bif (a1 == 58) then (bif (a0 == 6) then some ⟨⟨[105, 99, 109, 112, 54]⟩⟩
          else some ⟨⟨[]⟩⟩)
        else some ⟨⟨[]⟩⟩))))
theorem eq25 (k : Nat) (a0 : Int) (a1 : Int) : callN E0 (k + 1) 25 (List.map IV.p [.v (.int .i64 a0), .v (.int .i64 a1)]) [] =
  (bif (a1 == 6) then some ((.p (.v (.string ⟨⟨[116, 99, 112]⟩⟩))), [])
  else (bif (a1 == 17) then some ((.p (.v (.string ⟨⟨[117, 100, 112]⟩⟩))), [])
    else (bif (a1 == 1) then (bif (a0 == 4) then some ((.p (.v (.string ⟨⟨[105, 99, 109, 112]⟩⟩))), [])
        else (bif (a1 == 58) then (bif (a0 == 6) then some ((.p (.v (.string ⟨⟨[105, 99, 109, 112, 54]⟩⟩))), [])
            else some ((.p (.v (.string ⟨⟨[]⟩⟩))), []))
          else some ((.p (.v (.string ⟨⟨[]⟩⟩))), [])))
      else (bif (a1 == 58) then (bif (a0 == 6) then some ((.p (.v (.string ⟨⟨[105, 99, 109, 112, 54]⟩⟩))), [])
          else some ((.p (.v (.string ⟨⟨[]⟩⟩))), []))
        else some ((.p (.v (.string ⟨⟨[]⟩⟩))), []))))) := by kernel_rfl
theorem c25 {k : Nat} (hk : 1 ≤ k) (a0 : Int) (a1 : Int) (K : ByteArray → R) : callT E0.P (callP E0 k) 25 [.v (.int .i64 a0), .v (.int .i64 a1)] false [9] [.str] K = (F25 a0 a1).bind fun x => K x := by
  obtain ⟨k, rfl⟩ : ∃ j, k = j + 1 := ⟨k - 1, by omega⟩
  refine (callT_call (E := E0) rfl _ _ _ _).trans ?_
  rw [eq25]
  unfold F25
  try simp only [bif_bind, ite_bind, Option.bind_assoc, Option.bind_none]
  kernel_rfl
def F26 (a0 : Int) : Option (Bool) :=
  (bif (decide (a0 ≥ 0)) then some (decide (a0 ≤ 65535))
  else some false)
theorem eq26 (k : Nat) (a0 : Int) : callN E0 (k + 1) 26 (List.map IV.p [.v (.int .i64 a0)]) [] =
  (bif (decide (a0 ≥ 0)) then some ((.p (.v (.bool (decide (a0 ≤ 65535))))), [])
  else some ((.p (.v (.bool false))), [])) := by kernel_rfl
theorem c26 {k : Nat} (hk : 1 ≤ k) (a0 : Int) (K : Bool → R) : callT E0.P (callP E0 k) 26 [.v (.int .i64 a0)] false [4] [.bool] K = (F26 a0).bind fun x => K x := by
  obtain ⟨k, rfl⟩ : ∃ j, k = j + 1 := ⟨k - 1, by omega⟩
  refine (callT_call (E := E0) rfl _ _ _ _).trans ?_
  rw [eq26]
  unfold F26
  try simp only [bif_bind, ite_bind, Option.bind_assoc, Option.bind_none]
  kernel_rfl
def F10 (a0 : Int) (a1 : Int) (a2 : Int) (a3 : Int) (a4 : Int) (a5 : Int) (a6 : Int) (a7 : Int) (a8 : Int) (a9 : Int) : Option (Bool) :=
  (bif (a2 == a0) then (bif (a5 == a0) then (F24 a2 a3 a4).bind fun x11 =>
        (bif x11 then (F24 a5 a6 a7).bind fun x12 =>
            (bif x12 then (F25 a0 a1).bind fun x13 =>
                (bif (!strEq x13 { data := #[] }) then (F26 a8).bind fun x14 =>
                    (bif x14 then (F26 a9).bind fun x15 =>
                        some x15
                    else some false)
                else some false)
            else some false)
        else some false)
    else some false)
  else some false)
theorem eq10 (k : Nat) (a0 : Int) (a1 : Int) (a2 : Int) (a3 : Int) (a4 : Int) (a5 : Int) (a6 : Int) (a7 : Int) (a8 : Int) (a9 : Int) : callN E0 (k + 1) 10 (List.map IV.p [.v (.agg ⟨[.int .i64 a0, .int .i64 a1, .int .i64 a2, .int .u64 a3, .int .u64 a4, .int .i64 a5, .int .u64 a6, .int .u64 a7, .int .i64 a8, .int .i64 a9]⟩)]) [] =
  (bif (a2 == a0) then (bif (a5 == a0) then callT E0.P (callP E0 k) 24 [(.v (.agg ⟨[(.int .i64 a2), (.int .u64 a3), (.int .u64 a4)]⟩))] false [4] [.bool] (fun b11 =>
        ((bif b11 then callT E0.P (callP E0 k) 24 [(.v (.agg ⟨[(.int .i64 a5), (.int .u64 a6), (.int .u64 a7)]⟩))] false [4] [.bool] (fun b12 =>
            ((bif b12 then callT E0.P (callP E0 k) 25 [(.v (.int .i64 a0)), (.v (.int .i64 a1))] false [9] [.str] (fun s13 =>
                ((bif (!strEq s13 { data := #[] }) then callT E0.P (callP E0 k) 26 [(.v (.int .i64 a8))] false [4] [.bool] (fun b14 =>
                    ((bif b14 then callT E0.P (callP E0 k) 26 [(.v (.int .i64 a9))] false [4] [.bool] (fun b15 =>
                        (some ((.p (.v (.bool b15))), [(.pc [(.v (.int .i64 a0)), (.v (.int .i64 a1)), (.v (.int .i64 a2)), (.v (.int .u64 a3)), (.v (.int .u64 a4)), (.v (.int .i64 a5)), (.v (.int .u64 a6)), (.v (.int .u64 a7)), (.v (.int .i64 a8)), (.v (.int .i64 a9))])]) : R))
                    else some ((.p (.v (.bool false))), [(.pc [(.v (.int .i64 a0)), (.v (.int .i64 a1)), (.v (.int .i64 a2)), (.v (.int .u64 a3)), (.v (.int .u64 a4)), (.v (.int .i64 a5)), (.v (.int .u64 a6)), (.v (.int .u64 a7)), (.v (.int .i64 a8)), (.v (.int .i64 a9))])])) : R))
                else some ((.p (.v (.bool false))), [(.pc [(.v (.int .i64 a0)), (.v (.int .i64 a1)), (.v (.int .i64 a2)), (.v (.int .u64 a3)), (.v (.int .u64 a4)), (.v (.int .i64 a5)), (.v (.int .u64 a6)), (.v (.int .u64 a7)), (.v (.int .i64 a8)), (.v (.int .i64 a9))])])) : R))
            else some ((.p (.v (.bool false))), [(.pc [(.v (.int .i64 a0)), (.v (.int .i64 a1)), (.v (.int .i64 a2)), (.v (.int .u64 a3)), (.v (.int .u64 a4)), (.v (.int .i64 a5)), (.v (.int .u64 a6)), (.v (.int .u64 a7)), (.v (.int .i64 a8)), (.v (.int .i64 a9))])])) : R))
        else some ((.p (.v (.bool false))), [(.pc [(.v (.int .i64 a0)), (.v (.int .i64 a1)), (.v (.int .i64 a2)), (.v (.int .u64 a3)), (.v (.int .u64 a4)), (.v (.int .i64 a5)), (.v (.int .u64 a6)), (.v (.int .u64 a7)), (.v (.int .i64 a8)), (.v (.int .i64 a9))])])) : R))
    else some ((.p (.v (.bool false))), [(.pc [(.v (.int .i64 a0)), (.v (.int .i64 a1)), (.v (.int .i64 a2)), (.v (.int .u64 a3)), (.v (.int .u64 a4)), (.v (.int .i64 a5)), (.v (.int .u64 a6)), (.v (.int .u64 a7)), (.v (.int .i64 a8)), (.v (.int .i64 a9))])]))
  else some ((.p (.v (.bool false))), [(.pc [(.v (.int .i64 a0)), (.v (.int .i64 a1)), (.v (.int .i64 a2)), (.v (.int .u64 a3)), (.v (.int .u64 a4)), (.v (.int .i64 a5)), (.v (.int .u64 a6)), (.v (.int .u64 a7)), (.v (.int .i64 a8)), (.v (.int .i64 a9))])])) := by kernel_rfl
theorem c10 {k : Nat} (hk : 2 ≤ k) (a0 : Int) (a1 : Int) (a2 : Int) (a3 : Int) (a4 : Int) (a5 : Int) (a6 : Int) (a7 : Int) (a8 : Int) (a9 : Int) (K : Bool → R) : callT E0.P (callP E0 k) 10 [.v (.agg ⟨[.int .i64 a0, .int .i64 a1, .int .i64 a2, .int .u64 a3, .int .u64 a4, .int .i64 a5, .int .u64 a6, .int .u64 a7, .int .i64 a8, .int .i64 a9]⟩)] false [4] [.bool] K = (F10 a0 a1 a2 a3 a4 a5 a6 a7 a8 a9).bind fun x => K x := by
  obtain ⟨k, rfl⟩ : ∃ j, k = j + 1 := ⟨k - 1, by omega⟩
  refine (callT_call (E := E0) rfl _ _ _ _).trans ?_
  rw [eq10]
  unfold F10
  try simp only [c24 (show 1 ≤ k by omega), c25 (show 1 ≤ k by omega), c26 (show 1 ≤ k by omega), bif_bind, ite_bind, Option.bind_assoc, Option.bind_none]
  kernel_rfl
def F9 (a0 : Int) (a1 : Int) (a2 : Int) (a3 : Int) (a4 : Int) (a5 : Int) (a6 : Int) (a7 : Int) (a8 : Int) (a9 : Int) : Option (Int × Int × Int × Int × Int × Int × Int × Int × Int × Int) :=
  some (a0, a1, a5, a6, a7, a2, a3, a4, a9, a8)
theorem eq9 (k : Nat) (a0 : Int) (a1 : Int) (a2 : Int) (a3 : Int) (a4 : Int) (a5 : Int) (a6 : Int) (a7 : Int) (a8 : Int) (a9 : Int) : callN E0 (k + 1) 9 (List.map IV.p [.v (.agg ⟨[.int .i64 a0, .int .i64 a1, .int .i64 a2, .int .u64 a3, .int .u64 a4, .int .i64 a5, .int .u64 a6, .int .u64 a7, .int .i64 a8, .int .i64 a9]⟩)]) [] =
  some ((.p (.v (.agg ⟨[(.int .i64 a0), (.int .i64 a1), (.int .i64 a5), (.int .u64 a6), (.int .u64 a7), (.int .i64 a2), (.int .u64 a3), (.int .u64 a4), (.int .i64 a9), (.int .i64 a8)]⟩))), [(.pc [(.v (.int .i64 a0)), (.v (.int .i64 a1)), (.v (.int .i64 a5)), (.v (.int .u64 a6)), (.v (.int .u64 a7)), (.v (.int .i64 a2)), (.v (.int .u64 a3)), (.v (.int .u64 a4)), (.v (.int .i64 a9)), (.v (.int .i64 a8))]), (.pc [(.v (.int .i64 a0)), (.v (.int .i64 a1)), (.v (.int .i64 a5)), (.v (.int .u64 a6)), (.v (.int .u64 a7)), (.v (.int .i64 a2)), (.v (.int .u64 a3)), (.v (.int .u64 a4)), (.v (.int .i64 a9)), (.v (.int .i64 a8))])]) := by kernel_rfl
theorem c9 {k : Nat} (hk : 1 ≤ k) (a0 : Int) (a1 : Int) (a2 : Int) (a3 : Int) (a4 : Int) (a5 : Int) (a6 : Int) (a7 : Int) (a8 : Int) (a9 : Int) (K : Int → Int → Int → Int → Int → Int → Int → Int → Int → Int → R) : callT E0.P (callP E0 k) 9 [.v (.agg ⟨[.int .i64 a0, .int .i64 a1, .int .i64 a2, .int .u64 a3, .int .u64 a4, .int .i64 a5, .int .u64 a6, .int .u64 a7, .int .i64 a8, .int .i64 a9]⟩)] false [26] [.int .i64, .int .i64, .int .i64, .int .u64, .int .u64, .int .i64, .int .u64, .int .u64, .int .i64, .int .i64] K = (F9 a0 a1 a2 a3 a4 a5 a6 a7 a8 a9).bind fun x => K x.1 x.2.1 x.2.2.1 x.2.2.2.1 x.2.2.2.2.1 x.2.2.2.2.2.1 x.2.2.2.2.2.2.1 x.2.2.2.2.2.2.2.1 x.2.2.2.2.2.2.2.2.1 x.2.2.2.2.2.2.2.2.2 := by
  obtain ⟨k, rfl⟩ : ∃ j, k = j + 1 := ⟨k - 1, by omega⟩
  refine (callT_call (E := E0) rfl _ _ _ _).trans ?_
  rw [eq9]
  unfold F9
  try simp only [bif_bind, ite_bind, Option.bind_assoc, Option.bind_none]
  kernel_rfl
def F3 (a0 : Int) (a1 : Int) (a2 : Int) (a3 : Int) (a4 : Int) (a5 : Int) (a6 : Int) (a7 : Int) (a8 : Int) (a9 : Int) : Option (Bool) :=
  (F9 a0 a1 a2 a3 a4 a5 a6 a7 a8 a9).bind fun x11 =>
    (F9 (x11.fst) (x11.snd.fst) (x11.snd.snd.fst) (x11.snd.snd.snd.fst) (x11.snd.snd.snd.snd.fst) (x11.snd.snd.snd.snd.snd.fst) (x11.snd.snd.snd.snd.snd.snd.fst) (x11.snd.snd.snd.snd.snd.snd.snd.fst) (x11.snd.snd.snd.snd.snd.snd.snd.snd.fst) (x11.snd.snd.snd.snd.snd.snd.snd.snd.snd)).bind fun x12 =>
      (bif (x12.fst == a0 && (x12.snd.fst == a1 && (x12.snd.snd.fst == a2 && (x12.snd.snd.snd.fst == a3 && (x12.snd.snd.snd.snd.fst == a4 && (x12.snd.snd.snd.snd.snd.fst == a5 && (x12.snd.snd.snd.snd.snd.snd.fst == a6 && (x12.snd.snd.snd.snd.snd.snd.snd.fst == a7 && (x12.snd.snd.snd.snd.snd.snd.snd.snd.fst == a8 && (x12.snd.snd.snd.snd.snd.snd.snd.snd.snd == a9 && true)))))))))) then (F10 (x11.fst) (x11.snd.fst) (x11.snd.snd.fst) (x11.snd.snd.snd.fst) (x11.snd.snd.snd.snd.fst) (x11.snd.snd.snd.snd.snd.fst) (x11.snd.snd.snd.snd.snd.snd.fst) (x11.snd.snd.snd.snd.snd.snd.snd.fst) (x11.snd.snd.snd.snd.snd.snd.snd.snd.fst) (x11.snd.snd.snd.snd.snd.snd.snd.snd.snd)).bind fun x13 =>
          (F10 a0 a1 a2 a3 a4 a5 a6 a7 a8 a9).bind fun x14 =>
            (bif (x13 == x14) then (F11 ).bind fun x15 =>
                some x15
            else some false)
      else some false)
theorem eq3 (k : Nat) (a0 : Int) (a1 : Int) (a2 : Int) (a3 : Int) (a4 : Int) (a5 : Int) (a6 : Int) (a7 : Int) (a8 : Int) (a9 : Int) : callN E0 (k + 1) 3 (List.map IV.p [.v (.agg ⟨[.int .i64 a0, .int .i64 a1, .int .i64 a2, .int .u64 a3, .int .u64 a4, .int .i64 a5, .int .u64 a6, .int .u64 a7, .int .i64 a8, .int .i64 a9]⟩)]) [] =
  callT E0.P (callP E0 k) 9 [(.v (.agg ⟨[(.int .i64 a0), (.int .i64 a1), (.int .i64 a2), (.int .u64 a3), (.int .u64 a4), (.int .i64 a5), (.int .u64 a6), (.int .u64 a7), (.int .i64 a8), (.int .i64 a9)]⟩))] false [26] [(.int .i64), (.int .i64), (.int .i64), (.int .u64), (.int .u64), (.int .i64), (.int .u64), (.int .u64), (.int .i64), (.int .i64)] (fun n11 n12 n13 n14 n15 n16 n17 n18 n19 n20 =>
    (callT E0.P (callP E0 k) 9 [(.v (.agg ⟨[(.int .i64 n11), (.int .i64 n12), (.int .i64 n13), (.int .u64 n14), (.int .u64 n15), (.int .i64 n16), (.int .u64 n17), (.int .u64 n18), (.int .i64 n19), (.int .i64 n20)]⟩))] false [26] [(.int .i64), (.int .i64), (.int .i64), (.int .u64), (.int .u64), (.int .i64), (.int .u64), (.int .u64), (.int .i64), (.int .i64)] (fun n21 n22 n23 n24 n25 n26 n27 n28 n29 n30 =>
      ((bif (n21 == a0 && (n22 == a1 && (n23 == a2 && (n24 == a3 && (n25 == a4 && (n26 == a5 && (n27 == a6 && (n28 == a7 && (n29 == a8 && (n30 == a9 && true)))))))))) then callT E0.P (callP E0 k) 10 [(.v (.agg ⟨[(.int .i64 n11), (.int .i64 n12), (.int .i64 n13), (.int .u64 n14), (.int .u64 n15), (.int .i64 n16), (.int .u64 n17), (.int .u64 n18), (.int .i64 n19), (.int .i64 n20)]⟩))] false [4] [.bool] (fun b31 =>
          (callT E0.P (callP E0 k) 10 [(.v (.agg ⟨[(.int .i64 a0), (.int .i64 a1), (.int .i64 a2), (.int .u64 a3), (.int .u64 a4), (.int .i64 a5), (.int .u64 a6), (.int .u64 a7), (.int .i64 a8), (.int .i64 a9)]⟩))] false [4] [.bool] (fun b32 =>
            ((bif (b31 == b32) then callT E0.P (callP E0 k) 11 [] false [4] [.bool] (fun b33 =>
                (some ((.p (.v (.bool b33))), [(.pc [(.v (.int .i64 a0)), (.v (.int .i64 a1)), (.v (.int .i64 a2)), (.v (.int .u64 a3)), (.v (.int .u64 a4)), (.v (.int .i64 a5)), (.v (.int .u64 a6)), (.v (.int .u64 a7)), (.v (.int .i64 a8)), (.v (.int .i64 a9))]), (.pc [(.v (.int .i64 n11)), (.v (.int .i64 n12)), (.v (.int .i64 n13)), (.v (.int .u64 n14)), (.v (.int .u64 n15)), (.v (.int .i64 n16)), (.v (.int .u64 n17)), (.v (.int .u64 n18)), (.v (.int .i64 n19)), (.v (.int .i64 n20))])]) : R))
            else some ((.p (.v (.bool false))), [(.pc [(.v (.int .i64 a0)), (.v (.int .i64 a1)), (.v (.int .i64 a2)), (.v (.int .u64 a3)), (.v (.int .u64 a4)), (.v (.int .i64 a5)), (.v (.int .u64 a6)), (.v (.int .u64 a7)), (.v (.int .i64 a8)), (.v (.int .i64 a9))]), (.pc [(.v (.int .i64 n11)), (.v (.int .i64 n12)), (.v (.int .i64 n13)), (.v (.int .u64 n14)), (.v (.int .u64 n15)), (.v (.int .i64 n16)), (.v (.int .u64 n17)), (.v (.int .u64 n18)), (.v (.int .i64 n19)), (.v (.int .i64 n20))])])) : R)) : R))
      else some ((.p (.v (.bool false))), [(.pc [(.v (.int .i64 a0)), (.v (.int .i64 a1)), (.v (.int .i64 a2)), (.v (.int .u64 a3)), (.v (.int .u64 a4)), (.v (.int .i64 a5)), (.v (.int .u64 a6)), (.v (.int .u64 a7)), (.v (.int .i64 a8)), (.v (.int .i64 a9))]), (.pc [(.v (.int .i64 n11)), (.v (.int .i64 n12)), (.v (.int .i64 n13)), (.v (.int .u64 n14)), (.v (.int .u64 n15)), (.v (.int .i64 n16)), (.v (.int .u64 n17)), (.v (.int .u64 n18)), (.v (.int .i64 n19)), (.v (.int .i64 n20))])])) : R)) : R)) := by kernel_rfl
theorem c3 {k : Nat} (hk : 61 ≤ k) (a0 : Int) (a1 : Int) (a2 : Int) (a3 : Int) (a4 : Int) (a5 : Int) (a6 : Int) (a7 : Int) (a8 : Int) (a9 : Int) (K : Bool → R) : callT E0.P (callP E0 k) 3 [.v (.agg ⟨[.int .i64 a0, .int .i64 a1, .int .i64 a2, .int .u64 a3, .int .u64 a4, .int .i64 a5, .int .u64 a6, .int .u64 a7, .int .i64 a8, .int .i64 a9]⟩)] false [4] [.bool] K = (F3 a0 a1 a2 a3 a4 a5 a6 a7 a8 a9).bind fun x => K x := by
  obtain ⟨k, rfl⟩ : ∃ j, k = j + 1 := ⟨k - 1, by omega⟩
  refine (callT_call (E := E0) rfl _ _ _ _).trans ?_
  rw [eq3]
  unfold F3
  try simp only [c9 (show 1 ≤ k by omega), c10 (show 2 ≤ k by omega), c11 (show 60 ≤ k by omega), bif_bind, ite_bind, Option.bind_assoc, Option.bind_none]
  kernel_rfl
end Go.Proofs.YtgldfdpdjlohiaaDoor.Iv
