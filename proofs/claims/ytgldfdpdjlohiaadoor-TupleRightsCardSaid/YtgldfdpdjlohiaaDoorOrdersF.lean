/- TupleOrders: the functions, plainly; conditions: none. -/
import Derived.Test.YtgldfdpdjlohiaaDoorBackF
namespace Go.Proofs.YtgldfdpdjlohiaaDoor.Iv
open Go
def F44 (a0 : Int) : Option (Bool) :=
  some (a0 != a0)
theorem eq44 (k : Nat) (a0 : Int) : callN E0 (k + 1) 44 (List.map IV.p [.v (.int .i64 a0)]) [] =
  some ((.p (.v (.bool (a0 != a0)))), []) := by kernel_rfl
theorem c44 {k : Nat} (hk : 1 ≤ k) (a0 : Int) (K : Bool → R) : callT E0.P (callP E0 k) 44 [.v (.int .i64 a0)] false [4] [.bool] K = (F44 a0).bind fun x => K x := by
  obtain ⟨k, rfl⟩ : ∃ j, k = j + 1 := ⟨k - 1, by omega⟩
  refine (callT_call' (E := E0) rfl rfl _ _ _).trans ?_
  rw [eq44]
  unfold F44
  try simp only [bif_bind, ite_bind, Option.bind_assoc, Option.bind_none]
  kernel_rfl
def F53 (a0 : Int) : Option (Bool) :=
  some (a0 != a0)
theorem eq53 (k : Nat) (a0 : Int) : callN E0 (k + 1) 53 (List.map IV.p [.v (.int .u64 a0)]) [] =
  some ((.p (.v (.bool (a0 != a0)))), []) := by kernel_rfl
theorem c53 {k : Nat} (hk : 1 ≤ k) (a0 : Int) (K : Bool → R) : callT E0.P (callP E0 k) 53 [.v (.int .u64 a0)] false [4] [.bool] K = (F53 a0).bind fun x => K x := by
  obtain ⟨k, rfl⟩ : ∃ j, k = j + 1 := ⟨k - 1, by omega⟩
  refine (callT_call' (E := E0) rfl rfl _ _ _).trans ?_
  rw [eq53]
  unfold F53
  try simp only [bif_bind, ite_bind, Option.bind_assoc, Option.bind_none]
  kernel_rfl
def F35 (a0 : Int) (a1 : Int) : Option (Int) :=
  (F44 a0).bind fun x3 =>
    (F44 a1).bind fun x4 =>
      (bif x3 then (bif x4 then some 0
        else some (-1))
      else (bif x4 then some 1
        else (bif (decide (a0 < a1)) then some (-1)
          else (bif (decide (a0 > a1)) then some 1
            else some 0))))
theorem eq35 (k : Nat) (a0 : Int) (a1 : Int) : callN E0 (k + 1) 35 (List.map IV.p [.v (.int .i64 a0), .v (.int .i64 a1)]) [] =
  callT E0.P (callP E0 k) 44 [(.v (.int .i64 a0))] false [4] [.bool] (fun b3 =>
    (callT E0.P (callP E0 k) 44 [(.v (.int .i64 a1))] false [4] [.bool] (fun b4 =>
      ((bif b3 then (bif b4 then some ((.p (.v (.int .i64 0))), [])
        else some ((.p (.v (.int .i64 (-1)))), []))
      else (bif b4 then some ((.p (.v (.int .i64 1))), [])
        else (bif (decide (a0 < a1)) then some ((.p (.v (.int .i64 (-1)))), [])
          else (bif (decide (a0 > a1)) then some ((.p (.v (.int .i64 1))), [])
            else some ((.p (.v (.int .i64 0))), []))))) : R)) : R)) := by kernel_rfl
theorem c35 {k : Nat} (hk : 2 ≤ k) (a0 : Int) (a1 : Int) (K : Int → R) : callT E0.P (callP E0 k) 35 [.v (.int .i64 a0), .v (.int .i64 a1)] false [3] [.int .i64] K = (F35 a0 a1).bind fun x => K x := by
  obtain ⟨k, rfl⟩ : ∃ j, k = j + 1 := ⟨k - 1, by omega⟩
  refine (callT_call' (E := E0) rfl rfl _ _ _).trans ?_
  rw [eq35]
  unfold F35
  try simp only [c44 (show 1 ≤ k by omega), bif_bind, ite_bind, Option.bind_assoc, Option.bind_none]
  kernel_rfl
def F45 (a0 : Int) (a1 : Int) : Option (Int) :=
  (F53 a0).bind fun x3 =>
    (F53 a1).bind fun x4 =>
      (bif x3 then (bif x4 then some 0
        else some (-1))
      else (bif x4 then some 1
        else (bif (decide (a0 < a1)) then some (-1)
          else (bif (decide (a0 > a1)) then some 1
            else some 0))))
theorem eq45 (k : Nat) (a0 : Int) (a1 : Int) : callN E0 (k + 1) 45 (List.map IV.p [.v (.int .u64 a0), .v (.int .u64 a1)]) [] =
  callT E0.P (callP E0 k) 53 [(.v (.int .u64 a0))] false [4] [.bool] (fun b3 =>
    (callT E0.P (callP E0 k) 53 [(.v (.int .u64 a1))] false [4] [.bool] (fun b4 =>
      ((bif b3 then (bif b4 then some ((.p (.v (.int .i64 0))), [])
        else some ((.p (.v (.int .i64 (-1)))), []))
      else (bif b4 then some ((.p (.v (.int .i64 1))), [])
        else (bif (decide (a0 < a1)) then some ((.p (.v (.int .i64 (-1)))), [])
          else (bif (decide (a0 > a1)) then some ((.p (.v (.int .i64 1))), [])
            else some ((.p (.v (.int .i64 0))), []))))) : R)) : R)) := by kernel_rfl
theorem c45 {k : Nat} (hk : 2 ≤ k) (a0 : Int) (a1 : Int) (K : Int → R) : callT E0.P (callP E0 k) 45 [.v (.int .u64 a0), .v (.int .u64 a1)] false [3] [.int .i64] K = (F45 a0 a1).bind fun x => K x := by
  obtain ⟨k, rfl⟩ : ∃ j, k = j + 1 := ⟨k - 1, by omega⟩
  refine (callT_call' (E := E0) rfl rfl _ _ _).trans ?_
  rw [eq45]
  unfold F45
  try simp only [c53 (show 1 ≤ k by omega), bif_bind, ite_bind, Option.bind_assoc, Option.bind_none]
  kernel_rfl
def F34_3 (a0 a1 a2 : Int) : Option (Int) :=
  (bif (a0 != 0) then some a0
  else (bif (a1 != 0) then some a1
    else (bif (a2 != 0) then some a2
      else some 0)))
theorem eq34_3 (k : Nat) (a0 a1 a2 : Int) : callN E0 (k + 8) 34 (List.map IV.p [.ro 3 [.v (.int .i64 a0), .v (.int .i64 a1), .v (.int .i64 a2)]]) [] =
  (bif (a0 != 0) then some ((.p (.v (.int .i64 a0))), [])
  else (bif (a1 != 0) then some ((.p (.v (.int .i64 a1))), [])
    else (bif (a2 != 0) then some ((.p (.v (.int .i64 a2))), [])
      else some ((.p (.v (.int .i64 0))), [])))) := by kernel_rfl
theorem c34_3 {k : Nat} (hk : 8 ≤ k) (a0 a1 a2 : Int) (K : Int → R) : callT E0.P (callP E0 k) 34 [.ro 3 [.v (.int .i64 a0), .v (.int .i64 a1), .v (.int .i64 a2)]] true [3] [.int .i64] K = (F34_3 a0 a1 a2).bind fun x => K x := by
  obtain ⟨k, rfl⟩ : ∃ j, k = j + 8 := ⟨k - 8, by omega⟩
  refine (callT_call' (E := E0) rfl rfl _ _ _).trans ?_
  rw [eq34_3]
  unfold F34_3
  try simp only [bif_bind, ite_bind, Option.bind_assoc, Option.bind_none]
  kernel_rfl
def F34_6 (a0 a1 a2 a3 a4 a5 : Int) : Option (Int) :=
  (bif (a0 != 0) then some a0
  else (bif (a1 != 0) then some a1
    else (bif (a2 != 0) then some a2
      else (bif (a3 != 0) then some a3
        else (bif (a4 != 0) then some a4
          else (bif (a5 != 0) then some a5
            else some 0))))))
theorem eq34_6 (k : Nat) (a0 a1 a2 a3 a4 a5 : Int) : callN E0 (k + 12) 34 (List.map IV.p [.ro 6 [.v (.int .i64 a0), .v (.int .i64 a1), .v (.int .i64 a2), .v (.int .i64 a3), .v (.int .i64 a4), .v (.int .i64 a5)]]) [] =
  (bif (a0 != 0) then some ((.p (.v (.int .i64 a0))), [])
  else (bif (a1 != 0) then some ((.p (.v (.int .i64 a1))), [])
    else (bif (a2 != 0) then some ((.p (.v (.int .i64 a2))), [])
      else (bif (a3 != 0) then some ((.p (.v (.int .i64 a3))), [])
        else (bif (a4 != 0) then some ((.p (.v (.int .i64 a4))), [])
          else (bif (a5 != 0) then some ((.p (.v (.int .i64 a5))), [])
            else some ((.p (.v (.int .i64 0))), []))))))) := by kernel_rfl
theorem c34_6 {k : Nat} (hk : 12 ≤ k) (a0 a1 a2 a3 a4 a5 : Int) (K : Int → R) : callT E0.P (callP E0 k) 34 [.ro 6 [.v (.int .i64 a0), .v (.int .i64 a1), .v (.int .i64 a2), .v (.int .i64 a3), .v (.int .i64 a4), .v (.int .i64 a5)]] true [3] [.int .i64] K = (F34_6 a0 a1 a2 a3 a4 a5).bind fun x => K x := by
  obtain ⟨k, rfl⟩ : ∃ j, k = j + 12 := ⟨k - 12, by omega⟩
  refine (callT_call' (E := E0) rfl rfl _ _ _).trans ?_
  rw [eq34_6]
  unfold F34_6
  try simp only [bif_bind, ite_bind, Option.bind_assoc, Option.bind_none]
  kernel_rfl
def F36 (a0 : Int) (a1 : Int) (a2 : Int) (a3 : Int) (a4 : Int) (a5 : Int) : Option (Int) :=
  (F35 a0 a3).bind fun x7 =>
    (F45 a1 a4).bind fun x8 =>
      (F45 a2 a5).bind fun x9 =>
        (F34_3 x7 x8 x9).bind fun x10 =>
          some x10
theorem eq36 (k : Nat) (a0 : Int) (a1 : Int) (a2 : Int) (a3 : Int) (a4 : Int) (a5 : Int) : callN E0 (k + 1) 36 (List.map IV.p [.v (.agg ⟨[.int .i64 a0, .int .u64 a1, .int .u64 a2]⟩), .v (.agg ⟨[.int .i64 a3, .int .u64 a4, .int .u64 a5]⟩)]) [] =
  callT E0.P (callP E0 k) 35 [(.v (.int .i64 a0)), (.v (.int .i64 a3))] false [3] [(.int .i64)] (fun n7 =>
    (callT E0.P (callP E0 k) 45 [(.v (.int .u64 a1)), (.v (.int .u64 a4))] false [3] [(.int .i64)] (fun n8 =>
      (callT E0.P (callP E0 k) 45 [(.v (.int .u64 a2)), (.v (.int .u64 a5))] false [3] [(.int .i64)] (fun n9 =>
        (callT E0.P (callP E0 k) 34 [(.ro 3 [(.v (.int .i64 n7)), (.v (.int .i64 n8)), (.v (.int .i64 n9))])] true [3] [(.int .i64)] (fun n10 =>
          (some ((.p (.v (.int .i64 n10))), [(.pc [(.v (.int .i64 a0)), (.v (.int .u64 a1)), (.v (.int .u64 a2))]), (.pc [(.v (.int .i64 a3)), (.v (.int .u64 a4)), (.v (.int .u64 a5))]), (.pc [(.v (.int .i64 n7)), (.v (.int .i64 n8)), (.v (.int .i64 n9))])]) : R)) : R)) : R)) : R)) := by kernel_rfl
theorem c36 {k : Nat} (hk : 9 ≤ k) (a0 : Int) (a1 : Int) (a2 : Int) (a3 : Int) (a4 : Int) (a5 : Int) (K : Int → R) : callT E0.P (callP E0 k) 36 [.v (.agg ⟨[.int .i64 a0, .int .u64 a1, .int .u64 a2]⟩), .v (.agg ⟨[.int .i64 a3, .int .u64 a4, .int .u64 a5]⟩)] false [3] [.int .i64] K = (F36 a0 a1 a2 a3 a4 a5).bind fun x => K x := by
  obtain ⟨k, rfl⟩ : ∃ j, k = j + 1 := ⟨k - 1, by omega⟩
  refine (callT_call' (E := E0) rfl rfl _ _ _).trans ?_
  rw [eq36]
  unfold F36
  try simp only [c35 (show 2 ≤ k by omega), c45 (show 2 ≤ k by omega), c34_3 (show 8 ≤ k by omega), bif_bind, ite_bind, Option.bind_assoc, Option.bind_none]
  kernel_rfl
def F22 (a0 : Int) (a1 : Int) (a2 : Int) (a3 : Int) (a4 : Int) (a5 : Int) (a6 : Int) (a7 : Int) (a8 : Int) (a9 : Int) (a10 : Int) (a11 : Int) (a12 : Int) (a13 : Int) (a14 : Int) (a15 : Int) (a16 : Int) (a17 : Int) (a18 : Int) (a19 : Int) : Option (Int) :=
  (bif (a0 == a10 && (a1 == a11 && (a2 == a12 && (a3 == a13 && (a4 == a14 && (a5 == a15 && (a6 == a16 && (a7 == a17 && (a8 == a18 && (a9 == a19 && true)))))))))) then some 0
  else (F35 a0 a10).bind fun x21 =>
      (F35 a1 a11).bind fun x22 =>
        (F36 a2 a3 a4 a12 a13 a14).bind fun x23 =>
          (F36 a5 a6 a7 a15 a16 a17).bind fun x24 =>
            (F35 a8 a18).bind fun x25 =>
              (F35 a9 a19).bind fun x26 =>
                (F34_6 x21 x22 x23 x24 x25 x26).bind fun x27 =>
                  some x27)
theorem eq22 (k : Nat) (a0 : Int) (a1 : Int) (a2 : Int) (a3 : Int) (a4 : Int) (a5 : Int) (a6 : Int) (a7 : Int) (a8 : Int) (a9 : Int) (a10 : Int) (a11 : Int) (a12 : Int) (a13 : Int) (a14 : Int) (a15 : Int) (a16 : Int) (a17 : Int) (a18 : Int) (a19 : Int) : callN E0 (k + 1) 22 (List.map IV.p [.v (.agg ⟨[.int .i64 a0, .int .i64 a1, .int .i64 a2, .int .u64 a3, .int .u64 a4, .int .i64 a5, .int .u64 a6, .int .u64 a7, .int .i64 a8, .int .i64 a9]⟩), .v (.agg ⟨[.int .i64 a10, .int .i64 a11, .int .i64 a12, .int .u64 a13, .int .u64 a14, .int .i64 a15, .int .u64 a16, .int .u64 a17, .int .i64 a18, .int .i64 a19]⟩)]) [] =
  (bif (a0 == a10 && (a1 == a11 && (a2 == a12 && (a3 == a13 && (a4 == a14 && (a5 == a15 && (a6 == a16 && (a7 == a17 && (a8 == a18 && (a9 == a19 && true)))))))))) then some ((.p (.v (.int .i64 0))), [(.pc [(.v (.int .i64 a0)), (.v (.int .i64 a1)), (.v (.int .i64 a2)), (.v (.int .u64 a3)), (.v (.int .u64 a4)), (.v (.int .i64 a5)), (.v (.int .u64 a6)), (.v (.int .u64 a7)), (.v (.int .i64 a8)), (.v (.int .i64 a9))]), (.pc [(.v (.int .i64 a10)), (.v (.int .i64 a11)), (.v (.int .i64 a12)), (.v (.int .u64 a13)), (.v (.int .u64 a14)), (.v (.int .i64 a15)), (.v (.int .u64 a16)), (.v (.int .u64 a17)), (.v (.int .i64 a18)), (.v (.int .i64 a19))])])
  else callT E0.P (callP E0 k) 35 [(.v (.int .i64 a0)), (.v (.int .i64 a10))] false [3] [(.int .i64)] (fun n21 =>
      (callT E0.P (callP E0 k) 35 [(.v (.int .i64 a1)), (.v (.int .i64 a11))] false [3] [(.int .i64)] (fun n22 =>
        (callT E0.P (callP E0 k) 36 [(.v (.agg ⟨[(.int .i64 a2), (.int .u64 a3), (.int .u64 a4)]⟩)), (.v (.agg ⟨[(.int .i64 a12), (.int .u64 a13), (.int .u64 a14)]⟩))] false [3] [(.int .i64)] (fun n23 =>
          (callT E0.P (callP E0 k) 36 [(.v (.agg ⟨[(.int .i64 a5), (.int .u64 a6), (.int .u64 a7)]⟩)), (.v (.agg ⟨[(.int .i64 a15), (.int .u64 a16), (.int .u64 a17)]⟩))] false [3] [(.int .i64)] (fun n24 =>
            (callT E0.P (callP E0 k) 35 [(.v (.int .i64 a8)), (.v (.int .i64 a18))] false [3] [(.int .i64)] (fun n25 =>
              (callT E0.P (callP E0 k) 35 [(.v (.int .i64 a9)), (.v (.int .i64 a19))] false [3] [(.int .i64)] (fun n26 =>
                (callT E0.P (callP E0 k) 34 [(.ro 6 [(.v (.int .i64 n21)), (.v (.int .i64 n22)), (.v (.int .i64 n23)), (.v (.int .i64 n24)), (.v (.int .i64 n25)), (.v (.int .i64 n26))])] true [3] [(.int .i64)] (fun n27 =>
                  (some ((.p (.v (.int .i64 n27))), [(.pc [(.v (.int .i64 a0)), (.v (.int .i64 a1)), (.v (.int .i64 a2)), (.v (.int .u64 a3)), (.v (.int .u64 a4)), (.v (.int .i64 a5)), (.v (.int .u64 a6)), (.v (.int .u64 a7)), (.v (.int .i64 a8)), (.v (.int .i64 a9))]), (.pc [(.v (.int .i64 a10)), (.v (.int .i64 a11)), (.v (.int .i64 a12)), (.v (.int .u64 a13)), (.v (.int .u64 a14)), (.v (.int .i64 a15)), (.v (.int .u64 a16)), (.v (.int .u64 a17)), (.v (.int .i64 a18)), (.v (.int .i64 a19))]), (.pc [(.v (.int .i64 n21)), (.v (.int .i64 n22)), (.v (.int .i64 n23)), (.v (.int .i64 n24)), (.v (.int .i64 n25)), (.v (.int .i64 n26))])]) : R)) : R)) : R)) : R)) : R)) : R)) : R))) := by kernel_rfl
theorem c22 {k : Nat} (hk : 13 ≤ k) (a0 : Int) (a1 : Int) (a2 : Int) (a3 : Int) (a4 : Int) (a5 : Int) (a6 : Int) (a7 : Int) (a8 : Int) (a9 : Int) (a10 : Int) (a11 : Int) (a12 : Int) (a13 : Int) (a14 : Int) (a15 : Int) (a16 : Int) (a17 : Int) (a18 : Int) (a19 : Int) (K : Int → R) : callT E0.P (callP E0 k) 22 [.v (.agg ⟨[.int .i64 a0, .int .i64 a1, .int .i64 a2, .int .u64 a3, .int .u64 a4, .int .i64 a5, .int .u64 a6, .int .u64 a7, .int .i64 a8, .int .i64 a9]⟩), .v (.agg ⟨[.int .i64 a10, .int .i64 a11, .int .i64 a12, .int .u64 a13, .int .u64 a14, .int .i64 a15, .int .u64 a16, .int .u64 a17, .int .i64 a18, .int .i64 a19]⟩)] false [3] [.int .i64] K = (F22 a0 a1 a2 a3 a4 a5 a6 a7 a8 a9 a10 a11 a12 a13 a14 a15 a16 a17 a18 a19).bind fun x => K x := by
  obtain ⟨k, rfl⟩ : ∃ j, k = j + 1 := ⟨k - 1, by omega⟩
  refine (callT_call' (E := E0) rfl rfl _ _ _).trans ?_
  rw [eq22]
  unfold F22
  try simp only [c35 (show 2 ≤ k by omega), c36 (show 9 ≤ k by omega), c34_6 (show 12 ≤ k by omega), bif_bind, ite_bind, Option.bind_assoc, Option.bind_none]
  kernel_rfl
def F8 (a0 : Int) (a1 : Int) (a2 : Int) (a3 : Int) (a4 : Int) (a5 : Int) (a6 : Int) (a7 : Int) (a8 : Int) (a9 : Int) (a10 : Int) (a11 : Int) (a12 : Int) (a13 : Int) (a14 : Int) (a15 : Int) (a16 : Int) (a17 : Int) (a18 : Int) (a19 : Int) (a20 : Int) (a21 : Int) (a22 : Int) (a23 : Int) (a24 : Int) (a25 : Int) (a26 : Int) (a27 : Int) (a28 : Int) (a29 : Int) : Option (Bool) :=
  (F22 a0 a1 a2 a3 a4 a5 a6 a7 a8 a9 a10 a11 a12 a13 a14 a15 a16 a17 a18 a19).bind fun x31 =>
    (F22 a10 a11 a12 a13 a14 a15 a16 a17 a18 a19 a20 a21 a22 a23 a24 a25 a26 a27 a28 a29).bind fun x32 =>
      (F22 a0 a1 a2 a3 a4 a5 a6 a7 a8 a9 a20 a21 a22 a23 a24 a25 a26 a27 a28 a29).bind fun x33 =>
        (F22 a10 a11 a12 a13 a14 a15 a16 a17 a18 a19 a0 a1 a2 a3 a4 a5 a6 a7 a8 a9).bind fun x34 =>
          (bif (x34 == IntKind.i64.wrap (0 - x31)) then (bif ((x31 == 0) == (a0 == a10 && (a1 == a11 && (a2 == a12 && (a3 == a13 && (a4 == a14 && (a5 == a15 && (a6 == a16 && (a7 == a17 && (a8 == a18 && (a9 == a19 && true))))))))))) then (bif (decide (x31 > 0)) then (F11 ).bind fun x35 =>
                  some x35
              else (bif (decide (x32 > 0)) then (F11 ).bind fun x35 =>
                    some x35
                else (bif (decide (x33 ≤ 0)) then (F11 ).bind fun x35 =>
                      some x35
                  else some false)))
            else some false)
          else some false)
theorem eq8 (k : Nat) (a0 : Int) (a1 : Int) (a2 : Int) (a3 : Int) (a4 : Int) (a5 : Int) (a6 : Int) (a7 : Int) (a8 : Int) (a9 : Int) (a10 : Int) (a11 : Int) (a12 : Int) (a13 : Int) (a14 : Int) (a15 : Int) (a16 : Int) (a17 : Int) (a18 : Int) (a19 : Int) (a20 : Int) (a21 : Int) (a22 : Int) (a23 : Int) (a24 : Int) (a25 : Int) (a26 : Int) (a27 : Int) (a28 : Int) (a29 : Int) : callN E0 (k + 1) 8 (List.map IV.p [.v (.agg ⟨[.int .i64 a0, .int .i64 a1, .int .i64 a2, .int .u64 a3, .int .u64 a4, .int .i64 a5, .int .u64 a6, .int .u64 a7, .int .i64 a8, .int .i64 a9]⟩), .v (.agg ⟨[.int .i64 a10, .int .i64 a11, .int .i64 a12, .int .u64 a13, .int .u64 a14, .int .i64 a15, .int .u64 a16, .int .u64 a17, .int .i64 a18, .int .i64 a19]⟩), .v (.agg ⟨[.int .i64 a20, .int .i64 a21, .int .i64 a22, .int .u64 a23, .int .u64 a24, .int .i64 a25, .int .u64 a26, .int .u64 a27, .int .i64 a28, .int .i64 a29]⟩)]) [] =
  callT E0.P (callP E0 k) 22 [(.v (.agg ⟨[(.int .i64 a0), (.int .i64 a1), (.int .i64 a2), (.int .u64 a3), (.int .u64 a4), (.int .i64 a5), (.int .u64 a6), (.int .u64 a7), (.int .i64 a8), (.int .i64 a9)]⟩)), (.v (.agg ⟨[(.int .i64 a10), (.int .i64 a11), (.int .i64 a12), (.int .u64 a13), (.int .u64 a14), (.int .i64 a15), (.int .u64 a16), (.int .u64 a17), (.int .i64 a18), (.int .i64 a19)]⟩))] false [3] [(.int .i64)] (fun n31 =>
    (callT E0.P (callP E0 k) 22 [(.v (.agg ⟨[(.int .i64 a10), (.int .i64 a11), (.int .i64 a12), (.int .u64 a13), (.int .u64 a14), (.int .i64 a15), (.int .u64 a16), (.int .u64 a17), (.int .i64 a18), (.int .i64 a19)]⟩)), (.v (.agg ⟨[(.int .i64 a20), (.int .i64 a21), (.int .i64 a22), (.int .u64 a23), (.int .u64 a24), (.int .i64 a25), (.int .u64 a26), (.int .u64 a27), (.int .i64 a28), (.int .i64 a29)]⟩))] false [3] [(.int .i64)] (fun n32 =>
      (callT E0.P (callP E0 k) 22 [(.v (.agg ⟨[(.int .i64 a0), (.int .i64 a1), (.int .i64 a2), (.int .u64 a3), (.int .u64 a4), (.int .i64 a5), (.int .u64 a6), (.int .u64 a7), (.int .i64 a8), (.int .i64 a9)]⟩)), (.v (.agg ⟨[(.int .i64 a20), (.int .i64 a21), (.int .i64 a22), (.int .u64 a23), (.int .u64 a24), (.int .i64 a25), (.int .u64 a26), (.int .u64 a27), (.int .i64 a28), (.int .i64 a29)]⟩))] false [3] [(.int .i64)] (fun n33 =>
        (callT E0.P (callP E0 k) 22 [(.v (.agg ⟨[(.int .i64 a10), (.int .i64 a11), (.int .i64 a12), (.int .u64 a13), (.int .u64 a14), (.int .i64 a15), (.int .u64 a16), (.int .u64 a17), (.int .i64 a18), (.int .i64 a19)]⟩)), (.v (.agg ⟨[(.int .i64 a0), (.int .i64 a1), (.int .i64 a2), (.int .u64 a3), (.int .u64 a4), (.int .i64 a5), (.int .u64 a6), (.int .u64 a7), (.int .i64 a8), (.int .i64 a9)]⟩))] false [3] [(.int .i64)] (fun n34 =>
          ((bif (n34 == IntKind.i64.wrap (0 - n31)) then (bif ((n31 == 0) == (a0 == a10 && (a1 == a11 && (a2 == a12 && (a3 == a13 && (a4 == a14 && (a5 == a15 && (a6 == a16 && (a7 == a17 && (a8 == a18 && (a9 == a19 && true))))))))))) then (bif (decide (n31 > 0)) then callT E0.P (callP E0 k) 11 [] false [4] [.bool] (fun b35 =>
                  (some ((.p (.v (.bool b35))), [(.pc [(.v (.int .i64 a0)), (.v (.int .i64 a1)), (.v (.int .i64 a2)), (.v (.int .u64 a3)), (.v (.int .u64 a4)), (.v (.int .i64 a5)), (.v (.int .u64 a6)), (.v (.int .u64 a7)), (.v (.int .i64 a8)), (.v (.int .i64 a9))]), (.pc [(.v (.int .i64 a10)), (.v (.int .i64 a11)), (.v (.int .i64 a12)), (.v (.int .u64 a13)), (.v (.int .u64 a14)), (.v (.int .i64 a15)), (.v (.int .u64 a16)), (.v (.int .u64 a17)), (.v (.int .i64 a18)), (.v (.int .i64 a19))]), (.pc [(.v (.int .i64 a20)), (.v (.int .i64 a21)), (.v (.int .i64 a22)), (.v (.int .u64 a23)), (.v (.int .u64 a24)), (.v (.int .i64 a25)), (.v (.int .u64 a26)), (.v (.int .u64 a27)), (.v (.int .i64 a28)), (.v (.int .i64 a29))])]) : R))
              else (bif (decide (n32 > 0)) then callT E0.P (callP E0 k) 11 [] false [4] [.bool] (fun b35 =>
                    (some ((.p (.v (.bool b35))), [(.pc [(.v (.int .i64 a0)), (.v (.int .i64 a1)), (.v (.int .i64 a2)), (.v (.int .u64 a3)), (.v (.int .u64 a4)), (.v (.int .i64 a5)), (.v (.int .u64 a6)), (.v (.int .u64 a7)), (.v (.int .i64 a8)), (.v (.int .i64 a9))]), (.pc [(.v (.int .i64 a10)), (.v (.int .i64 a11)), (.v (.int .i64 a12)), (.v (.int .u64 a13)), (.v (.int .u64 a14)), (.v (.int .i64 a15)), (.v (.int .u64 a16)), (.v (.int .u64 a17)), (.v (.int .i64 a18)), (.v (.int .i64 a19))]), (.pc [(.v (.int .i64 a20)), (.v (.int .i64 a21)), (.v (.int .i64 a22)), (.v (.int .u64 a23)), (.v (.int .u64 a24)), (.v (.int .i64 a25)), (.v (.int .u64 a26)), (.v (.int .u64 a27)), (.v (.int .i64 a28)), (.v (.int .i64 a29))])]) : R))
                else (bif (decide (n33 ≤ 0)) then callT E0.P (callP E0 k) 11 [] false [4] [.bool] (fun b35 =>
                      (some ((.p (.v (.bool b35))), [(.pc [(.v (.int .i64 a0)), (.v (.int .i64 a1)), (.v (.int .i64 a2)), (.v (.int .u64 a3)), (.v (.int .u64 a4)), (.v (.int .i64 a5)), (.v (.int .u64 a6)), (.v (.int .u64 a7)), (.v (.int .i64 a8)), (.v (.int .i64 a9))]), (.pc [(.v (.int .i64 a10)), (.v (.int .i64 a11)), (.v (.int .i64 a12)), (.v (.int .u64 a13)), (.v (.int .u64 a14)), (.v (.int .i64 a15)), (.v (.int .u64 a16)), (.v (.int .u64 a17)), (.v (.int .i64 a18)), (.v (.int .i64 a19))]), (.pc [(.v (.int .i64 a20)), (.v (.int .i64 a21)), (.v (.int .i64 a22)), (.v (.int .u64 a23)), (.v (.int .u64 a24)), (.v (.int .i64 a25)), (.v (.int .u64 a26)), (.v (.int .u64 a27)), (.v (.int .i64 a28)), (.v (.int .i64 a29))])]) : R))
                  else some ((.p (.v (.bool false))), [(.pc [(.v (.int .i64 a0)), (.v (.int .i64 a1)), (.v (.int .i64 a2)), (.v (.int .u64 a3)), (.v (.int .u64 a4)), (.v (.int .i64 a5)), (.v (.int .u64 a6)), (.v (.int .u64 a7)), (.v (.int .i64 a8)), (.v (.int .i64 a9))]), (.pc [(.v (.int .i64 a10)), (.v (.int .i64 a11)), (.v (.int .i64 a12)), (.v (.int .u64 a13)), (.v (.int .u64 a14)), (.v (.int .i64 a15)), (.v (.int .u64 a16)), (.v (.int .u64 a17)), (.v (.int .i64 a18)), (.v (.int .i64 a19))]), (.pc [(.v (.int .i64 a20)), (.v (.int .i64 a21)), (.v (.int .i64 a22)), (.v (.int .u64 a23)), (.v (.int .u64 a24)), (.v (.int .i64 a25)), (.v (.int .u64 a26)), (.v (.int .u64 a27)), (.v (.int .i64 a28)), (.v (.int .i64 a29))])]))))
            else some ((.p (.v (.bool false))), [(.pc [(.v (.int .i64 a0)), (.v (.int .i64 a1)), (.v (.int .i64 a2)), (.v (.int .u64 a3)), (.v (.int .u64 a4)), (.v (.int .i64 a5)), (.v (.int .u64 a6)), (.v (.int .u64 a7)), (.v (.int .i64 a8)), (.v (.int .i64 a9))]), (.pc [(.v (.int .i64 a10)), (.v (.int .i64 a11)), (.v (.int .i64 a12)), (.v (.int .u64 a13)), (.v (.int .u64 a14)), (.v (.int .i64 a15)), (.v (.int .u64 a16)), (.v (.int .u64 a17)), (.v (.int .i64 a18)), (.v (.int .i64 a19))]), (.pc [(.v (.int .i64 a20)), (.v (.int .i64 a21)), (.v (.int .i64 a22)), (.v (.int .u64 a23)), (.v (.int .u64 a24)), (.v (.int .i64 a25)), (.v (.int .u64 a26)), (.v (.int .u64 a27)), (.v (.int .i64 a28)), (.v (.int .i64 a29))])]))
          else some ((.p (.v (.bool false))), [(.pc [(.v (.int .i64 a0)), (.v (.int .i64 a1)), (.v (.int .i64 a2)), (.v (.int .u64 a3)), (.v (.int .u64 a4)), (.v (.int .i64 a5)), (.v (.int .u64 a6)), (.v (.int .u64 a7)), (.v (.int .i64 a8)), (.v (.int .i64 a9))]), (.pc [(.v (.int .i64 a10)), (.v (.int .i64 a11)), (.v (.int .i64 a12)), (.v (.int .u64 a13)), (.v (.int .u64 a14)), (.v (.int .i64 a15)), (.v (.int .u64 a16)), (.v (.int .u64 a17)), (.v (.int .i64 a18)), (.v (.int .i64 a19))]), (.pc [(.v (.int .i64 a20)), (.v (.int .i64 a21)), (.v (.int .i64 a22)), (.v (.int .u64 a23)), (.v (.int .u64 a24)), (.v (.int .i64 a25)), (.v (.int .u64 a26)), (.v (.int .u64 a27)), (.v (.int .i64 a28)), (.v (.int .i64 a29))])])) : R)) : R)) : R)) : R)) := by kernel_rfl
theorem c8 {k : Nat} (hk : 61 ≤ k) (a0 : Int) (a1 : Int) (a2 : Int) (a3 : Int) (a4 : Int) (a5 : Int) (a6 : Int) (a7 : Int) (a8 : Int) (a9 : Int) (a10 : Int) (a11 : Int) (a12 : Int) (a13 : Int) (a14 : Int) (a15 : Int) (a16 : Int) (a17 : Int) (a18 : Int) (a19 : Int) (a20 : Int) (a21 : Int) (a22 : Int) (a23 : Int) (a24 : Int) (a25 : Int) (a26 : Int) (a27 : Int) (a28 : Int) (a29 : Int) (K : Bool → R) : callT E0.P (callP E0 k) 8 [.v (.agg ⟨[.int .i64 a0, .int .i64 a1, .int .i64 a2, .int .u64 a3, .int .u64 a4, .int .i64 a5, .int .u64 a6, .int .u64 a7, .int .i64 a8, .int .i64 a9]⟩), .v (.agg ⟨[.int .i64 a10, .int .i64 a11, .int .i64 a12, .int .u64 a13, .int .u64 a14, .int .i64 a15, .int .u64 a16, .int .u64 a17, .int .i64 a18, .int .i64 a19]⟩), .v (.agg ⟨[.int .i64 a20, .int .i64 a21, .int .i64 a22, .int .u64 a23, .int .u64 a24, .int .i64 a25, .int .u64 a26, .int .u64 a27, .int .i64 a28, .int .i64 a29]⟩)] false [4] [.bool] K = (F8 a0 a1 a2 a3 a4 a5 a6 a7 a8 a9 a10 a11 a12 a13 a14 a15 a16 a17 a18 a19 a20 a21 a22 a23 a24 a25 a26 a27 a28 a29).bind fun x => K x := by
  obtain ⟨k, rfl⟩ : ∃ j, k = j + 1 := ⟨k - 1, by omega⟩
  refine (callT_call' (E := E0) rfl rfl _ _ _).trans ?_
  rw [eq8]
  unfold F8
  try simp only [c22 (show 13 ≤ k by omega), c11 (show 60 ≤ k by omega), bif_bind, ite_bind, Option.bind_assoc, Option.bind_none]
  kernel_rfl
end Go.Proofs.YtgldfdpdjlohiaaDoor.Iv
