/- TupleRights: the functions, plainly; conditions: none. -/
import Derived.Test.YtgldfdpdjlohiaaDoorOrdersL
namespace Go.Proofs.YtgldfdpdjlohiaaDoor.Iv
open Go
def F30 (a0 : Int) (a1 : Int) (a2 : Int) : Option (Bool) :=
  (bif (a0 == 6) then some true
  else (bif (a0 == 4) then (bif (a1 == 0) then some (decide (a2 < 4294967296))
      else some false)
    else some false))
theorem eq30 (k : Nat) (a0 : Int) (a1 : Int) (a2 : Int) : callN E0 (k + 1) 30 (List.map IV.p [.v (.agg ⟨[.int .i64 a0, .int .u64 a1, .int .u64 a2]⟩)]) [] =
  (bif (a0 == 6) then some ((.p (.v (.bool true))), [(.pc [(.v (.int .i64 a0)), (.v (.int .u64 a1)), (.v (.int .u64 a2))])])
  else (bif (a0 == 4) then (bif (a1 == 0) then some ((.p (.v (.bool (decide (a2 < 4294967296))))), [(.pc [(.v (.int .i64 a0)), (.v (.int .u64 a1)), (.v (.int .u64 a2))])])
      else some ((.p (.v (.bool false))), [(.pc [(.v (.int .i64 a0)), (.v (.int .u64 a1)), (.v (.int .u64 a2))])]))
    else some ((.p (.v (.bool false))), [(.pc [(.v (.int .i64 a0)), (.v (.int .u64 a1)), (.v (.int .u64 a2))])]))) := by kernel_rfl
theorem c30 {k : Nat} (hk : 1 ≤ k) (a0 : Int) (a1 : Int) (a2 : Int) (K : Bool → R) : callT E0.P (callP E0 k) 30 [.v (.agg ⟨[.int .i64 a0, .int .u64 a1, .int .u64 a2]⟩)] false [4] [.bool] K = (F30 a0 a1 a2).bind fun x => K x := by
  obtain ⟨k, rfl⟩ : ∃ j, k = j + 1 := ⟨k - 1, by omega⟩
  refine (callT_call' (E := E0) rfl rfl _ _ _).trans ?_
  rw [eq30]
  unfold F30
  try simp only [bif_bind, ite_bind, Option.bind_assoc, Option.bind_none]
  kernel_rfl
def F32 (a0 : Int) (a1 : Int) (a2 : Int) (a3 : Int) (a4 : Int) (a5 : Int) (a6 : Int) : Option (Bool) :=
  (bif (a0 == 4) then (bif (a1 == a0) then (bif (a4 == a0) then (F30 a1 a2 a3).bind fun x8 =>
          (bif x8 then (F30 a4 a5 a6).bind fun x9 =>
              some x9
          else some false)
      else some false)
    else some false)
  else (bif (a0 == 6) then (bif (a1 == a0) then (bif (a4 == a0) then (F30 a1 a2 a3).bind fun x8 =>
            (bif x8 then (F30 a4 a5 a6).bind fun x9 =>
                some x9
            else some false)
        else some false)
      else some false)
    else some false))
theorem eq32 (k : Nat) (a0 : Int) (a1 : Int) (a2 : Int) (a3 : Int) (a4 : Int) (a5 : Int) (a6 : Int) : callN E0 (k + 1) 32 (List.map IV.p [.v (.int .i64 a0), .v (.agg ⟨[.int .i64 a1, .int .u64 a2, .int .u64 a3]⟩), .v (.agg ⟨[.int .i64 a4, .int .u64 a5, .int .u64 a6]⟩)]) [] =
  (bif (a0 == 4) then (bif (a1 == a0) then (bif (a4 == a0) then callT E0.P (callP E0 k) 30 [(.v (.agg ⟨[(.int .i64 a1), (.int .u64 a2), (.int .u64 a3)]⟩))] false [4] [.bool] (fun b8 =>
          ((bif b8 then callT E0.P (callP E0 k) 30 [(.v (.agg ⟨[(.int .i64 a4), (.int .u64 a5), (.int .u64 a6)]⟩))] false [4] [.bool] (fun b9 =>
              (some ((.p (.v (.bool b9))), [(.pc [(.v (.int .i64 a1)), (.v (.int .u64 a2)), (.v (.int .u64 a3))]), (.pc [(.v (.int .i64 a4)), (.v (.int .u64 a5)), (.v (.int .u64 a6))])]) : R))
          else some ((.p (.v (.bool false))), [(.pc [(.v (.int .i64 a1)), (.v (.int .u64 a2)), (.v (.int .u64 a3))]), (.pc [(.v (.int .i64 a4)), (.v (.int .u64 a5)), (.v (.int .u64 a6))])])) : R))
      else some ((.p (.v (.bool false))), [(.pc [(.v (.int .i64 a1)), (.v (.int .u64 a2)), (.v (.int .u64 a3))]), (.pc [(.v (.int .i64 a4)), (.v (.int .u64 a5)), (.v (.int .u64 a6))])]))
    else some ((.p (.v (.bool false))), [(.pc [(.v (.int .i64 a1)), (.v (.int .u64 a2)), (.v (.int .u64 a3))]), (.pc [(.v (.int .i64 a4)), (.v (.int .u64 a5)), (.v (.int .u64 a6))])]))
  else (bif (a0 == 6) then (bif (a1 == a0) then (bif (a4 == a0) then callT E0.P (callP E0 k) 30 [(.v (.agg ⟨[(.int .i64 a1), (.int .u64 a2), (.int .u64 a3)]⟩))] false [4] [.bool] (fun b8 =>
            ((bif b8 then callT E0.P (callP E0 k) 30 [(.v (.agg ⟨[(.int .i64 a4), (.int .u64 a5), (.int .u64 a6)]⟩))] false [4] [.bool] (fun b9 =>
                (some ((.p (.v (.bool b9))), [(.pc [(.v (.int .i64 a1)), (.v (.int .u64 a2)), (.v (.int .u64 a3))]), (.pc [(.v (.int .i64 a4)), (.v (.int .u64 a5)), (.v (.int .u64 a6))])]) : R))
            else some ((.p (.v (.bool false))), [(.pc [(.v (.int .i64 a1)), (.v (.int .u64 a2)), (.v (.int .u64 a3))]), (.pc [(.v (.int .i64 a4)), (.v (.int .u64 a5)), (.v (.int .u64 a6))])])) : R))
        else some ((.p (.v (.bool false))), [(.pc [(.v (.int .i64 a1)), (.v (.int .u64 a2)), (.v (.int .u64 a3))]), (.pc [(.v (.int .i64 a4)), (.v (.int .u64 a5)), (.v (.int .u64 a6))])]))
      else some ((.p (.v (.bool false))), [(.pc [(.v (.int .i64 a1)), (.v (.int .u64 a2)), (.v (.int .u64 a3))]), (.pc [(.v (.int .i64 a4)), (.v (.int .u64 a5)), (.v (.int .u64 a6))])]))
    else some ((.p (.v (.bool false))), [(.pc [(.v (.int .i64 a1)), (.v (.int .u64 a2)), (.v (.int .u64 a3))]), (.pc [(.v (.int .i64 a4)), (.v (.int .u64 a5)), (.v (.int .u64 a6))])]))) := by kernel_rfl
theorem c32 {k : Nat} (hk : 2 ≤ k) (a0 : Int) (a1 : Int) (a2 : Int) (a3 : Int) (a4 : Int) (a5 : Int) (a6 : Int) (K : Bool → R) : callT E0.P (callP E0 k) 32 [.v (.int .i64 a0), .v (.agg ⟨[.int .i64 a1, .int .u64 a2, .int .u64 a3]⟩), .v (.agg ⟨[.int .i64 a4, .int .u64 a5, .int .u64 a6]⟩)] false [4] [.bool] K = (F32 a0 a1 a2 a3 a4 a5 a6).bind fun x => K x := by
  obtain ⟨k, rfl⟩ : ∃ j, k = j + 1 := ⟨k - 1, by omega⟩
  refine (callT_call' (E := E0) rfl rfl _ _ _).trans ?_
  rw [eq32]
  unfold F32
  try simp only [c30 (show 1 ≤ k by omega), bif_bind, ite_bind, Option.bind_assoc, Option.bind_none]
  kernel_rfl
def F33 (a0 : Int) : Option (Int) :=
  (bif (a0 == 4) then some 1
  else some 58)
theorem eq33 (k : Nat) (a0 : Int) : callN E0 (k + 1) 33 (List.map IV.p [.v (.int .i64 a0)]) [] =
  (bif (a0 == 4) then some ((.p (.v (.int .i64 1))), [])
  else some ((.p (.v (.int .i64 58))), [])) := by kernel_rfl
theorem c33 {k : Nat} (hk : 1 ≤ k) (a0 : Int) (K : Int → R) : callT E0.P (callP E0 k) 33 [.v (.int .i64 a0)] false [3] [.int .i64] K = (F33 a0).bind fun x => K x := by
  obtain ⟨k, rfl⟩ : ∃ j, k = j + 1 := ⟨k - 1, by omega⟩
  refine (callT_call' (E := E0) rfl rfl _ _ _).trans ?_
  rw [eq33]
  unfold F33
  try simp only [bif_bind, ite_bind, Option.bind_assoc, Option.bind_none]
  kernel_rfl
def F20 (a0 : Int) (a1 : Int) (a2 : Int) (a3 : Int) (a4 : Int) (a5 : Int) (a6 : Int) (a7 : Int) (a8 : Int) (a9 : Int) : Option (Bool) :=
  (bif (decide (a8 ≥ 0)) then (bif (decide (a8 ≤ 65535)) then (bif (decide (a9 ≥ 0)) then (F32 a0 a2 a3 a4 a5 a6 a7).bind fun x11 =>
          (bif x11 then (bif (a1 == 6) then some (decide (a9 ≤ 65535))
            else (bif (a1 == 17) then some (decide (a9 ≤ 65535))
              else (F33 a0).bind fun x12 =>
                  (bif (a1 == x12) then some (decide (a9 ≤ 65535))
                  else some false)))
          else some false)
      else (F32 a0 a2 a3 a4 a5 a6 a7).bind fun x11 =>
          (bif x11 then (bif (a1 == 6) then some false
            else (bif (a1 == 17) then some false
              else (F33 a0).bind fun x12 =>
                  (bif (a1 == x12) then some false
                  else some false)))
          else some false))
    else (F32 a0 a2 a3 a4 a5 a6 a7).bind fun x11 =>
        (bif x11 then (bif (a1 == 6) then some false
          else (bif (a1 == 17) then some false
            else (F33 a0).bind fun x12 =>
                (bif (a1 == x12) then some false
                else some false)))
        else some false))
  else (F32 a0 a2 a3 a4 a5 a6 a7).bind fun x11 =>
      (bif x11 then (bif (a1 == 6) then some false
        else (bif (a1 == 17) then some false
          else (F33 a0).bind fun x12 =>
              (bif (a1 == x12) then some false
              else some false)))
      else some false))
theorem eq20 (k : Nat) (a0 : Int) (a1 : Int) (a2 : Int) (a3 : Int) (a4 : Int) (a5 : Int) (a6 : Int) (a7 : Int) (a8 : Int) (a9 : Int) : callN E0 (k + 1) 20 (List.map IV.p [.v (.agg ⟨[.int .i64 a0, .int .i64 a1, .int .i64 a2, .int .u64 a3, .int .u64 a4, .int .i64 a5, .int .u64 a6, .int .u64 a7, .int .i64 a8, .int .i64 a9]⟩)]) [] =
  (bif (decide (a8 ≥ 0)) then (bif (decide (a8 ≤ 65535)) then (bif (decide (a9 ≥ 0)) then callT E0.P (callP E0 k) 32 [(.v (.int .i64 a0)), (.v (.agg ⟨[(.int .i64 a2), (.int .u64 a3), (.int .u64 a4)]⟩)), (.v (.agg ⟨[(.int .i64 a5), (.int .u64 a6), (.int .u64 a7)]⟩))] false [4] [.bool] (fun b11 =>
          ((bif b11 then (bif (a1 == 6) then some ((.p (.v (.bool (decide (a9 ≤ 65535))))), [(.pc [(.v (.int .i64 a0)), (.v (.int .i64 a1)), (.v (.int .i64 a2)), (.v (.int .u64 a3)), (.v (.int .u64 a4)), (.v (.int .i64 a5)), (.v (.int .u64 a6)), (.v (.int .u64 a7)), (.v (.int .i64 a8)), (.v (.int .i64 a9))])])
            else (bif (a1 == 17) then some ((.p (.v (.bool (decide (a9 ≤ 65535))))), [(.pc [(.v (.int .i64 a0)), (.v (.int .i64 a1)), (.v (.int .i64 a2)), (.v (.int .u64 a3)), (.v (.int .u64 a4)), (.v (.int .i64 a5)), (.v (.int .u64 a6)), (.v (.int .u64 a7)), (.v (.int .i64 a8)), (.v (.int .i64 a9))])])
              else callT E0.P (callP E0 k) 33 [(.v (.int .i64 a0))] false [3] [(.int .i64)] (fun n12 =>
                  ((bif (a1 == n12) then some ((.p (.v (.bool (decide (a9 ≤ 65535))))), [(.pc [(.v (.int .i64 a0)), (.v (.int .i64 a1)), (.v (.int .i64 a2)), (.v (.int .u64 a3)), (.v (.int .u64 a4)), (.v (.int .i64 a5)), (.v (.int .u64 a6)), (.v (.int .u64 a7)), (.v (.int .i64 a8)), (.v (.int .i64 a9))])])
                  else some ((.p (.v (.bool false))), [(.pc [(.v (.int .i64 a0)), (.v (.int .i64 a1)), (.v (.int .i64 a2)), (.v (.int .u64 a3)), (.v (.int .u64 a4)), (.v (.int .i64 a5)), (.v (.int .u64 a6)), (.v (.int .u64 a7)), (.v (.int .i64 a8)), (.v (.int .i64 a9))])])) : R))))
          else some ((.p (.v (.bool false))), [(.pc [(.v (.int .i64 a0)), (.v (.int .i64 a1)), (.v (.int .i64 a2)), (.v (.int .u64 a3)), (.v (.int .u64 a4)), (.v (.int .i64 a5)), (.v (.int .u64 a6)), (.v (.int .u64 a7)), (.v (.int .i64 a8)), (.v (.int .i64 a9))])])) : R))
      else callT E0.P (callP E0 k) 32 [(.v (.int .i64 a0)), (.v (.agg ⟨[(.int .i64 a2), (.int .u64 a3), (.int .u64 a4)]⟩)), (.v (.agg ⟨[(.int .i64 a5), (.int .u64 a6), (.int .u64 a7)]⟩))] false [4] [.bool] (fun b11 =>
          ((bif b11 then (bif (a1 == 6) then some ((.p (.v (.bool false))), [(.pc [(.v (.int .i64 a0)), (.v (.int .i64 a1)), (.v (.int .i64 a2)), (.v (.int .u64 a3)), (.v (.int .u64 a4)), (.v (.int .i64 a5)), (.v (.int .u64 a6)), (.v (.int .u64 a7)), (.v (.int .i64 a8)), (.v (.int .i64 a9))])])
            else (bif (a1 == 17) then some ((.p (.v (.bool false))), [(.pc [(.v (.int .i64 a0)), (.v (.int .i64 a1)), (.v (.int .i64 a2)), (.v (.int .u64 a3)), (.v (.int .u64 a4)), (.v (.int .i64 a5)), (.v (.int .u64 a6)), (.v (.int .u64 a7)), (.v (.int .i64 a8)), (.v (.int .i64 a9))])])
              else callT E0.P (callP E0 k) 33 [(.v (.int .i64 a0))] false [3] [(.int .i64)] (fun n12 =>
                  ((bif (a1 == n12) then some ((.p (.v (.bool false))), [(.pc [(.v (.int .i64 a0)), (.v (.int .i64 a1)), (.v (.int .i64 a2)), (.v (.int .u64 a3)), (.v (.int .u64 a4)), (.v (.int .i64 a5)), (.v (.int .u64 a6)), (.v (.int .u64 a7)), (.v (.int .i64 a8)), (.v (.int .i64 a9))])])
                  else some ((.p (.v (.bool false))), [(.pc [(.v (.int .i64 a0)), (.v (.int .i64 a1)), (.v (.int .i64 a2)), (.v (.int .u64 a3)), (.v (.int .u64 a4)), (.v (.int .i64 a5)), (.v (.int .u64 a6)), (.v (.int .u64 a7)), (.v (.int .i64 a8)), (.v (.int .i64 a9))])])) : R))))
          else some ((.p (.v (.bool false))), [(.pc [(.v (.int .i64 a0)), (.v (.int .i64 a1)), (.v (.int .i64 a2)), (.v (.int .u64 a3)), (.v (.int .u64 a4)), (.v (.int .i64 a5)), (.v (.int .u64 a6)), (.v (.int .u64 a7)), (.v (.int .i64 a8)), (.v (.int .i64 a9))])])) : R)))
    else callT E0.P (callP E0 k) 32 [(.v (.int .i64 a0)), (.v (.agg ⟨[(.int .i64 a2), (.int .u64 a3), (.int .u64 a4)]⟩)), (.v (.agg ⟨[(.int .i64 a5), (.int .u64 a6), (.int .u64 a7)]⟩))] false [4] [.bool] (fun b11 =>
        ((bif b11 then (bif (a1 == 6) then some ((.p (.v (.bool false))), [(.pc [(.v (.int .i64 a0)), (.v (.int .i64 a1)), (.v (.int .i64 a2)), (.v (.int .u64 a3)), (.v (.int .u64 a4)), (.v (.int .i64 a5)), (.v (.int .u64 a6)), (.v (.int .u64 a7)), (.v (.int .i64 a8)), (.v (.int .i64 a9))])])
          else (bif (a1 == 17) then some ((.p (.v (.bool false))), [(.pc [(.v (.int .i64 a0)), (.v (.int .i64 a1)), (.v (.int .i64 a2)), (.v (.int .u64 a3)), (.v (.int .u64 a4)), (.v (.int .i64 a5)), (.v (.int .u64 a6)), (.v (.int .u64 a7)), (.v (.int .i64 a8)), (.v (.int .i64 a9))])])
            else callT E0.P (callP E0 k) 33 [(.v (.int .i64 a0))] false [3] [(.int .i64)] (fun n12 =>
                ((bif (a1 == n12) then some ((.p (.v (.bool false))), [(.pc [(.v (.int .i64 a0)), (.v (.int .i64 a1)), (.v (.int .i64 a2)), (.v (.int .u64 a3)), (.v (.int .u64 a4)), (.v (.int .i64 a5)), (.v (.int .u64 a6)), (.v (.int .u64 a7)), (.v (.int .i64 a8)), (.v (.int .i64 a9))])])
                else some ((.p (.v (.bool false))), [(.pc [(.v (.int .i64 a0)), (.v (.int .i64 a1)), (.v (.int .i64 a2)), (.v (.int .u64 a3)), (.v (.int .u64 a4)), (.v (.int .i64 a5)), (.v (.int .u64 a6)), (.v (.int .u64 a7)), (.v (.int .i64 a8)), (.v (.int .i64 a9))])])) : R))))
        else some ((.p (.v (.bool false))), [(.pc [(.v (.int .i64 a0)), (.v (.int .i64 a1)), (.v (.int .i64 a2)), (.v (.int .u64 a3)), (.v (.int .u64 a4)), (.v (.int .i64 a5)), (.v (.int .u64 a6)), (.v (.int .u64 a7)), (.v (.int .i64 a8)), (.v (.int .i64 a9))])])) : R)))
  else callT E0.P (callP E0 k) 32 [(.v (.int .i64 a0)), (.v (.agg ⟨[(.int .i64 a2), (.int .u64 a3), (.int .u64 a4)]⟩)), (.v (.agg ⟨[(.int .i64 a5), (.int .u64 a6), (.int .u64 a7)]⟩))] false [4] [.bool] (fun b11 =>
      ((bif b11 then (bif (a1 == 6) then some ((.p (.v (.bool false))), [(.pc [(.v (.int .i64 a0)), (.v (.int .i64 a1)), (.v (.int .i64 a2)), (.v (.int .u64 a3)), (.v (.int .u64 a4)), (.v (.int .i64 a5)), (.v (.int .u64 a6)), (.v (.int .u64 a7)), (.v (.int .i64 a8)), (.v (.int .i64 a9))])])
        else (bif (a1 == 17) then some ((.p (.v (.bool false))), [(.pc [(.v (.int .i64 a0)), (.v (.int .i64 a1)), (.v (.int .i64 a2)), (.v (.int .u64 a3)), (.v (.int .u64 a4)), (.v (.int .i64 a5)), (.v (.int .u64 a6)), (.v (.int .u64 a7)), (.v (.int .i64 a8)), (.v (.int .i64 a9))])])
          else callT E0.P (callP E0 k) 33 [(.v (.int .i64 a0))] false [3] [(.int .i64)] (fun n12 =>
              ((bif (a1 == n12) then some ((.p (.v (.bool false))), [(.pc [(.v (.int .i64 a0)), (.v (.int .i64 a1)), (.v (.int .i64 a2)), (.v (.int .u64 a3)), (.v (.int .u64 a4)), (.v (.int .i64 a5)), (.v (.int .u64 a6)), (.v (.int .u64 a7)), (.v (.int .i64 a8)), (.v (.int .i64 a9))])])
              else some ((.p (.v (.bool false))), [(.pc [(.v (.int .i64 a0)), (.v (.int .i64 a1)), (.v (.int .i64 a2)), (.v (.int .u64 a3)), (.v (.int .u64 a4)), (.v (.int .i64 a5)), (.v (.int .u64 a6)), (.v (.int .u64 a7)), (.v (.int .i64 a8)), (.v (.int .i64 a9))])])) : R))))
      else some ((.p (.v (.bool false))), [(.pc [(.v (.int .i64 a0)), (.v (.int .i64 a1)), (.v (.int .i64 a2)), (.v (.int .u64 a3)), (.v (.int .u64 a4)), (.v (.int .i64 a5)), (.v (.int .u64 a6)), (.v (.int .u64 a7)), (.v (.int .i64 a8)), (.v (.int .i64 a9))])])) : R))) := by kernel_rfl
theorem c20 {k : Nat} (hk : 3 ≤ k) (a0 : Int) (a1 : Int) (a2 : Int) (a3 : Int) (a4 : Int) (a5 : Int) (a6 : Int) (a7 : Int) (a8 : Int) (a9 : Int) (K : Bool → R) : callT E0.P (callP E0 k) 20 [.v (.agg ⟨[.int .i64 a0, .int .i64 a1, .int .i64 a2, .int .u64 a3, .int .u64 a4, .int .i64 a5, .int .u64 a6, .int .u64 a7, .int .i64 a8, .int .i64 a9]⟩)] false [4] [.bool] K = (F20 a0 a1 a2 a3 a4 a5 a6 a7 a8 a9).bind fun x => K x := by
  obtain ⟨k, rfl⟩ : ∃ j, k = j + 1 := ⟨k - 1, by omega⟩
  refine (callT_call' (E := E0) rfl rfl _ _ _).trans ?_
  rw [eq20]
  unfold F20
  try simp only [c32 (show 2 ≤ k by omega), c33 (show 1 ≤ k by omega), bif_bind, ite_bind, Option.bind_assoc, Option.bind_none]
  kernel_rfl
def F21 (a0 : Int) (a1 : Int) (a2 : Int) (a3 : Int) (a4 : Int) (a5 : Int) (a6 : Int) (a7 : Int) (a8 : Int) (a9 : Int) : Option (Int × Int × Int × Int × Int × Int × Int × Int × Int × Int) :=
  some (a0, a1, a5, a6, a7, a2, a3, a4, a9, a8)
theorem eq21 (k : Nat) (a0 : Int) (a1 : Int) (a2 : Int) (a3 : Int) (a4 : Int) (a5 : Int) (a6 : Int) (a7 : Int) (a8 : Int) (a9 : Int) : callN E0 (k + 1) 21 (List.map IV.p [.v (.agg ⟨[.int .i64 a0, .int .i64 a1, .int .i64 a2, .int .u64 a3, .int .u64 a4, .int .i64 a5, .int .u64 a6, .int .u64 a7, .int .i64 a8, .int .i64 a9]⟩)]) [] =
  some ((.p (.v (.agg ⟨[(.int .i64 a0), (.int .i64 a1), (.int .i64 a5), (.int .u64 a6), (.int .u64 a7), (.int .i64 a2), (.int .u64 a3), (.int .u64 a4), (.int .i64 a9), (.int .i64 a8)]⟩))), [(.pc [(.v (.int .i64 a0)), (.v (.int .i64 a1)), (.v (.int .i64 a2)), (.v (.int .u64 a3)), (.v (.int .u64 a4)), (.v (.int .i64 a5)), (.v (.int .u64 a6)), (.v (.int .u64 a7)), (.v (.int .i64 a8)), (.v (.int .i64 a9))]), (.pc [(.v (.int .i64 a0)), (.v (.int .i64 a1)), (.v (.int .i64 a5)), (.v (.int .u64 a6)), (.v (.int .u64 a7)), (.v (.int .i64 a2)), (.v (.int .u64 a3)), (.v (.int .u64 a4)), (.v (.int .i64 a9)), (.v (.int .i64 a8))])]) := by kernel_rfl
theorem c21 {k : Nat} (hk : 1 ≤ k) (a0 : Int) (a1 : Int) (a2 : Int) (a3 : Int) (a4 : Int) (a5 : Int) (a6 : Int) (a7 : Int) (a8 : Int) (a9 : Int) (K : Int → Int → Int → Int → Int → Int → Int → Int → Int → Int → R) : callT E0.P (callP E0 k) 21 [.v (.agg ⟨[.int .i64 a0, .int .i64 a1, .int .i64 a2, .int .u64 a3, .int .u64 a4, .int .i64 a5, .int .u64 a6, .int .u64 a7, .int .i64 a8, .int .i64 a9]⟩)] false [26] [.int .i64, .int .i64, .int .i64, .int .u64, .int .u64, .int .i64, .int .u64, .int .u64, .int .i64, .int .i64] K = (F21 a0 a1 a2 a3 a4 a5 a6 a7 a8 a9).bind fun x => K x.1 x.2.1 x.2.2.1 x.2.2.2.1 x.2.2.2.2.1 x.2.2.2.2.2.1 x.2.2.2.2.2.2.1 x.2.2.2.2.2.2.2.1 x.2.2.2.2.2.2.2.2.1 x.2.2.2.2.2.2.2.2.2 := by
  obtain ⟨k, rfl⟩ : ∃ j, k = j + 1 := ⟨k - 1, by omega⟩
  refine (callT_call' (E := E0) rfl rfl _ _ _).trans ?_
  rw [eq21]
  unfold F21
  try simp only [bif_bind, ite_bind, Option.bind_assoc, Option.bind_none]
  kernel_rfl
def F37 (a0 : Int) (a1 : Int) : Option (Int) :=
  (bif (decide (a0 < a1)) then some (-1)
  else (bif (decide (a0 > a1)) then some 1
    else some 0))
theorem eq37 (k : Nat) (a0 : Int) (a1 : Int) : callN E0 (k + 1) 37 (List.map IV.p [.v (.int .i64 a0), .v (.int .i64 a1)]) [] =
  (bif (decide (a0 < a1)) then some ((.p (.v (.int .i64 (-1)))), [])
  else (bif (decide (a0 > a1)) then some ((.p (.v (.int .i64 1))), [])
    else some ((.p (.v (.int .i64 0))), []))) := by kernel_rfl
theorem c37 {k : Nat} (hk : 1 ≤ k) (a0 : Int) (a1 : Int) (K : Int → R) : callT E0.P (callP E0 k) 37 [.v (.int .i64 a0), .v (.int .i64 a1)] false [3] [.int .i64] K = (F37 a0 a1).bind fun x => K x := by
  obtain ⟨k, rfl⟩ : ∃ j, k = j + 1 := ⟨k - 1, by omega⟩
  refine (callT_call' (E := E0) rfl rfl _ _ _).trans ?_
  rw [eq37]
  unfold F37
  try simp only [bif_bind, ite_bind, Option.bind_assoc, Option.bind_none]
  kernel_rfl
def F38 (a0 : Int) (a1 : Int) (a2 : Int) (a3 : Int) (a4 : Int) (a5 : Int) : Option (Int) :=
  (bif (decide (a0 < a3)) then some (-1)
  else (bif (decide (a0 > a3)) then some 1
    else (bif (decide (a1 < a4)) then some (-1)
      else (bif (decide (a1 > a4)) then some 1
        else (bif (decide (a2 < a5)) then some (-1)
          else (bif (decide (a2 > a5)) then some 1
            else some 0))))))
theorem eq38 (k : Nat) (a0 : Int) (a1 : Int) (a2 : Int) (a3 : Int) (a4 : Int) (a5 : Int) : callN E0 (k + 1) 38 (List.map IV.p [.v (.agg ⟨[.int .i64 a0, .int .u64 a1, .int .u64 a2]⟩), .v (.agg ⟨[.int .i64 a3, .int .u64 a4, .int .u64 a5]⟩)]) [] =
  (bif (decide (a0 < a3)) then some ((.p (.v (.int .i64 (-1)))), [(.pc [(.v (.int .i64 a0)), (.v (.int .u64 a1)), (.v (.int .u64 a2))]), (.pc [(.v (.int .i64 a3)), (.v (.int .u64 a4)), (.v (.int .u64 a5))])])
  else (bif (decide (a0 > a3)) then some ((.p (.v (.int .i64 1))), [(.pc [(.v (.int .i64 a0)), (.v (.int .u64 a1)), (.v (.int .u64 a2))]), (.pc [(.v (.int .i64 a3)), (.v (.int .u64 a4)), (.v (.int .u64 a5))])])
    else (bif (decide (a1 < a4)) then some ((.p (.v (.int .i64 (-1)))), [(.pc [(.v (.int .i64 a0)), (.v (.int .u64 a1)), (.v (.int .u64 a2))]), (.pc [(.v (.int .i64 a3)), (.v (.int .u64 a4)), (.v (.int .u64 a5))])])
      else (bif (decide (a1 > a4)) then some ((.p (.v (.int .i64 1))), [(.pc [(.v (.int .i64 a0)), (.v (.int .u64 a1)), (.v (.int .u64 a2))]), (.pc [(.v (.int .i64 a3)), (.v (.int .u64 a4)), (.v (.int .u64 a5))])])
        else (bif (decide (a2 < a5)) then some ((.p (.v (.int .i64 (-1)))), [(.pc [(.v (.int .i64 a0)), (.v (.int .u64 a1)), (.v (.int .u64 a2))]), (.pc [(.v (.int .i64 a3)), (.v (.int .u64 a4)), (.v (.int .u64 a5))])])
          else (bif (decide (a2 > a5)) then some ((.p (.v (.int .i64 1))), [(.pc [(.v (.int .i64 a0)), (.v (.int .u64 a1)), (.v (.int .u64 a2))]), (.pc [(.v (.int .i64 a3)), (.v (.int .u64 a4)), (.v (.int .u64 a5))])])
            else some ((.p (.v (.int .i64 0))), [(.pc [(.v (.int .i64 a0)), (.v (.int .u64 a1)), (.v (.int .u64 a2))]), (.pc [(.v (.int .i64 a3)), (.v (.int .u64 a4)), (.v (.int .u64 a5))])]))))))) := by kernel_rfl
theorem c38 {k : Nat} (hk : 1 ≤ k) (a0 : Int) (a1 : Int) (a2 : Int) (a3 : Int) (a4 : Int) (a5 : Int) (K : Int → R) : callT E0.P (callP E0 k) 38 [.v (.agg ⟨[.int .i64 a0, .int .u64 a1, .int .u64 a2]⟩), .v (.agg ⟨[.int .i64 a3, .int .u64 a4, .int .u64 a5]⟩)] false [3] [.int .i64] K = (F38 a0 a1 a2 a3 a4 a5).bind fun x => K x := by
  obtain ⟨k, rfl⟩ : ∃ j, k = j + 1 := ⟨k - 1, by omega⟩
  refine (callT_call' (E := E0) rfl rfl _ _ _).trans ?_
  rw [eq38]
  unfold F38
  try simp only [bif_bind, ite_bind, Option.bind_assoc, Option.bind_none]
  kernel_rfl
def F23 (a0 : Int) (a1 : Int) (a2 : Int) (a3 : Int) (a4 : Int) (a5 : Int) (a6 : Int) (a7 : Int) (a8 : Int) (a9 : Int) (a10 : Int) (a11 : Int) (a12 : Int) (a13 : Int) (a14 : Int) (a15 : Int) (a16 : Int) (a17 : Int) (a18 : Int) (a19 : Int) : Option (Int) :=
  (F37 a0 a10).bind fun x21 =>
    (F37 a1 a11).bind fun x22 =>
      (F38 a2 a3 a4 a12 a13 a14).bind fun x23 =>
        (F38 a5 a6 a7 a15 a16 a17).bind fun x24 =>
          (F37 a8 a18).bind fun x25 =>
            (F37 a9 a19).bind fun x26 =>
              (bif (x21 != 0) then some x21
              else (bif (x22 != 0) then some x22
                else (bif (x23 != 0) then some x23
                  else (bif (x24 != 0) then some x24
                    else (bif (x25 != 0) then some x25
                      else (bif (x26 != 0) then some x26
                        else some 0))))))
theorem eq23 (k : Nat) (a0 : Int) (a1 : Int) (a2 : Int) (a3 : Int) (a4 : Int) (a5 : Int) (a6 : Int) (a7 : Int) (a8 : Int) (a9 : Int) (a10 : Int) (a11 : Int) (a12 : Int) (a13 : Int) (a14 : Int) (a15 : Int) (a16 : Int) (a17 : Int) (a18 : Int) (a19 : Int) : callN E0 (k + 10) 23 (List.map IV.p [.v (.agg ⟨[.int .i64 a0, .int .i64 a1, .int .i64 a2, .int .u64 a3, .int .u64 a4, .int .i64 a5, .int .u64 a6, .int .u64 a7, .int .i64 a8, .int .i64 a9]⟩), .v (.agg ⟨[.int .i64 a10, .int .i64 a11, .int .i64 a12, .int .u64 a13, .int .u64 a14, .int .i64 a15, .int .u64 a16, .int .u64 a17, .int .i64 a18, .int .i64 a19]⟩)]) [] =
  callT E0.P (callP E0 (k + 9)) 37 [(.v (.int .i64 a0)), (.v (.int .i64 a10))] false [3] [(.int .i64)] (fun n21 =>
    (callT E0.P (callP E0 (k + 9)) 37 [(.v (.int .i64 a1)), (.v (.int .i64 a11))] false [3] [(.int .i64)] (fun n22 =>
      (callT E0.P (callP E0 (k + 9)) 38 [(.v (.agg ⟨[(.int .i64 a2), (.int .u64 a3), (.int .u64 a4)]⟩)), (.v (.agg ⟨[(.int .i64 a12), (.int .u64 a13), (.int .u64 a14)]⟩))] false [3] [(.int .i64)] (fun n23 =>
        (callT E0.P (callP E0 (k + 9)) 38 [(.v (.agg ⟨[(.int .i64 a5), (.int .u64 a6), (.int .u64 a7)]⟩)), (.v (.agg ⟨[(.int .i64 a15), (.int .u64 a16), (.int .u64 a17)]⟩))] false [3] [(.int .i64)] (fun n24 =>
          (callT E0.P (callP E0 (k + 9)) 37 [(.v (.int .i64 a8)), (.v (.int .i64 a18))] false [3] [(.int .i64)] (fun n25 =>
            (callT E0.P (callP E0 (k + 9)) 37 [(.v (.int .i64 a9)), (.v (.int .i64 a19))] false [3] [(.int .i64)] (fun n26 =>
              ((bif (n21 != 0) then some ((.p (.v (.int .i64 n21))), [(.pc [(.v (.int .i64 a0)), (.v (.int .i64 a1)), (.v (.int .i64 a2)), (.v (.int .u64 a3)), (.v (.int .u64 a4)), (.v (.int .i64 a5)), (.v (.int .u64 a6)), (.v (.int .u64 a7)), (.v (.int .i64 a8)), (.v (.int .i64 a9))]), (.pc [(.v (.int .i64 a10)), (.v (.int .i64 a11)), (.v (.int .i64 a12)), (.v (.int .u64 a13)), (.v (.int .u64 a14)), (.v (.int .i64 a15)), (.v (.int .u64 a16)), (.v (.int .u64 a17)), (.v (.int .i64 a18)), (.v (.int .i64 a19))]), (.pc [(.v (.int .i64 n21)), (.v (.int .i64 n22)), (.v (.int .i64 n23)), (.v (.int .i64 n24)), (.v (.int .i64 n25)), (.v (.int .i64 n26))])])
              else (bif (n22 != 0) then some ((.p (.v (.int .i64 n22))), [(.pc [(.v (.int .i64 a0)), (.v (.int .i64 a1)), (.v (.int .i64 a2)), (.v (.int .u64 a3)), (.v (.int .u64 a4)), (.v (.int .i64 a5)), (.v (.int .u64 a6)), (.v (.int .u64 a7)), (.v (.int .i64 a8)), (.v (.int .i64 a9))]), (.pc [(.v (.int .i64 a10)), (.v (.int .i64 a11)), (.v (.int .i64 a12)), (.v (.int .u64 a13)), (.v (.int .u64 a14)), (.v (.int .i64 a15)), (.v (.int .u64 a16)), (.v (.int .u64 a17)), (.v (.int .i64 a18)), (.v (.int .i64 a19))]), (.pc [(.v (.int .i64 n21)), (.v (.int .i64 n22)), (.v (.int .i64 n23)), (.v (.int .i64 n24)), (.v (.int .i64 n25)), (.v (.int .i64 n26))])])
                else (bif (n23 != 0) then some ((.p (.v (.int .i64 n23))), [(.pc [(.v (.int .i64 a0)), (.v (.int .i64 a1)), (.v (.int .i64 a2)), (.v (.int .u64 a3)), (.v (.int .u64 a4)), (.v (.int .i64 a5)), (.v (.int .u64 a6)), (.v (.int .u64 a7)), (.v (.int .i64 a8)), (.v (.int .i64 a9))]), (.pc [(.v (.int .i64 a10)), (.v (.int .i64 a11)), (.v (.int .i64 a12)), (.v (.int .u64 a13)), (.v (.int .u64 a14)), (.v (.int .i64 a15)), (.v (.int .u64 a16)), (.v (.int .u64 a17)), (.v (.int .i64 a18)), (.v (.int .i64 a19))]), (.pc [(.v (.int .i64 n21)), (.v (.int .i64 n22)), (.v (.int .i64 n23)), (.v (.int .i64 n24)), (.v (.int .i64 n25)), (.v (.int .i64 n26))])])
                  else (bif (n24 != 0) then some ((.p (.v (.int .i64 n24))), [(.pc [(.v (.int .i64 a0)), (.v (.int .i64 a1)), (.v (.int .i64 a2)), (.v (.int .u64 a3)), (.v (.int .u64 a4)), (.v (.int .i64 a5)), (.v (.int .u64 a6)), (.v (.int .u64 a7)), (.v (.int .i64 a8)), (.v (.int .i64 a9))]), (.pc [(.v (.int .i64 a10)), (.v (.int .i64 a11)), (.v (.int .i64 a12)), (.v (.int .u64 a13)), (.v (.int .u64 a14)), (.v (.int .i64 a15)), (.v (.int .u64 a16)), (.v (.int .u64 a17)), (.v (.int .i64 a18)), (.v (.int .i64 a19))]), (.pc [(.v (.int .i64 n21)), (.v (.int .i64 n22)), (.v (.int .i64 n23)), (.v (.int .i64 n24)), (.v (.int .i64 n25)), (.v (.int .i64 n26))])])
                    else (bif (n25 != 0) then some ((.p (.v (.int .i64 n25))), [(.pc [(.v (.int .i64 a0)), (.v (.int .i64 a1)), (.v (.int .i64 a2)), (.v (.int .u64 a3)), (.v (.int .u64 a4)), (.v (.int .i64 a5)), (.v (.int .u64 a6)), (.v (.int .u64 a7)), (.v (.int .i64 a8)), (.v (.int .i64 a9))]), (.pc [(.v (.int .i64 a10)), (.v (.int .i64 a11)), (.v (.int .i64 a12)), (.v (.int .u64 a13)), (.v (.int .u64 a14)), (.v (.int .i64 a15)), (.v (.int .u64 a16)), (.v (.int .u64 a17)), (.v (.int .i64 a18)), (.v (.int .i64 a19))]), (.pc [(.v (.int .i64 n21)), (.v (.int .i64 n22)), (.v (.int .i64 n23)), (.v (.int .i64 n24)), (.v (.int .i64 n25)), (.v (.int .i64 n26))])])
                      else (bif (n26 != 0) then some ((.p (.v (.int .i64 n26))), [(.pc [(.v (.int .i64 a0)), (.v (.int .i64 a1)), (.v (.int .i64 a2)), (.v (.int .u64 a3)), (.v (.int .u64 a4)), (.v (.int .i64 a5)), (.v (.int .u64 a6)), (.v (.int .u64 a7)), (.v (.int .i64 a8)), (.v (.int .i64 a9))]), (.pc [(.v (.int .i64 a10)), (.v (.int .i64 a11)), (.v (.int .i64 a12)), (.v (.int .u64 a13)), (.v (.int .u64 a14)), (.v (.int .i64 a15)), (.v (.int .u64 a16)), (.v (.int .u64 a17)), (.v (.int .i64 a18)), (.v (.int .i64 a19))]), (.pc [(.v (.int .i64 n21)), (.v (.int .i64 n22)), (.v (.int .i64 n23)), (.v (.int .i64 n24)), (.v (.int .i64 n25)), (.v (.int .i64 n26))])])
                        else some ((.p (.v (.int .i64 0))), [(.pc [(.v (.int .i64 a0)), (.v (.int .i64 a1)), (.v (.int .i64 a2)), (.v (.int .u64 a3)), (.v (.int .u64 a4)), (.v (.int .i64 a5)), (.v (.int .u64 a6)), (.v (.int .u64 a7)), (.v (.int .i64 a8)), (.v (.int .i64 a9))]), (.pc [(.v (.int .i64 a10)), (.v (.int .i64 a11)), (.v (.int .i64 a12)), (.v (.int .u64 a13)), (.v (.int .u64 a14)), (.v (.int .i64 a15)), (.v (.int .u64 a16)), (.v (.int .u64 a17)), (.v (.int .i64 a18)), (.v (.int .i64 a19))]), (.pc [(.v (.int .i64 n21)), (.v (.int .i64 n22)), (.v (.int .i64 n23)), (.v (.int .i64 n24)), (.v (.int .i64 n25)), (.v (.int .i64 n26))])]))))))) : R)) : R)) : R)) : R)) : R)) : R)) := by kernel_rfl
theorem c23 {k : Nat} (hk : 10 ≤ k) (a0 : Int) (a1 : Int) (a2 : Int) (a3 : Int) (a4 : Int) (a5 : Int) (a6 : Int) (a7 : Int) (a8 : Int) (a9 : Int) (a10 : Int) (a11 : Int) (a12 : Int) (a13 : Int) (a14 : Int) (a15 : Int) (a16 : Int) (a17 : Int) (a18 : Int) (a19 : Int) (K : Int → R) : callT E0.P (callP E0 k) 23 [.v (.agg ⟨[.int .i64 a0, .int .i64 a1, .int .i64 a2, .int .u64 a3, .int .u64 a4, .int .i64 a5, .int .u64 a6, .int .u64 a7, .int .i64 a8, .int .i64 a9]⟩), .v (.agg ⟨[.int .i64 a10, .int .i64 a11, .int .i64 a12, .int .u64 a13, .int .u64 a14, .int .i64 a15, .int .u64 a16, .int .u64 a17, .int .i64 a18, .int .i64 a19]⟩)] false [3] [.int .i64] K = (F23 a0 a1 a2 a3 a4 a5 a6 a7 a8 a9 a10 a11 a12 a13 a14 a15 a16 a17 a18 a19).bind fun x => K x := by
  obtain ⟨k, rfl⟩ : ∃ j, k = j + 10 := ⟨k - 10, by omega⟩
  refine (callT_call' (E := E0) rfl rfl _ _ _).trans ?_
  rw [eq23]
  unfold F23
  try simp only [c37 (show 1 ≤ (k + 9) by omega), c38 (show 1 ≤ (k + 9) by omega), bif_bind, ite_bind, Option.bind_assoc, Option.bind_none]
  kernel_rfl
def F7 (a0 : Int) (a1 : Int) (a2 : Int) (a3 : Int) (a4 : Int) (a5 : Int) (a6 : Int) (a7 : Int) (a8 : Int) (a9 : Int) (a10 : Int) (a11 : Int) (a12 : Int) (a13 : Int) (a14 : Int) (a15 : Int) (a16 : Int) (a17 : Int) (a18 : Int) (a19 : Int) : Option (Bool) :=
  (F10 a0 a1 a2 a3 a4 a5 a6 a7 a8 a9).bind fun x21 =>
    (F20 a0 a1 a2 a3 a4 a5 a6 a7 a8 a9).bind fun x22 =>
      (bif (x21 == x22) then (F9 a0 a1 a2 a3 a4 a5 a6 a7 a8 a9).bind fun x23 =>
          (F21 a0 a1 a2 a3 a4 a5 a6 a7 a8 a9).bind fun x24 =>
            (bif (x23.fst == x24.fst && (x23.snd.fst == x24.snd.fst && (x23.snd.snd.fst == x24.snd.snd.fst && (x23.snd.snd.snd.fst == x24.snd.snd.snd.fst && (x23.snd.snd.snd.snd.fst == x24.snd.snd.snd.snd.fst && (x23.snd.snd.snd.snd.snd.fst == x24.snd.snd.snd.snd.snd.fst && (x23.snd.snd.snd.snd.snd.snd.fst == x24.snd.snd.snd.snd.snd.snd.fst && (x23.snd.snd.snd.snd.snd.snd.snd.fst == x24.snd.snd.snd.snd.snd.snd.snd.fst && (x23.snd.snd.snd.snd.snd.snd.snd.snd.fst == x24.snd.snd.snd.snd.snd.snd.snd.snd.fst && (x23.snd.snd.snd.snd.snd.snd.snd.snd.snd == x24.snd.snd.snd.snd.snd.snd.snd.snd.snd && true)))))))))) then (F22 a0 a1 a2 a3 a4 a5 a6 a7 a8 a9 a10 a11 a12 a13 a14 a15 a16 a17 a18 a19).bind fun x25 =>
                (F23 a0 a1 a2 a3 a4 a5 a6 a7 a8 a9 a10 a11 a12 a13 a14 a15 a16 a17 a18 a19).bind fun x26 =>
                  (bif (x25 == x26) then (F11 ).bind fun x27 =>
                      some x27
                  else some false)
            else some false)
      else some false)
theorem eq7 (k : Nat) (a0 : Int) (a1 : Int) (a2 : Int) (a3 : Int) (a4 : Int) (a5 : Int) (a6 : Int) (a7 : Int) (a8 : Int) (a9 : Int) (a10 : Int) (a11 : Int) (a12 : Int) (a13 : Int) (a14 : Int) (a15 : Int) (a16 : Int) (a17 : Int) (a18 : Int) (a19 : Int) : callN E0 (k + 1) 7 (List.map IV.p [.v (.agg ⟨[.int .i64 a0, .int .i64 a1, .int .i64 a2, .int .u64 a3, .int .u64 a4, .int .i64 a5, .int .u64 a6, .int .u64 a7, .int .i64 a8, .int .i64 a9]⟩), .v (.agg ⟨[.int .i64 a10, .int .i64 a11, .int .i64 a12, .int .u64 a13, .int .u64 a14, .int .i64 a15, .int .u64 a16, .int .u64 a17, .int .i64 a18, .int .i64 a19]⟩)]) [] =
  callT E0.P (callP E0 k) 10 [(.v (.agg ⟨[(.int .i64 a0), (.int .i64 a1), (.int .i64 a2), (.int .u64 a3), (.int .u64 a4), (.int .i64 a5), (.int .u64 a6), (.int .u64 a7), (.int .i64 a8), (.int .i64 a9)]⟩))] false [4] [.bool] (fun b21 =>
    (callT E0.P (callP E0 k) 20 [(.v (.agg ⟨[(.int .i64 a0), (.int .i64 a1), (.int .i64 a2), (.int .u64 a3), (.int .u64 a4), (.int .i64 a5), (.int .u64 a6), (.int .u64 a7), (.int .i64 a8), (.int .i64 a9)]⟩))] false [4] [.bool] (fun b22 =>
      ((bif (b21 == b22) then callT E0.P (callP E0 k) 9 [(.v (.agg ⟨[(.int .i64 a0), (.int .i64 a1), (.int .i64 a2), (.int .u64 a3), (.int .u64 a4), (.int .i64 a5), (.int .u64 a6), (.int .u64 a7), (.int .i64 a8), (.int .i64 a9)]⟩))] false [26] [(.int .i64), (.int .i64), (.int .i64), (.int .u64), (.int .u64), (.int .i64), (.int .u64), (.int .u64), (.int .i64), (.int .i64)] (fun n23 n24 n25 n26 n27 n28 n29 n30 n31 n32 =>
          (callT E0.P (callP E0 k) 21 [(.v (.agg ⟨[(.int .i64 a0), (.int .i64 a1), (.int .i64 a2), (.int .u64 a3), (.int .u64 a4), (.int .i64 a5), (.int .u64 a6), (.int .u64 a7), (.int .i64 a8), (.int .i64 a9)]⟩))] false [26] [(.int .i64), (.int .i64), (.int .i64), (.int .u64), (.int .u64), (.int .i64), (.int .u64), (.int .u64), (.int .i64), (.int .i64)] (fun n33 n34 n35 n36 n37 n38 n39 n40 n41 n42 =>
            ((bif (n23 == n33 && (n24 == n34 && (n25 == n35 && (n26 == n36 && (n27 == n37 && (n28 == n38 && (n29 == n39 && (n30 == n40 && (n31 == n41 && (n32 == n42 && true)))))))))) then callT E0.P (callP E0 k) 22 [(.v (.agg ⟨[(.int .i64 a0), (.int .i64 a1), (.int .i64 a2), (.int .u64 a3), (.int .u64 a4), (.int .i64 a5), (.int .u64 a6), (.int .u64 a7), (.int .i64 a8), (.int .i64 a9)]⟩)), (.v (.agg ⟨[(.int .i64 a10), (.int .i64 a11), (.int .i64 a12), (.int .u64 a13), (.int .u64 a14), (.int .i64 a15), (.int .u64 a16), (.int .u64 a17), (.int .i64 a18), (.int .i64 a19)]⟩))] false [3] [(.int .i64)] (fun n43 =>
                (callT E0.P (callP E0 k) 23 [(.v (.agg ⟨[(.int .i64 a0), (.int .i64 a1), (.int .i64 a2), (.int .u64 a3), (.int .u64 a4), (.int .i64 a5), (.int .u64 a6), (.int .u64 a7), (.int .i64 a8), (.int .i64 a9)]⟩)), (.v (.agg ⟨[(.int .i64 a10), (.int .i64 a11), (.int .i64 a12), (.int .u64 a13), (.int .u64 a14), (.int .i64 a15), (.int .u64 a16), (.int .u64 a17), (.int .i64 a18), (.int .i64 a19)]⟩))] false [3] [(.int .i64)] (fun n44 =>
                  ((bif (n43 == n44) then callT E0.P (callP E0 k) 11 [] false [4] [.bool] (fun b45 =>
                      (some ((.p (.v (.bool b45))), [(.pc [(.v (.int .i64 a0)), (.v (.int .i64 a1)), (.v (.int .i64 a2)), (.v (.int .u64 a3)), (.v (.int .u64 a4)), (.v (.int .i64 a5)), (.v (.int .u64 a6)), (.v (.int .u64 a7)), (.v (.int .i64 a8)), (.v (.int .i64 a9))]), (.pc [(.v (.int .i64 a10)), (.v (.int .i64 a11)), (.v (.int .i64 a12)), (.v (.int .u64 a13)), (.v (.int .u64 a14)), (.v (.int .i64 a15)), (.v (.int .u64 a16)), (.v (.int .u64 a17)), (.v (.int .i64 a18)), (.v (.int .i64 a19))])]) : R))
                  else some ((.p (.v (.bool false))), [(.pc [(.v (.int .i64 a0)), (.v (.int .i64 a1)), (.v (.int .i64 a2)), (.v (.int .u64 a3)), (.v (.int .u64 a4)), (.v (.int .i64 a5)), (.v (.int .u64 a6)), (.v (.int .u64 a7)), (.v (.int .i64 a8)), (.v (.int .i64 a9))]), (.pc [(.v (.int .i64 a10)), (.v (.int .i64 a11)), (.v (.int .i64 a12)), (.v (.int .u64 a13)), (.v (.int .u64 a14)), (.v (.int .i64 a15)), (.v (.int .u64 a16)), (.v (.int .u64 a17)), (.v (.int .i64 a18)), (.v (.int .i64 a19))])])) : R)) : R))
            else some ((.p (.v (.bool false))), [(.pc [(.v (.int .i64 a0)), (.v (.int .i64 a1)), (.v (.int .i64 a2)), (.v (.int .u64 a3)), (.v (.int .u64 a4)), (.v (.int .i64 a5)), (.v (.int .u64 a6)), (.v (.int .u64 a7)), (.v (.int .i64 a8)), (.v (.int .i64 a9))]), (.pc [(.v (.int .i64 a10)), (.v (.int .i64 a11)), (.v (.int .i64 a12)), (.v (.int .u64 a13)), (.v (.int .u64 a14)), (.v (.int .i64 a15)), (.v (.int .u64 a16)), (.v (.int .u64 a17)), (.v (.int .i64 a18)), (.v (.int .i64 a19))])])) : R)) : R))
      else some ((.p (.v (.bool false))), [(.pc [(.v (.int .i64 a0)), (.v (.int .i64 a1)), (.v (.int .i64 a2)), (.v (.int .u64 a3)), (.v (.int .u64 a4)), (.v (.int .i64 a5)), (.v (.int .u64 a6)), (.v (.int .u64 a7)), (.v (.int .i64 a8)), (.v (.int .i64 a9))]), (.pc [(.v (.int .i64 a10)), (.v (.int .i64 a11)), (.v (.int .i64 a12)), (.v (.int .u64 a13)), (.v (.int .u64 a14)), (.v (.int .i64 a15)), (.v (.int .u64 a16)), (.v (.int .u64 a17)), (.v (.int .i64 a18)), (.v (.int .i64 a19))])])) : R)) : R)) := by kernel_rfl
theorem c7 {k : Nat} (hk : 61 ≤ k) (a0 : Int) (a1 : Int) (a2 : Int) (a3 : Int) (a4 : Int) (a5 : Int) (a6 : Int) (a7 : Int) (a8 : Int) (a9 : Int) (a10 : Int) (a11 : Int) (a12 : Int) (a13 : Int) (a14 : Int) (a15 : Int) (a16 : Int) (a17 : Int) (a18 : Int) (a19 : Int) (K : Bool → R) : callT E0.P (callP E0 k) 7 [.v (.agg ⟨[.int .i64 a0, .int .i64 a1, .int .i64 a2, .int .u64 a3, .int .u64 a4, .int .i64 a5, .int .u64 a6, .int .u64 a7, .int .i64 a8, .int .i64 a9]⟩), .v (.agg ⟨[.int .i64 a10, .int .i64 a11, .int .i64 a12, .int .u64 a13, .int .u64 a14, .int .i64 a15, .int .u64 a16, .int .u64 a17, .int .i64 a18, .int .i64 a19]⟩)] false [4] [.bool] K = (F7 a0 a1 a2 a3 a4 a5 a6 a7 a8 a9 a10 a11 a12 a13 a14 a15 a16 a17 a18 a19).bind fun x => K x := by
  obtain ⟨k, rfl⟩ : ∃ j, k = j + 1 := ⟨k - 1, by omega⟩
  refine (callT_call' (E := E0) rfl rfl _ _ _).trans ?_
  rw [eq7]
  unfold F7
  try simp only [c10 (show 2 ≤ k by omega), c20 (show 3 ≤ k by omega), c9 (show 1 ≤ k by omega), c21 (show 1 ≤ k by omega), c22 (show 13 ≤ k by omega), c23 (show 10 ≤ k by omega), c11 (show 60 ≤ k by omega), bif_bind, ite_bind, Option.bind_assoc, Option.bind_none]
  kernel_rfl
end Go.Proofs.YtgldfdpdjlohiaaDoor.Iv
