/- stockaderef20.address, walked by hand; conditions: none. -/
import Derived.Test.YtfaofikhabccoaaGreatDoorAddrW
namespace Go.Proofs.YtfaofikhabccoaaGreatDoor.Jv
open Go Go.RowKit Go.Shelf
set_option linter.unusedVariables false
set_option linter.unusedSimpArgs false
set_option maxRecDepth 1000000
set_option maxHeartbeats 4000000
theorem begins_walk (s p : ByteArray) (w : World) :
    Calls Tryz.prog 25 #[.string s, .string p] w fun e w' => e = .returned (.bool (Lib.hasPrefix s.data.toList p.data.toList)) ∧ w' = w := by
  rw [← Lib.hasPrefix_of_take, ← Lib.size_eq, ← Lib.size_eq]
  go_enter Tryz.func25, Tryz.ntmps25
  go_wp2
  · rename_i h
    go_ret
    refine ⟨?_, rfl⟩
    show Ending.returned (Value.bool ((s.extract 0 p.size).toList == p.toList)) = _
    rw [Lib.extract_toList, Lib.toList_data]
    simp [h]
  · rename_i h
    go_ret
    refine ⟨?_, rfl⟩
    show Ending.returned (Value.bool false) = _
    simp [h]
theorem prefix_size {s p : ByteArray} {n : Nat} (h : Lib.hasPrefix s.data.toList p.data.toList = true) (hn : p.size = n) : n ≤ s.size := by
  unfold Lib.hasPrefix at h
  rw [List.isPrefixOf_iff_prefix] at h
  have := h.length_le
  rw [Array.length_toList, Array.length_toList] at this
  rw [← hn]
  exact this
theorem prefix_rest {s p : ByteArray} (h : Lib.hasPrefix s.data.toList p.data.toList = true) (hn : p.size = 9) : (s.extract 9 s.size).data.toList = Lib.trimPrefix s.data.toList p.data.toList := by
  unfold Lib.trimPrefix
  rw [if_pos h]
  have e : p.data.toList.length = 9 := by rw [Array.length_toList]; exact hn
  rw [e, Lib.extract_data, List.take_of_length_le (by rw [List.length_drop, Array.length_toList]; exact Nat.le_refl _)]
theorem raddress_walk (pp : List UInt8 → Option ((Int × Int × Int) × Int)) (s : ByteArray) (w : World)
    (hp : ∀ (t : ByteArray) (W : World), Below w.heap.size w W → ∀ r, pp t.data.toList = some r → Calls Tryz.prog 51 #[.string t] W fun e W' => e = .returned (.tuple #[.agg #[.int .i64 r.1.1, .int .u64 r.1.2.1, .int .u64 r.1.2.2], .int .i64 r.2]) ∧ Below W.heap.size W W')
    (r4 : Lib.hasPrefix s.data.toList S4.data.toList = true → ∃ r, pp (Lib.trimPrefix s.data.toList S4.data.toList) = some r)
    (r6 : Lib.hasPrefix s.data.toList S6.data.toList = true → ∃ r, pp (Lib.trimPrefix s.data.toList S6.data.toList) = some r) :
    Calls Tryz.prog 38 #[.string s] w fun e w' => e = .returned (addrV pp s.data.toList) ∧ Below w.heap.size w w' := by
  cases h4 : Lib.hasPrefix s.data.toList S4.data.toList with
  | true =>
    have h6 : Lib.hasPrefix s.data.toList S6.data.toList = false := by
      cases h6 : Lib.hasPrefix s.data.toList S6.data.toList with
      | false => rfl
      | true => exact (both_not h4 h6).elim
    · have q4 : Lib.hasPrefix s.data.toList [99, 61, 73, 78, 32, 73, 80, 52, 32] = true := h4
      have q6 : Lib.hasPrefix s.data.toList [99, 61, 73, 78, 32, 73, 80, 54, 32] = false := h6
      have hsz := prefix_size (n := 9) h4 rfl
      have hex := prefix_rest (p := S4) h4 rfl
      obtain ⟨r, hr⟩ := r4 h4
      have hval : addrV pp s.data.toList = .tuple #[.agg #[.int .i64 r.1.1, .int .u64 r.1.2.1, .int .u64 r.1.2.2], .bool (r.2 == 0 && r.1.1 == 4)] := by unfold addrV resA; rw [if_pos h4, hr]
      go_enter Tryz.func38, Tryz.ntmps38
      go_wp2_with (go_at_call 25; refine (begins_walk _ _ _).mono ?_; rintro e w' ⟨rfl, rfl⟩)
      have hW : Below w.heap.size w (w.alloc cell0) := (Below.refl _ w).alloc (Nat.le_refl _) _
      refine (hp (s.extract 9 s.size) _ hW r (by rw [hex]; exact hr)).mono ?_
      rintro e w' ⟨rfl, hbw⟩
      have hh : w'.heap[w.heap.size]? = some cell0 := by
        rw [hbw.block _ (by simp)]; exact heap_alloc_new w cell0
      have d0 : w'.cell? ⟨w.heap.size, 0, none⟩ = some (.int .i64 0) := by rw [Lib.cell_of_heap hh]; rfl
      have d1 : w'.cell? ⟨w.heap.size, 1, none⟩ = some (.int .u64 0) := by rw [Lib.cell_of_heap hh]; rfl
      have d2 : w'.cell? ⟨w.heap.size, 2, none⟩ = some (.int .u64 0) := by rw [Lib.cell_of_heap hh]; rfl
      have g0 : w'.frozen? ⟨w.heap.size, 0, none⟩ = false := Lib.frozen_of_heap hh 0
      have g1 : w'.frozen? ⟨w.heap.size, 1, none⟩ = false := Lib.frozen_of_heap hh 1
      have g2 : w'.frozen? ⟨w.heap.size, 2, none⟩ = false := Lib.frozen_of_heap hh 2
      have hs2 : w.heap.size + 1 ≤ w'.heap.size := by simpa using hbw.size
      have hlt' : w.heap.size < w'.heap.size := by omega
      have hne' : w.heap.size ≠ w'.heap.size := by omega
      have hbw2 : Below w.heap.size w w' := hW.trans ⟨hbw.os, hbw.tape, hbw.output, hbw.size, fun k hk => hbw.block k (by simp; omega)⟩
      clear hp r4 r6 hW hbw
      obtain ⟨⟨fam, hi, lo⟩, er⟩ := r
      go_wp2
      by_cases her : er = 0
      · have her' : (er == 0) = true := by simp [her]
        go_region
        all_goals (try go_wp2)
        all_goals (try simp only [Exit.inBlock, Exit.then])
        all_goals refine bodyPost_ret (v := .tuple #[.agg #[.int .i64 fam, .int .u64 hi, .int .u64 lo], .bool (fam == 4)]) ?_ rfl ⟨?_, ?_⟩
        all_goals first
          | (rw [hval]; simp [her'])
          | (rw [results_cell_tmp rfl]; go_simp; done)
          | (rw [results_cell_tmp rfl]; go_simp; rfl)
          | (repeat' (first | exact hbw2 | refine Below.drew ?_ | refine Below.alloc ?_ (by simp; omega) _ | refine Below.setCell ?_ (by exact Nat.le_refl _) _))
      · have her' : (er == 0) = false := by simp [her]
        go_region
        all_goals (try go_wp2)
        all_goals (try simp only [Exit.inBlock, Exit.then])
        all_goals refine bodyPost_ret (v := .tuple #[.agg #[.int .i64 fam, .int .u64 hi, .int .u64 lo], .bool false]) ?_ rfl ⟨?_, ?_⟩
        all_goals first
          | (rw [hval]; simp [her'])
          | (rw [results_cell_tmp rfl]; go_simp; done)
          | (rw [results_cell_tmp rfl]; go_simp; rfl)
          | (repeat' (first | exact hbw2 | refine Below.drew ?_ | refine Below.alloc ?_ (by simp; omega) _ | refine Below.setCell ?_ (by exact Nat.le_refl _) _))
  | false =>
    cases h6 : Lib.hasPrefix s.data.toList S6.data.toList with
    | true =>
      · have q4 : Lib.hasPrefix s.data.toList [99, 61, 73, 78, 32, 73, 80, 52, 32] = false := h4
        have q6 : Lib.hasPrefix s.data.toList [99, 61, 73, 78, 32, 73, 80, 54, 32] = true := h6
        have hsz := prefix_size (n := 9) h6 rfl
        have hex := prefix_rest (p := S6) h6 rfl
        obtain ⟨r, hr⟩ := r6 h6
        have hval : addrV pp s.data.toList = .tuple #[.agg #[.int .i64 r.1.1, .int .u64 r.1.2.1, .int .u64 r.1.2.2], .bool (r.2 == 0 && r.1.1 == 6)] := by unfold addrV resA; rw [if_neg (by rw [h4]; exact Bool.false_ne_true), if_pos h6, hr]
        go_enter Tryz.func38, Tryz.ntmps38
        go_wp2_with (go_at_call 25; refine (begins_walk _ _ _).mono ?_; rintro e w' ⟨rfl, rfl⟩)
        have hW : Below w.heap.size w (w.alloc cell0) := (Below.refl _ w).alloc (Nat.le_refl _) _
        refine (hp (s.extract 9 s.size) _ hW r (by rw [hex]; exact hr)).mono ?_
        rintro e w' ⟨rfl, hbw⟩
        have hh : w'.heap[w.heap.size]? = some cell0 := by
          rw [hbw.block _ (by simp)]; exact heap_alloc_new w cell0
        have d0 : w'.cell? ⟨w.heap.size, 0, none⟩ = some (.int .i64 0) := by rw [Lib.cell_of_heap hh]; rfl
        have d1 : w'.cell? ⟨w.heap.size, 1, none⟩ = some (.int .u64 0) := by rw [Lib.cell_of_heap hh]; rfl
        have d2 : w'.cell? ⟨w.heap.size, 2, none⟩ = some (.int .u64 0) := by rw [Lib.cell_of_heap hh]; rfl
        have g0 : w'.frozen? ⟨w.heap.size, 0, none⟩ = false := Lib.frozen_of_heap hh 0
        have g1 : w'.frozen? ⟨w.heap.size, 1, none⟩ = false := Lib.frozen_of_heap hh 1
        have g2 : w'.frozen? ⟨w.heap.size, 2, none⟩ = false := Lib.frozen_of_heap hh 2
        have hs2 : w.heap.size + 1 ≤ w'.heap.size := by simpa using hbw.size
        have hlt' : w.heap.size < w'.heap.size := by omega
        have hne' : w.heap.size ≠ w'.heap.size := by omega
        have hbw2 : Below w.heap.size w w' := hW.trans ⟨hbw.os, hbw.tape, hbw.output, hbw.size, fun k hk => hbw.block k (by simp; omega)⟩
        clear hp r4 r6 hW hbw
        obtain ⟨⟨fam, hi, lo⟩, er⟩ := r
        go_wp2
        by_cases her : er = 0
        · have her' : (er == 0) = true := by simp [her]
          go_region
          all_goals (try go_wp2)
          all_goals (try simp only [Exit.inBlock, Exit.then])
          all_goals refine bodyPost_ret (v := .tuple #[.agg #[.int .i64 fam, .int .u64 hi, .int .u64 lo], .bool (fam == 6)]) ?_ rfl ⟨?_, ?_⟩
          all_goals first
            | (rw [hval]; simp [her'])
            | (rw [results_cell_tmp rfl]; go_simp; done)
            | (rw [results_cell_tmp rfl]; go_simp; rfl)
            | (repeat' (first | exact hbw2 | refine Below.drew ?_ | refine Below.alloc ?_ (by simp; omega) _ | refine Below.setCell ?_ (by exact Nat.le_refl _) _))
        · have her' : (er == 0) = false := by simp [her]
          go_region
          all_goals (try go_wp2)
          all_goals (try simp only [Exit.inBlock, Exit.then])
          all_goals refine bodyPost_ret (v := .tuple #[.agg #[.int .i64 fam, .int .u64 hi, .int .u64 lo], .bool false]) ?_ rfl ⟨?_, ?_⟩
          all_goals first
            | (rw [hval]; simp [her'])
            | (rw [results_cell_tmp rfl]; go_simp; done)
            | (rw [results_cell_tmp rfl]; go_simp; rfl)
            | (repeat' (first | exact hbw2 | refine Below.drew ?_ | refine Below.alloc ?_ (by simp; omega) _ | refine Below.setCell ?_ (by exact Nat.le_refl _) _))

    | false =>
      have q4 : Lib.hasPrefix s.data.toList [99, 61, 73, 78, 32, 73, 80, 52, 32] = false := h4
      have q6 : Lib.hasPrefix s.data.toList [99, 61, 73, 78, 32, 73, 80, 54, 32] = false := h6
      go_enter Tryz.func38, Tryz.ntmps38
      go_wp2_with (go_at_call 25; refine (begins_walk _ _ _).mono ?_; rintro e w' ⟨rfl, rfl⟩)
      (try simp only [Exit.inBlock, Exit.then])
      refine bodyPost_ret (v := .tuple #[Z3, .bool false]) ?_ rfl ⟨?_, ?_⟩
      · rw [results_cell_tmp rfl]
        go_simp
        rfl
      · unfold addrV
        rw [h4, h6]
        rfl
      · repeat' (first | exact Below.refl _ _ | refine Below.drew ?_ | refine Below.alloc ?_ (by simp) _ | refine Below.setCell ?_ (by exact Nat.le_refl _) _)
end Go.Proofs.YtfaofikhabccoaaGreatDoor.Jv
