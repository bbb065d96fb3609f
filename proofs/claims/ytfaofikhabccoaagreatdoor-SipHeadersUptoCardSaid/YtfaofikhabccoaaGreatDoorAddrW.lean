/- sip.address, walked by hand: a range over a map of two, in either order; conditions: none. -/
import Derived.Test.YtfaofikhabccoaaGreatDoorChecked
import Derived.Test.YtfaofikhabccoaaGreatDoorShelf
import Derived.WalkKit
import Derived.BigCall
import Derived.Carry
import Derived.KernelRfl
import Derived.Laws.IdiomRangeMap
import Derived.Laws.ResultCell
import Derived.Deep.Draws
import Derived.Below
namespace Go.Proofs.YtfaofikhabccoaaGreatDoor.Jv
open Go Go.RowKit Go.Shelf
set_option linter.unusedVariables false
set_option linter.unusedSimpArgs false
set_option maxRecDepth 1000000
set_option maxHeartbeats 4000000
section
variable {P : Program}
theorem ins_int (mty kt et : TypeId) (clock : Nat) (n : Int) (val : Value) (es : Array MapEntry) (v : World) (hm : P.underlying mty = some (.map kt et)) (hk : P.underlying kt = some (.int .i64))
    (hf : Instr.findNow (.int .i64) (.int .i64 n) es.toList 0 = some none) (r : Nat) (hr : r = v.heap.size) :
    (Instr.mapUpdate mty (.map (some r)) (.int .i64 n) val).run P (v.alloc (.map es clock)) = .ok () (v.alloc (.map (es.push { key := .int .i64 n, val := val, born := clock }) (clock + 1))) := by
  subst hr
  have hb : (v.alloc (.map es clock)).heap[v.heap.size]? = some (.map es clock) := heap_alloc_new v _
  have hc : (Instr.checkKey false 10000 kt (.int .i64 n)).run P (v.alloc (.map es clock)) = .ok () (v.alloc (.map es clock)) := MapKept.run_checkKey (k := .int .i64 n) hk (by simp [MapKept.IsKey]) false 9999
  have hp : ∀ (h : Array Obj) (x y : Obj), (h.push x).setIfInBounds h.size y = h.push y := by
    intro h x y
    apply Array.toList_inj.1
    simp
  simp [Instr.mapUpdate, run_underlying hm, MapKept.run_getObj_map hb, hc, MapKept.run_findKey hk hf, MapKept.run_setObj_map _ hb, Result.andThen]
  show ({ v.alloc (.map es clock) with heap := (v.heap.push (.map es clock)).setIfInBounds v.heap.size _ } : World) = _
  rw [hp]
  rfl
theorem choose_tape {P : Program} {w w' : World} {q : Question} {j : Nat} (h : (choose q).run P w = .ok j w') : w'.tape = w.tape := by
  unfold choose at h
  simp only [Sem.run] at h
  split at h
  · cases h; rfl
  · cases h; rfl
theorem setObj_tape {P : Program} {w w' : World} {r : Nat} {o : Obj} {u : Unit} (h : (setObj r o).run P w = .ok u w') : w'.tape = w.tape := by
  unfold setObj at h
  simp only [Sem.run] at h
  split at h <;> cases h
  rfl
theorem andThen_ok' {α β : Type} {x : Result α} {k : α → World → Result β} {b : β} {w : World} (h : x.andThen k = .ok b w) : ∃ a w1, x = .ok a w1 ∧ k a w1 = .ok b w := by
  cases x <;> simp only [Result.andThen] at h
  · exact ⟨_, _, rfl, h⟩
  all_goals cases h
theorem bind_ok {P : Program} {α β : Type} {x : Sem α} {k : α → Sem β} {b : β} {w w' : World} (h : (x >>= k).run P w = .ok b w') : ∃ a w1, x.run P w = .ok a w1 ∧ (k a).run P w1 = .ok b w' := by
  rw [Sem.run_bind] at h
  exact andThen_ok' h
theorem getObj_ok {P : Program} {w w' : World} {r : Nat} {o : Obj} (h : (getObj r).run P w = .ok o w') : w' = w := by
  unfold getObj at h
  simp only [Sem.run] at h
  split at h <;> cases h
  rfl
theorem next_tape {P : Program} {w w' : World} {r : Nat} {ty : TypeId} {v : Value} (h0 : (Instr.next (.pointer (some ⟨r, 0, none⟩)) false ty).run P w = .ok v w') : w'.tape = w.tape := by
  unfold Instr.next at h0
  simp only at h0
  obtain ⟨o, w1, h1, h⟩ := bind_ok h0
  clear h0
  have e1 := getObj_ok h1
  clear h1
  rw [← e1]
  split at h
  · rename_i e; cases e
  · cases h; rfl
  · obtain ⟨o, w2, h2, h3⟩ := bind_ok h
    clear h
    have e2 := getObj_ok h2
    clear h2
    rw [← e2]
    split at h3
    · split at h3
      · obtain ⟨_, _, h4, _⟩ := bind_ok h3
        cases h4
      · obtain ⟨j, w3, h4, h5⟩ := bind_ok h3
        rw [← choose_tape h4]
        clear h3 h4
        split at h5
        · obtain ⟨u, w4, h6, h7⟩ := bind_ok h5
          cases h7
          exact setObj_tape h6
        · cases h5; rfl
        · cases h5
    · cases h3
  · cases h
end
def cell0 : Obj := .cells #[Value.int IntKind.i64 0, Value.int IntKind.u64 0, Value.int IntKind.u64 0] 39
def S4 : ByteArray := ⟨#[99, 61, 73, 78, 32, 73, 80, 52, 32]⟩
def S6 : ByteArray := ⟨#[99, 61, 73, 78, 32, 73, 80, 54, 32]⟩
def es2 : Array MapEntry := #[⟨.int .i64 4, .string S4, 0⟩, ⟨.int .i64 6, .string S6, 1⟩]
def Z3 : Value := .agg #[.int .i64 0, .int .u64 0, .int .u64 0]
def resA (pp : List UInt8 → Option ((Int × Int × Int) × Int)) (t : List UInt8) (fam : Int) : Value := match pp t with
  | some r => .tuple #[.agg #[.int .i64 r.1.1, .int .u64 r.1.2.1, .int .u64 r.1.2.2], .bool (r.2 == 0 && r.1.1 == fam)]
  | none => .nilIface
def addrV (pp : List UInt8 → Option ((Int × Int × Int) × Int)) (s : List UInt8) : Value :=
  if Lib.hasPrefix s S4.data.toList = true then resA pp (Lib.trimPrefix s S4.data.toList) 4
  else if Lib.hasPrefix s S6.data.toList = true then resA pp (Lib.trimPrefix s S6.data.toList) 6
  else .tuple #[Z3, .bool false]
theorem both_not {s : List UInt8} (h4 : Lib.hasPrefix s S4.data.toList = true) (h6 : Lib.hasPrefix s S6.data.toList = true) : False := by
  unfold Lib.hasPrefix at h4 h6
  rw [List.isPrefixOf_iff_prefix] at h4 h6
  obtain ⟨a, rfl⟩ := h4
  obtain ⟨b, hb⟩ := h6
  simp [S4, S6] at hb
theorem address_walk (pp : List UInt8 → Option ((Int × Int × Int) × Int)) (s : ByteArray) (w : World)
    (hp : ∀ (t : ByteArray) (W : World), Below w.heap.size w W → ∀ r, pp t.data.toList = some r → Calls Tryz.prog 50 #[.string t] W fun e W' => e = .returned (.tuple #[.agg #[.int .i64 r.1.1, .int .u64 r.1.2.1, .int .u64 r.1.2.2], .int .i64 r.2]) ∧ Below W.heap.size W W')
    (r4 : Lib.hasPrefix s.data.toList S4.data.toList = true → ∃ r, pp (Lib.trimPrefix s.data.toList S4.data.toList) = some r)
    (r6 : Lib.hasPrefix s.data.toList S6.data.toList = true → ∃ r, pp (Lib.trimPrefix s.data.toList S6.data.toList) = some r) :
    Calls Tryz.prog 35 #[.string s] w fun e w' => e = .returned (addrV pp s.data.toList) ∧ Below w.heap.size w w' := by
  have hmm := @run_makeMap Tryz.prog
  have hi1 := ins_int (P := Tryz.prog) 75 3 9 0 4 (.string S4) #[] (w.alloc cell0) Tryz.underlying75 Tryz.underlying3 rfl (w.heap.size + 1) (by simp)
  have hi2 := ins_int (P := Tryz.prog) 75 3 9 1 6 (.string S6) #[⟨.int .i64 4, .string S4, 0⟩] (w.alloc cell0) Tryz.underlying75 Tryz.underlying3 rfl (w.heap.size + 1) (by simp)
  have hb : ((w.alloc cell0).alloc (.map es2 2)).heap[w.heap.size + 1]? = some (.map es2 2) := by simpa using heap_alloc_new (w.alloc cell0) (.map es2 2)
  have hb0 : ((w.alloc cell0).alloc (.map es2 2)).heap[w.heap.size]? = some cell0 := by
    rw [heap_alloc_old (w.alloc cell0) _ (by simp)]
    exact heap_alloc_new w cell0
  have hrg := run_range_map (P := Tryz.prog) ((w.alloc cell0).alloc (.map es2 2)) 75 3 9 (w.heap.size + 1) es2 2 Tryz.underlying75 hb
  simp only [es2, cell0, S4, S6, List.push_toArray, List.cons_append, List.nil_append, Nat.zero_add, World.size_alloc] at hi1 hi2 hrg
  have hbel : ∀ (w1 : World) (it : Obj), w1.Alike ((w.alloc cell0).alloc (.map es2 2)) → w1.tape = w.tape → Below w.heap.size w (w1.alloc it) := fun w1 it hal ht => by
    have h1 : Below w.heap.size w ((w.alloc cell0).alloc (.map es2 2)) := ((Below.refl _ w).alloc (Nat.le_refl _) _).alloc (by simp) _
    have h2 : Below w.heap.size w w1 := ⟨hal.2.1.trans h1.os, ht, hal.2.2.trans h1.output, by rw [hal.1]; exact h1.size, fun k hk => by rw [hal.1]; exact h1.block k hk⟩
    exact h2.alloc h2.size _
  go_enter Tryz.func35, Tryz.ntmps35
  go_wp2
  go_loopw [] (fun w' => ∃ (w1 : World) (seen : Array Nat), w1.Alike ((w.alloc cell0).alloc (.map es2 2)) ∧ w1.tape = w.tape ∧ w' = w1.alloc (.mapIter (some (w.heap.size + 1)) 2 seen 2) ∧ (seen.contains 0 = true → Lib.hasPrefix s.data.toList S4.data.toList = false) ∧ (seen.contains 1 = true → Lib.hasPrefix s.data.toList S6.data.toList = false)) (fun w' => (leftOf es2 (w'.iterSeen (w.heap.size + 2))).size)
  case atStart => exact ⟨_, #[], ⟨rfl, rfl, rfl⟩, rfl, rfl, fun h => by simp at h, fun h => by simp at h⟩
  case round =>
    obtain ⟨w1, seen, hal, htp, rfl, h4, h6⟩ := hrel
    have hsz : w1.heap.size = w.heap.size + 2 := by rw [hal.1]; simp
    have hb1 : w1.heap[w.heap.size + 1]? = some (.map es2 2) := by rw [hal.1]; exact hb
    have hold : ∀ x ∈ es2.toList, x.born < 2 := by decide
    have law := run_next_map (P := Tryz.prog) w1 0 (w.heap.size + 1) 2 2 seen es2 2 hb1 hold (Nat.le_refl _)
    rw [hsz] at law
    have facts : ∀ w2 : World, w2.Alike ((w.alloc cell0).alloc (.map es2 2)) → w2.cell? ⟨w.heap.size, 0, none⟩ = some (.int .i64 0) ∧ w2.cell? ⟨w.heap.size, 1, none⟩ = some (.int .u64 0) ∧ w2.cell? ⟨w.heap.size, 2, none⟩ = some (.int .u64 0) ∧ w2.frozen? ⟨w.heap.size, 0, none⟩ = false ∧ w2.frozen? ⟨w.heap.size, 1, none⟩ = false ∧ w2.frozen? ⟨w.heap.size, 2, none⟩ = false ∧ w.heap.size < w2.heap.size ∧ w.heap.size ≠ w2.heap.size := fun w2 hal2 => by
      have hc : w2.heap[w.heap.size]? = some cell0 := by rw [hal2.1]; exact hb0
      have hs2 : w2.heap.size = w.heap.size + 2 := by rw [hal2.1]; simp
      exact ⟨by rw [Lib.cell_of_heap hc]; rfl, by rw [Lib.cell_of_heap hc]; rfl, by rw [Lib.cell_of_heap hc]; rfl, Lib.frozen_of_heap hc 0, Lib.frozen_of_heap hc 1, Lib.frozen_of_heap hc 2, by omega, by omega⟩
    rcases law with ⟨h0, hrun⟩ | ⟨e, he, w2, hal2, hrun⟩
    · have hnx : ∀ ty, (Instr.next (.pointer (some ⟨w.heap.size + 2, 0, none⟩)) false ty).run Tryz.prog (w1.alloc (.mapIter (some (w.heap.size + 1)) 2 seen 2)) = _ := fun _ => hrun
      obtain ⟨c0, c1, c2, f00, f01, f02, hlt, hne⟩ := facts w1 hal
      go_wp2
      have p4 := h4 (all_seen es2 seen h0 _ (List.mem_cons_self ..))
      have p6 := h6 (all_seen es2 seen h0 _ (List.mem_cons_of_mem _ (List.mem_cons_self ..)))
      (try simp only [Exit.inBlock, Exit.then])
      refine bodyPost_ret (v := .tuple #[Z3, .bool false]) ?_ rfl ⟨?_, ?_⟩
      · rw [results_cell_tmp rfl]
        go_simp
        rfl
      · unfold addrV
        rw [p4, p6]
        rfl
      · have h1 := hbel w1 (.mapIter (some (w.heap.size + 1)) 2 seen 2) hal htp
        have h2 : Below w.heap.size w w1 := ⟨h1.os, h1.tape, h1.output, by omega, fun k hk => by have := h1.block k hk; rwa [heap_alloc_old w1 _ (by omega)] at this⟩
        repeat' (first | exact h2 | refine Below.drew ?_ | refine Below.alloc ?_ (by simp; omega) _ | refine Below.setCell ?_ (by exact Nat.le_refl _) _)
    · have ht2 : w2.tape = w.tape := (next_tape hrun).trans htp
      have hsz2 : w2.heap.size = w.heap.size + 2 := by rw [hal2.1, hal.1]; simp
      have hal3 : w2.Alike ((w.alloc cell0).alloc (.map es2 2)) := ⟨hal2.1.trans hal.1, hal2.2.1.trans hal.2.1, hal2.2.2.trans hal.2.2⟩
      have hb2 : w2.heap[w.heap.size + 1]? = some (.map es2 2) := by rw [hal3.1]; exact hb
      have hen := run_entry_map (P := Tryz.prog) w2 (w.heap.size + 1) 2 seen es2 2 e hb2 (mem_left he).1 (by decide)
      rw [hsz2] at hen
      obtain ⟨c0, c1, c2, f00, f01, f02, hlt, hne⟩ := facts w2 hal3
      have hmem : e = ⟨.int .i64 4, .string S4, 0⟩ ∨ e = ⟨.int .i64 6, .string S6, 1⟩ := by simpa [es2] using (mem_left he).1
      rcases hmem with rfl | rfl
      · have hnx : ∀ ty, (Instr.next (.pointer (some ⟨w.heap.size + 2, 0, none⟩)) false ty).run Tryz.prog (w1.alloc (.mapIter (some (w.heap.size + 1)) 2 seen 2)) = _ := fun _ => hrun
        go_wp2_with (go_at_call 33; refine (Tryz.strings_CutPrefix _ _ _).mono ?_; rintro e w' ⟨rfl, rfl⟩)
        · have hpre : Lib.hasPrefix s.data.toList S4.data.toList = true := by assumption
          obtain ⟨r, hr⟩ := r4 hpre
          have hval : addrV pp s.data.toList = .tuple #[.agg #[.int .i64 r.1.1, .int .u64 r.1.2.1, .int .u64 r.1.2.2], .bool (r.2 == 0 && r.1.1 == 4)] := by unfold addrV resA; rw [if_pos hpre, hr]
          have hW := hbel w2 (.mapIter (some (w.heap.size + 1)) 2 (seen.push 0) 2) hal3 ht2
          refine (hp ⟨(Lib.trimPrefix s.data.toList S4.data.toList).toArray⟩ _ hW r hr).mono ?_
          rintro e w' ⟨rfl, hbw⟩
          have hh : w'.heap[w.heap.size]? = some cell0 := by
            rw [hbw.block _ (by simp; omega), heap_alloc_old w2 _ (by omega), hal3.1]; exact hb0
          have d0 : w'.cell? ⟨w.heap.size, 0, none⟩ = some (.int .i64 0) := by rw [Lib.cell_of_heap hh]; rfl
          have d1 : w'.cell? ⟨w.heap.size, 1, none⟩ = some (.int .u64 0) := by rw [Lib.cell_of_heap hh]; rfl
          have d2 : w'.cell? ⟨w.heap.size, 2, none⟩ = some (.int .u64 0) := by rw [Lib.cell_of_heap hh]; rfl
          have g0 : w'.frozen? ⟨w.heap.size, 0, none⟩ = false := Lib.frozen_of_heap hh 0
          have g1 : w'.frozen? ⟨w.heap.size, 1, none⟩ = false := Lib.frozen_of_heap hh 1
          have g2 : w'.frozen? ⟨w.heap.size, 2, none⟩ = false := Lib.frozen_of_heap hh 2
          have hs2 : w2.heap.size + 1 ≤ w'.heap.size := by simpa using hbw.size
          have hlt' : w.heap.size < w'.heap.size := by omega
          have hne' : w.heap.size ≠ w'.heap.size := by omega
          have hbw2 : Below w.heap.size w w' := hW.trans ⟨hbw.os, hbw.tape, hbw.output, hbw.size, fun k hk => hbw.block k (by simp; omega)⟩
          clear hp r4 r6 hbel facts hal hal2 hal3 hen hrun hmm hi1 hi2 hrg hb hb0 hb1 hb2 hnx hold he c0 c1 c2 f00 f01 f02 hW hbw
          obtain ⟨⟨fam, hi, lo⟩, er⟩ := r
          go_wp2
          by_cases her : er = 0
          · have her' : (er == 0) = true := by simp [her]
            go_region
            all_goals (try go_wp2)
            all_goals (try simp only [Exit.inBlock, Exit.then])
            all_goals refine bodyPost_ret (v := .tuple #[.agg #[.int .i64 fam, .int .u64 hi, .int .u64 lo], .bool (fam == 4)]) ?_ rfl ⟨?_, ?_⟩
            all_goals first
              | (rw [hval]; simp [her'])
              | (rw [results_cell_tmp rfl]; go_simp; done)
              | (rw [results_cell_tmp rfl]; go_simp; rfl)
              | (repeat' (first | exact hbw2 | refine Below.drew ?_ | refine Below.alloc ?_ (by simp; omega) _ | refine Below.setCell ?_ (by exact Nat.le_refl _) _))
          · have her' : (er == 0) = false := by simp [her]
            go_region
            all_goals (try go_wp2)
            all_goals (try simp only [Exit.inBlock, Exit.then])
            all_goals refine bodyPost_ret (v := .tuple #[.agg #[.int .i64 fam, .int .u64 hi, .int .u64 lo], .bool false]) ?_ rfl ⟨?_, ?_⟩
            all_goals first
              | (rw [hval]; simp [her'])
              | (rw [results_cell_tmp rfl]; go_simp; done)
              | (rw [results_cell_tmp rfl]; go_simp; rfl)
              | (repeat' (first | exact hbw2 | refine Below.drew ?_ | refine Below.alloc ?_ (by simp; omega) _ | refine Below.setCell ?_ (by exact Nat.le_refl _) _))
        · have hpre : Lib.hasPrefix s.data.toList S4.data.toList = false := by assumption
          refine ⟨⟨w2, seen.push 0, hal3, ht2, rfl, fun _ => hpre, fun h => h6 (by rw [contains_push] at h; simpa using h)⟩, ?_⟩
          rw [← hsz2, World.iterSeen_alloc, hsz2, ← hsz, World.iterSeen_alloc]
          exact left_shrinks es2 seen _ he
      · have hnx : ∀ ty, (Instr.next (.pointer (some ⟨w.heap.size + 2, 0, none⟩)) false ty).run Tryz.prog (w1.alloc (.mapIter (some (w.heap.size + 1)) 2 seen 2)) = _ := fun _ => hrun
        go_wp2_with (go_at_call 33; refine (Tryz.strings_CutPrefix _ _ _).mono ?_; rintro e w' ⟨rfl, rfl⟩)
        · have hpre : Lib.hasPrefix s.data.toList S6.data.toList = true := by assumption
          obtain ⟨r, hr⟩ := r6 hpre
          have hval : addrV pp s.data.toList = .tuple #[.agg #[.int .i64 r.1.1, .int .u64 r.1.2.1, .int .u64 r.1.2.2], .bool (r.2 == 0 && r.1.1 == 6)] := by unfold addrV resA; rw [if_neg (fun h4' => both_not h4' hpre), if_pos hpre, hr]
          have hW := hbel w2 (.mapIter (some (w.heap.size + 1)) 2 (seen.push 1) 2) hal3 ht2
          refine (hp ⟨(Lib.trimPrefix s.data.toList S6.data.toList).toArray⟩ _ hW r hr).mono ?_
          rintro e w' ⟨rfl, hbw⟩
          have hh : w'.heap[w.heap.size]? = some cell0 := by
            rw [hbw.block _ (by simp; omega), heap_alloc_old w2 _ (by omega), hal3.1]; exact hb0
          have d0 : w'.cell? ⟨w.heap.size, 0, none⟩ = some (.int .i64 0) := by rw [Lib.cell_of_heap hh]; rfl
          have d1 : w'.cell? ⟨w.heap.size, 1, none⟩ = some (.int .u64 0) := by rw [Lib.cell_of_heap hh]; rfl
          have d2 : w'.cell? ⟨w.heap.size, 2, none⟩ = some (.int .u64 0) := by rw [Lib.cell_of_heap hh]; rfl
          have g0 : w'.frozen? ⟨w.heap.size, 0, none⟩ = false := Lib.frozen_of_heap hh 0
          have g1 : w'.frozen? ⟨w.heap.size, 1, none⟩ = false := Lib.frozen_of_heap hh 1
          have g2 : w'.frozen? ⟨w.heap.size, 2, none⟩ = false := Lib.frozen_of_heap hh 2
          have hs2 : w2.heap.size + 1 ≤ w'.heap.size := by simpa using hbw.size
          have hlt' : w.heap.size < w'.heap.size := by omega
          have hne' : w.heap.size ≠ w'.heap.size := by omega
          have hbw2 : Below w.heap.size w w' := hW.trans ⟨hbw.os, hbw.tape, hbw.output, hbw.size, fun k hk => hbw.block k (by simp; omega)⟩
          clear hp r4 r6 hbel facts hal hal2 hal3 hen hrun hmm hi1 hi2 hrg hb hb0 hb1 hb2 hnx hold he c0 c1 c2 f00 f01 f02 hW hbw
          obtain ⟨⟨fam, hi, lo⟩, er⟩ := r
          go_wp2
          by_cases her : er = 0
          · have her' : (er == 0) = true := by simp [her]
            go_region
            all_goals (try go_wp2)
            all_goals (try simp only [Exit.inBlock, Exit.then])
            all_goals refine bodyPost_ret (v := .tuple #[.agg #[.int .i64 fam, .int .u64 hi, .int .u64 lo], .bool (fam == 6)]) ?_ rfl ⟨?_, ?_⟩
            all_goals first
              | (rw [hval]; simp [her'])
              | (rw [results_cell_tmp rfl]; go_simp; done)
              | (rw [results_cell_tmp rfl]; go_simp; rfl)
              | (repeat' (first | exact hbw2 | refine Below.drew ?_ | refine Below.alloc ?_ (by simp; omega) _ | refine Below.setCell ?_ (by exact Nat.le_refl _) _))
          · have her' : (er == 0) = false := by simp [her]
            go_region
            all_goals (try go_wp2)
            all_goals (try simp only [Exit.inBlock, Exit.then])
            all_goals refine bodyPost_ret (v := .tuple #[.agg #[.int .i64 fam, .int .u64 hi, .int .u64 lo], .bool false]) ?_ rfl ⟨?_, ?_⟩
            all_goals first
              | (rw [hval]; simp [her'])
              | (rw [results_cell_tmp rfl]; go_simp; done)
              | (rw [results_cell_tmp rfl]; go_simp; rfl)
              | (repeat' (first | exact hbw2 | refine Below.drew ?_ | refine Below.alloc ?_ (by simp; omega) _ | refine Below.setCell ?_ (by exact Nat.le_refl _) _))
        · have hpre : Lib.hasPrefix s.data.toList S6.data.toList = false := by assumption
          refine ⟨⟨w2, seen.push 1, hal3, ht2, rfl, fun h => h4 (by rw [contains_push] at h; simpa using h), fun _ => hpre⟩, ?_⟩
          rw [← hsz2, World.iterSeen_alloc, hsz2, ← hsz, World.iterSeen_alloc]
          exact left_shrinks es2 seen _ he
end Go.Proofs.YtfaofikhabccoaaGreatDoor.Jv
