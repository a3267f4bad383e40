/-
  The contracts of slices.Repeat at two and at four.
  Its conditions stand in each theorem.
-/
import Derived.Test.YtdmmjlhcjmdajaaWm
import Derived.Deep.RegionWith
import Derived.Deep.RegionHeld3
import Derived.LoopN
namespace Go.Proofs.Ytdmmjlhcjmdajaa
open Go.RowKit Go.Shelf Go.Maps
set_option linter.unusedVariables false

theorem mul_2 (w : World) : Calls Try.prog 62 #[.int .u64 1, .int .u64 2] w fun e w' => e = .returned (.tuple #[.int .u64 0, .int .u64 2]) ∧ w' = w := by
  go_enter Try.func62, Try.ntmps62
  go_wp2
  all_goals (go_ret2; exact ⟨rfl, rfl⟩)
theorem mul_4 (w : World) : Calls Try.prog 62 #[.int .u64 1, .int .u64 4] w fun e w' => e = .returned (.tuple #[.int .u64 0, .int .u64 4]) ∧ w' = w := by
  go_enter Try.func62, Try.ntmps62
  go_wp2
  all_goals (go_ret2; exact ⟨rfl, rfl⟩)

theorem made2 : madeCells #[Value.int .i64 0] 2 = #[.int .i64 0, .int .i64 0] := by kernel_rfl
theorem made4 : madeCells #[Value.int .i64 0] 4 = #[.int .i64 0, .int .i64 0, .int .i64 0, .int .i64 0] := by kernel_rfl
theorem setCells_one (W : World) (g o : Nat) (x : Int) : W.setCells g o [.int .i64 x] = W.setCell ⟨g, o, none⟩ (.int .i64 x) := rfl
theorem setCells_two (W : World) (g o : Nat) (x y : Int) : W.setCells g o [.int .i64 x, .int .i64 y] = (W.setCell ⟨g, o, none⟩ (.int .i64 x)).setCell ⟨g, o + 1, none⟩ (.int .i64 y) := rfl

theorem IRow.drew {W b l} (h : IRow W b l) : IRow W.drew b l := h
/-- copy of ints into an own row -/
theorem copy_row {W : World} {g : Nat} {l : List Int} (h : IRow W g l) (o dLen dCap b so sLen sCap : Nat) (xs : List Int) (hx : ∀ j : Nat, j < xs.length → W.cell? ⟨b, so + j, none⟩ = some (.int .i64 (Rd.mrk xs j))) (hm : Nat.min sLen dLen = xs.length) (ho : o + xs.length ≤ l.length) :
    (Builtin.copy_ #[27, 27] 3 #[.slice (some ⟨g, o, none⟩) dLen dCap, .slice (some ⟨b, so, none⟩) sLen sCap]).run Try.prog W = .ok (goInt xs.length) (W.setCells g o (xs.map (Value.int .i64))) := by
  have hs : (Try.prog.info? 3).map (·.size) = some 1 := by kernel_rfl
  have hr := run_copy_cells (P := Try.prog) W 27 27 3 3 g o dLen dCap ⟨b, so, none⟩ sLen sCap (xs.map (Value.int .i64)) Try.underlying27 hs (by simp [hm]) ?_ ?_ ?_ ?_
  · simpa using hr
  · intro j v hj
    have hj2 : j < xs.length := by
      have := (List.getElem?_eq_some_iff.1 hj).1
      simpa using this
    have e : (⟨b, so, none⟩ : Addr).add j = ⟨b, so + j, none⟩ := by simp [Addr.add]
    rw [e, hx j hj2]
    simp [hj2] at hj
    rw [← hj]
    simp [Rd.mrk, List.getD_eq_getElem?_getD, hj2]
  · intro j hj
    have hj2 : j < xs.length := by simpa using hj
    rw [h.cell (by omega)]; rfl
  · intro j hj; exact h.frozen _
  · intro v hv
    obtain ⟨x, _, rfl⟩ := List.mem_map.1 hv
    rfl

set_option maxRecDepth 100000 in
set_option maxHeartbeats 2000000 in
theorem repeat_2 (b : Nat) (w : World) (hb : b < w.heap.size) (hc : w.cell? ⟨b, 0, none⟩ = some (.int .i64 (-1))) :
   Calls Try.prog 51 #[.slice (some ⟨b, 0, none⟩) 1 1, .int .i64 2] w fun e w' => e = .returned (.slice (some ⟨w.heap.size, 0, none⟩) 2 2) ∧ IRow w' w.heap.size [-1, -1] ∧ Below w.heap.size w w' ∧ w.heap.size < w'.heap.size := by
  obtain ⟨i0, hi, hz0, hz1, hz2⟩ := info_parts info3
  have hmk : ∀ W : World, (Instr.makeSlice 27 (.int .i64 2) (.int .i64 2)).run Try.prog W = .ok (.slice (some ⟨W.heap.size, 0, none⟩) 2 2) (W.alloc (.cells #[Value.int .i64 0, Value.int .i64 0] 3)) := by
    intro W
    have := run_make (P := Try.prog) W 27 3 i0 (.int .i64 0) Try.underlying27 hi hz0 .i64 .i64 2 2 (by omega) (by omega) (by rw [hz2]; omega) (by omega)
    rw [hz1] at this
    simpa [Value.cells, made2] using this
  go_enter Try.func51, Try.ntmps51
  have r0 : IRow (w.alloc (.cells #[Value.int .i64 0, Value.int .i64 0] 3)) w.heap.size [0, 0] := World.alloc_heap_new w _
  have cp1 := copy_row r0 0 2 2 b 0 1 1 [-1] (fun j hj => by
    have : j = 0 := by simpa using hj
    subst this
    rw [World.cell?_alloc_past _ _ _ hb]; exact hc) rfl (by simp)
  have r1 : IRow (w.alloc (.cells #[Value.int .i64 (-1), Value.int .i64 0] 3)) w.heap.size [-1, 0] := World.alloc_heap_new w _
  have cp2 := copy_row r1.drew 1 1 1 w.heap.size 0 1 2 [-1] (fun j hj => by
    have : j = 0 := by simpa using hj
    subst this
    exact r1.drew.cell (by simp)) rfl (by simp)
  simp only [List.map_cons, List.map_nil, setCells_one] at cp1 cp2
  clear r0 r1
  go_wp2_with (go_at_call 62; refine (mul_2 _).mono ?_; rintro e w' ⟨rfl, rfl⟩)
  refine wp_loop_rounds 2 ?_
  rw [rounds_succ]
  go_wp2_with fail
  go_region
  go_wp2_with fail
  rw [rounds_succ]
  go_wp2_with fail
  go_ret
  exact ⟨rfl, World.alloc_heap_new _ _, ((Below.refl _ _).alloc (Nat.le_refl _) _).drew, by show _ < (World.alloc _ _).heap.size; simp⟩
set_option maxRecDepth 100000 in
set_option maxHeartbeats 2000000 in
theorem repeat_4 (b : Nat) (w : World) (hb : b < w.heap.size) (hc : w.cell? ⟨b, 0, none⟩ = some (.int .i64 (-1))) :
   Calls Try.prog 51 #[.slice (some ⟨b, 0, none⟩) 1 1, .int .i64 4] w fun e w' => e = .returned (.slice (some ⟨w.heap.size, 0, none⟩) 4 4) ∧ IRow w' w.heap.size [-1, -1, -1, -1] ∧ Below w.heap.size w w' ∧ w.heap.size < w'.heap.size := by
  obtain ⟨i0, hi, hz0, hz1, hz2⟩ := info_parts info3
  have hmk : ∀ W : World, (Instr.makeSlice 27 (.int .i64 4) (.int .i64 4)).run Try.prog W = .ok (.slice (some ⟨W.heap.size, 0, none⟩) 4 4) (W.alloc (.cells #[Value.int .i64 0, Value.int .i64 0, Value.int .i64 0, Value.int .i64 0] 3)) := by
    intro W
    have := run_make (P := Try.prog) W 27 3 i0 (.int .i64 0) Try.underlying27 hi hz0 .i64 .i64 4 4 (by omega) (by omega) (by rw [hz2]; omega) (by omega)
    rw [hz1] at this
    simpa [Value.cells, made4] using this
  go_enter Try.func51, Try.ntmps51
  have r0 : IRow (w.alloc (.cells #[Value.int .i64 0, Value.int .i64 0, Value.int .i64 0, Value.int .i64 0] 3)) w.heap.size [0, 0, 0, 0] := World.alloc_heap_new w _
  have cp1 := copy_row r0 0 4 4 b 0 1 1 [-1] (fun j hj => by
    have : j = 0 := by simpa using hj
    subst this
    rw [World.cell?_alloc_past _ _ _ hb]; exact hc) rfl (by simp)
  have r1 : IRow (w.alloc (.cells #[Value.int .i64 (-1), Value.int .i64 0, Value.int .i64 0, Value.int .i64 0] 3)) w.heap.size [-1, 0, 0, 0] := World.alloc_heap_new w _
  have cp2 := copy_row r1.drew 1 3 3 w.heap.size 0 1 4 [-1] (fun j hj => by
    have : j = 0 := by simpa using hj
    subst this
    exact r1.drew.cell (by simp)) rfl (by simp)
  have r2 : IRow (w.alloc (.cells #[Value.int .i64 (-1), Value.int .i64 (-1), Value.int .i64 0, Value.int .i64 0] 3)) w.heap.size [-1, -1, 0, 0] := World.alloc_heap_new w _
  have cp3 := copy_row r2.drew.drew 2 2 2 w.heap.size 0 2 4 [-1, -1] (fun j hj => by
    have : j = 0 ∨ j = 1 := by simp at hj; omega
    rcases this with rfl | rfl
    · exact r2.drew.drew.cell (by simp)
    · exact r2.drew.drew.cell (by simp)) rfl (by simp)
  simp only [List.map_cons, List.map_nil, setCells_one, setCells_two] at cp1 cp2 cp3
  clear r0 r1 r2
  go_wp2_with (go_at_call 62; refine (mul_4 _).mono ?_; rintro e w' ⟨rfl, rfl⟩)
  refine wp_loop_rounds 3 ?_
  rw [rounds_succ]
  go_wp2_with fail
  go_region
  go_wp2_with fail
  rw [rounds_succ]
  go_wp2_with fail
  go_region
  go_wp2_with fail
  rw [rounds_succ]
  go_wp2_with fail
  go_ret
  exact ⟨rfl, World.alloc_heap_new _ _, ((Below.refl _ _).alloc (Nat.le_refl _) _).drew.drew, by show _ < (World.alloc _ _).heap.size; simp⟩
end Go.Proofs.Ytdmmjlhcjmdajaa
