/-
  The contract of slices.Delete at the example.
  Its conditions stand in each theorem.
-/
import Derived.Test.YtdmmjlhcjmdajaaXa
import Derived.BigRegion
import Derived.Deep.RegionHeld3
namespace Go.Proofs.Ytdmmjlhcjmdajaa
open Go.RowKit Go.Shelf Go.Maps
set_option linter.unusedVariables false

def zer7 : List Value := [.int .i64 0, .int .i64 0, .int .i64 0, .int .i64 0, .int .i64 0, .int .i64 0, .int .i64 0]
theorem run_clear_way (ty : TypeId) (W : World) (g cap c : Nat) (l : List Value) (h : WRow W g cap l) (o : Nat) (ho : o + 7 ≤ cap * 7) :
    (Builtin.clear_ #[29] ty #[.slice (some ⟨g, o, none⟩) 1 c]).run Try.prog W = .ok (.tuple #[]) (W.setCells g o zer7) := by
  have hst := run_storeCells_cells (P := Try.prog) g o zer7 0 W (fun j hj => h.some _ (by simp [zer7] at hj; omega)) (fun j hj => h.frozen _) (by intro v hv; simp [zer7] at hv; subst hv; rfl)
  have hz : (zeroValue 64).run Try.prog W = .ok (wv ⟨0, 0, 0, 0, 0, 0, 0⟩) W := by kernel_rfl
  rw [Nat.add_zero] at hst
  have e : (Builtin.zeroCells (wv ⟨0, 0, 0, 0, 0, 0, 0⟩).cells 1).toList = zer7 := by kernel_rfl
  simp [Builtin.clear_, run_underlying Try.underlying29, Sem.run_bind, hz, e, hst]

def lastTwo : List Value := (exw.flatMap wcells).drop 21
theorem run_app_way (ty : TypeId) (W : World) (g cap : Nat) (hcap : 5 ≤ cap) (h : WRow W g cap (exw.flatMap wcells)) :
    (Builtin.append_ #[29, 29] ty #[.slice (some ⟨g, 0, none⟩) 2 cap, .slice (some ⟨g, 21, none⟩) 2 (cap - 3)]).run Try.prog W = .ok (.slice (some ⟨g, 0, none⟩) 4 cap) (W.setCells g 14 lastTwo) := by
  obtain ⟨i0, hi, hz0, hz1, hz2⟩ := info_parts info64
  have hone : ∀ u ∈ lastTwo, u.oneCell' = true := by
    intro u hu
    obtain ⟨a, _, ha⟩ := List.mem_flatMap.1 (List.mem_of_mem_drop hu)
    simp only [wcells, List.mem_cons, List.not_mem_nil, or_false] at ha
    rcases ha with rfl | rfl | rfl | rfl | rfl | rfl | rfl <;> rfl
  have := run_append_room_cells (P := Try.prog) W 29 ty 64 i0 Try.underlying29 hi g 0 2 cap ⟨g, 21, none⟩ 2 (cap - 3) lastTwo (by rw [hz1]; rfl) (fun j u hj => by
      have e : (⟨g, 21, none⟩ : Addr).add j = ⟨g, 21 + j, none⟩ := by simp [Addr.add]
      rw [e]
      exact h.cell (21 + j) u (by rw [← hj]; unfold lastTwo; rw [List.getElem?_drop])) hone (by omega)
      (fun j hj => by rw [hz1]; exact h.some _ (by have : lastTwo.length = 14 := rfl; omega)) (fun j hj => h.frozen _)
  rw [hz1] at this
  simpa using this

theorem below_setCells {n0 g : Nat} {A : World} (hn : n0 ≤ g) : ∀ (vs : List Value) (o : Nat) (W : World), Below n0 A W → Below n0 A (W.setCells g o vs)
  | [], _, _, h => h
  | v :: r, o, W, h => below_setCells hn r (o + 1) _ (h.setCell (p := ⟨g, o, none⟩) hn v)

/-- an append whose run is known, as a step of a region that draws its order -/
theorem step_run_append {P : Program} {w w' : World} {ops : Array Oper} {o : Oper} {a : Act} {K : Act → World → Prop} {Q : Exit → Act → World → Prop} {E : Prop} (hgd : o.guard = none) (s x : Operand) (t : TypeId)
    (ho : o.op = .call { callee := .builtin .append, args := #[s, x], argTypes := #[t, t] }) (v xv v' : Value) (hs : a.eval s = v) (hx : a.eval x = xv)
    (hr : (Builtin.append_ #[t, t] o.type #[v, xv]).run P w = .ok v' w') (h : K (a.put o.dst v') w') :
    if Region.wanted o (yielded ops a.tmps) = true then Oper.wp P o a w K Q else E := by
  have hw : Region.wanted o (yielded ops a.tmps) = true := by simp [Region.wanted, hgd]
  rw [if_pos hw]
  unfold Oper.wp execOp
  simp only [ho, resolve, invoke, builtin, Sem.run_bind, Sem.run_pure, Result.andThen_ok, List.map_toArray, List.map_cons, List.map_nil, hs, hx, hr]
  exact h

set_option maxRecDepth 100000 in
set_option maxHeartbeats 2000000 in
theorem delete57 (g cap : Nat) (hcap : 5 ≤ cap) (hc2 : cap ≤ maxLen) (w : World) (h : WRow w g cap (exw.flatMap wcells)) (n0 : Nat) (hn : n0 ≤ g) :
   Calls Try.prog 57 #[.slice (some ⟨g, 0, none⟩) 5 cap, .int .i64 2, .int .i64 3] w fun e w' => e = .returned (.slice (some ⟨g, 0, none⟩) 4 cap) ∧ WRow w' g cap (exless.flatMap wcells) ∧ Below n0 w w' := by
  have hc2' : cap ≤ 9223372036854775807 := by unfold maxLen at hc2; omega
  clear hc2
  have happ := fun ty => run_app_way ty w.drew g cap hcap h
  obtain ⟨l1, r1, n1, q1⟩ := WRow.setCells (g := g) (cap := cap) lastTwo 14 w.drew _ h
  have hb1 : Below n0 w (w.drew.setCells g 14 lastTwo) := below_setCells hn _ _ _ (Below.refl _ _).drew
  generalize w.drew.setCells g 14 lastTwo = W1 at *
  have hclr := fun ty => run_clear_way ty W1 g cap (cap - 4) l1 r1 28 (by omega)
  obtain ⟨l2, r2, n2, q2⟩ := WRow.setCells (g := g) (cap := cap) zer7 28 W1 _ r1
  have hb2 : Below n0 w (W1.setCells g 28 zer7) := below_setCells hn _ _ _ hb1
  generalize W1.setCells g 28 zer7 = W2 at *
  have hlen : (exw.flatMap wcells).length = 35 := rfl
  have hfin : WRow W2 g cap (exless.flatMap wcells) := by
    obtain ⟨cur, k1, k2, k3⟩ := r2
    refine ⟨cur, k1, k2, fun j u hj => k3 j u ?_⟩
    have hj28 : j < 28 := by
      have := (List.getElem?_eq_some_iff.1 hj).1
      exact this
    rw [q2 j, if_neg (by omega), q1 j]
    have e : exless.flatMap wcells = (exw.flatMap wcells).take 14 ++ lastTwo := rfl
    rw [e] at hj
    have hl2 : lastTwo.length = 14 := rfl
    by_cases h14 : 14 ≤ j
    · rw [if_pos ⟨h14, by omega, by omega⟩]
      rw [List.getElem?_append_right (by simp [hlen]; omega)] at hj
      have e2 : ((exw.flatMap wcells).take 14).length = 14 := rfl
      rw [e2] at hj
      exact hj
    · rw [if_neg (by omega)]
      rw [List.getElem?_append_left (by have e2 : ((exw.flatMap wcells).take 14).length = 14 := rfl; omega), List.getElem?_take_of_lt (by omega)] at hj
      exact hj
  have HF := Lib.hid (And.intro hfin hb2); clear hfin hb2 hb1 q1 q2 n1 n2 r1 r2
  have hci : (5 : Int) ≤ (cap : Int) := by omega
  have hci2 : (2 : Int) ≤ (cap : Int) := by omega
  have hc3 : ¬ cap = 3 := by omega
  have hc4 : 4 ≤ cap := by omega
  have hc5 : ¬ cap = 4 := by omega
  go_enter Try.func57, Try.ntmps57
  go_wp2_with fail
  have HA := Lib.hid happ; clear happ
  go_region_held3 (fun _ => True) (trivial) (first | (refine step_run_append rfl _ _ _ rfl _ _ _ rfl rfl (HA.out _) ?_))
  go_wp2_with fail
  go_ret
  exact ⟨rfl, HF.out.1, HF.out.2⟩
end Go.Proofs.Ytdmmjlhcjmdajaa
