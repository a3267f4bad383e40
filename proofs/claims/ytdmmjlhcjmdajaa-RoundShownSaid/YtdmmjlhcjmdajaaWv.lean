/-
  The contract of Same where the rows agree, and of example.
  Its conditions stand in each theorem.
-/
import Derived.Test.YtdmmjlhcjmdajaaWt
import Derived.Test.YtdmmjlhcjmdajaaWn
import Derived.BigRegion
namespace Go.Proofs.Ytdmmjlhcjmdajaa
open Go.RowKit Go.Shelf Go.Maps
set_option linter.unusedVariables false

def YesPost (w : World) (e : Ending) (w' : World) : Prop := e = .returned (.bool true) ∧ Below w.heap.size w w'

set_option maxHeartbeats 2000000 in
theorem same_yes (b o b2 o2 c c2 : Nat) (l : List Int) (len : Nat) (hl : l.length = len) (hlen : len ≤ 1000) (w : World) (h1 : ∀ j : Nat, j < len → w.cell? ⟨b, o + j, none⟩ = some (.int .i64 (Rd.mrk l j))) (h2 : ∀ j : Nat, j < len → w.cell? ⟨b2, o2 + j, none⟩ = some (.int .i64 (Rd.mrk l j))) :
   Calls Try.prog 18 #[.slice (some ⟨b, o, none⟩) len c, .slice (some ⟨b2, o2, none⟩) len c2] w (YesPost w) := by
  have H1 := Lib.hid h1; have H2 := Lib.hid h2; clear h1 h2
  go_enter Try.func18, Try.ntmps18
  go_wp2_with fail
  go_loopw [5, 6] (fun y i wr => ∃ k : Nat, k ≤ len ∧ i = .int .i64 k ∧ y = .bool true ∧ Below w.heap.size w wr ∧ ∃ q, wr = w.drewN q) (fun _ i _ => len - (intOf i).toNat)
  case atStart => exact ⟨0, Nat.zero_le _, rfl, rfl, Below.refl _ _, 0, rfl⟩
  case round =>
    obtain ⟨k, hk, rfl, rfl, hb, q, rfl⟩ := hrel
    by_cases hlt : k < len
    · have x1 := H1.out k hlt
      have x2 := H2.out k hlt
      go_wp2_with fail
      go_quiet (fail)
      go_wp2_with fail
      go_roundw
      case rel => exact ⟨k + 1, by omega, by go_num, by simp, below_drewN (Below.refl _ _) _, q + nq, rfl⟩
      case measure => simp [intOf]; omega
    · go_wp2_with fail
      go_ret
      exact ⟨rfl, hb⟩

/-- the chart of the examples -/
def exw : List Rd.Wy := [⟨0, 1, 5, 8, 0, 1439, 0⟩, ⟨1, 0, 5, 8, 0, 1439, 0⟩, ⟨1, 2, 3, 4, 300, 320, 0⟩, ⟨1, 2, 10, 10, 0, 600, 15⟩, ⟨2, 3, 2, 20, 0, 1439, 0⟩]
theorem exw_chart : Rd.Chart exw 4 := by
  refine ⟨by decide, by decide, by decide, fun i h0 h1 => ?_⟩
  obtain ⟨k, rfl⟩ := Int.eq_ofNat_of_zero_le h0
  have hk : k < 5 := by
    have h9 : (k : Int) < 5 := h1
    omega
  have : k = 0 ∨ k = 1 ∨ k = 2 ∨ k = 3 ∨ k = 4 := by omega
  rcases this with rfl | rfl | rfl | rfl | rfl <;> exact ⟨by decide, by decide, by decide, by decide, by decide, by decide, by decide, by decide, by decide, by decide, by decide, by decide, by decide⟩

def ExPost (w : World) (e : Ending) (w' : World) : Prop :=
  ∃ sb, e = .returned (cv 4 (some ⟨sb, 0, none⟩) 5 5) ∧ IsChart w'.heap.size w' (some ⟨sb, 0, none⟩) exw 4 ∧ Below w.heap.size w w'

set_option maxRecDepth 100000 in
set_option maxHeartbeats 2000000 in
theorem example11 (w : World) : Calls Try.prog 11 #[] w (ExPost w) := by
  go_enter Try.func11, Try.ntmps11
  go_wp2
  generalize hX : World.alloc (World.alloc (World.alloc w _) _) _ = X
  have hb : Below w.heap.size w X := by rw [← hX]; exact (((Below.refl _ _).alloc (Nat.le_refl _) _).alloc (by simp) _).alloc (by simp; omega) _
  have hs : X.heap.size = w.heap.size + 3 := by rw [← hX]; simp
  have x0 : X.cell? ⟨w.heap.size, 0, none⟩ = some (.int .i64 4) := by rw [← hX, World.cell?_alloc_past _ _ _ (by simp <;> omega), World.cell?_alloc_past _ _ _ (by simp <;> omega), World.cell?_alloc_at _ _ _ _ rfl]; rfl
  have x1 : X.cell? ⟨w.heap.size, 1, none⟩ = some (.slice (some ⟨w.heap.size + 1 + 1, 0, none⟩) 5 5) := by rw [← hX, World.cell?_alloc_past _ _ _ (by simp <;> omega), World.cell?_alloc_past _ _ _ (by simp <;> omega), World.cell?_alloc_at _ _ _ _ rfl]; rfl
  have xc : ∀ o, X.cell? ⟨w.heap.size + 1 + 1, o, none⟩ = (exw.flatMap wcells)[o]? := fun o => by
    rw [← hX, World.cell?_alloc_at _ _ _ _ (by simp), List.getElem?_toArray]
    rfl
  refine bodyPost_ret (v := cv 4 (some ⟨w.heap.size + 1 + 1, 0, none⟩) 5 5) ?_ rfl ?_
  · clear hX
    simp [results, asAddr, loadVar, go_sem, x0, x1]
  · refine ⟨_, rfl, ⟨exw_chart, .inr ⟨_, 0, rfl, by omega, fun j hj => ?_⟩⟩, hb⟩
    have key : ∀ t, t < 7 → X.cell? ⟨w.heap.size + 1 + 1, 0 + j * 7 + t, none⟩ = (wcells (Rd.way exw j))[t]? := fun t ht => by
      rw [xc, Nat.zero_add, flat_get exw j t hj ht]
    exact ⟨key 0 (by decide), key 1 (by decide), key 2 (by decide), key 3 (by decide), key 4 (by decide), key 5 (by decide), key 6 (by decide)⟩
end Go.Proofs.Ytdmmjlhcjmdajaa
