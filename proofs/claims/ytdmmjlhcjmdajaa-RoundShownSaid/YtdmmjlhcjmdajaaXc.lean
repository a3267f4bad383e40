/-
  The contract of without at the example.
  Its conditions stand in each theorem.
-/
import Derived.Test.YtdmmjlhcjmdajaaXb
import Derived.Deep.RegionWith
import Derived.Deep.RegionHeld3
namespace Go.Proofs.Ytdmmjlhcjmdajaa
open Go.RowKit Go.Shelf Go.Maps
set_option linter.unusedVariables false

theorem owns_wrow {W : World} {base : Nat} {v : Value} (h : W.ownsRow base 64 7 v 5 (exw.flatMap wcells)) : ∃ g cap, v = .slice (some ⟨g, 0, none⟩) 5 cap ∧ base ≤ g ∧ g < W.heap.size ∧ 5 ≤ cap ∧ cap ≤ maxLen ∧ WRow W g cap (exw.flatMap wcells) := by
  rcases h.2 with ⟨-, h0⟩ | ⟨g, cap, cur, rfl, hg, hh, hn, hm, hs, ht⟩
  · omega
  · refine ⟨g, cap, rfl, hg, (Array.getElem?_eq_some_iff.1 hh).1, hn, hm, cur, hh, hs, fun i u hi => ?_⟩
    rw [← ht] at hi
    have hlt : i < 5 * 7 := by
      have := (List.getElem?_eq_some_iff.1 hi).1
      rw [List.length_take] at this
      omega
    rw [List.getElem?_take_of_lt hlt] at hi
    simpa using hi

theorem WRow.other {W : World} {g cap c j : Nat} {l : List Value} {v : Value} (h : WRow W g cap l) (hne : g ≠ c) : WRow (W.setCell ⟨c, j, none⟩ v) g cap l := by
  obtain ⟨cur, k1, k2, k3⟩ := h
  exact ⟨cur, (Below.heap_setCell _ _ _ _ hne).trans k1, k2, k3⟩
theorem exless_chart : Rd.Chart exless 4 := by
  refine ⟨by decide, by decide, by decide, fun i h0 h1 => ?_⟩
  obtain ⟨k, rfl⟩ := Int.eq_ofNat_of_zero_le h0
  have hk : k < 4 := by
    have h9 : (k : Int) < 4 := h1
    omega
  have : k = 0 ∨ k = 1 ∨ k = 2 ∨ k = 3 := by omega
  rcases this with rfl | rfl | rfl | rfl <;> exact ⟨by decide, by decide, by decide, by decide, by decide, by decide, by decide, by decide, by decide, by decide, by decide, by decide, by decide⟩

theorem wrow_chart {W : World} {g cap : Nat} (h : WRow W g cap (exless.flatMap wcells)) (hg : g < W.heap.size) : IsChart W.heap.size W (some ⟨g, 0, none⟩) exless 4 := by
  refine ⟨exless_chart, .inr ⟨g, 0, rfl, hg, fun j hj => ?_⟩⟩
  have key : ∀ t u, t < 7 → (wcells (Rd.way exless j))[t]? = some u → W.cell? ⟨g, 0 + j * 7 + t, none⟩ = some u := fun t u ht hu => h.cell _ u (by rw [Nat.zero_add, flat_get exless j t hj ht]; exact hu)
  exact ⟨key 0 _ (by decide) rfl, key 1 _ (by decide) rfl, key 2 _ (by decide) rfl, key 3 _ (by decide) rfl, key 4 _ (by decide) rfl, key 5 _ (by decide) rfl, key 6 _ (by decide) rfl⟩

def WithoutPost (w : World) (e : Ending) (w' : World) : Prop :=
  ∃ g c, e = .returned (cv 4 (some ⟨g, 0, none⟩) 4 c) ∧ IsChart w'.heap.size w' (some ⟨g, 0, none⟩) exless 4 ∧ Below w.heap.size w w'

set_option maxRecDepth 100000 in
set_option maxHeartbeats 2000000 in
theorem without40 (sb so cap : Nat) (w : World) (ch : IsChart w.heap.size w (some ⟨sb, so, none⟩) exw 4) :
   Calls Try.prog 40 #[cv 4 (some ⟨sb, so, none⟩) 5 cap, .int .i64 2] w (WithoutPost w) := by
  obtain ⟨sb', so', hse, hsb, h7⟩ := ch.wy.resolve_left (by decide)
  cases hse
  obtain ⟨w1, hw1⟩ : ∃ w1, w1 = ((w.alloc (Obj.cells #[Value.int IntKind.i64 4, Value.slice (some ⟨sb, so, none⟩) 5 cap] 31)).alloc (Obj.cells #[Value.int .i64 0, .slice none 0 0] 31)) := ⟨_, rfl⟩
  have hb1 : Below w.heap.size w w1 := by rw [hw1]; exact ((Below.refl _ _).alloc (Nat.le_refl _) _).alloc (by simp) _
  have hs1 : w1.heap.size = w.heap.size + 2 := by rw [hw1]; simp
  have c0 : w1.cell? ⟨w.heap.size, 0, none⟩ = some (.int .i64 4) := by rw [hw1]; go_simp
  have c1 : w1.cell? ⟨w.heap.size, 1, none⟩ = some (.slice (some ⟨sb, so, none⟩) 5 cap) := by rw [hw1]; go_simp
  have d0 : w1.cell? ⟨w.heap.size + 1, 0, none⟩ = some (.int .i64 0) := by rw [hw1]; go_simp
  have d1 : w1.cell? ⟨w.heap.size + 1, 1, none⟩ = some (.slice none 0 0) := by rw [hw1]; go_simp
  have d2 : w1.frozen? ⟨w.heap.size + 1, 0, none⟩ = false := by rw [hw1]; go_simp
  have d3 : w1.frozen? ⟨w.heap.size + 1, 1, none⟩ = false := by rw [hw1]; go_simp
  have hlt : w.heap.size < w1.heap.size := by omega
  have hlt1 : w.heap.size + 1 < w1.heap.size := by omega
  have HS1 := Lib.hid hs1; clear hs1
  have h7' : ∀ j : Nat, j < exw.length → W7 w1.drew sb (so + j * 7) (Rd.way exw j) := fun j hj => (h7 j hj).below (hb1.drew) hsb
  have H7 := Lib.hid h7'; clear h7' h7
  have hcl := clone58 sb so cap exw 5 rfl (by decide) (by decide) w1.drew (by show sb < w1.heap.size; omega) H7.out
  go_enter Try.func40, Try.ntmps40
  go_wp2_with fail
  rw [← hw1]
  clear hw1
  go_region_held3 (fun w' => w'.cell? ⟨w.heap.size, 0, none⟩ = some (.int .i64 4) ∧ w'.cell? ⟨w.heap.size, 1, none⟩ = some (.slice (some ⟨sb, so, none⟩) 5 cap)) (first | exact ⟨c0, c1⟩ | exact ⟨c3, c4⟩ | exact ⟨c5, c6⟩ | go_keep)
    (first
      | (go_at_call 58; refine hcl.mono ?_; rintro e w3 ⟨v, rfl, hown, hb3⟩; obtain ⟨g, cp, rfl, hg, hgl, hcp, hmx, hrow⟩ := owns_wrow hown; have hb3' : Below w1.heap.size w1 w3 := (Below.refl _ _).drew.trans hb3; have hg' : w1.heap.size ≤ g := hg; have c3 := (hb3'.cell (p := ⟨w.heap.size, 0, none⟩) hlt).trans c0; have c4 := (hb3'.cell (p := ⟨w.heap.size, 1, none⟩) hlt).trans c1)
      | (go_at_call 57; refine (delete57 g cp hcp hmx w3 hrow w1.heap.size hg').mono ?_; rintro e w5 ⟨rfl, hrow5, hb5⟩; have hbX : Below w1.heap.size w1 w5 := hb3'.trans hb5; have c5 := (hbX.cell (p := ⟨w.heap.size, 0, none⟩) hlt).trans c0; have c6 := (hbX.cell (p := ⟨w.heap.size, 1, none⟩) hlt).trans c1; have d5 := (hbX.cell (p := ⟨w.heap.size + 1, 0, none⟩) hlt1).trans d0; have d6 := (hbX.cell (p := ⟨w.heap.size + 1, 1, none⟩) hlt1).trans d1; have d7 := (hbX.frozen (p := ⟨w.heap.size + 1, 0, none⟩) hlt1).trans d2; have d8 := (hbX.frozen (p := ⟨w.heap.size + 1, 1, none⟩) hlt1).trans d3))
  go_wp2_with fail
  have hgl5 : g < w5.heap.size := Nat.lt_of_lt_of_le hgl hb5.size
  have hr6 := (hrow5.other (c := w.heap.size + 1) (j := 0) (v := .int .i64 4) (by omega)).other (c := w.heap.size + 1) (j := 1) (v := .slice (some ⟨g, 0, none⟩) 4 cp) (by omega)
  have hb6 : Below w.heap.size w ((w5.setCell ⟨w.heap.size + 1, 0, none⟩ (.int .i64 4)).setCell ⟨w.heap.size + 1, 1, none⟩ (.slice (some ⟨g, 0, none⟩) 4 cp)) := ((hb1.trans (hbX.mono (by omega))).setCell (p := ⟨w.heap.size + 1, 0, none⟩) (by show _ ≤ w.heap.size + 1; omega) _).setCell (p := ⟨w.heap.size + 1, 1, none⟩) (by show _ ≤ w.heap.size + 1; omega) _
  have x1 : ((w5.setCell ⟨w.heap.size + 1, 0, none⟩ (.int .i64 4)).setCell ⟨w.heap.size + 1, 1, none⟩ (.slice (some ⟨g, 0, none⟩) 4 cp)).cell? ⟨w.heap.size + 1, 1, none⟩ = some (.slice (some ⟨g, 0, none⟩) 4 cp) := World.cell?_setCell_same _ _ _ (by rw [World.cell?_setCell_other _ _ _ _ (fun h => by injection h with h1 h2 h3; omega)]; exact d6)
  have x0 : ((w5.setCell ⟨w.heap.size + 1, 0, none⟩ (.int .i64 4)).setCell ⟨w.heap.size + 1, 1, none⟩ (.slice (some ⟨g, 0, none⟩) 4 cp)).cell? ⟨w.heap.size + 1, 0, none⟩ = some (.int .i64 4) := by rw [World.cell?_setCell_other _ _ _ _ (fun h => by injection h with h1 h2 h3; omega)]; exact World.cell?_setCell_same _ _ _ d5
  have hsz : ((w5.setCell ⟨w.heap.size + 1, 0, none⟩ (.int .i64 4)).setCell ⟨w.heap.size + 1, 1, none⟩ (.slice (some ⟨g, 0, none⟩) 4 cp)).heap.size = w5.heap.size := by simp [World.setCell]
  generalize (w5.setCell ⟨w.heap.size + 1, 0, none⟩ (.int .i64 4)).setCell ⟨w.heap.size + 1, 1, none⟩ (.slice (some ⟨g, 0, none⟩) 4 cp) = X at *
  refine bodyPost_ret (v := cv 4 (some ⟨g, 0, none⟩) 4 cp) ?_ rfl ?_
  · simp [results, asAddr, loadVar, go_sem, x0, x1]
  · exact ⟨g, cp, rfl, wrow_chart hr6 (by omega), hb6⟩
end Go.Proofs.Ytdmmjlhcjmdajaa
