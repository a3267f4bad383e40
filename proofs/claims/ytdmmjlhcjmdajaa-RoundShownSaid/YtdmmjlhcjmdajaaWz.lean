/-
  The contract of slices.Clone on ways.
  Its conditions stand in each theorem.
-/
import Derived.Test.YtdmmjlhcjmdajaaWy
namespace Go.Proofs.Ytdmmjlhcjmdajaa
open Go.RowKit Go.Shelf Go.Maps
set_option linter.unusedVariables false

theorem wys_cells {n0 : Nat} {W : World} {sb so : Nat} {ws : List Rd.Wy} (h : ∀ j : Nat, j < ws.length → W7 W sb (so + j * 7) (Rd.way ws j)) : ∀ i u, (ws.flatMap wcells)[i]? = some u → W.cell? ((⟨sb, so, none⟩ : Addr).add i) = some u := by
  intro i u hi
  have hlen : (ws.flatMap wcells).length = ws.length * 7 := by
    clear h hi
    induction ws with
    | nil => rfl
    | cons a ws ih => rw [List.flatMap_cons, List.length_append, ih]; simp [wcells]; omega
  have hlt := (List.getElem?_eq_some_iff.1 hi).1
  rw [hlen] at hlt
  have hj : i / 7 < ws.length := by omega
  have ht : i % 7 < 7 := Nat.mod_lt _ (by decide)
  have e : i = i / 7 * 7 + i % 7 := by omega
  rw [e, flat_get ws (i / 7) (i % 7) hj ht] at hi
  have h7 := h (i / 7) hj
  have ea : (⟨sb, so, none⟩ : Addr).add i = ⟨sb, so + i / 7 * 7 + i % 7, none⟩ := by
    have e1 : (⟨sb, so, none⟩ : Addr).add i = ⟨sb, so + i, none⟩ := by simp [Addr.add]
    rw [e1]; congr 1; omega
  rw [ea]
  generalize i / 7 = j at *
  generalize hq : i % 7 = t at *
  have : t = 0 ∨ t = 1 ∨ t = 2 ∨ t = 3 ∨ t = 4 ∨ t = 5 ∨ t = 6 := by omega
  rcases this with rfl | rfl | rfl | rfl | rfl | rfl | rfl
  · exact h7.c0.trans hi
  · exact h7.c1.trans hi
  · exact h7.c2.trans hi
  · exact h7.c3.trans hi
  · exact h7.c4.trans hi
  · exact h7.c5.trans hi
  · exact h7.c6.trans hi

set_option maxRecDepth 100000 in
set_option maxHeartbeats 2000000 in
theorem clone58 (sb so cap : Nat) (ws : List Rd.Wy) (len : Nat) (hl : ws.length = len) (hlen : len ≤ 40) (h1 : 1 ≤ len) (w : World) (hsb : sb < w.heap.size) (h : ∀ j : Nat, j < ws.length → W7 w sb (so + j * 7) (Rd.way ws j)) :
   Calls Try.prog 58 #[.slice (some ⟨sb, so, none⟩) len cap] w fun e w' => ∃ v, e = .returned v ∧ w'.ownsRow w.heap.size 64 7 v len (ws.flatMap wcells) ∧ Below w.heap.size w w' := by
  obtain ⟨i0, hi, hz0, hz1, hz2⟩ := info_parts info64
  have HI := Lib.hid (And.intro hi (And.intro hz0 (And.intro hz1 hz2))); clear hi hz0 hz1 hz2
  have H := Lib.hid h; clear h
  have hfl : (ws.flatMap wcells).length = len * 7 := by
    rw [← hl]; clear hl H
    induction ws with
    | nil => rfl
    | cons a ws ih => rw [List.flatMap_cons, List.length_append, ih]; simp [wcells]; omega
  have HF := Lib.hid hfl; clear hfl
  have hb0 : Below w.heap.size w (w.alloc (Obj.cells #[] 64)) := (Below.refl _ _).alloc (Nat.le_refl _) _
  have hcc : ∀ i u, (ws.flatMap wcells)[i]? = some u → (w.alloc (Obj.cells #[] 64)).cell? ((⟨sb, so, none⟩ : Addr).add i) = some u := wys_cells (n0 := 0) (fun j hj => (H.out j hj).below hb0 hsb)
  have HC := Lib.hid hcc; clear hcc
  have hone : ∀ u ∈ ws.flatMap wcells, u.oneCell' = true := by
    intro u hu
    obtain ⟨a, _, ha⟩ := List.mem_flatMap.1 hu
    simp only [wcells, List.mem_cons, List.not_mem_nil, or_false] at ha
    rcases ha with rfl | rfl | rfl | rfl | rfl | rfl | rfl <;> rfl
  have HO := Lib.hid hone; clear hone
  have hown0 : (w.alloc (Obj.cells #[] 64)).ownsRow w.heap.size 64 7 (.slice (some ⟨w.heap.size, 0, none⟩) 0 0) 0 [] := World.ownsRow_made w #[] 0 (Nat.le_refl _) (by decide) rfl
  have HO0 := Lib.hid hown0; clear hown0
  have hnil : ∀ W : World, (binOp .eql 29 (.slice (some ⟨sb, so, none⟩) len cap) (.slice none 0 0)).run Try.prog W = .ok (.bool false) W := fun W => by rfl
  go_enter Try.func58, Try.ntmps58
  go_wp2_with (at_builtin; refine wpList_append_own _ rfl _ _ 29 rfl w.heap.size 64 i0 (wv ⟨0, 0, 0, 0, 0, 0, 0⟩) 7 56 Try.underlying29 HI.out.1 HI.out.2.1 HI.out.2.2.1 HI.out.2.2.2 rfl (by decide) _ _ _ rfl HO0.out ⟨sb, so, none⟩ len cap (ws.flatMap wcells) rfl HF.out HC.out HO.out (by unfold maxLen; omega) (by omega) (by simp) ?_)
  intro v' w5 hown' hgrow _
  have hb5 : Below w.heap.size w w5 := hb0.grown hgrow (by simp) (fun q hq => by
    have : q = w.heap.size := by simpa [Value.ownBlock] using hq.symm
    omega)
  have HH := Lib.hid (And.intro hown' hb5); clear hown' hgrow hb5
  go_wp2_with fail
  go_ret
  exact ⟨_, rfl, HH.out.1, HH.out.2⟩

end Go.Proofs.Ytdmmjlhcjmdajaa
