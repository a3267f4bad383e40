/-
  An own row of ways, and writes into it.
  Its conditions stand in each theorem.
-/
import Derived.Test.YtdmmjlhcjmdajaaWz
import Derived.ArgAppend
namespace Go.Proofs.Ytdmmjlhcjmdajaa
open Go.RowKit Go.Shelf Go.Maps
set_option linter.unusedVariables false

/-- the ways in an own row: what its first cells hold -/
def WRow (W : World) (g cap : Nat) (l : List Value) : Prop := ∃ cur : Array Value, W.heap[g]? = some (.cells cur 64 (0, 0)) ∧ cur.size = cap * 7 ∧ ∀ (i : Nat) (u : Value), l[i]? = some u → cur[i]? = some u
theorem WRow.cell {W : World} {g cap : Nat} {l : List Value} (h : WRow W g cap l) (i : Nat) (u : Value) (hi : l[i]? = some u) : W.cell? ⟨g, i, none⟩ = some u := by
  obtain ⟨cur, h1, h2, h3⟩ := h
  unfold World.cell?
  rw [show W.heap[(⟨g, i, none⟩ : Addr).block]? = _ from h1]
  simpa using h3 i u hi
theorem WRow.frozen {W : World} {g cap : Nat} {l : List Value} (h : WRow W g cap l) (i : Nat) : W.frozen? ⟨g, i, none⟩ = false := by
  obtain ⟨cur, h1, h2, h3⟩ := h
  unfold World.frozen?
  rw [show W.heap[(⟨g, i, none⟩ : Addr).block]? = _ from h1]
  simp
theorem WRow.some {W : World} {g cap : Nat} {l : List Value} (h : WRow W g cap l) (i : Nat) (hi : i < cap * 7) : (W.cell? ⟨g, i, none⟩).isSome = true := by
  obtain ⟨cur, h1, h2, h3⟩ := h
  unfold World.cell?
  rw [show W.heap[(⟨g, i, none⟩ : Addr).block]? = _ from h1]
  simp [h2, hi]
theorem WRow.setCell {W : World} {g cap : Nat} {l : List Value} (h : WRow W g cap l) (i : Nat) (u : Value) : WRow (W.setCell ⟨g, i, none⟩ u) g cap (l.set i u) := by
  obtain ⟨cur, h1, h2, h3⟩ := h
  refine ⟨cur.setIfInBounds i u, ?_, by simpa using h2, fun j x hj => ?_⟩
  · unfold World.setCell
    dsimp only
    rw [Array.getElem?_modify, if_pos rfl, h1]
    simp
  · rw [List.getElem?_set] at hj
    rw [Array.getElem?_setIfInBounds]
    by_cases e : i = j
    · rw [if_pos e] at hj ⊢
      subst e
      by_cases hl : i < l.length
      · rw [if_pos hl] at hj
        have hc : i < cur.size := by
          have := h3 i l[i] (List.getElem?_eq_getElem hl)
          exact (Array.getElem?_eq_some_iff.1 this).1
        rw [if_pos hc]; exact hj
      · rw [if_neg hl] at hj; cases hj
    · rw [if_neg e] at hj ⊢
      exact h3 j x hj
theorem WRow.setCells {g cap : Nat} : ∀ (vs : List Value) (o : Nat) (W : World) (l : List Value), WRow W g cap l → ∃ l', WRow (W.setCells g o vs) g cap l' ∧ l'.length = l.length ∧ ∀ j : Nat, l'[j]? = if o ≤ j ∧ j < o + vs.length ∧ j < l.length then vs[j - o]? else l[j]?
  | [], o, W, l, h => ⟨l, h, rfl, fun j => by rw [if_neg (by simp; omega)]⟩
  | v :: r, o, W, l, h => by
    obtain ⟨l', h1, h2, h3⟩ := WRow.setCells r (o + 1) (W.setCell ⟨g, o, none⟩ v) (l.set o v) (h.setCell o v)
    refine ⟨l', h1, by simpa using h2, fun j => ?_⟩
    rw [h3 j]
    simp only [List.length_set, List.length_cons, List.getElem?_set]
    by_cases e : o = j
    · subst e
      rw [if_neg (by omega), if_pos rfl]
      by_cases hl : o < l.length
      · rw [if_pos hl, if_pos (by omega)]; simp
      · rw [if_neg hl, if_neg (by omega), List.getElem?_eq_none (by omega)]
    · rw [if_neg e]
      by_cases hc : o + 1 ≤ j ∧ j < o + 1 + r.length ∧ j < l.length
      · rw [if_pos hc, if_pos (by omega)]
        have : j - o = (j - (o + 1)) + 1 := by omega
        rw [this, List.getElem?_cons_succ]
      · rw [if_neg hc, if_neg (by omega)]
end Go.Proofs.Ytdmmjlhcjmdajaa
