/-
  The contract of slices.Reverse on ints.
  Its conditions stand in each theorem.
-/
import Derived.Test.YtdmmjlhcjmdajaaWj
import Derived.BigRegion
namespace Go.Proofs.Ytdmmjlhcjmdajaa
open Go.RowKit Go.Shelf Go.Maps
set_option linter.unusedVariables false

/-- block g begins with the ints l -/
def CRow (W : World) (g : Nat) (l : List Int) : Prop := ∃ cur : Array Value, W.heap[g]? = some (.cells cur 3 (0, 0)) ∧ l.length ≤ cur.size ∧ ∀ t : Nat, t < l.length → cur[t]? = some (.int .i64 (Rd.mrk l t))
theorem CRow.cell {W b l} (h : CRow W b l) {j : Nat} (hj : j < l.length) : W.cell? ⟨b, j, none⟩ = some (.int .i64 (Rd.mrk l j)) := by
  obtain ⟨cur, h1, h2, h3⟩ := h
  unfold World.cell?
  rw [show W.heap[(⟨b, j, none⟩ : Addr).block]? = _ from h1]
  simpa using h3 j hj
theorem CRow.frozen {W b l} (h : CRow W b l) (j : Nat) : W.frozen? ⟨b, j, none⟩ = false := by
  obtain ⟨cur, h1, h2, h3⟩ := h
  unfold World.frozen?
  rw [show W.heap[(⟨b, j, none⟩ : Addr).block]? = _ from h1]
  simp
theorem CRow.lt {W b l} (h : CRow W b l) : b < W.heap.size := by obtain ⟨cur, h1, _⟩ := h; exact (Array.getElem?_eq_some_iff.1 h1).1
theorem CRow.same {W W' b l} (h : CRow W b l) (hs : W'.heap[b]? = W.heap[b]?) : CRow W' b l := by obtain ⟨cur, h1, r⟩ := h; exact ⟨cur, hs.trans h1, r⟩
theorem CRow.ints {W b l} (h : CRow W b l) {n0 : Nat} (hn : b < n0) : Ints n0 W (some ⟨b, 0, none⟩) l := .inr ⟨b, 0, rfl, hn, fun j hj => by rw [Nat.zero_add]; exact h.cell hj⟩
theorem CRow.set {W b l} (h : CRow W b l) {j : Nat} (hj : j < l.length) (v : Int) : CRow (W.setCell ⟨b, j, none⟩ (.int .i64 v)) b (l.set j v) := by
  obtain ⟨cur, h1, h2, h3⟩ := h
  refine ⟨cur.setIfInBounds j (.int .i64 v), ?_, by simpa using h2, fun t ht => ?_⟩
  · unfold World.setCell
    dsimp only
    rw [Array.getElem?_modify, if_pos rfl, h1]
    simp
  · rw [List.length_set] at ht
    rw [Array.getElem?_setIfInBounds]
    by_cases e : j = t
    · subst e
      have : j < cur.size := by omega
      simp [this, Rd.mrk, List.getD_eq_getElem?_getD, hj]
    · rw [if_neg e, h3 t ht]
      simp [Rd.mrk, List.getD_eq_getElem?_getD, e]
theorem IRow.crow {W b l} (h : IRow W b l) : CRow W b l := ⟨_, h, by simp, fun t ht => by simp [Rd.mrk, List.getD_eq_getElem?_getD, ht]⟩

theorem mrk_set (l : List Int) (j : Nat) (v : Int) (t : Nat) (hj : j < l.length) : Rd.mrk (l.set j v) t = if t = j then v else Rd.mrk l t := by
  simp only [Rd.mrk, Int.toNat_natCast, List.getD_eq_getElem?_getD, List.getElem?_set]
  by_cases e : j = t
  · subst e; simp [hj]
  · have : ¬ t = j := fun h => e h.symm
    simp [e, this]
theorem list_ext_mrk {a b : List Int} (h : a.length = b.length) (h2 : ∀ t : Nat, t < a.length → Rd.mrk a t = Rd.mrk b t) : a = b := by
  apply List.ext_getElem h
  intro t h3 h4
  have := h2 t h3
  simpa [Rd.mrk, List.getD_eq_getElem?_getD, h3, h4] using this
theorem mrk_reverse (l : List Int) (t : Nat) (h : t < l.length) : Rd.mrk l.reverse t = Rd.mrk l (l.length - 1 - t : Nat) := by
  simp only [Rd.mrk, Int.toNat_natCast, List.getD_eq_getElem?_getD]
  rw [List.getElem?_reverse h]

/-- the row when k pairs are exchanged -/
def Half (l M : List Int) (k : Nat) : Prop := M.length = l.length ∧ ∀ t : Nat, t < l.length → Rd.mrk M t = if t < k ∨ l.length ≤ t + k then Rd.mrk l (l.length - 1 - t : Nat) else Rd.mrk l t
theorem Half.done {l M : List Int} {k : Nat} (h : Half l M k) (hk : (l.length : Int) ≤ 2 * k + 1) : M = l.reverse := by
  refine list_ext_mrk (by simp [h.1]) (fun t ht => ?_)
  rw [h.1] at ht
  rw [h.2 t ht, mrk_reverse l t ht]
  split
  · rfl
  · have : l.length - 1 - t = t := by omega
    rw [this]
theorem Half.step {l M : List Int} {k : Nat} (h : Half l M k) (hk : 2 * k + 1 < l.length) : Half l ((M.set k (Rd.mrk M (l.length - 1 - k : Nat))).set (l.length - 1 - k) (Rd.mrk M k)) (k + 1) := by
  refine ⟨by simp [h.1], fun t ht => ?_⟩
  rw [mrk_set _ _ _ _ (by simp [h.1]; omega), mrk_set _ _ _ _ (by rw [h.1]; omega)]
  rw [h.2 (l.length - 1 - k) (by omega), h.2 k (by omega), h.2 t ht]
  rw [if_neg (show ¬ (l.length - 1 - k < k ∨ l.length ≤ l.length - 1 - k + k) by omega), if_neg (show ¬ (k < k ∨ l.length ≤ k + k) by omega)]
  by_cases e1 : t = l.length - 1 - k
  · rw [if_pos e1, if_pos (by omega)]
    congr 1; omega
  · rw [if_neg e1]
    by_cases e2 : t = k
    · rw [if_pos e2, if_pos (by omega), e2]
    · rw [if_neg e2]
      by_cases e3 : t < k ∨ l.length ≤ t + k
      · rw [if_pos e3, if_pos (by omega)]
      · rw [if_neg e3, if_neg (by omega)]

set_option maxHeartbeats 2000000 in
theorem reverse_any (g cap : Nat) (l : List Int) (n0 : Nat) (hl : l.length ≤ 100000) (w : World) (h : CRow w g l) (hn : n0 ≤ g) :
   Calls Try.prog 27 #[.slice (some ⟨g, 0, none⟩) l.length cap] w fun e w' => e = .returned (.tuple #[]) ∧ CRow w' g l.reverse ∧ Below n0 w w' := by
  obtain ⟨n, hN⟩ : ∃ n, n = l.length := ⟨_, rfl⟩
  rw [← hN] at hl ⊢
  have HN := Lib.hid hN; clear hN
  have HH := Lib.hid h; clear h
  go_enter Try.func27, Try.ntmps27
  go_wp2_with fail
  go_loopw [2, 3] (fun i j wr => ∃ (k : Nat) (M : List Int), k ≤ n ∧ i = .int .i64 k ∧ j = .int .i64 ((n : Int) - 1 - k) ∧ Hid (Half l M k ∧ CRow wr g M ∧ Below n0 w wr)) (fun i _ _ => n - (intOf i).toNat)
  case atStart => exact ⟨0, l, Nat.zero_le _, rfl, by simp, ⟨rfl, fun t ht => by rw [if_neg (by omega)]⟩, HH.out, Below.refl _ _⟩
  case round =>
    obtain ⟨k, M, hk, rfl, rfl, hM⟩ := hrel
    by_cases hlt : (k : Int) < (n : Int) - 1 - k
    · have hlM : M.length = n := by rw [hM.out.1.1, ← HN.out]
      obtain ⟨j, hj⟩ : ∃ j : Nat, (n : Int) - 1 - k = j := ⟨n - 1 - k, by omega⟩
      rw [hj] at hlt ⊢
      have hjn : j < n := by omega
      have hkj : k < j := by omega
      have HJ := Lib.hid hj; clear hj
      have c1 := hM.out.2.1.cell (j := k) (by omega)
      have c2 := hM.out.2.1.cell (j := j) (by omega)
      have f1 := hM.out.2.1.frozen k
      have f2 := hM.out.2.1.frozen j
      have s1 := (hM.out.2.1.set (j := k) (by omega) (Rd.mrk M j)).cell (j := j) (by rw [List.length_set]; omega)
      have s2 := (hM.out.2.1.set (j := j) (by omega) (Rd.mrk M k)).cell (j := k) (by rw [List.length_set]; omega)
      have g1 := (hM.out.2.1.set (j := k) (by omega) (Rd.mrk M j)).frozen j
      have g2 := (hM.out.2.1.set (j := j) (by omega) (Rd.mrk M k)).frozen k
      go_wp2_with fail
      go_region
      go_wp2_with fail
      have hjl : j = l.length - 1 - k := by have := HJ.out; have := HN.out; omega
      have hst := hM.out.1.step (by have := HJ.out; have := HN.out; omega)
      rw [← hjl] at hst
      have hcr := (hM.out.2.1.set (j := k) (by omega) (Rd.mrk M j)).set (j := j) (by rw [List.length_set]; omega) (Rd.mrk M k)
      have hbl : Below n0 w ((wr.setCell { block := g, off := k } (Value.int IntKind.i64 (Rd.mrk M ↑j))).setCell { block := g, off := j } (Value.int IntKind.i64 (Rd.mrk M ↑k))).drew := ((hM.out.2.2.setCell (p := ⟨g, k, none⟩) hn _).setCell (p := ⟨g, j, none⟩) hn _).drew
      have hj2 : ((j : Int) - 1) = (n : Int) - 1 - ((k + 1 : Nat) : Int) := by have := HJ.out; omega
      exact ⟨⟨k + 1, _, by omega, by go_num, by rw [hj2], ⟨hst, hcr, hbl⟩⟩, by simp [intOf]; omega⟩
    · go_wp2_with fail
      go_end0
      have := hM.out.1.done (by rw [← HN.out]; omega)
      rw [this] at hM
      exact ⟨rfl, hM.out.2⟩

theorem reverse_nil (n0 : Nat) (w : World) : Calls Try.prog 27 #[.slice none 0 0] w fun e w' => e = .returned (.tuple #[]) ∧ Below n0 w w' := by
  go_enter Try.func27, Try.ntmps27
  go_wp2_with fail
  go_loopw [2, 3] (fun i j wr => i = .int .i64 0 ∧ j = .int .i64 (-1) ∧ Below n0 w wr) (fun _ _ _ => 0)
  case atStart => exact ⟨rfl, rfl, Below.refl _ _⟩
  case round =>
    obtain ⟨rfl, rfl, hb⟩ := hrel
    go_wp2_with fail
    go_end0
    exact ⟨rfl, hb⟩
end Go.Proofs.Ytdmmjlhcjmdajaa
