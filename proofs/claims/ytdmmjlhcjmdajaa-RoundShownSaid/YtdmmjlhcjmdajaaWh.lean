/-
  The contract of minutes.
  Its conditions stand in each theorem.
-/
import Derived.Test.YtdmmjlhcjmdajaaWg
namespace Go.Proofs.Ytdmmjlhcjmdajaa
open Go.RowKit Go.Shelf Go.Maps
set_option linter.unusedVariables false

/-- block b is a row of ints, not frozen -/
def IRow (W : World) (b : Nat) (l : List Int) : Prop := W.heap[b]? = some (.cells (l.map (Value.int .i64)).toArray 3 (0, 0))
theorem IRow.cell {W b l} (h : IRow W b l) {j : Nat} (hj : j < l.length) : W.cell? ⟨b, j, none⟩ = some (.int .i64 (Rd.mrk l j)) := by
  unfold World.cell?
  rw [show W.heap[(⟨b, j, none⟩ : Addr).block]? = _ from h]
  simp [Rd.mrk, List.getD_eq_getElem?_getD, hj]
theorem IRow.frozen {W b l} (h : IRow W b l) (j : Nat) : W.frozen? ⟨b, j, none⟩ = false := by
  unfold World.frozen?
  rw [show W.heap[(⟨b, j, none⟩ : Addr).block]? = _ from h]
  simp
theorem IRow.lt {W b l} (h : IRow W b l) : b < W.heap.size := (Array.getElem?_eq_some_iff.1 h).1
theorem IRow.same {W W' b l} (h : IRow W b l) (hs : W'.heap[b]? = W.heap[b]?) : IRow W' b l := hs.trans h
theorem IRow.alloc {W b l} (h : IRow W b l) (o : Obj) : IRow (W.alloc o) b l := h.same (Below.heap_alloc _ _ _ h.lt)
theorem IRow.below {W W' b l n} (h : IRow W b l) (hb : Below n W W') (hn : b < n) : IRow W' b l := h.same (hb.block b hn)
theorem IRow.set {W b l} (h : IRow W b l) (j : Nat) (v : Int) : IRow (W.setCell ⟨b, j, none⟩ (.int .i64 v)) b (l.set j v) := by
  unfold IRow World.setCell
  dsimp only
  rw [Array.getElem?_modify, if_pos rfl, show W.heap[b]? = _ from h]
  simp [List.map_set]
theorem IRow.other {W b l} (h : IRow W b l) {c j : Nat} (v : Value) (hne : b ≠ c) : IRow (W.setCell ⟨c, j, none⟩ v) b l := h.same (Below.heap_setCell _ _ _ _ hne)
theorem IRow.made (W : World) (n : Nat) : IRow (W.alloc (.cells (madeCells #[Value.int .i64 0] n) 3)) W.heap.size (List.replicate n 0) := by
  unfold IRow
  rw [World.alloc_heap_new]
  have : madeCells #[Value.int .i64 0] n = ((List.replicate n (0 : Int)).map (Value.int .i64)).toArray := by
    apply Array.ext
    · simp [madeCells]
    · intro i h1 h2
      simp [madeCells, Nat.mod_one]
  rw [this]
theorem _root_.Go.Proofs.Ytdmmjlhcjmdajaa.MapIs.setCell {W : World} {b N : Nat} {L : Rd.Tab} (h : MapIs W b N L) {c j : Nat} (v : Value) (hne : b ≠ c) : MapIs (W.setCell ⟨c, j, none⟩ v) b N L := h.same (Below.heap_setCell _ _ _ _ hne)
theorem IRow.ints {W b l} (h : IRow W b l) {n0 : Nat} (hn : b < n0) : Ints n0 W (some ⟨b, 0, none⟩) l := .inr ⟨b, 0, rfl, hn, fun j hj => by rw [Nat.zero_add]; exact h.cell hj⟩

/-- the first k of M, then zeros -/
def upTo (M : List Int) (k : Nat) : List Int := M.take k ++ List.replicate (M.length - k) 0
theorem upTo_len (M : List Int) (k : Nat) (hk : k ≤ M.length) : (upTo M k).length = M.length := by simp [upTo]; omega
theorem upTo_zero (M : List Int) : upTo M 0 = List.replicate M.length 0 := by simp [upTo]
theorem upTo_all (M : List Int) : upTo M M.length = M := by simp [upTo]
theorem upTo_set (M : List Int) (k : Nat) (hk : k < M.length) : (upTo M k).set k (Rd.mrk M k) = upTo M (k + 1) := by
  apply List.ext_getElem
  · simp [upTo]; omega
  · intro i h1 h2
    simp [upTo] at h1 h2
    simp only [upTo, List.getElem_set, List.getElem_append, List.getElem_take, List.getElem_replicate, List.length_take, Rd.mrk, List.getD_eq_getElem?_getD]
    by_cases e : k = i
    · subst e; simp [hk]; intro h; omega
    · rw [if_neg e]
      by_cases h : i < k
      · rw [dif_pos (by omega), dif_pos (by omega)]
      · rw [dif_neg (by omega), dif_neg (by omega)]

theorem info3 : (Try.prog.info? 3).map (fun i => (i.zero, i.size, i.bytes)) = some (some (.int .i64 0), 1, 8) := by kernel_rfl

set_option maxHeartbeats 1000000 in
theorem minutes_any (n : Nat) (sa : Option Addr) (len cap : Nat) (b N : Nat) (O : Rd.Tab) (w : World) (hn : n ≤ 12) (hO : O.length = n) (hm : MapIs w b N O) (hb1 : b < w.heap.size) :
   Calls Try.prog 20 #[cv n sa len cap, .map (some b)] w fun e w' => e = .returned (.slice (some ⟨w.heap.size + 1, 0, none⟩) n n) ∧ IRow w' (w.heap.size + 1) (Rd.mins O) ∧ Below w.heap.size w w' := by
  obtain ⟨i0, hi, hz0, hz1, hz2⟩ := info_parts info3
  have hML : (Rd.mins O).length = n := by rw [Rd.mins_len, hO]
  have hmk : ∀ W : World, (Instr.makeSlice 27 (.int .i64 n) (.int .i64 n)).run Try.prog W = .ok (.slice (some ⟨W.heap.size, 0, none⟩) n n) (W.alloc (.cells (madeCells #[Value.int .i64 0] n) 3)) := by
    intro W
    have := run_make (P := Try.prog) W 27 3 i0 (.int .i64 0) Try.underlying27 hi hz0 .i64 .i64 n n (by omega) (by omega) (by rw [hz2]; omega) (by omega)
    rw [hz1] at this
    simpa [Value.cells] using this
  have HI := Lib.hid (And.intro hi (And.intro hz0 (And.intro hz1 hz2))); clear hi hz0 hz1 hz2
  have HL := Lib.hid hML; clear hML
  have HO := Lib.hid hO; clear hO
  have hrow := IRow.made (w.alloc (.cells #[.int .i64 n, .slice sa len cap] 31)) n
  rw [World.size_alloc] at hrow
  have hbel : Below w.heap.size w ((w.alloc (.cells #[.int .i64 n, .slice sa len cap] 31)).alloc (.cells (madeCells #[Value.int .i64 0] n) 3)) := ((Below.refl _ _).alloc (Nat.le_refl _) _).alloc (by simp) _
  go_enter Try.func20, Try.ntmps20
  go_wp2_with fail
  go_loopw [14] (fun i wr => ∃ k : Nat, k ≤ n ∧ i = .int .i64 k ∧ IRow wr (w.heap.size + 1) (upTo (Rd.mins O) k) ∧ Below w.heap.size w wr) (fun i _ => n - (intOf i).toNat)
  case atStart => exact ⟨0, Nat.zero_le _, rfl, by rw [upTo_zero, HL.out]; exact hrow, hbel⟩
  case round =>
    clear hrow hbel
    obtain ⟨k, hk, rfl, hrow, hbel⟩ := hrel
    by_cases hlt : k < n
    · have hlu : (upTo (Rd.mins O) k).length = n := by rw [upTo_len _ _ (by rw [HL.out]; omega), HL.out]
      have hc := hrow.cell (j := k) (by omega)
      have hf := hrow.frozen k
      have hsz := hrow.lt
      have hmr : MapIs wr b N O := hm.same (hbel.block b hb1)
      have hset := upTo_set (Rd.mins O) k (by rw [HL.out]; omega)
      have hmm := Rd.mrk_mins O k (by omega) (by rw [HO.out]; omega)
      generalize upTo (Rd.mins O) k = L at *
      have HS := Lib.hid hset; have HM := Lib.hid hmm; have HLU := Lib.hid hlu; clear hset hmm hlu
      have HR := Lib.hid hrow; clear hrow
      have h1 := HR.out.set k (-1)
      have hlt1 := h1.lt
      have h1c := h1.cell (j := k) (by rw [List.length_set, HLU.out]; omega)
      have h1f := h1.frozen k
      have hbel1 : Below w.heap.size w (wr.setCell ⟨w.heap.size + 1, k, none⟩ (.int .i64 (-1))) := hbel.setCell (by simp) _
      have e1 := (hmr.setCell (c := w.heap.size + 1) (j := k) (.int .i64 (-1)) (by omega)).look_ok k (by omega) (by omega)
      cases hg : Rd.gt O k with
      | none => 
        rw [hg] at e1
        dsimp only [Option.getD_none, Option.isSome_none] at e1
        have HG := Lib.hid hg; clear hg
        go_wp2_with fail
        have hm1 : Rd.mrk (Rd.mins O) k = -1 := by rw [HM.out, HG.out]
        have hr1 := HS.out
        rw [hm1] at hr1
        go_roundw
        case rel => exact ⟨k + 1, by omega, by go_num, by rw [← hr1]; exact h1.alloc _, hbel1.alloc (by have := hbel1.size; omega) _⟩
        case measure => simp [intOf]; omega
      | some x =>
        rw [hg] at e1
        dsimp only [Option.getD_some, Option.isSome_some] at e1
        have HG := Lib.hid hg; clear hg
        have h2c := (h1.alloc (Obj.cells #[Value.int IntKind.i64 x.1, Value.int IntKind.i64 x.2] 78)).cell (j := k) (by rw [List.length_set, HLU.out]; omega)
        have h2f := (h1.alloc (Obj.cells #[Value.int IntKind.i64 x.1, Value.int IntKind.i64 x.2] 78)).frozen k
        go_wp2_with fail
        have hm1 : Rd.mrk (Rd.mins O) k = x.1 := by rw [HM.out, HG.out]
        have hr1 := HS.out
        rw [hm1] at hr1
        have h3 := h1.set k x.1
        rw [List.set_set, hr1] at h3
        go_roundw
        case rel => exact ⟨k + 1, by omega, by go_num, h3.alloc _, ((hbel1.setCell (p := ⟨w.heap.size + 1, k, none⟩) (by simp) _).alloc (by have := hbel1.size; simp [World.setCell] at this ⊢; omega) _)⟩
        case measure => simp [intOf]; omega
    · obtain rfl : k = n := by omega
      go_wp2_with fail
      go_ret
      have e := upTo_all (Rd.mins O)
      rw [HL.out] at e
      rw [e] at hrow
      exact ⟨rfl, hrow, hbel⟩
end Go.Proofs.Ytdmmjlhcjmdajaa
