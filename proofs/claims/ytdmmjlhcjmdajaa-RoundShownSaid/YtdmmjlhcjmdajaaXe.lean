/-
  The contract of sums at the example: nothing leads out of place 3.
  Its conditions stand in each theorem.
-/
import Derived.Test.YtdmmjlhcjmdajaaXd
import Derived.BigQuiet
import Derived.Deep.QuietTactic
import Derived.BigRegion
import Derived.Deep.CutRange
import Derived.Deep.CutBlock
namespace Go.Proofs.Ytdmmjlhcjmdajaa
open Go.RowKit Go.Shelf Go.Maps
set_option linter.unusedVariables false

/-- the first k rows of a table of 4 rows; row 3 has no way out -/
structure TB (k n0 : Nat) (W : World) (d : Nat) (gs : Nat → Nat) : Prop where
  d0 : n0 ≤ d
  dr : ∃ ls : List Value, W.heap[d]? = some (.cells ls.toArray 27 (0, 0)) ∧ ls.length = 4 ∧ ∀ i : Nat, i < k → ls[i]? = some (.slice (some ⟨gs i, 0, none⟩) 4 4)
  gl : ∀ i : Nat, i < k → d < gs i
  inj : ∀ i j : Nat, i < k → j < k → gs i = gs j → i = j
  row : ∀ i : Nat, i < k → ∃ l : List Int, l.length = 4 ∧ IRow W (gs i) l ∧ (i = 3 → l = [-1, -1, -1, 0])

theorem TB.dl {k n0 W d gs} (h : TB k n0 W d gs) : d < W.heap.size := by
  obtain ⟨ls, h1, -⟩ := h.dr; exact (Array.getElem?_eq_some_iff.1 h1).1
theorem TB.cell {k n0 W d gs} (h : TB k n0 W d gs) {i : Nat} (hi : i < k) : W.cell? ⟨d, i, none⟩ = some (.slice (some ⟨gs i, 0, none⟩) 4 4) := by
  obtain ⟨ls, h1, -, h2⟩ := h.dr
  unfold World.cell?
  rw [show W.heap[(⟨d, i, none⟩ : Addr).block]? = _ from h1]
  simpa using h2 i hi
theorem TB.dsome {k n0 W d gs} (h : TB k n0 W d gs) {i : Nat} (hi : i < 4) : ∃ v, W.cell? ⟨d, i, none⟩ = some v := by
  obtain ⟨ls, h1, h3, -⟩ := h.dr
  unfold World.cell?
  rw [show W.heap[(⟨d, i, none⟩ : Addr).block]? = _ from h1]
  exact ⟨ls[i]'(by omega), by simp⟩
theorem TB.dfz {k n0 W d gs} (h : TB k n0 W d gs) (i : Nat) : W.frozen? ⟨d, i, none⟩ = false := by
  obtain ⟨ls, h1, -⟩ := h.dr
  unfold World.frozen?
  rw [show W.heap[(⟨d, i, none⟩ : Addr).block]? = _ from h1]
  simp
theorem TB.val {k n0 W d gs} (h : TB k n0 W d gs) {i j : Nat} (hi : i < k) (hj : j < 4) : ∃ v : Int, W.cell? ⟨gs i, j, none⟩ = some (.int .i64 v) ∧ W.frozen? ⟨gs i, j, none⟩ = false ∧ (i = 3 → v = if j = 3 then 0 else -1) := by
  obtain ⟨l, hl, hr, h3⟩ := h.row i hi
  refine ⟨_, hr.cell (by omega), hr.frozen _, fun e => ?_⟩
  rw [h3 e]
  have : j = 0 ∨ j = 1 ∨ j = 2 ∨ j = 3 := by omega
  rcases this with rfl | rfl | rfl | rfl <;> rfl
theorem TB.glt {k n0 W d gs} (h : TB k n0 W d gs) {i : Nat} (hi : i < k) : gs i < W.heap.size := by
  obtain ⟨l, hl, hr, h3⟩ := h.row i hi
  exact hr.lt
theorem cell_aside {W : World} {b o c j : Nat} {v : Value} (h : b ≠ c) : (W.setCell ⟨c, j, none⟩ v).cell? ⟨b, o, none⟩ = W.cell? ⟨b, o, none⟩ :=
  World.cell?_setCell_other _ _ _ _ (fun e => by injection e with h1 h2 h3; omega)
theorem TB.below {k n0 W W' d gs} (h : TB k n0 W d gs) (hb : Below W.heap.size W W') : TB k n0 W' d gs := by
  refine ⟨h.d0, ?_, h.gl, h.inj, fun i hi => ?_⟩
  · obtain ⟨ls, h1, h2⟩ := h.dr
    exact ⟨ls, (hb.block d h.dl).trans h1, h2⟩
  · obtain ⟨l, hl, hr, h3⟩ := h.row i hi
    exact ⟨l, hl, hr.below hb hr.lt, h3⟩
theorem TB.put {k n0 W d gs} (h : TB k n0 W d gs) {i j : Nat} (hi : i < k) (h3 : i ≠ 3) (v : Int) : TB k n0 (W.setCell ⟨gs i, j, none⟩ (.int .i64 v)) d gs := by
  refine ⟨h.d0, ?_, h.gl, h.inj, fun q hq => ?_⟩
  · obtain ⟨ls, h1, h2⟩ := h.dr
    have := h.gl i hi
    exact ⟨ls, (Below.heap_setCell _ _ _ _ (by show d ≠ gs i; omega)).trans h1, h2⟩
  · obtain ⟨l, hl, hr, h4⟩ := h.row q hq
    by_cases e : q = i
    · subst e
      exact ⟨l.set j v, by simpa using hl, hr.set _ _, fun e => absurd e h3⟩
    · exact ⟨l, hl, hr.other _ (fun e2 => e (h.inj _ _ hq hi e2)), h4⟩
theorem TB.zero (n0 : Nat) (W : World) (ls : List Value) (hn : n0 ≤ W.heap.size) (hl : ls.length = 4) (gs) : TB 0 n0 (W.alloc (.cells ls.toArray 27)) W.heap.size gs :=
  ⟨hn, ⟨ls, World.alloc_heap_new _ _, hl, fun i hi => by omega⟩, fun i hi => by omega, fun i j hi => by omega, fun i hi => by omega⟩
theorem TB.next {k n0 W d gs} (h : TB k n0 W d gs) (hk : k < 4) {g : Nat} (hg : d < g) (hne : ∀ i, i < k → gs i ≠ g) (hr : IRow W g [-1, -1, -1, -1]) :
    TB (k + 1) n0 ((W.setCell ⟨d, k, none⟩ (.slice (some ⟨g, 0, none⟩) 4 4)).setCell ⟨g, k, none⟩ (.int .i64 0)) d (fun i => if i = k then g else gs i) := by
  refine ⟨h.d0, ?_, fun i hi => ?_, fun i j hi hj => ?_, fun i hi => ?_⟩
  · obtain ⟨ls, h1, h2, h3⟩ := h.dr
    refine ⟨ls.set k (.slice (some ⟨g, 0, none⟩) 4 4), ?_, by simpa using h2, fun i hi => ?_⟩
    · rw [Below.heap_setCell _ _ _ _ (by show d ≠ g; omega)]
      unfold World.setCell
      dsimp only
      rw [Array.getElem?_modify, if_pos rfl, h1]
      simp
    · rw [List.getElem?_set]
      by_cases e : i = k
      · subst e; rw [if_pos rfl, if_pos (by omega), if_pos rfl]
      · rw [if_neg (fun e2 => e e2.symm), if_neg e]; exact h3 i (by omega)
  · split
    · exact hg
    · exact h.gl i (by omega)
  · split <;> split
    · omega
    · exact fun e => absurd e.symm (hne j (by omega))
    · exact fun e => absurd e (hne i (by omega))
    · exact h.inj i j (by omega) (by omega)
  · split
    · next e =>
      subst e
      refine ⟨[-1, -1, -1, -1].set i 0, by simp, ((hr.other _ (by omega)).set _ _), fun e => by subst e; rfl⟩
    · next e =>
      obtain ⟨l, hl, hr2, h4⟩ := h.row i (by omega)
      exact ⟨l, hl, (hr2.other _ (by have := h.gl i (by omega); omega)).other _ (hne i (by omega)), h4⟩

theorem exw_ft {j : Nat} (hj : j < 5) : ∃ fk tk : Nat, (Rd.way exw j).frm = fk ∧ (Rd.way exw j).to = tk ∧ fk < 4 ∧ tk < 4 ∧ fk ≠ 3 := by
  have : j = 0 ∨ j = 1 ∨ j = 2 ∨ j = 3 ∨ j = 4 := by omega
  rcases this with rfl | rfl | rfl | rfl | rfl
  · exact ⟨0, 1, rfl, rfl, by decide, by decide, by decide⟩
  · exact ⟨1, 0, rfl, rfl, by decide, by decide, by decide⟩
  · exact ⟨1, 2, rfl, rfl, by decide, by decide, by decide⟩
  · exact ⟨1, 2, rfl, rfl, by decide, by decide, by decide⟩
  · exact ⟨2, 3, rfl, rfl, by decide, by decide, by decide⟩

def SumsPost (w : World) (e : Ending) (w' : World) : Prop :=
  ∃ d gs, e = .returned (.slice (some ⟨d, 0, none⟩) 4 4) ∧ TB 4 w.heap.size w' d gs ∧ Below w.heap.size w w'

theorem info27 : (Try.prog.info? 27).map (fun i => (i.zero, i.size, i.bytes)) = some (some (.slice none 0 0), 1, 24) := by kernel_rfl
theorem made4n : madeCells #[Value.slice none 0 0] 4 = #[.slice none 0 0, .slice none 0 0, .slice none 0 0, .slice none 0 0] := by kernel_rfl
theorem mk95 (W : World) : (Instr.makeSlice 95 (.int .i64 4) (.int .i64 4)).run Try.prog W = .ok (.slice (some ⟨W.heap.size, 0, none⟩) 4 4) (W.alloc (.cells #[Value.slice none 0 0, Value.slice none 0 0, Value.slice none 0 0, Value.slice none 0 0] 27)) := by
  obtain ⟨i0, hi, hz0, hz1, hz2⟩ := info_parts info27
  have := run_make (P := Try.prog) W 95 27 i0 (.slice none 0 0) Try.underlying95 hi hz0 .i64 .i64 4 4 (by omega) (by omega) (by rw [hz2]; omega) (by omega)
  rw [hz1] at this
  simpa [Value.cells, made4n] using this

set_option maxRecDepth 100000 in
set_option maxHeartbeats 2000000 in
theorem sums43 (g : Nat) (lb : Array Value) (tk : List Int) (sa : Option Addr) (cap : Nat) (w : World) (ch : IsChart w.heap.size w sa exw 4)
   (eg : ∀ args w, (callFunc g args).run Try.prog w = .ok (.enter g args) w) (hT : TakesS g lb tk 5 w) :
   Calls Try.prog 43 #[cv 4 sa 5 cap, .func (.func g) #[] lb] w (SumsPost w) := by
  have hmk := mk95
  obtain ⟨sb, so, rfl, hsb, h7⟩ := ch.wy.resolve_left (by decide)
  have H7 := Lib.hid h7; clear h7 ch
  have HT := Lib.hid hT; clear hT
  go_enter Try.func43, Try.ntmps43
  go_wp2_with fail
  obtain ⟨W1, hW1⟩ : ∃ W1, W1 = w.alloc (Obj.cells #[Value.int IntKind.i64 4, Value.slice (some ⟨sb, so, none⟩) 5 cap] 31) := ⟨_, rfl⟩
  have hb1 : Below w.heap.size w W1 := by rw [hW1]; exact (Below.refl _ _).alloc (Nat.le_refl _) _
  have hs1 : W1.heap.size = w.heap.size + 1 := by rw [hW1]; simp
  have c0 : W1.cell? ⟨w.heap.size, 0, none⟩ = some (.int .i64 4) := by rw [hW1]; go_simp
  have c1 : W1.cell? ⟨w.heap.size, 1, none⟩ = some (.slice (some ⟨sb, so, none⟩) 5 cap) := by rw [hW1]; go_simp
  have ht0 := TB.zero w.heap.size W1 [.slice none 0 0, .slice none 0 0, .slice none 0 0, .slice none 0 0] (by omega) rfl (fun _ => 0)
  rw [← hW1, ← hs1]
  have hl1 : w.heap.size < W1.heap.size := by omega
  have HS1 := Lib.hid hs1; clear hs1 hW1
  have HT0 := Lib.hid ht0; clear ht0
  clear hmk
  go_loopw [20] (fun v wr => ∃ (k : Nat) (gs : Nat → Nat), k ≤ 4 ∧ v = .int .i64 k ∧ Hid (TB k w.heap.size wr W1.heap.size gs) ∧ Below W1.heap.size W1 wr) (fun v _ => 4 - (intOf v).toNat)
  case atStart => exact ⟨0, _, by omega, rfl, HT0, (Below.refl _ _).alloc (Nat.le_refl _) _⟩
  case round =>
    obtain ⟨k, gs, hk, rfl, hT1, hb⟩ := hrel
    have x0 := (hb.cell (p := ⟨w.heap.size, 0, none⟩) hl1).trans c0
    have x1 := (hb.cell (p := ⟨w.heap.size, 1, none⟩) hl1).trans c1
    by_cases hlt : k < 4
    · have hsr := hb.size
      have hlr : w.heap.size < wr.heap.size := by omega
      have hbA : Below wr.heap.size wr (wr.alloc (Obj.cells #[Value.int IntKind.i64 (-1)] 3)) := (Below.refl _ _).alloc (Nat.le_refl _) _
      go_wp2_with fail
      refine (repeat_4 wr.heap.size _ (by simp) (by go_simp)).mono ?_
      rintro e w2 ⟨rfl, hrow, hb2, hlt2⟩
      have hbB := hbA.trans (hb2.mono (by simp))
      have hT2 := hT1.out.below hbB
      obtain ⟨v0, hv0⟩ := hT2.dsome hlt
      have hvf := hT2.dfz k
      have x2 := (hbB.cell (p := ⟨w.heap.size, 0, none⟩) hlr).trans x0
      have hgd : W1.heap.size < (wr.alloc (Obj.cells #[Value.int IntKind.i64 (-1)] 3)).heap.size := by have := hT1.out.dl; simp; omega
      have hgl : ∀ i, i < k → gs i ≠ (wr.alloc (Obj.cells #[Value.int IntKind.i64 (-1)] 3)).heap.size := fun i hi e => by
        obtain ⟨l, -, hr, -⟩ := hT1.out.row i hi
        have := hr.lt
        simp at e
        omega
      have hsz : w2.heap.size > wr.heap.size + 1 := by simpa using hlt2
      have hbC : Below W1.heap.size W1 w2 := hb.trans (hbB.mono hsr)
      generalize (wr.alloc (Obj.cells #[Value.int IntKind.i64 (-1)] 3)).heap.size = gg at *
      have hT3 := hT2.next hlt hgd hgl hrow
      have q0 := hrow.cell (j := k) (by simpa using hlt)
      have q1 := hrow.frozen k
      have r0 : (w2.setCell ⟨W1.heap.size, k, none⟩ (.slice (some ⟨gg, 0, none⟩) 4 4)).cell? ⟨W1.heap.size, k, none⟩ = some (.slice (some ⟨gg, 0, none⟩) 4 4) := World.cell?_setCell_same _ _ _ hv0
      have r1 : (w2.setCell ⟨W1.heap.size, k, none⟩ (.slice (some ⟨gg, 0, none⟩) 4 4)).cell? ⟨gg, k, none⟩ = some (.int .i64 (Rd.mrk [-1, -1, -1, -1] k)) := by
        rw [World.cell?_setCell_other _ _ _ _ (fun h => by injection h with h1 h2 h3; omega)]; exact q0
      have r2 : (w2.setCell ⟨W1.heap.size, k, none⟩ (.slice (some ⟨gg, 0, none⟩) 4 4)).frozen? ⟨gg, k, none⟩ = false := by simpa using q1
      have HT3 := Lib.hid hT3; clear hT3 hT2 hrow hb2 hgl hbA hbB q0 q1 hb x0 x1
      go_wp2_with fail
      exact ⟨⟨k + 1, _, by omega, by go_num, HT3, (hbC.setCell (p := ⟨W1.heap.size, k, none⟩) (Nat.le_refl _) _).setCell (p := ⟨gg, k, none⟩) (by show _ ≤ gg; omega) _⟩, by simp [intOf]; omega⟩
    · obtain rfl : k = 4 := by omega
      clear hlt hk
      go_wp2_with fail
      rw [show ((4 : Nat) : Int) = 4 from rfl]
      have hb0 := hb
      have HT0 := hT1
      clear x0 x1 hb hT1
      go_loopw [40] (fun v wx => ∃ j : Nat, j ≤ 5 ∧ v = .int .i64 j ∧ Hid (TB 4 w.heap.size wx W1.heap.size gs) ∧ Below W1.heap.size W1 wx) (fun v _ => 5 - (intOf v).toNat)
      case atStart => exact ⟨0, by omega, rfl, HT0, hb0⟩
      case round =>
        obtain ⟨j, hj, rfl, hT1, hb⟩ := hrel
        by_cases hlt : j < 5
        · obtain ⟨fk, tk', hfk, htk, hf4, ht4, hf3⟩ := exw_ft hlt
          have hbw : Below w.heap.size w wr := hb1.trans (hb.mono (by omega))
          have hw7 : W7 wr sb (so + j * 7) (Rd.way exw j) := (H7.out j hlt).below hbw hsb
          have z0 := hw7.c0; have z1 := hw7.c1; have z2 := hw7.c2; have z3 := hw7.c3; have z4 := hw7.c4; have z5 := hw7.c5; have z6 := hw7.c6
          rw [hfk] at z0; rw [htk] at z1
          generalize (Rd.way exw j).tlo = vl at *
          generalize (Rd.way exw j).thi = vh at *
          generalize (Rd.way exw j).olo = ol at *
          generalize (Rd.way exw j).ohi = oh at *
          generalize (Rd.way exw j).every = ev at *
          clear hw7 hfk htk
          have hsr := hb.size
          go_upto_region 11 with fail
          obtain ⟨WX, hWX⟩ : ∃ WX, WX = wr.alloc (Obj.cells #[Value.int IntKind.i64 fk, Value.int IntKind.i64 tk', Value.int IntKind.i64 vl, Value.int IntKind.i64 vh, Value.int IntKind.i64 ol, Value.int IntKind.i64 oh, Value.int IntKind.i64 ev] 64) := ⟨_, rfl⟩
          rw [← hWX]
          have hbX : Below wr.heap.size wr WX := by rw [hWX]; exact (Below.refl _ _).alloc (Nat.le_refl _) _
          have y0 : WX.cell? ⟨wr.heap.size, 0, none⟩ = some (.int .i64 fk) := by rw [hWX]; go_simp
          have y1 : WX.cell? ⟨wr.heap.size, 1, none⟩ = some (.int .i64 tk') := by rw [hWX]; go_simp
          have y3 : WX.cell? ⟨wr.heap.size, 3, none⟩ = some (.int .i64 vh) := by rw [hWX]; go_simp
          have y4 : WX.cell? ⟨wr.heap.size, 4, none⟩ = some (.int .i64 ol) := by rw [hWX]; go_simp
          have y5 : WX.cell? ⟨wr.heap.size, 5, none⟩ = some (.int .i64 oh) := by rw [hWX]; go_simp
          have y6 : WX.cell? ⟨wr.heap.size, 6, none⟩ = some (.int .i64 ev) := by rw [hWX]; go_simp
          clear hWX z0 z1 z2 z3 z4 z5 z6
          have hTX := hT1.out.below hbX
          have dX := hTX.cell (i := fk) hf4
          obtain ⟨v, vX, vF, -⟩ := hTX.val hf4 ht4
          have hbY : Below W1.heap.size W1 WX := hb.trans (hbX.mono hsr)
          have hbZ0 : Below w.heap.size w WX := hbw.trans (hbX.mono (by omega))
          have HTX := Lib.hid hTX; clear hTX
          go_quiet (fail)
          have b0 : (0 : Int) ≤ (fk : Int) := by omega
          have b1 : (fk : Int) < 4 := by omega
          have b2 : (0 : Int) ≤ (tk' : Int) := by omega
          have b3 : (tk' : Int) < 4 := by omega
          have hdj : decide ((j : Int) < 5) = true := decide_eq_true (by omega)
          rw [hdj]
          clear hdj
          go_upto_region 12 with fail
          have hbZ : Below w.heap.size w (WX.drewN nq) := below_drewN hbZ0 nq
          go_cut [73] from 54 to 73 (fun s wx => (∃ b, s = .bool b) ∧ wx = WX.drewN nq)
          case first =>
            by_cases hev : ev = 0
            · subst hev
              by_cases ho : ol = 0
              · subst ho
                by_cases hh : oh = 1439
                · subst hh
                  by_cases hv : v < 0
                  · go_wp2_with fail
                    go_meet
                    exact ⟨⟨_, rfl⟩, rfl⟩
                  · go_wp2_with fail
                    refine (HT.out j (by omega) (by omega) _ (Stay.of_below hbZ (Nat.le_refl _))).mono ?_
                    rintro e w9 ⟨rfl, rfl⟩
                    go_wp2_with fail
                    go_meet
                    exact ⟨⟨_, rfl⟩, rfl⟩
                · go_wp2_with fail
                  go_meet
                  exact ⟨⟨_, rfl⟩, rfl⟩
              · go_wp2_with fail
                go_meet
                exact ⟨⟨_, rfl⟩, rfl⟩
            · go_wp2_with fail
              go_meet
              exact ⟨⟨_, rfl⟩, rfl⟩
          case rest =>
          obtain ⟨⟨b, rfl⟩, rfl⟩ := hcut
          cases b
          · go_wp2_with fail
            exact ⟨⟨j + 1, by omega, by go_num, Lib.hid (HTX.out.below (below_drewN (Below.refl _ _) nq)), below_drewN hbY nq⟩, by simp [intOf]; omega⟩
          · have hg8 := hT1.out.glt hf4
            have hgd := hT1.out.gl fk hf4
            have k0 : ∀ (X : World) (u : Value), (X.setCell ⟨gs fk, tk', none⟩ u).cell? ⟨wr.heap.size, 0, none⟩ = X.cell? ⟨wr.heap.size, 0, none⟩ := fun X u => cell_aside (by omega)
            have k1 : ∀ (X : World) (u : Value), (X.setCell ⟨gs fk, tk', none⟩ u).cell? ⟨wr.heap.size, 1, none⟩ = X.cell? ⟨wr.heap.size, 1, none⟩ := fun X u => cell_aside (by omega)
            have k2 : ∀ (X : World) (u : Value), (X.setCell ⟨gs fk, tk', none⟩ u).cell? ⟨W1.heap.size, fk, none⟩ = X.cell? ⟨W1.heap.size, fk, none⟩ := fun X u => cell_aside (by omega)
            go_upto_region 13 with fail
            go_region_held3 (fun w' => w'.cell? ⟨wr.heap.size, 0, none⟩ = some (.int .i64 fk) ∧ w'.cell? ⟨wr.heap.size, 1, none⟩ = some (.int .i64 tk') ∧ w'.cell? ⟨W1.heap.size, fk, none⟩ = some (.slice (some ⟨gs fk, 0, none⟩) 4 4)) (first | go_keep)
             (first
              | (refine (HT.out j (by omega) (by omega) _ (Stay.of_below hbZ.drew (Nat.le_refl _))).mono ?_; rintro e w9 ⟨rfl, rfl⟩))
            go_wp2_with fail
            exact ⟨⟨j + 1, by omega, by go_num, Lib.hid ((HTX.out.below (below_drewN (Below.refl _ _) _)).put hf4 hf3 _), (below_drewN hbY _).setCell (p := ⟨gs fk, tk', none⟩) (by show _ ≤ gs fk; omega) _⟩, by simp [intOf]; omega⟩
        · obtain rfl : j = 5 := by omega
          clear hlt hj
          have x0 := (hb.cell (p := ⟨w.heap.size, 0, none⟩) hl1).trans c0
          go_wp2_with fail
          rw [show ((5 : Nat) : Int) = 5 from rfl]
          clear hb0 HT0 x0
          have hb0 := hb
          have HT0 := hT1
          clear hb hT1 H7 HT
          go_loopw [88] (fun v wx => ∃ i : Nat, i ≤ 4 ∧ v = .int .i64 i ∧ Hid (TB 4 w.heap.size wx W1.heap.size gs) ∧ Below W1.heap.size W1 wx) (fun v _ => 4 - (intOf v).toNat)
          case atStart => exact ⟨0, by omega, rfl, HT0, hb0⟩
          case round =>
            clear hb0 HT0
            obtain ⟨qk, hqk, rfl, hT1, hb⟩ := hrel
            by_cases hlt : qk < 4
            · have x0 := (hb.cell (p := ⟨w.heap.size, 0, none⟩) hl1).trans c0
              go_wp2_with fail
              rw [decide_eq_true (show (qk : Int) < 4 by omega)]
              have hb0 := hb
              have HT0 := hT1
              clear hb hT1 x0
              go_loopw [93] (fun v wx => ∃ i : Nat, i ≤ 4 ∧ v = .int .i64 i ∧ Hid (TB 4 w.heap.size wx W1.heap.size gs) ∧ Below W1.heap.size W1 wx) (fun v _ => 4 - (intOf v).toNat)
              case atStart => exact ⟨0, by omega, rfl, HT0, hb0⟩
              case round =>
                clear hb0 HT0
                obtain ⟨qi, hqi, rfl, hT1, hb⟩ := hrel
                by_cases hlt2 : qi < 4
                · have x0 := (hb.cell (p := ⟨w.heap.size, 0, none⟩) hl1).trans c0
                  go_wp2_with fail
                  rw [decide_eq_true (show (qi : Int) < 4 by omega)]
                  have hb0 := hb
                  have HT0 := hT1
                  clear hb hT1 x0
                  go_loopw [98] (fun v wx => ∃ i : Nat, i ≤ 4 ∧ v = .int .i64 i ∧ Hid (TB 4 w.heap.size wx W1.heap.size gs) ∧ Below W1.heap.size W1 wx) (fun v _ => 4 - (intOf v).toNat)
                  case atStart => exact ⟨0, by omega, rfl, HT0, hb0⟩
                  case round =>
                    clear hb0 HT0
                    obtain ⟨qj, hqj, rfl, hT1, hb⟩ := hrel
                    by_cases hlt3 : qj < 4
                    · obtain ⟨v1, a1, f1, e1⟩ := hT1.out.val hlt2 hlt
                      obtain ⟨v2, a2, f2, e2⟩ := hT1.out.val hlt hlt3
                      obtain ⟨v3, a3, f3, e3⟩ := hT1.out.val hlt2 hlt3
                      have d1 := hT1.out.cell hlt
                      have d2 := hT1.out.cell hlt2
                      have n1 : (0 : Int) ≤ (qk : Int) := by omega
                      have n2 : (qk : Int) < 4 := by omega
                      have n3 : (0 : Int) ≤ (qi : Int) := by omega
                      have n4 : (qi : Int) < 4 := by omega
                      have n5 : (0 : Int) ≤ (qj : Int) := by omega
                      have n6 : (qj : Int) < 4 := by omega
                      go_upto_region 24 with fail
                      go_quiet (fail)
                      go_upto_region 25 with fail
                      have hx : 0 ≤ v1 → 0 ≤ v2 → (v3 < 0 ∨ wrap64 (v1 + v2) < v3) → qi ≠ 3 := by
                        intro h1 h2 h3 h4
                        have g1 := e1 h4
                        have g3 := e3 h4
                        split at g1
                        · next hk3 =>
                          have g2 := e2 hk3
                          split at g2
                          · next hj3 =>
                            rw [if_pos hj3] at g3
                            rw [g1, g2, g3] at h3
                            rw [show wrap64 (0 + 0) = 0 from by kernel_rfl] at h3
                            omega
                          · omega
                        · omega
                      have HX := Lib.hid hx; clear hx e1 e2 e3
                      go_cut [143] from 115 to 143 (fun s wx => (∃ b, s = .bool b ∧ (b = true → qi ≠ 3)) ∧ wx = wr.drewN nq)
                      case first =>
                        by_cases h1 : 0 ≤ v1
                        · by_cases h2 : 0 ≤ v2
                          · by_cases h3 : v3 < 0
                            · go_wp2_with fail
                              go_meet
                              exact ⟨⟨_, rfl, fun _ => HX.out h1 h2 (.inl h3)⟩, rfl⟩
                            · go_wp2_with fail
                              go_meet
                              exact ⟨⟨_, rfl, fun h => HX.out h1 h2 (.inr (of_decide_eq_true h))⟩, rfl⟩
                          · go_wp2_with fail
                            go_meet
                            exact ⟨⟨_, rfl, fun h => absurd h (by decide)⟩, rfl⟩
                        · go_wp2_with fail
                          go_meet
                          exact ⟨⟨_, rfl, fun h => absurd h (by decide)⟩, rfl⟩
                      case rest =>
                      obtain ⟨⟨b, rfl, hb3⟩, rfl⟩ := hcut
                      have hT2 := hT1.out.below (below_drewN (Below.refl _ _) nq)
                      have hb2 := below_drewN hb nq
                      have HT2 := Lib.hid hT2; clear hT2
                      cases b
                      · go_wp2_with fail
                        exact ⟨⟨qj + 1, by omega, by go_num, HT2, hb2⟩, by simp [intOf]; omega⟩
                      · have hi3 := hb3 rfl
                        have hgd := hT1.out.gl qi hlt2
                        go_wp2_with fail
                        exact ⟨⟨qj + 1, by omega, by go_num, Lib.hid (HT2.out.put hlt2 hi3 _), hb2.setCell (p := ⟨gs qi, qj, none⟩) (by show _ ≤ gs qi; omega) _⟩, by simp [intOf]; omega⟩
                    · go_wp2_with fail
                      exact ⟨⟨qi + 1, by omega, by go_num, hT1, hb⟩, by simp [intOf]; omega⟩
                · go_wp2_with fail
                  exact ⟨⟨qk + 1, by omega, by go_num, hT1, hb⟩, by simp [intOf]; omega⟩
            · go_wp2_with fail
              go_ret
              exact ⟨W1.heap.size, gs, rfl, hT1.out, hb1.trans (hb.mono (by omega))⟩
end Go.Proofs.Ytdmmjlhcjmdajaa
