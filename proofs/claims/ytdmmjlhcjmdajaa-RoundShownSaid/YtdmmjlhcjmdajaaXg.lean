/-
  The set-up call sane answers true.
  Its conditions stand in each theorem.
-/
import Derived.Test.YtdmmjlhcjmdajaaXf
import Derived.Test.YtdmmjlhcjmdajaaWy
namespace Go.Proofs.Ytdmmjlhcjmdajaa
open Go.RowKit Go.Shelf Go.Maps
set_option linter.unusedVariables false

theorem IRow.up {W W' : World} {b : Nat} {l : List Int} (h : IRow W b l) (hb : Below W.heap.size W W') : IRow W' b l := h.below hb h.lt
theorem IRow.new (W : World) (l : List Int) (cs : Array Value) (h : cs = (l.map (Value.int .i64)).toArray) : IRow (W.alloc (.cells cs 3)) W.heap.size l := by subst h; exact World.alloc_heap_new _ _
theorem IRow.inew {W : World} {b : Nat} {l : List Int} (h : IRow W b l) : Ints W.heap.size W (some ⟨b, 0, none⟩) l := h.ints h.lt
theorem same_use (b b2 c c2 : Nat) (l : List Int) (len : Nat) (hl : l.length = len) (hlen : len ≤ 1000) (W : World) (h1 : IRow W b l) (h2 : IRow W b2 l) :
    Calls Try.prog 18 #[.slice (some ⟨b, 0, none⟩) len c, .slice (some ⟨b2, 0, none⟩) len c2] W (YesPost W) :=
  same_yes b 0 b2 0 c c2 l len hl hlen W (fun j hj => by rw [Nat.zero_add]; exact h1.cell (by omega)) (fun j hj => by rw [Nat.zero_add]; exact h2.cell (by omega))
theorem below_new (W : World) (o : Obj) : Below W.heap.size W (W.alloc o) := (Below.refl _ _).alloc (Nat.le_refl _) _

theorem exl_round {W : World} {b : Nat} (hb : b < W.heap.size) (h : W.heap[b]? = some (.cells #[.int .i64 2, .int .i64 300, .int .i64 312, .int .i64 3, .int .i64 3, .int .i64 330, .int .i64 340, .int .i64 0] 51 (0, 0))) :
    IsRound W.heap.size W (some ⟨b, 0, none⟩) exl 4 0 300 := by
  refine ⟨by decide, by decide, by decide, by decide, by decide, ?_, .inr ⟨b, 0, rfl, hb, ?_⟩⟩
  · intro j hj
    have : j = 0 ∨ j = 1 := by
      have h9 : j < 2 := hj
      omega
    rcases this with rfl | rfl <;> exact ⟨by decide, by decide, by decide, by decide, by decide, by decide, by decide⟩
  · intro j hj
    have hc : ∀ o, W.cell? ⟨b, o, none⟩ = (#[Value.int .i64 2, .int .i64 300, .int .i64 312, .int .i64 3, .int .i64 3, .int .i64 330, .int .i64 340, .int .i64 0] : Array Value)[o]? := fun o => by
      unfold World.cell?
      rw [show W.heap[(⟨b, o, none⟩ : Addr).block]? = _ from h]
      simp
    have : j = 0 ∨ j = 1 := by
      have h9 : j < 2 := hj
      omega
    rcases this with rfl | rfl <;> exact ⟨hc _, hc _, hc _, hc _⟩

/-- what sane keeps -/
structure SK (n0 : Nat) (A X : World) (t1 t2 sb rb cap rcap : Nat) : Prop where
  b : Below n0 A X
  l1 : t1 < X.heap.size
  l2 : t2 < X.heap.size
  c0 : X.cell? ⟨t1, 0, none⟩ = some (.int .i64 4)
  c1 : X.cell? ⟨t1, 1, none⟩ = some (.slice (some ⟨sb, 0, none⟩) 5 cap)
  r : OneR X t2 0 300 (some ⟨rb, 0, none⟩) 2 rcap
  ch : IsChart X.heap.size X (some ⟨sb, 0, none⟩) exw 4
  rd : IsRound X.heap.size X (some ⟨rb, 0, none⟩) exl 4 0 300
theorem SK.up {n0 A X Y t1 t2 sb rb cap rcap} (h : SK n0 A X t1 t2 sb rb cap rcap) (hb : Below X.heap.size X Y) (hn : n0 ≤ X.heap.size) : SK n0 A Y t1 t2 sb rb cap rcap :=
  ⟨h.b.trans (hb.mono hn), Nat.lt_of_lt_of_le h.l1 hb.size, Nat.lt_of_lt_of_le h.l2 hb.size, (hb.cell (p := ⟨t1, 0, none⟩) h.l1).trans h.c0, (hb.cell (p := ⟨t1, 1, none⟩) h.l1).trans h.c1,
    h.r.below hb h.l2, (h.ch.below hb).mono hb.size, (h.rd.below hb).mono hb.size⟩

set_option maxRecDepth 100000 in
set_option maxHeartbeats 4000000 in
theorem sane4 (w : World) : Calls Try.prog 4 #[] w (YesPost w) := by
  go_enter Try.func4, Try.ntmps4
  go_wp2_with fail
  refine (example11 w).mono ?_
  rintro e w1 ⟨sb, rfl, ch, hb1⟩
  have hs1 := hb1.size
  go_upto_region 3 with fail
  obtain ⟨A, hA⟩ : ∃ A, A = (((w1.alloc (Obj.cells #[Value.int IntKind.i64 4, Value.slice (some { block := sb, off := 0 }) 5 5] 31)).alloc (Obj.cells #[Value.int IntKind.i64 2, Value.int IntKind.i64 300, Value.int IntKind.i64 312, Value.int IntKind.i64 3, Value.int IntKind.i64 3, Value.int IntKind.i64 330, Value.int IntKind.i64 340, Value.int IntKind.i64 0] 51)).alloc (Obj.cells #[Value.int IntKind.i64 0, Value.int IntKind.i64 300, Value.slice (some { block := w1.heap.size + 1, off := 0 }) 2 2] 34)) := ⟨_, rfl⟩
  rw [← hA]
  have hbA : Below w1.heap.size w1 A := by rw [hA]; exact (((Below.refl _ _).alloc (Nat.le_refl _) _).alloc (by simp) _).alloc (by simp; omega) _
  have hsA : A.heap.size = w1.heap.size + 3 := by rw [hA]; simp
  have hrb : A.heap[w1.heap.size + 1]? = some (.cells #[.int .i64 2, .int .i64 300, .int .i64 312, .int .i64 3, .int .i64 3, .int .i64 330, .int .i64 340, .int .i64 0] 51 (0, 0)) := by
    rw [hA, Below.heap_alloc _ _ _ (by simp)]
    have := World.alloc_heap_new (w1.alloc (Obj.cells #[Value.int IntKind.i64 4, Value.slice (some { block := sb, off := 0 }) 5 5] 31)) (Obj.cells #[Value.int IntKind.i64 2, Value.int IntKind.i64 300, Value.int IntKind.i64 312, Value.int IntKind.i64 3, Value.int IntKind.i64 3, Value.int IntKind.i64 330, Value.int IntKind.i64 340, Value.int IntKind.i64 0] 51)
    rw [World.size_alloc] at this
    exact this
  have K : SK w.heap.size w A w1.heap.size (w1.heap.size + 1 + 1) sb (w1.heap.size + 1) 5 2 := by
    refine ⟨hb1.trans (hbA.mono hs1), by omega, by omega, ?_, ?_, ⟨?_, ?_, ?_⟩, (ch.below hbA).mono (by omega), exl_round (by omega) hrb⟩
    all_goals (rw [hA]; go_simp)
  have hn : w.heap.size ≤ A.heap.size := K.b.size
  generalize w1.heap.size = t1 at *
  clear hA hbA hsA hrb ch hb1 hs1
  generalize t1 + 1 + 1 = t2 at *
  generalize t1 + 1 = rb at *
  have q1 := sure_any 4 (some ⟨sb, 0, none⟩) 5 exw 0 300 A K.ch (by decide) (by decide) (by decide) (by decide)
  rw [ex_sure] at q1
  have k0 := K.c0; have k1 := K.c1; have r0 := K.r.c0; have r1 := K.r.c1; have r2 := K.r.c2
  go_wp2_with fail
  refine (q1).mono ?_
  rintro e W1 ⟨b1, rfl, -, F1, hb⟩
  have K := K.up hb hn
  have hn := Nat.le_trans hn hb.size
  clear k0 k1 r0 r1 r2 hb
  clear q1
  have q2 := sure_any 4 (some ⟨sb, 0, none⟩) 5 exw 0 316 W1 K.ch (by decide) (by decide) (by decide) (by decide)
  rw [ex_sure2] at q2
  have k0 := K.c0; have k1 := K.c1; have r0 := K.r.c0; have r1 := K.r.c1; have r2 := K.r.c2
  go_wp2_with fail
  refine (q2).mono ?_
  rintro e W2 ⟨b2, rfl, -, F2, hb⟩
  have K := K.up hb hn
  have hn := Nat.le_trans hn hb.size
  have F1 := F1.up hb
  clear k0 k1 r0 r1 r2 hb
  clear q2
  have q3 := soonest_any 4 (some ⟨sb, 0, none⟩) 5 exw 0 315 W2 K.ch (by decide) (by decide) (by decide) (by decide)
  rw [ex_soon] at q3
  have k0 := K.c0; have k1 := K.c1; have r0 := K.r.c0; have r1 := K.r.c1; have r2 := K.r.c2
  go_wp2_with fail
  refine (q3).mono ?_
  rintro e W3 ⟨b3, rfl, -, F3, hb⟩
  have K := K.up hb hn
  have hn := Nat.le_trans hn hb.size
  have F1 := F1.up hb
  have F2 := F2.up hb
  clear k0 k1 r0 r1 r2 hb
  clear q3
  have hbI := below_new W3 (Obj.cells #[Value.int IntKind.i64 5, Value.int IntKind.i64 5, Value.int IntKind.i64 4, Value.int IntKind.i64 10, Value.int IntKind.i64 20] 3)
  have FI := IRow.new W3 [5, 5, 4, 10, 20] #[Value.int IntKind.i64 5, Value.int IntKind.i64 5, Value.int IntKind.i64 4, Value.int IntKind.i64 10, Value.int IntKind.i64 20] rfl
  have q4 := walked_any 4 (some ⟨sb, 0, none⟩) 5 exw (some ⟨W3.heap.size, 0, none⟩) 5 [5, 5, 4, 10, 20] 0 315 _ (K.up hbI hn).ch FI.inew rfl (by decide) (by decide) (by decide) (by decide) (by decide)
  rw [ex_walk] at q4
  clear hbI FI
  have k0 := K.c0; have k1 := K.c1; have r0 := K.r.c0; have r1 := K.r.c1; have r2 := K.r.c2
  go_wp2_with fail
  refine (q4).mono ?_
  rintro e W4 ⟨b4, rfl, -, F4, hb⟩
  have hb := (below_new W3 (Obj.cells #[Value.int IntKind.i64 5, Value.int IntKind.i64 5, Value.int IntKind.i64 4, Value.int IntKind.i64 10, Value.int IntKind.i64 20] 3)).trans (hb.mono (by simp))
  have K := K.up hb hn
  have hn := Nat.le_trans hn hb.size
  have F1 := F1.up hb
  have F2 := F2.up hb
  have F3 := F3.up hb
  clear k0 k1 r0 r1 r2 hb
  clear q4
  have q5 := begins14 4 (some ⟨sb, 0, none⟩) 5 exw 0 300 (some ⟨rb, 0, none⟩) 2 exl W4 K.ch K.rd rfl
  unfold BegAns at q5
  rw [ex_begs] at q5
  have k0 := K.c0; have k1 := K.c1; have r0 := K.r.c0; have r1 := K.r.c1; have r2 := K.r.c2
  go_wp2_with fail
  refine (q5).mono ?_
  rintro e W5 ⟨b5, rfl, -, F5, hb⟩
  have K := K.up hb hn
  have hn := Nat.le_trans hn hb.size
  have F1 := F1.up hb
  have F2 := F2.up hb
  have F3 := F3.up hb
  have F4 := F4.up hb
  clear k0 k1 r0 r1 r2 hb
  clear q5
  have q6 := slack15 4 (some ⟨sb, 0, none⟩) 5 exw 0 300 (some ⟨rb, 0, none⟩) 2 exl W5 K.ch K.rd rfl ex_isD0 ex_isD
  have k0 := K.c0; have k1 := K.c1; have r0 := K.r.c0; have r1 := K.r.c1; have r2 := K.r.c2
  go_wp2_with fail
  refine (q6).mono ?_
  rintro e W6 ⟨rfl, hb⟩
  have K := K.up hb hn
  have hn := Nat.le_trans hn hb.size
  have F1 := F1.up hb
  have F2 := F2.up hb
  have F3 := F3.up hb
  have F4 := F4.up hb
  have F5 := F5.up hb
  clear k0 k1 r0 r1 r2 hb
  clear q6
  have hbI := below_new W6 (Obj.cells #[Value.int IntKind.i64 0, Value.int IntKind.i64 300, Value.slice (some ⟨rb, 0, none⟩) 2 2] 34)
  have q7 := moved16 sb 0 5 W6.heap.size (some ⟨rb, 0, none⟩) 2 _ (K.up hbI hn).ch (K.up hbI hn).rd ⟨by go_simp, by go_simp, by go_simp⟩ (by simp)
  clear hbI
  have k0 := K.c0; have k1 := K.c1; have r0 := K.r.c0; have r1 := K.r.c1; have r2 := K.r.c2
  go_wp2_with fail
  refine (q7).mono ?_
  rintro e W7 ⟨b7, c7, rfl, F7, hl7, hb⟩
  have hb := (below_new W6 (Obj.cells #[Value.int IntKind.i64 0, Value.int IntKind.i64 300, Value.slice (some ⟨rb, 0, none⟩) 2 2] 34)).trans (hb.mono (by simp))
  have K := K.up hb hn
  have hn := Nat.le_trans hn hb.size
  have F1 := F1.up hb
  have F2 := F2.up hb
  have F3 := F3.up hb
  have F4 := F4.up hb
  have F5 := F5.up hb
  clear k0 k1 r0 r1 r2 hb
  clear q7
  have q8 := matrix17 (some ⟨sb, 0, none⟩) 5 W7 K.ch
  have k0 := K.c0; have k1 := K.c1; have r0 := K.r.c0; have r1 := K.r.c1; have r2 := K.r.c2
  go_wp2_with fail
  refine (q8).mono ?_
  rintro e W8 ⟨rfl, hb⟩
  have K := K.up hb hn
  have hn := Nat.le_trans hn hb.size
  have F1 := F1.up hb
  have F2 := F2.up hb
  have F3 := F3.up hb
  have F4 := F4.up hb
  have F5 := F5.up hb
  have F7 := (hb.cell (p := ⟨b7, 0, none⟩) hl7).trans F7
  have hl7 := Nat.lt_of_lt_of_le hl7 hb.size
  clear k0 k1 r0 r1 r2 hb
  clear q8
  have hbI := below_new W8 (Obj.cells #[Value.int IntKind.i64 300, Value.int IntKind.i64 308, Value.int IntKind.i64 312, Value.int IntKind.i64 332] 3)
  have q := same_use _ _ 4 4 _ 4 rfl (by decide) _ (F1.up hbI) (IRow.new W8 [300, 308, 312, 332] #[Value.int IntKind.i64 300, Value.int IntKind.i64 308, Value.int IntKind.i64 312, Value.int IntKind.i64 332] rfl)
  clear hbI
  have k0 := K.c0; have k1 := K.c1; have r0 := K.r.c0; have r1 := K.r.c1; have r2 := K.r.c2
  go_wp2_with fail
  refine q.mono ?_
  rintro e W9 ⟨rfl, hb⟩
  have hb := (below_new W8 (Obj.cells #[Value.int IntKind.i64 300, Value.int IntKind.i64 308, Value.int IntKind.i64 312, Value.int IntKind.i64 332] 3)).trans (hb.mono (by simp))
  have K := K.up hb hn
  have hn := Nat.le_trans hn hb.size
  have F1 := F1.up hb
  have F2 := F2.up hb
  have F3 := F3.up hb
  have F4 := F4.up hb
  have F5 := F5.up hb
  have F7 := (hb.cell (p := ⟨b7, 0, none⟩) hl7).trans F7
  have hl7 := Nat.lt_of_lt_of_le hl7 hb.size
  clear k0 k1 r0 r1 r2 hb q
  have hbI := below_new W9 (Obj.cells #[Value.int IntKind.i64 316, Value.int IntKind.i64 324, Value.int IntKind.i64 340, Value.int IntKind.i64 360] 3)
  have q := same_use _ _ 4 4 _ 4 rfl (by decide) _ (F2.up hbI) (IRow.new W9 [316, 324, 340, 360] #[Value.int IntKind.i64 316, Value.int IntKind.i64 324, Value.int IntKind.i64 340, Value.int IntKind.i64 360] rfl)
  clear hbI
  have k0 := K.c0; have k1 := K.c1; have r0 := K.r.c0; have r1 := K.r.c1; have r2 := K.r.c2
  go_wp2_with fail
  refine q.mono ?_
  rintro e Wa ⟨rfl, hb⟩
  have hb := (below_new W9 (Obj.cells #[Value.int IntKind.i64 316, Value.int IntKind.i64 324, Value.int IntKind.i64 340, Value.int IntKind.i64 360] 3)).trans (hb.mono (by simp))
  have K := K.up hb hn
  have hn := Nat.le_trans hn hb.size
  have F1 := F1.up hb
  have F2 := F2.up hb
  have F3 := F3.up hb
  have F4 := F4.up hb
  have F5 := F5.up hb
  have F7 := (hb.cell (p := ⟨b7, 0, none⟩) hl7).trans F7
  have hl7 := Nat.lt_of_lt_of_le hl7 hb.size
  clear k0 k1 r0 r1 r2 hb q
  have hbI := below_new Wa (Obj.cells #[Value.int IntKind.i64 315, Value.int IntKind.i64 320, Value.int IntKind.i64 323, Value.int IntKind.i64 325] 3)
  have q := same_use _ _ 4 4 _ 4 rfl (by decide) _ (F3.up hbI) (IRow.new Wa [315, 320, 323, 325] #[Value.int IntKind.i64 315, Value.int IntKind.i64 320, Value.int IntKind.i64 323, Value.int IntKind.i64 325] rfl)
  clear hbI
  have k0 := K.c0; have k1 := K.c1; have r0 := K.r.c0; have r1 := K.r.c1; have r2 := K.r.c2
  go_wp2_with fail
  refine q.mono ?_
  rintro e Wb ⟨rfl, hb⟩
  have hb := (below_new Wa (Obj.cells #[Value.int IntKind.i64 315, Value.int IntKind.i64 320, Value.int IntKind.i64 323, Value.int IntKind.i64 325] 3)).trans (hb.mono (by simp))
  have K := K.up hb hn
  have hn := Nat.le_trans hn hb.size
  have F1 := F1.up hb
  have F2 := F2.up hb
  have F3 := F3.up hb
  have F4 := F4.up hb
  have F5 := F5.up hb
  have F7 := (hb.cell (p := ⟨b7, 0, none⟩) hl7).trans F7
  have hl7 := Nat.lt_of_lt_of_le hl7 hb.size
  clear k0 k1 r0 r1 r2 hb q
  have hbI := below_new Wb (Obj.cells #[Value.int IntKind.i64 315, Value.int IntKind.i64 320, Value.int IntKind.i64 324, Value.int IntKind.i64 344] 3)
  have q := same_use _ _ 4 4 _ 4 rfl (by decide) _ (F4.up hbI) (IRow.new Wb [315, 320, 324, 344] #[Value.int IntKind.i64 315, Value.int IntKind.i64 320, Value.int IntKind.i64 324, Value.int IntKind.i64 344] rfl)
  clear hbI
  have k0 := K.c0; have k1 := K.c1; have r0 := K.r.c0; have r1 := K.r.c1; have r2 := K.r.c2
  go_wp2_with fail
  refine q.mono ?_
  rintro e Wc ⟨rfl, hb⟩
  have hb := (below_new Wb (Obj.cells #[Value.int IntKind.i64 315, Value.int IntKind.i64 320, Value.int IntKind.i64 324, Value.int IntKind.i64 344] 3)).trans (hb.mono (by simp))
  have K := K.up hb hn
  have hn := Nat.le_trans hn hb.size
  have F1 := F1.up hb
  have F2 := F2.up hb
  have F3 := F3.up hb
  have F4 := F4.up hb
  have F5 := F5.up hb
  have F7 := (hb.cell (p := ⟨b7, 0, none⟩) hl7).trans F7
  have hl7 := Nat.lt_of_lt_of_le hl7 hb.size
  clear k0 k1 r0 r1 r2 hb q
  have hbI := below_new Wc (Obj.cells #[Value.int IntKind.i64 312, Value.int IntKind.i64 335] 3)
  have q := same_use _ _ 2 2 _ 2 rfl (by decide) _ (F5.up hbI) (IRow.new Wc [312, 335] #[Value.int IntKind.i64 312, Value.int IntKind.i64 335] rfl)
  clear hbI
  have k0 := K.c0; have k1 := K.c1; have r0 := K.r.c0; have r1 := K.r.c1; have r2 := K.r.c2
  go_wp2_with fail
  refine q.mono ?_
  rintro e Wd ⟨rfl, hb⟩
  have hb := (below_new Wc (Obj.cells #[Value.int IntKind.i64 312, Value.int IntKind.i64 335] 3)).trans (hb.mono (by simp))
  have K := K.up hb hn
  have hn := Nat.le_trans hn hb.size
  have F1 := F1.up hb
  have F2 := F2.up hb
  have F3 := F3.up hb
  have F4 := F4.up hb
  have F5 := F5.up hb
  have F7 := (hb.cell (p := ⟨b7, 0, none⟩) hl7).trans F7
  have hl7 := Nat.lt_of_lt_of_le hl7 hb.size
  clear k0 k1 r0 r1 r2 hb q
  have hbI := below_new Wd (Obj.cells #[Value.int IntKind.i64 0] 3)
  have q := same_yes b7 0 Wd.heap.size 0 c7 1 [0] 1 rfl (by decide) (Wd.alloc (Obj.cells #[Value.int IntKind.i64 0] 3)) (fun j hj => by
    obtain rfl : j = 0 := by omega
    exact (hbI.cell (p := ⟨b7, 0, none⟩) hl7).trans F7) (fun j hj => by rw [Nat.zero_add]; exact (IRow.new Wd [0] #[Value.int IntKind.i64 0] rfl).cell (by simpa using hj))
  clear hbI
  have k0 := K.c0; have k1 := K.c1; have r0 := K.r.c0; have r1 := K.r.c1; have r2 := K.r.c2
  go_wp2_with fail
  refine q.mono ?_
  rintro e We ⟨rfl, hb⟩
  have hb := (below_new Wd (Obj.cells #[Value.int IntKind.i64 0] 3)).trans (hb.mono (by simp))
  have K := K.up hb hn
  have hn := Nat.le_trans hn hb.size
  have F1 := F1.up hb
  have F2 := F2.up hb
  have F3 := F3.up hb
  have F4 := F4.up hb
  have F5 := F5.up hb
  have F7 := (hb.cell (p := ⟨b7, 0, none⟩) hl7).trans F7
  have hl7 := Nat.lt_of_lt_of_le hl7 hb.size
  clear k0 k1 r0 r1 r2 hb q
  have hbI := below_new We (Obj.cells #[Value.int IntKind.i64 0, Value.int IntKind.i64 2] 3)
  have q := checkPath_any 4 (some ⟨sb, 0, none⟩) 5 exw 0 2 300 311 (some ⟨We.heap.size, 0, none⟩) 2 [0, 2] _ (K.up hbI hn).ch (IRow.new We [0, 2] #[Value.int IntKind.i64 0, Value.int IntKind.i64 2] rfl).inew (by decide) (by decide) (by decide) (by decide) (by decide) (by decide) (by decide)
  rw [ex_path] at q
  have hE := K.b
  have k0 := K.c0; have k1 := K.c1
  clear F1 F2 F3 F4 F5 F7 hl7 K
  go_wp2_with fail
  refine q.mono ?_
  rintro e Wf ⟨rfl, hb⟩
  have hF := hE.trans ((hbI.trans (hb.mono (by simp))).mono hn)
  clear hb hbI q k0 k1 hE
  go_wp2_with fail
  go_ret
  exact ⟨rfl, hF⟩
end Go.Proofs.Ytdmmjlhcjmdajaa
