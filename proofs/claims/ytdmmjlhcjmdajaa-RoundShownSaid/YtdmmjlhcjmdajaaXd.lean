/-
  The contract of Moved at the example: the answer is the row of the index 0.
  Its conditions stand in each theorem.
-/
import Derived.Test.YtdmmjlhcjmdajaaXc
import Derived.LoopN
import Derived.Deep.RegionHeld3
import Derived.Deep.CutRange
namespace Go.Proofs.Ytdmmjlhcjmdajaa
open Go.RowKit Go.Shelf Go.Maps
set_option linter.unusedVariables false

def MovedPost (w : World) (e : Ending) (w' : World) : Prop :=
  ∃ g c, e = .returned (.tuple #[.slice (some ⟨g, 0, none⟩) 1 c, .int .i64 0]) ∧ w'.cell? ⟨g, 0, none⟩ = some (.int .i64 0) ∧ g < w'.heap.size ∧ Below w.heap.size w w'

set_option maxRecDepth 100000 in
set_option maxHeartbeats 2000000 in
theorem moved16 (sb so cap rb : Nat) (ra : Option Addr) (rcap : Nat) (w : World) (ch : IsChart w.heap.size w (some ⟨sb, so, none⟩) exw 4) (hr : IsRound w.heap.size w ra exl 4 0 300) (one : OneR w rb 0 300 ra 2 rcap) (hrb : rb < w.heap.size) :
   Calls Try.prog 16 #[cv 4 (some ⟨sb, so, none⟩) 5 cap, .int .i64 2, .slice (some ⟨rb, 0, none⟩) 1 1] w (MovedPost w) := by
  have hb0 : Below w.heap.size w (w.alloc (Obj.cells #[Value.int IntKind.i64 4, Value.slice (some ⟨sb, so, none⟩) 5 cap] 31)) := (Below.refl _ _).alloc (Nat.le_refl _) _
  go_enter Try.func16, Try.ntmps16
  go_wp2_with fail
  refine (wayOf_ok 4 (some ⟨sb, so, none⟩) cap exw 2 _ ((ch.below hb0).mono (by simp)) (by decide) (by decide)).mono ?_
  rintro e w1 ⟨rfl, hb1⟩
  have hb2 : Below w.heap.size w w1 := hb0.trans (hb1.mono (by simp))
  have hs1 := hb1.size
  simp only [World.size_alloc] at hs1
  have c0 : w1.cell? ⟨w.heap.size, 0, none⟩ = some (.int .i64 4) := by rw [hb1.cell (p := ⟨w.heap.size, 0, none⟩) (by simp)]; go_simp
  have c1 : w1.cell? ⟨w.heap.size, 1, none⟩ = some (.slice (some ⟨sb, so, none⟩) 5 cap) := by rw [hb1.cell (p := ⟨w.heap.size, 1, none⟩) (by simp)]; go_simp
  clear hb1 hb0
  have hlt : w.heap.size < w1.heap.size := by omega
  go_wp2_with fail
  refine (contains37 rb 0 300 ra 2 rcap w1 (by omega) (one.below hb2 hrb) 38 #[.pointer (some ⟨w.heap.size, 0, none⟩)] (enters_of Try.func38 (by kernel_rfl) rfl) (bad38 4 (some ⟨sb, so, none⟩) 5 cap 0 300 ra rcap exl w1 (by decide) ((hr.below hb2).mono (by omega)) w.heap.size hlt c0 c1)).mono ?_
  rintro e w2 ⟨rfl, hb3⟩
  have hb4 : Below w.heap.size w w2 := hb2.trans (hb3.mono (by omega))
  have hs2 := hb3.size
  have e0 := (hb3.cell (p := ⟨w.heap.size, 0, none⟩) hlt).trans c0
  have e1 := (hb3.cell (p := ⟨w.heap.size, 1, none⟩) hlt).trans c1
  have hlt2 : w.heap.size < w2.heap.size := by omega
  clear c0 c1 hb3
  go_wp2_with fail
  refine (without40 sb so cap w2 ((ch.below hb4).mono (by omega))).mono ?_
  rintro e w3 ⟨g, c, rfl, chL, hb5⟩
  have hs3 := hb5.size
  have e3 := (hb5.cell (p := ⟨w.heap.size, 0, none⟩) hlt2).trans e0
  have e4 := (hb5.cell (p := ⟨w.heap.size, 1, none⟩) hlt2).trans e1
  have hlt3 : w.heap.size < w3.heap.size := by omega
  have hb6 : Below w.heap.size w w3 := hb4.trans (hb5.mono (by omega))
  have o3 := one.below hb6 hrb
  have o0 := o3.c0; have o1 := o3.c1; have o2 := o3.c2
  have hrb3 : rb < w3.heap.size := by omega
  clear e0 e1
  go_wp2_with fail
  obtain ⟨W4, hW4⟩ : ∃ W4, W4 = (w3.alloc (Obj.cells #[Value.int IntKind.i64 4, Value.slice (some ⟨g, 0, none⟩) 4 c] 31)).alloc (Obj.cells #[Value.int .i64 0, .int .i64 300, .slice ra 2 rcap] 34) := ⟨_, rfl⟩
  have hb7 : Below w3.heap.size w3 W4 := by rw [hW4]; exact ((Below.refl _ _).alloc (Nat.le_refl _) _).alloc (by simp) _
  have hs4 : W4.heap.size = w3.heap.size + 1 + 1 := by rw [hW4]; simp
  have z0 : W4.cell? ⟨w3.heap.size, 0, none⟩ = some (.int .i64 4) := by rw [hW4]; go_simp
  have z1 : W4.cell? ⟨w3.heap.size, 1, none⟩ = some (.slice (some ⟨g, 0, none⟩) 4 c) := by rw [hW4]; go_simp
  have y0 : W4.cell? ⟨w3.heap.size + 1, 0, none⟩ = some (.int .i64 0) := by rw [hW4]; go_simp
  have y1 : W4.cell? ⟨w3.heap.size + 1, 1, none⟩ = some (.int .i64 300) := by rw [hW4]; go_simp
  have y2 : W4.cell? ⟨w3.heap.size + 1, 2, none⟩ = some (.slice ra 2 rcap) := by rw [hW4]; go_simp
  have x0 : W4.cell? ⟨w.heap.size, 0, none⟩ = some (.int .i64 4) := (hb7.cell (p := ⟨w.heap.size, 0, none⟩) hlt3).trans e3
  have x1 : W4.cell? ⟨w.heap.size, 1, none⟩ = some (.slice (some ⟨sb, so, none⟩) 5 cap) := (hb7.cell (p := ⟨w.heap.size, 1, none⟩) hlt3).trans e4
  have hl4 : w.heap.size < W4.heap.size ∧ w3.heap.size < W4.heap.size ∧ w3.heap.size + 1 < W4.heap.size := by omega
  have hS : ∀ X, Below W4.heap.size W4 X → X.cell? ⟨w.heap.size, 0, none⟩ = some (.int .i64 4) ∧ X.cell? ⟨w.heap.size, 1, none⟩ = some (.slice (some ⟨sb, so, none⟩) 5 cap) ∧ X.cell? ⟨w3.heap.size, 0, none⟩ = some (.int .i64 4) ∧ X.cell? ⟨w3.heap.size, 1, none⟩ = some (.slice (some ⟨g, 0, none⟩) 4 c) ∧ X.cell? ⟨w3.heap.size + 1, 0, none⟩ = some (.int .i64 0) ∧ X.cell? ⟨w3.heap.size + 1, 1, none⟩ = some (.int .i64 300) ∧ X.cell? ⟨w3.heap.size + 1, 2, none⟩ = some (.slice ra 2 rcap) := fun X hb =>
    ⟨(hb.cell (p := ⟨w.heap.size, 0, none⟩) hl4.1).trans x0, (hb.cell (p := ⟨w.heap.size, 1, none⟩) hl4.1).trans x1, (hb.cell (p := ⟨w3.heap.size, 0, none⟩) hl4.2.1).trans z0, (hb.cell (p := ⟨w3.heap.size, 1, none⟩) hl4.2.1).trans z1, (hb.cell (p := ⟨w3.heap.size + 1, 0, none⟩) hl4.2.2).trans y0, (hb.cell (p := ⟨w3.heap.size + 1, 1, none⟩) hl4.2.2).trans y1, (hb.cell (p := ⟨w3.heap.size + 1, 2, none⟩) hl4.2.2).trans y2⟩
  obtain ⟨k2, hk2⟩ : ∃ k2, k2 = itim 4 exless exl 0 300 := ⟨_, rfl⟩
  have hk3 : k2 ≠ 1 := by rw [hk2]; exact ex_itim2
  have key : ∀ (X : World) (q : Option Addr) (ln cp : Nat), Below W4.heap.size W4 X → (q = some ⟨sb, so, none⟩ ∧ ln = 5 ∧ cp = cap ∨ q = some ⟨g, 0, none⟩ ∧ ln = 4 ∧ cp = c) → Calls Try.prog 41 #[.agg #[.int .i64 4, .slice q ln cp], .agg #[.int .i64 0, .int .i64 300, .slice ra 2 rcap]] X (ErrPost (if ln = 5 then 1 else k2) X.heap.size X) := by
    intro X q ln cp hX hc
    have h8 : Below w3.heap.size w3 X := hb7.trans (hX.mono (by omega))
    have h9 : Below w.heap.size w X := hb6.trans (h8.mono (by omega))
    have hsX := hX.size
    have hrX : IsRound X.heap.size X ra exl 4 0 300 := (hr.below h9).mono (by omega)
    rcases hc with ⟨rfl, rfl, rfl⟩ | ⟨rfl, rfl, rfl⟩
    · have h := inTime41 4 (some ⟨sb, so, none⟩) cp exw 0 300 ra rcap exl X ((ch.below h9).mono (by omega)) hrX rfl
      rw [ex_itim] at h
      exact h
    · have h := inTime41 4 (some ⟨g, 0, none⟩) cp exless 0 300 ra rcap exl X ((chL.below h8).mono (by omega)) hrX rfl
      rw [← hk2] at h
      exact h
  have KEY := Lib.hid key; have HS := Lib.hid hS; have H7 := Lib.hid hb7; have HS4 := Lib.hid hs4
  clear key hS hb7 hs4 x0 x1 y0 y1 y2 z0 z1 hk2 o3 chL ch hr one hb5 hb2 hb4 
  have HB6 := Lib.hid hb6; clear hb6
  refine wp_loop_rounds 2 ?_
  rw [rounds_succ]
  go_upto_region 13 with fail
  rw [← hW4]
  have hB0 : Below W4.heap.size W4 W4 := Below.refl _ _
  have HW4 := Lib.hid hW4; clear hW4
  go_cut [41] from 35 to 41 (fun s wx => s = .bool true ∧ Below W4.heap.size W4 wx)
  case first =>
    have hB : Below W4.heap.size W4 W4.drew := hB0.drew
    go_region_held3 (fun w' => w'.cell? ⟨w.heap.size, 0, none⟩ = some (.int .i64 4) ∧ w'.cell? ⟨w.heap.size, 1, none⟩ = some (.slice (some ⟨sb, so, none⟩) 5 cap) ∧ w'.cell? ⟨w3.heap.size, 0, none⟩ = some (.int .i64 4) ∧ w'.cell? ⟨w3.heap.size, 1, none⟩ = some (.slice (some ⟨g, 0, none⟩) 4 c) ∧ w'.cell? ⟨w3.heap.size + 1, 0, none⟩ = some (.int .i64 0) ∧ w'.cell? ⟨w3.heap.size + 1, 1, none⟩ = some (.int .i64 300) ∧ w'.cell? ⟨w3.heap.size + 1, 2, none⟩ = some (.slice ra 2 rcap)) (first | exact HS.out _ hB | go_keep)
     (first
      | (go_at_call 41; refine (KEY.out _ _ _ _ hB ?_).mono ?_; (first | exact .inl ⟨rfl, rfl, rfl⟩ | exact .inr ⟨rfl, rfl, rfl⟩); rintro e wA ⟨rfl, hb⟩; have hB := hB.trans (hb.mono hB.size); clear hb))
    all_goals (go_wp2_with fail; go_meet; exact ⟨by simp [Ne.symm hk3], hB⟩)
  case rest =>
  obtain ⟨rfl, hB⟩ := hcut
  obtain ⟨i0, hi, hz0, hz1, hz2⟩ := info_parts info3
  have HI := Lib.hid (And.intro hi (And.intro hz0 (And.intro hz1 hz2))); clear hi hz0 hz1 hz2
  have hwB : Below w.heap.size w wc := by
    have h8 := H7.out.trans (hB.mono (by have := HS4.out; omega))
    exact HB6.out.trans (h8.mono (by omega))
  have hO : wc.ownsRow wc.heap.size 3 1 (.slice none 0 0) 0 [] := World.ownsRow_nil _ _ _ _
  have HO := Lib.hid hO; clear hO
  have hsc := hB.size
  go_wp2_with fail
  obtain ⟨cq, hcq⟩ : ∃ cq, cq = (Question.appendCap 1 0 3).cut (wc.tape wc.drawn (Question.appendCap 1 0 3)) := ⟨_, rfl⟩
  rw [← hcq]
  have hbX : Below w.heap.size w ((wc.alloc (Obj.cells #[Value.int IntKind.i64 0] 3)).alloc (Obj.cells (#[Value.int IntKind.i64 0] ++ Builtin.zeroCells #[Value.int IntKind.i64 0] (cq - 1)) 3)).drew :=
    ((hwB.alloc (by omega) _).alloc (by simp; omega) _).drew
  have hcX : ((wc.alloc (Obj.cells #[Value.int IntKind.i64 0] 3)).alloc (Obj.cells (#[Value.int IntKind.i64 0] ++ Builtin.zeroCells #[Value.int IntKind.i64 0] (cq - 1)) 3)).drew.cell? ⟨wc.heap.size + 1, 0, none⟩ = some (.int .i64 0) := by
    show ((wc.alloc _).alloc _).cell? _ = _
    have hb : ((wc.alloc (Obj.cells #[Value.int IntKind.i64 0] 3)).alloc (Obj.cells (#[Value.int IntKind.i64 0] ++ Builtin.zeroCells #[Value.int IntKind.i64 0] (cq - 1)) 3)).heap[wc.heap.size + 1]? = some (Obj.cells (#[Value.int IntKind.i64 0] ++ Builtin.zeroCells #[Value.int IntKind.i64 0] (cq - 1)) 3) := by
      have := World.alloc_heap_new (wc.alloc (Obj.cells #[Value.int IntKind.i64 0] 3)) (Obj.cells (#[Value.int IntKind.i64 0] ++ Builtin.zeroCells #[Value.int IntKind.i64 0] (cq - 1)) 3)
      rw [World.size_alloc] at this
      exact this
    have hq0 : (#[Value.int IntKind.i64 0] ++ Builtin.zeroCells #[Value.int IntKind.i64 0] (cq - 1))[0]? = some (Value.int .i64 0) := by
      rw [Array.getElem?_append_left (by simp)]; rfl
    generalize (#[Value.int IntKind.i64 0] ++ Builtin.zeroCells #[Value.int IntKind.i64 0] (cq - 1)) = Q at *
    simp only [World.cell?, hb, hq0]
    rfl
  have hlX : wc.heap.size + 1 < ((wc.alloc (Obj.cells #[Value.int IntKind.i64 0] 3)).alloc (Obj.cells (#[Value.int IntKind.i64 0] ++ Builtin.zeroCells #[Value.int IntKind.i64 0] (cq - 1)) 3)).drew.heap.size := by
    show _ < ((wc.alloc _).alloc _).heap.size
    simp
  generalize ((wc.alloc (Obj.cells #[Value.int IntKind.i64 0] 3)).alloc (Obj.cells (#[Value.int IntKind.i64 0] ++ Builtin.zeroCells #[Value.int IntKind.i64 0] (cq - 1)) 3)).drew = X at *
  clear hcq
  rw [rounds_succ]
  go_wp2_with fail
  go_ret2
  exact ⟨_, _, rfl, hcX, hlX, hbX⟩
end Go.Proofs.Ytdmmjlhcjmdajaa
