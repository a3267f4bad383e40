/-
  The contract of inTime.
  Its conditions stand in each theorem.
-/
import Derived.Test.YtdmmjlhcjmdajaaWs
import Derived.Deep.CutRange
namespace Go.Proofs.Ytdmmjlhcjmdajaa
open Go.RowKit Go.Shelf Go.Maps
set_option linter.unusedVariables false

/-- whether a round is in time: 1 yes, 2 maybe, 0 no -/
def itim (n : Nat) (ws : List Rd.Wy) (l : List Stp) (p a : Int) : Int :=
  if (-1 : Int) ∈ begs n ws (Rd.his ws) l p a then (if (-1 : Int) ∈ begs n ws (Rd.los ws) l p a then 0 else 2) else 1

set_option maxRecDepth 100000 in
set_option maxHeartbeats 2000000 in
theorem inTime41 (n : Nat) (sa : Option Addr) (cap : Nat) (ws : List Rd.Wy) (p a : Int) (ra : Option Addr) (rcap : Nat) (l : List Stp) (w : World) (ch : IsChart w.heap.size w sa ws n) (hr : IsRound w.heap.size w ra l n p a) (hl2 : l.length = 2) :
   Calls Try.prog 41 #[cv n sa ws.length cap, rv p a ra 2 rcap] w (ErrPost (itim n ws l p a) w.heap.size w) := by
  have ha0 := hr.a0; have ha1 := hr.a1
  obtain ⟨w1, hw1⟩ : ∃ w1, w1 = ((w.alloc (Obj.cells #[Value.int IntKind.i64 ↑n, Value.slice sa ws.length cap] 31)).alloc (Obj.cells #[Value.int .i64 p, .int .i64 a, .slice ra 2 rcap] 34)) := ⟨_, rfl⟩
  have hb2 : Below w.heap.size w w1 := by rw [hw1]; exact ((Below.refl _ _).alloc (Nat.le_refl _) _).alloc (by simp) _
  have hs1 : w1.heap.size = w.heap.size + 2 := by rw [hw1]; simp
  have c0 : w1.cell? ⟨w.heap.size, 0, none⟩ = some (.int .i64 n) := by rw [hw1]; go_simp
  have c1 : w1.cell? ⟨w.heap.size, 1, none⟩ = some (.slice sa ws.length cap) := by rw [hw1]; go_simp
  have d0 : w1.cell? ⟨w.heap.size + 1, 0, none⟩ = some (.int .i64 p) := by rw [hw1]; go_simp
  have d1 : w1.cell? ⟨w.heap.size + 1, 1, none⟩ = some (.int .i64 a) := by rw [hw1]; go_simp
  have d2 : w1.cell? ⟨w.heap.size + 1, 2, none⟩ = some (.slice ra 2 rcap) := by rw [hw1]; go_simp
  have ch1 : IsChart w1.heap.size w1 sa ws n := (ch.below hb2).mono (by omega)
  have hlt : w.heap.size < w1.heap.size := by omega
  have hlt1 : w.heap.size + 1 < w1.heap.size := by omega
  have HW1 := Lib.hid hw1
  have HS1 := Lib.hid hs1; clear hs1
  -- what lies at a world behind w1
  have HR : ∀ X, Below w1.heap.size w1 X → IsChart X.heap.size X sa ws n ∧ IsRound X.heap.size X ra l n p 0 ∧ X.cell? ⟨w.heap.size, 0, none⟩ = some (.int .i64 n) ∧ X.cell? ⟨w.heap.size, 1, none⟩ = some (.slice sa ws.length cap) ∧ X.cell? ⟨w.heap.size + 1, 0, none⟩ = some (.int .i64 p) ∧ X.cell? ⟨w.heap.size + 1, 1, none⟩ = some (.int .i64 a) ∧ X.cell? ⟨w.heap.size + 1, 2, none⟩ = some (.slice ra 2 rcap) := fun X hX => by
    have hsz := hX.size
    have h9 := (hr.below (hb2.trans (hX.mono (by omega)))).mono (n1 := X.heap.size) (by omega)
    exact ⟨(ch1.below hX).mono (by omega), ⟨h9.len, h9.p0, h9.p1, by omega, by omega, h9.ok, h9.me⟩, (hX.cell (p := ⟨w.heap.size, 0, none⟩) hlt).trans c0, (hX.cell (p := ⟨w.heap.size, 1, none⟩) hlt).trans c1, (hX.cell (p := ⟨w.heap.size + 1, 0, none⟩) hlt1).trans d0, (hX.cell (p := ⟨w.heap.size + 1, 1, none⟩) hlt1).trans d1, (hX.cell (p := ⟨w.heap.size + 1, 2, none⟩) hlt1).trans d2⟩
  have HRR := Lib.hid HR; clear HR
  go_enter Try.func41, Try.ntmps41
  go_wp2_with fail
  rw [← hw1]
  clear hw1
  have hbD : Below w1.heap.size w1 (w1.alloc (Obj.cells #[Value.int IntKind.i64 ↑n, Value.slice sa ws.length cap] 31)).drew := ((Below.refl _ _).alloc (Nat.le_refl _) _).drew
  have hsD : (w1.alloc (Obj.cells #[Value.int IntKind.i64 ↑n, Value.slice sa ws.length cap] 31)).drew.heap.size = w1.heap.size + 1 := by show (w1.alloc _).heap.size = _; simp
  have hxD : (w1.alloc (Obj.cells #[Value.int IntKind.i64 ↑n, Value.slice sa ws.length cap] 31)).drew.cell? ⟨w1.heap.size, 1, none⟩ = some (.slice sa ws.length cap) := by show (w1.alloc _).cell? _ = _; simp
  have HD := Lib.hid (And.intro hbD (And.intro hsD (And.intro hxD (HRR.out _ hbD)))); clear hbD hsD hxD
  go_region_held3 (fun w' => w'.cell? ⟨w.heap.size, 0, none⟩ = some (.int .i64 n) ∧ w'.cell? ⟨w.heap.size, 1, none⟩ = some (.slice sa ws.length cap) ∧ w'.cell? ⟨w.heap.size + 1, 0, none⟩ = some (.int .i64 p) ∧ w'.cell? ⟨w.heap.size + 1, 1, none⟩ = some (.int .i64 a) ∧ w'.cell? ⟨w.heap.size + 1, 2, none⟩ = some (.slice ra 2 rcap)) (first | exact ⟨c0, c1, d0, d1, d2⟩ | exact ⟨c3, c4, d3, d4, d5⟩ | go_keep)
   (first
    | (go_at_call 22; refine (most_any _ _ _ _ _).mono ?_; rintro e wm ⟨rfl, rfl⟩)
    | (go_at_call 33; refine (begins_2 n sa cap ws (Rd.his ws) p a ra rcap l 46 #[.pointer (some ⟨w1.heap.size, 0, none⟩)] _ HD.out.2.2.2.1 HD.out.2.2.2.2.1 hl2 ha0 (by omega) ch.ch.his (his_bd ch.ch) (enters_of Try.func46 (by kernel_rfl) rfl) (most_takes HD.out.2.2.2.1 HD.out.2.2.1 (by rw [HD.out.2.1]; omega))).mono ?_; rintro e w3 ⟨b, rfl, hbl, hrow, hb3⟩; have hbX : Below w1.heap.size w1 w3 := HD.out.1.trans (hb3.mono (by rw [HD.out.2.1]; omega)); obtain ⟨-, -, c3, c4, d3, d4, d5⟩ := HRR.out _ hbX; have hal := all_any b 2 _ (by rw [begs_len, hl2]; decide) _ hrow; rw [begs_len, hl2] at hal)
    | (go_at_call 35; refine hal.mono ?_; rintro e w4 ⟨rfl, rfl⟩))
  have hsz4 := hbX.size
  have hlt4 : w.heap.size < w4.heap.size := by omega
  have hlt41 : w.heap.size + 1 < w4.heap.size := by omega
  clear hal hrow hb3 hbl HD
  by_cases hm : (-1 : Int) ∈ begs n ws (Rd.his ws) l p a
  · have HM := Lib.hid hm
    rw [decide_eq_true hm]
    clear hm
    go_wp2_with fail
    have hbD : Below w4.heap.size w4 (w4.alloc (Obj.cells #[Value.int IntKind.i64 ↑n, Value.slice sa ws.length cap] 31)).drew := ((Below.refl _ _).alloc (Nat.le_refl _) _).drew
    have hsD : (w4.alloc (Obj.cells #[Value.int IntKind.i64 ↑n, Value.slice sa ws.length cap] 31)).drew.heap.size = w4.heap.size + 1 := by show (w4.alloc _).heap.size = _; simp
    have hxD : (w4.alloc (Obj.cells #[Value.int IntKind.i64 ↑n, Value.slice sa ws.length cap] 31)).drew.cell? ⟨w4.heap.size, 1, none⟩ = some (.slice sa ws.length cap) := by show (w4.alloc _).cell? _ = _; simp
    have HD := Lib.hid (And.intro hbD (And.intro hsD (And.intro hxD (HRR.out _ (hbX.trans (hbD.mono hsz4)))))); clear hbD hsD hxD
    go_region_held3 (fun w' => w'.cell? ⟨w.heap.size, 0, none⟩ = some (.int .i64 n) ∧ w'.cell? ⟨w.heap.size, 1, none⟩ = some (.slice sa ws.length cap) ∧ w'.cell? ⟨w.heap.size + 1, 0, none⟩ = some (.int .i64 p) ∧ w'.cell? ⟨w.heap.size + 1, 1, none⟩ = some (.int .i64 a) ∧ w'.cell? ⟨w.heap.size + 1, 2, none⟩ = some (.slice ra 2 rcap)) (first | exact ⟨c3, c4, d3, d4, d5⟩ | exact ⟨c6, c7, d6, d7, d8⟩ | go_keep)
     (first
      | (go_at_call 29; refine (least_any _ _ _ _ _).mono ?_; rintro e wm ⟨rfl, rfl⟩)
      | (go_at_call 33; refine (begins_2 n sa cap ws (Rd.los ws) p a ra rcap l 49 #[.pointer (some ⟨w4.heap.size, 0, none⟩)] _ HD.out.2.2.2.1 HD.out.2.2.2.2.1 hl2 ha0 (by omega) ch.ch.los (los_bd ch.ch) (enters_of Try.func49 (by kernel_rfl) rfl) (least_takes HD.out.2.2.2.1 HD.out.2.2.1 (by rw [HD.out.2.1]; omega))).mono ?_; rintro e w5 ⟨b2, rfl, hbl, hrow, hb3⟩; have hbY : Below w4.heap.size w4 w5 := HD.out.1.trans (hb3.mono (by rw [HD.out.2.1]; omega)); obtain ⟨-, -, c6, c7, d6, d7, d8⟩ := HRR.out _ (hbX.trans (hbY.mono hsz4)); have hal := all_any b2 2 _ (by rw [begs_len, hl2]; decide) _ hrow; rw [begs_len, hl2] at hal)
      | (go_at_call 35; refine hal.mono ?_; rintro e w6 ⟨rfl, rfl⟩))
    have hfin : Below w.heap.size w w6 := hb2.trans ((hbX.trans (hbY.mono hsz4)).mono (by omega))
    clear hal hrow hb3 hbl HD
    by_cases hm2 : (-1 : Int) ∈ begs n ws (Rd.los ws) l p a
    · have HM2 := Lib.hid hm2
      rw [decide_eq_true hm2]
      clear hm2
      go_wp2_with fail
      go_ret
      exact ⟨by unfold itim; rw [if_pos HM.out, if_pos HM2.out]; rfl, hfin⟩
    · have HM2 := Lib.hid hm2
      rw [decide_eq_false hm2]
      clear hm2
      go_wp2_with fail
      go_ret
      exact ⟨by unfold itim; rw [if_pos HM.out, if_neg HM2.out]; rfl, hfin⟩
  · have HM := Lib.hid hm
    rw [decide_eq_false hm]
    clear hm
    go_wp2_with fail
    go_ret
    exact ⟨by unfold itim; rw [if_neg HM.out]; rfl, hb2.trans (hbX.mono (by omega))⟩
end Go.Proofs.Ytdmmjlhcjmdajaa
