/-
  The contracts of Index, Contains, all and Begins.
  Its conditions stand in each theorem.
-/
import Derived.Test.YtdmmjlhcjmdajaaWq
import Derived.Deep.RegionWith
import Derived.Deep.RegionHeld3
namespace Go.Proofs.Ytdmmjlhcjmdajaa
open Go.RowKit Go.Shelf Go.Maps
set_option linter.unusedVariables false

theorem index63 (b cap : Nat) (l : List Int) (hlen : l.length ≤ 1000) (w : World) (h : IRow w b l) :
   Calls Try.prog 63 #[.slice (some ⟨b, 0, none⟩) l.length cap, .int .i64 (-1)] w fun e w' => (∃ r : Int, e = .returned (.int .i64 r) ∧ (0 ≤ r ↔ (-1 : Int) ∈ l)) ∧ w' = w := by
  obtain ⟨len, hL⟩ : ∃ len, len = l.length := ⟨_, rfl⟩
  rw [← hL] at hlen ⊢
  have HL := Lib.hid hL; clear hL
  go_enter Try.func63, Try.ntmps63
  go_wp2_with fail
  go_loopw [5, 8] (fun _ i wr => ∃ k : Nat, k ≤ len ∧ i = .int .i64 k ∧ wr = w ∧ Hid (∀ j : Nat, j < k → Rd.mrk l j ≠ -1)) (fun _ i _ => len - (intOf i).toNat)
  case atStart => exact ⟨0, Nat.zero_le _, rfl, rfl, fun j hj => by omega⟩
  case round =>
    obtain ⟨k, hk, rfl, rfl, hF⟩ := hrel
    by_cases hlt : k < len
    · have hc := h.cell (j := k) (by rw [← HL.out]; exact hlt)
      by_cases hp : Rd.mrk l k = -1
      · rw [hp] at hc
        have HP := Lib.hid hp; clear hp
        go_wp2_with fail
        go_ret
        refine ⟨⟨_, rfl, ⟨fun _ => ?_, fun _ => by omega⟩⟩, rfl⟩
        have := mrk_mem (M := l) (k := k) (by rw [← HL.out]; exact hlt)
        rw [HP.out] at this
        exact this
      · have hpb : ((-1 : Int) == Rd.mrk l k) = false := by simp; omega
        have HP := Lib.hid hp; clear hp
        go_wp2_with fail
        go_roundw
        case rel => exact ⟨k + 1, by omega, by go_num, by first | rfl | trivial, fun j hj => by
          by_cases e : j = k
          · rw [e]; exact HP.out
          · exact hF.out j (by omega)⟩
        case measure => simp [intOf]; omega
    · go_wp2_with fail
      go_ret
      refine ⟨⟨-1, by first | rfl | trivial, ⟨fun h => by omega, fun hm => ?_⟩⟩, by first | rfl | trivial⟩
      obtain ⟨i, hi, e⟩ := List.mem_iff_getElem.1 hm
      have := hF.out i (by have := HL.out; omega)
      exact absurd (by simp [Rd.mrk, List.getD_eq_getElem?_getD, hi, e]) this

theorem contains52 (b cap : Nat) (l : List Int) (hlen : l.length ≤ 1000) (w : World) (h : IRow w b l) :
   Calls Try.prog 52 #[.slice (some ⟨b, 0, none⟩) l.length cap, .int .i64 (-1)] w fun e w' => e = .returned (.bool (decide ((-1 : Int) ∈ l))) ∧ w' = w := by
  go_enter Try.func52, Try.ntmps52
  go_wp2_with fail
  refine (index63 b cap l hlen w h).mono ?_
  rintro e w2 ⟨⟨r, rfl, hr⟩, rfl⟩
  have HR := Lib.hid hr; clear hr
  go_wp2_with fail
  go_ret
  exact ⟨by simp [HR.out], rfl⟩

theorem all_any (b cap : Nat) (l : List Int) (hlen : l.length ≤ 1000) (w : World) (h : IRow w b l) :
   Calls Try.prog 35 #[.slice (some ⟨b, 0, none⟩) l.length cap] w fun e w' => e = .returned (.bool (!(decide ((-1 : Int) ∈ l)))) ∧ w' = w := by
  go_enter Try.func35, Try.ntmps35
  go_wp2_with fail
  refine (contains52 b cap l hlen w h).mono ?_
  rintro e w2 ⟨rfl, rfl⟩
  go_wp2_with fail
  go_ret
  exact ⟨by simp, rfl⟩

theorem most_takes {n p0 : Nat} {sa : Option Addr} {cap : Nat} {ws : List Rd.Wy} {w : World} (ch : IsChart w.heap.size w sa ws n) (hp : w.cell? ⟨p0, 1, none⟩ = some (.slice sa ws.length cap)) (hpl : p0 < w.heap.size) : TakesS 46 #[.pointer (some ⟨p0, 0, none⟩)] (Rd.his ws) ws.length w :=
  takes_most (Nat.le_refl _) ch.ch.len ch.wy hp hpl
theorem least_takes {n p0 : Nat} {sa : Option Addr} {cap : Nat} {ws : List Rd.Wy} {w : World} (ch : IsChart w.heap.size w sa ws n) (hp : w.cell? ⟨p0, 1, none⟩ = some (.slice sa ws.length cap)) (hpl : p0 < w.heap.size) : TakesS 49 #[.pointer (some ⟨p0, 0, none⟩)] (Rd.los ws) ws.length w :=
  takes_least (Nat.le_refl _) ch.ch.len ch.wy hp hpl

theorem begs_len (n : Nat) (ws : List Rd.Wy) (tk : List Int) : ∀ (l : List Stp) (p a : Int), (begs n ws tk l p a).length = l.length
  | [], _, _ => rfl
  | s :: r, p, a => by
    unfold begs
    split
    · simp
    · split
      · simp
      · split
        · simp
        · simp [begs_len n ws tk r]

def BegAns (n : Nat) (ws : List Rd.Wy) (l : List Stp) (p a : Int) (w : World) (e : Ending) (w' : World) : Prop :=
  ∃ b, e = .returned (.tuple #[.slice (some ⟨b, 0, none⟩) 2 2, .int .i64 0]) ∧ b < w'.heap.size ∧ IRow w' b (begs n ws (Rd.his ws) l p a) ∧ Below w.heap.size w w'

set_option maxRecDepth 100000 in
set_option maxHeartbeats 2000000 in
theorem begins14 (n : Nat) (sa : Option Addr) (cap : Nat) (ws : List Rd.Wy) (p a : Int) (ra : Option Addr) (rcap : Nat) (l : List Stp) (w : World) (ch : IsChart w.heap.size w sa ws n) (hr : IsRound w.heap.size w ra l n p a) (hl2 : l.length = 2) :
   Calls Try.prog 14 #[cv n sa ws.length cap, rv p a ra 2 rcap] w (BegAns n ws l p a w) := by
  have ha0 := hr.a0; have ha1 := hr.a1
  have hb0 : Below w.heap.size w ((w.alloc (Obj.cells #[Value.int IntKind.i64 ↑n, Value.slice sa ws.length cap] 31)).alloc (Obj.cells #[Value.int .i64 p, .int .i64 a, .slice ra 2 rcap] 34)) := ((Below.refl _ _).alloc (Nat.le_refl _) _).alloc (by simp) _
  have hck := checkRound_ok n sa cap ws p a ra rcap l _ ((ch.below hb0).mono (by simp; omega)) ((hr.below hb0).mono (by simp; omega))
  rw [hl2] at hck
  go_enter Try.func14, Try.ntmps14
  go_wp2_with fail
  refine hck.mono ?_
  rintro e w1 ⟨rfl, hb1⟩
  have hb2 : Below w.heap.size w w1 := hb0.trans (hb1.mono (by simp; omega))
  have hs1 := hb1.size
  simp only [World.size_alloc] at hs1
  have c0 : w1.cell? ⟨w.heap.size, 0, none⟩ = some (.int .i64 n) := by rw [hb1.cell (p := ⟨w.heap.size, 0, none⟩) (by simp; omega)]; go_simp
  have c1 : w1.cell? ⟨w.heap.size, 1, none⟩ = some (.slice sa ws.length cap) := by rw [hb1.cell (p := ⟨w.heap.size, 1, none⟩) (by simp; omega)]; go_simp
  have d0 : w1.cell? ⟨w.heap.size + 1, 0, none⟩ = some (.int .i64 p) := by rw [hb1.cell (p := ⟨w.heap.size + 1, 0, none⟩) (by simp)]; go_simp
  have d1 : w1.cell? ⟨w.heap.size + 1, 1, none⟩ = some (.int .i64 a) := by rw [hb1.cell (p := ⟨w.heap.size + 1, 1, none⟩) (by simp)]; go_simp
  have d2 : w1.cell? ⟨w.heap.size + 1, 2, none⟩ = some (.slice ra 2 rcap) := by rw [hb1.cell (p := ⟨w.heap.size + 1, 2, none⟩) (by simp)]; go_simp
  have ch1 : IsChart w1.heap.size w1 sa ws n := (ch.below hb2).mono (by omega)
  have hlt : w.heap.size < w1.heap.size := by omega
  have hlt1 : w.heap.size + 1 < w1.heap.size := by omega
  clear hb1 hb0 hck
  go_wp2_with fail
  have hbD : Below w1.heap.size w1 (w1.alloc (Obj.cells #[Value.int IntKind.i64 ↑n, Value.slice sa ws.length cap] 31)).drew := ((Below.refl _ _).alloc (Nat.le_refl _) _).drew
  have hsD : (w1.alloc (Obj.cells #[Value.int IntKind.i64 ↑n, Value.slice sa ws.length cap] 31)).drew.heap.size = w1.heap.size + 1 := by show (w1.alloc _).heap.size = _; simp
  have hcD : IsChart (w1.alloc (Obj.cells #[Value.int IntKind.i64 ↑n, Value.slice sa ws.length cap] 31)).drew.heap.size (w1.alloc (Obj.cells #[Value.int IntKind.i64 ↑n, Value.slice sa ws.length cap] 31)).drew sa ws n := (ch1.below hbD).mono (by rw [hsD]; omega)
  have hrD : IsRound (w1.alloc (Obj.cells #[Value.int IntKind.i64 ↑n, Value.slice sa ws.length cap] 31)).drew.heap.size (w1.alloc (Obj.cells #[Value.int IntKind.i64 ↑n, Value.slice sa ws.length cap] 31)).drew ra l n p 0 := by
    have h9 := (hr.below (hb2.trans (hbD.mono (by omega)))).mono (n1 := (w1.alloc (Obj.cells #[Value.int IntKind.i64 ↑n, Value.slice sa ws.length cap] 31)).drew.heap.size) (by rw [hsD]; omega)
    exact ⟨h9.len, h9.p0, h9.p1, by omega, by omega, h9.ok, h9.me⟩
  have hxD : (w1.alloc (Obj.cells #[Value.int IntKind.i64 ↑n, Value.slice sa ws.length cap] 31)).drew.cell? ⟨w1.heap.size, 1, none⟩ = some (.slice sa ws.length cap) := by show (w1.alloc _).cell? _ = _; simp
  have HD := Lib.hid (And.intro hbD (And.intro hsD (And.intro hcD (And.intro hrD hxD)))); clear hbD hsD hcD hrD hxD
  go_region_held3 (fun w' => w'.cell? ⟨w.heap.size, 0, none⟩ = some (.int .i64 n) ∧ w'.cell? ⟨w.heap.size, 1, none⟩ = some (.slice sa ws.length cap) ∧ w'.cell? ⟨w.heap.size + 1, 0, none⟩ = some (.int .i64 p) ∧ w'.cell? ⟨w.heap.size + 1, 1, none⟩ = some (.int .i64 a) ∧ w'.cell? ⟨w.heap.size + 1, 2, none⟩ = some (.slice ra 2 rcap)) (first | exact ⟨c0, c1, d0, d1, d2⟩ | exact ⟨c3, c4, d3, d4, d5⟩ | go_keep)
   (first
    | (go_at_call 22; refine (most_any _ _ _ _ _).mono ?_; rintro e wm ⟨rfl, rfl⟩)
    | (go_at_call 33; refine (begins_2 n sa cap ws (Rd.his ws) p a ra rcap l 46 #[.pointer (some ⟨w1.heap.size, 0, none⟩)] _ HD.out.2.2.1 HD.out.2.2.2.1 hl2 ha0 (by omega) ch.ch.his (his_bd ch.ch) (enters_of Try.func46 (by kernel_rfl) rfl) (most_takes HD.out.2.2.1 HD.out.2.2.2.2 (by rw [HD.out.2.1]; omega))).mono ?_; rintro e w3 ⟨b, rfl, hbl, hrow, hb3⟩; have hbX : Below w1.heap.size w1 w3 := HD.out.1.trans (hb3.mono (by rw [HD.out.2.1]; omega)); have c3 := (hbX.cell (p := ⟨w.heap.size, 0, none⟩) hlt).trans c0; have c4 := (hbX.cell (p := ⟨w.heap.size, 1, none⟩) hlt).trans c1; have d3 := (hbX.cell (p := ⟨w.heap.size + 1, 0, none⟩) hlt1).trans d0; have d4 := (hbX.cell (p := ⟨w.heap.size + 1, 1, none⟩) hlt1).trans d1; have d5 := (hbX.cell (p := ⟨w.heap.size + 1, 2, none⟩) hlt1).trans d2))
  go_wp2_with fail
  go_ret2
  exact ⟨b, rfl, hbl, hrow, hb2.trans (hbX.mono (by omega))⟩
end Go.Proofs.Ytdmmjlhcjmdajaa
