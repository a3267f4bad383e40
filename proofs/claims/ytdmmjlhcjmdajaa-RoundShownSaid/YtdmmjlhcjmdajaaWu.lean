/-
  The contract of Slack where the answer is 0.
  Its conditions stand in each theorem.
-/
import Derived.Test.YtdmmjlhcjmdajaaWt
import Derived.BigRegion
namespace Go.Proofs.Ytdmmjlhcjmdajaa
open Go.RowKit Go.Shelf Go.Maps
set_option linter.unusedVariables false

/-- whether the stops are all begun, so much later -/
def isD (n : Nat) (ws : List Rd.Wy) (l : List Stp) (p a d : Int) : Bool := decide (a + d ≤ 1439) && !(decide ((-1 : Int) ∈ begs n ws (Rd.his ws) l p (a + d)))

def BoolPost (b : Bool) (n0 : Nat) (w : World) (e : Ending) (w' : World) : Prop := e = .returned (.bool b) ∧ Below n0 w w'

set_option maxRecDepth 100000 in
set_option maxHeartbeats 2000000 in
theorem slack34 (n : Nat) (sa : Option Addr) (cap : Nat) (ws : List Rd.Wy) (p a d : Int) (ra : Option Addr) (rcap : Nat) (l : List Stp) (w : World) (ch : IsChart w.heap.size w sa ws n) (hr : IsRound w.heap.size w ra l n p a) (hl2 : l.length = 2) (hd0 : 0 ≤ d) (hd1 : d ≤ 1440)
   (q r : Nat) (hq : q < w.heap.size) (hrr : r < w.heap.size) (c0 : w.cell? ⟨q, 0, none⟩ = some (.int .i64 n)) (c1 : w.cell? ⟨q, 1, none⟩ = some (.slice sa ws.length cap))
   (d0 : w.cell? ⟨r, 0, none⟩ = some (.int .i64 p)) (d1 : w.cell? ⟨r, 1, none⟩ = some (.int .i64 a)) (d2 : w.cell? ⟨r, 2, none⟩ = some (.slice ra 2 rcap)) :
   Calls Try.prog 34 #[.int .i64 d, .pointer (some ⟨r, 0, none⟩), .pointer (some ⟨q, 0, none⟩)] w (BoolPost (isD n ws l p a d) w.heap.size w) := by
  have ha0 := hr.a0; have ha1 := hr.a1
  obtain ⟨w1, hw1⟩ : ∃ w1, w1 = (w.alloc (Obj.cells #[Value.int .i64 p, .int .i64 (a + d), .slice ra 2 rcap] 34)) := ⟨_, rfl⟩
  have hb2 : Below w.heap.size w w1 := by rw [hw1]; exact (Below.refl _ _).alloc (Nat.le_refl _) _
  have hs1 : w1.heap.size = w.heap.size + 1 := by rw [hw1]; simp
  have e0 : w1.cell? ⟨w.heap.size, 0, none⟩ = some (.int .i64 p) := by rw [hw1]; go_simp
  have e1 : w1.cell? ⟨w.heap.size, 1, none⟩ = some (.int .i64 (a + d)) := by rw [hw1]; go_simp
  have e2 : w1.cell? ⟨w.heap.size, 2, none⟩ = some (.slice ra 2 rcap) := by rw [hw1]; go_simp
  have f0 : w1.cell? ⟨q, 0, none⟩ = some (.int .i64 n) := (hb2.cell (p := ⟨q, 0, none⟩) hq).trans c0
  have f1 : w1.cell? ⟨q, 1, none⟩ = some (.slice sa ws.length cap) := (hb2.cell (p := ⟨q, 1, none⟩) hq).trans c1
  have ch1 : IsChart w1.heap.size w1 sa ws n := (ch.below hb2).mono (by omega)
  have hlt : w.heap.size < w1.heap.size := by omega
  have hltq : q < w1.heap.size := by omega
  have HS1 := Lib.hid hs1; clear hs1
  have HR : ∀ X, Below w1.heap.size w1 X → IsChart X.heap.size X sa ws n ∧ IsRound X.heap.size X ra l n p 0 ∧ X.cell? ⟨w.heap.size, 0, none⟩ = some (.int .i64 p) ∧ X.cell? ⟨w.heap.size, 1, none⟩ = some (.int .i64 (a + d)) ∧ X.cell? ⟨w.heap.size, 2, none⟩ = some (.slice ra 2 rcap) ∧ X.cell? ⟨q, 0, none⟩ = some (.int .i64 n) ∧ X.cell? ⟨q, 1, none⟩ = some (.slice sa ws.length cap) := fun X hX => by
    have hsz := hX.size
    have h9 := (hr.below (hb2.trans (hX.mono (by omega)))).mono (n1 := X.heap.size) (by omega)
    exact ⟨(ch1.below hX).mono (by omega), ⟨h9.len, h9.p0, h9.p1, by omega, by omega, h9.ok, h9.me⟩, (hX.cell (p := ⟨w.heap.size, 0, none⟩) hlt).trans e0, (hX.cell (p := ⟨w.heap.size, 1, none⟩) hlt).trans e1, (hX.cell (p := ⟨w.heap.size, 2, none⟩) hlt).trans e2, (hX.cell (p := ⟨q, 0, none⟩) hltq).trans f0, (hX.cell (p := ⟨q, 1, none⟩) hltq).trans f1⟩
  have HRR := Lib.hid HR; clear HR
  go_enter Try.func34, Try.ntmps34
  go_wp2_with fail
  rw [← hw1]
  clear hw1 c0 c1 d0 d1 d2
  by_cases hle : a + d ≤ 1439
  · have hld : decide (a + d ≤ 1439) = true := decide_eq_true hle
    have hbD : Below w1.heap.size w1 (w1.alloc (Obj.cells #[Value.int IntKind.i64 ↑n, Value.slice sa ws.length cap] 31)).drew := ((Below.refl _ _).alloc (Nat.le_refl _) _).drew
    have hsD : (w1.alloc (Obj.cells #[Value.int IntKind.i64 ↑n, Value.slice sa ws.length cap] 31)).drew.heap.size = w1.heap.size + 1 := by show (w1.alloc _).heap.size = _; simp
    have hxD : (w1.alloc (Obj.cells #[Value.int IntKind.i64 ↑n, Value.slice sa ws.length cap] 31)).drew.cell? ⟨w1.heap.size, 1, none⟩ = some (.slice sa ws.length cap) := by show (w1.alloc _).cell? _ = _; simp
    have HD := Lib.hid (And.intro hbD (And.intro hsD (And.intro hxD (HRR.out _ hbD)))); clear hbD hsD hxD
    go_region_held3 (fun w' => w'.cell? ⟨w.heap.size, 0, none⟩ = some (.int .i64 p) ∧ w'.cell? ⟨w.heap.size, 1, none⟩ = some (.int .i64 (a + d)) ∧ w'.cell? ⟨w.heap.size, 2, none⟩ = some (.slice ra 2 rcap) ∧ w'.cell? ⟨q, 0, none⟩ = some (.int .i64 n) ∧ w'.cell? ⟨q, 1, none⟩ = some (.slice sa ws.length cap)) (first | exact ⟨e0, e1, e2, f0, f1⟩ | exact ⟨e3, e4, e5, f3, f4⟩ | go_keep)
     (first
      | (go_at_call 22; refine (most_any _ _ _ _ _).mono ?_; rintro e wm ⟨rfl, rfl⟩)
      | (go_at_call 33; refine (begins_2 n sa cap ws (Rd.his ws) p (a + d) ra rcap l 46 #[.pointer (some ⟨w1.heap.size, 0, none⟩)] _ HD.out.2.2.2.1 HD.out.2.2.2.2.1 hl2 (by omega) (by omega) ch.ch.his (his_bd ch.ch) (enters_of Try.func46 (by kernel_rfl) rfl) (most_takes HD.out.2.2.2.1 HD.out.2.2.1 (by rw [HD.out.2.1]; omega))).mono ?_; rintro e w3 ⟨b, rfl, hbl, hrow, hb3⟩; have hbX : Below w1.heap.size w1 w3 := HD.out.1.trans (hb3.mono (by rw [HD.out.2.1]; omega)); obtain ⟨-, -, e3, e4, e5, f3, f4⟩ := HRR.out _ hbX; have hal := all_any b 2 _ (by rw [begs_len, hl2]; decide) _ hrow; rw [begs_len, hl2] at hal)
      | (go_at_call 35; refine hal.mono ?_; rintro e w4 ⟨rfl, rfl⟩))
    go_wp2_with fail
    go_ret
    exact ⟨by unfold isD; rw [decide_eq_true hle, Bool.true_and]; rfl, hb2.trans (hbX.mono (by omega))⟩
  · have hld : decide (a + d ≤ 1439) = false := decide_eq_false hle
    go_quiet (fail)
    go_wp2_with fail
    go_ret
    exact ⟨by unfold isD; rw [decide_eq_false (by omega : ¬ a + d ≤ 1439), Bool.false_and]; rfl, below_drewN hb2 _⟩

def mids : List Int := [1440, 720, 360, 180, 90, 45, 22, 11, 5, 2, 1]
theorem mids_half {h : Int} (hm : h ∈ mids) (h1 : 1 < h) : h / 2 ∈ mids ∧ 1 ≤ h / 2 ∧ h / 2 < h ∧ h / 2 ≤ 720 := by
  simp only [mids, List.mem_cons, List.not_mem_nil, or_false] at hm
  rcases hm with rfl | rfl | rfl | rfl | rfl | rfl | rfl | rfl | rfl | rfl | rfl <;> first | omega | (refine ⟨?_, ?_, ?_, ?_⟩ <;> decide)
theorem mids_pos {h : Int} (hm : h ∈ mids) : 1 ≤ h ∧ h ≤ 1440 := by
  simp only [mids, List.mem_cons, List.not_mem_nil, or_false] at hm
  rcases hm with rfl | rfl | rfl | rfl | rfl | rfl | rfl | rfl | rfl | rfl | rfl <;> omega

def SlackPost (w : World) (e : Ending) (w' : World) : Prop := e = .returned (.tuple #[.int .i64 0, .int .i64 0]) ∧ Below w.heap.size w w'

set_option maxRecDepth 100000 in
set_option maxHeartbeats 2000000 in
theorem slack15 (n : Nat) (sa : Option Addr) (cap : Nat) (ws : List Rd.Wy) (p a : Int) (ra : Option Addr) (rcap : Nat) (l : List Stp) (w : World) (ch : IsChart w.heap.size w sa ws n) (hr : IsRound w.heap.size w ra l n p a) (hl2 : l.length = 2)
   (h0 : isD n ws l p a 0 = true) (hf : ∀ h ∈ mids, 1 < h → isD n ws l p a (h / 2) = false) :
   Calls Try.prog 15 #[cv n sa ws.length cap, rv p a ra 2 rcap] w (SlackPost w) := by
  have hb0 : Below w.heap.size w ((w.alloc (Obj.cells #[Value.int IntKind.i64 ↑n, Value.slice sa ws.length cap] 31)).alloc (Obj.cells #[Value.int .i64 p, .int .i64 a, .slice ra 2 rcap] 34)) := ((Below.refl _ _).alloc (Nat.le_refl _) _).alloc (by simp) _
  have hck := checkRound_ok n sa cap ws p a ra rcap l _ ((ch.below hb0).mono (by simp; omega)) ((hr.below hb0).mono (by simp; omega))
  rw [hl2] at hck
  go_enter Try.func15, Try.ntmps15
  go_wp2_with fail
  refine hck.mono ?_
  rintro e w1 ⟨rfl, hb1⟩
  have hb2 : Below w.heap.size w w1 := hb0.trans (hb1.mono (by simp; omega))
  have hs1 := hb1.size
  simp only [World.size_alloc] at hs1
  have c0 : w1.cell? ⟨w.heap.size, 0, none⟩ = some (.int .i64 n) := by rw [hb1.cell (p := ⟨w.heap.size, 0, none⟩) (by simp; omega)]; go_simp
  have c1 : w1.cell? ⟨w.heap.size, 1, none⟩ = some (.slice sa ws.length cap) := by rw [hb1.cell (p := ⟨w.heap.size, 1, none⟩) (by simp; omega)]; go_simp
  have d0 : w1.cell? ⟨w.heap.size + 1, 0, none⟩ = some (.int .i64 p) := by rw [hb1.cell (p := ⟨w.heap.size + 1, 0, none⟩) (by simp)]; go_simp
  have d1 : w1.cell? ⟨w.heap.size + 1, 1, none⟩ = some (.int .i64 a) := by rw [hb1.cell (p := ⟨w.heap.size + 1, 1, none⟩) (by simp)]; go_simp
  have d2 : w1.cell? ⟨w.heap.size + 1, 2, none⟩ = some (.slice ra 2 rcap) := by rw [hb1.cell (p := ⟨w.heap.size + 1, 2, none⟩) (by simp)]; go_simp
  have hlt : w.heap.size < w1.heap.size := by omega
  have hlt1 : w.heap.size + 1 < w1.heap.size := by omega
  clear hb1 hb0 hck
  have HI : ∀ (X : World) (d : Int), Below w1.heap.size w1 X → 0 ≤ d → d ≤ 1440 → Calls Try.prog 34 #[.int .i64 d, .pointer (some ⟨w.heap.size + 1, 0, none⟩), .pointer (some ⟨w.heap.size, 0, none⟩)] X (BoolPost (isD n ws l p a d) X.heap.size X) := fun X d hX g0 g1 => by
    have hsz := hX.size
    exact slack34 n sa cap ws p a d ra rcap l X ((ch.below (hb2.trans (hX.mono (by omega)))).mono (by omega)) ((hr.below (hb2.trans (hX.mono (by omega)))).mono (by omega)) hl2 g0 g1 w.heap.size (w.heap.size + 1) (by omega) (by omega)
      ((hX.cell (p := ⟨w.heap.size, 0, none⟩) hlt).trans c0) ((hX.cell (p := ⟨w.heap.size, 1, none⟩) hlt).trans c1) ((hX.cell (p := ⟨w.heap.size + 1, 0, none⟩) hlt1).trans d0) ((hX.cell (p := ⟨w.heap.size + 1, 1, none⟩) hlt1).trans d1) ((hX.cell (p := ⟨w.heap.size + 1, 2, none⟩) hlt1).trans d2)
  have HII := Lib.hid HI; clear HI
  have HF := Lib.hid hf; clear hf
  go_wp2_with fail
  refine (HII.out w1 0 (Below.refl _ _) (by decide) (by decide)).mono ?_
  rw [h0]
  rintro e w2 ⟨rfl, hb3⟩
  go_wp2_with fail
  go_loopw [8, 9] (fun lo hi wr => ∃ h : Int, lo = .int .i64 0 ∧ hi = .int .i64 h ∧ Hid (h ∈ mids) ∧ Below w1.heap.size w1 wr) (fun _ hi _ => (intOf hi).toNat)
  case atStart => exact ⟨1440, rfl, rfl, by unfold Hid mids; decide, hb3⟩
  case round =>
    obtain ⟨h, rfl, rfl, hm, hb⟩ := hrel
    have hp := mids_pos hm.out
    by_cases h1 : 1 < h
    · have hh := mids_half hm.out h1
      obtain ⟨m, hmm⟩ : ∃ m, h / 2 = m := ⟨_, rfl⟩
      have hfm := HF.out h hm.out h1
      rw [hmm] at hh hfm
      have g1 := hh.2.1; have g2 := hh.2.2.1; have g3 := hh.2.2.2
      have HH := Lib.hid hh.1; clear hh
      have hmt : h.tdiv 2 = m := by rw [Int.tdiv_eq_ediv_of_nonneg (by omega)]; exact hmm
      have HFM := Lib.hid hfm; clear hfm
      go_wp2_with fail
      refine (HII.out wr m hb (by omega) (by omega)).mono ?_
      rw [HFM.out]
      rintro e w3 ⟨rfl, hb4⟩
      go_wp2_with fail
      go_roundw
      case rel => exact ⟨m, rfl, rfl, HH, hb.trans (hb4.mono hb.size)⟩
      case measure => simp [intOf]; omega
    · go_wp2_with fail
      go_ret2
      exact ⟨rfl, hb2.trans (hb.mono (by omega))⟩
end Go.Proofs.Ytdmmjlhcjmdajaa
