/-
  The contracts of placeOf, most, least and truly.
  Its conditions stand in each theorem.
-/
import Derived.Test.YtdmmjlhcjmdajaaWb
import Derived.BigQuiet
import Derived.Deep.QuietTactic
namespace Go.Proofs.Ytdmmjlhcjmdajaa
open Go.RowKit Go.Shelf
set_option linter.unusedVariables false

theorem isMinute_yes (n : Int) (w : World) (h1 : 0 ≤ n) (h2 : n ≤ 1439) : Calls Try.prog 44 #[.int .i64 n] w fun e w' => e = .returned (.bool true) ∧ w = w' := by
  go_enter Try.func44, Try.ntmps44
  go_wp2_with (go_at_call 25; refine (within_yes _ _ _ _ (by omega) (by omega)).mono ?_; rintro e w' ⟨rfl, rfl⟩)
  go_ret
  exact ⟨rfl, rfl⟩

theorem placeOf1 (n k : Int) (sa : Option Addr) (len cap : Nat) (w : World) (p : Nat) (hpl : p < w.heap.size) (hp : w.cell? ⟨p, 0, none⟩ = some (.int .i64 n)) (hn : n ≤ 12) (h1 : 0 ≤ k) (h2 : k < n) :
   Calls Try.prog 45 #[.int .i64 k, .pointer (some ⟨p, 0, none⟩)] w fun e w' => e = .returned (.bool false) ∧ w = w' := by
  go_enter Try.func45, Try.ntmps45
  go_wp2_with (go_at_call 25; refine (within_yes _ _ _ _ (by omega) (by omega)).mono ?_; rintro e w' ⟨rfl, rfl⟩)
  go_ret
  exact ⟨rfl, rfl⟩

theorem placeOf_ok (n : Nat) (sa : Option Addr) (cap : Nat) (ws : List Rd.Wy) (a : Int) (pa : Option Addr) (pcap : Nat) (l : List Int) (w : World) (h : IsChart w.heap.size w sa ws n) (ha : 0 ≤ a) (ha2 : a ≤ 1439) (hl : l.length ≤ 1000)
   (hi : Ints w.heap.size w pa l) (hp : ∀ j : Nat, j < l.length → 0 ≤ Rd.mrk l j ∧ Rd.mrk l j < n) :
   Calls Try.prog 19 #[cv n sa ws.length cap, .int .i64 a, .slice pa l.length pcap] w fun e w' => e = .returned (.int .i64 0) ∧ Below w.heap.size w w' := by
  have hn2 := h.ch.n2
  have HP := Lib.hid hp; clear hp
  go_enter Try.func19, Try.ntmps19
  go_wp2_with fail
  have hb0 : Below w.heap.size w (w.alloc (Obj.cells #[Value.int IntKind.i64 ↑n, Value.slice sa ws.length cap] 31)) := (Below.refl _ _).alloc (Nat.le_refl _) _
  refine (check_ok n sa cap ws _ ((h.below hb0).mono (by simp))).mono ?_
  rintro e w1 ⟨rfl, hb1⟩
  have hb1' : Below (w.heap.size + 1) (w.alloc (Obj.cells #[Value.int IntKind.i64 ↑n, Value.slice sa ws.length cap] 31)) w1 := by simpa using hb1
  go_wp2_with (go_at_call 44; refine (isMinute_yes _ _ (by omega) (by omega)).mono ?_; rintro e w' ⟨rfl, rfl⟩)
  have hG : ∀ (j : Nat), j < l.length → ∀ W', Below (w.heap.size + 1) w1 W' → Calls Try.prog 45 (#[Value.int .i64 (Rd.mrk l j)] ++ #[Value.pointer (some { block := w.heap.size, off := 0 })]) W' fun e w' => e = .returned (.bool ((fun _ => false) j)) ∧ Below (w.heap.size + 1) W' w' := by
    intro j hj W' hW
    have hW2 := hb1'.trans hW
    have hs := hW2.size
    simp at hs
    have := HP.out j hj
    refine (placeOf1 n _ sa ws.length cap W' w.heap.size (by omega) (by rw [cell_at_new _ _ _ _ hW2]; rfl) (by omega) this.1 this.2).mono ?_
    rintro e w2 ⟨rfl, rfl⟩
    exact ⟨rfl, Below.refl _ _⟩
  refine (contains23 pa pcap l hl (w.heap.size + 1) _ (((hi.below hb0).mono (by omega)).below hb1') 45 _ (fun _ => false) (enters_of Try.func45 (by kernel_rfl) rfl) hG).mono ?_
  rintro e w2 ⟨b, rfl, hb, hb2⟩
  clear hG
  obtain rfl : b = false := by cases b; rfl; simp at hb
  clear hb
  go_wp2_with fail
  go_ret
  exact ⟨rfl, hb0.trans ((hb1'.trans hb2).mono (by omega))⟩

theorem lvm_bd (w : Rd.Wy) (a : Int) (n : Int) (h : w.ok n) (h0 : 0 ≤ a) (h1 : a ≤ 1439) : 0 ≤ Rd.lvm w a ∧ Rd.lvm w a ≤ 3000 := by
  have := Rd.lvm_ge w a
  refine ⟨by omega, ?_⟩
  have := h.o2; have := h.o1; have := h.e1; have := h.o0
  unfold Rd.lvm
  split
  · rename_i he
    have h1 : (max a w.olo - w.olo + w.every - 1) / w.every * w.every ≤ max a w.olo - w.olo + w.every - 1 := Int.ediv_mul_le _ (by omega)
    omega
  · omega

theorem ret_leave {a b : Int} {p q : Bool} (h : a = b) (g : p = q) : Ending.returned (.tuple #[.int .i64 a, .bool p]) = .returned (.tuple #[.int .i64 b, .bool q]) := by rw [h, g]

theorem below_drewN {B : Nat} {a w : World} (h : Below B a w) (n : Nat) : Below B a (w.drewN n) := h.trans ⟨rfl, rfl, rfl, Nat.le_refl _, fun _ _ => rfl⟩

set_option maxHeartbeats 800000 in
theorem leave_any (v : Rd.Wy) (n a : Int) (w : World) (hv : v.ok n) (h0 : 0 ≤ a) (h1 : a ≤ 1439) :
   Calls Try.prog 28 #[wv v, .int .i64 a] w fun e w' => e = .returned (.tuple #[.int .i64 (Rd.lvm v a), .bool (decide (Rd.lvm v a ≤ v.ohi))]) ∧ Below w.heap.size w w' := by
  obtain ⟨frm, to, tlo, thi, olo, ohi, every⟩ := v
  have o2 := hv.o2; have o1 := hv.o1; have e1 := hv.e1; have o0 := hv.o0; have e0 := hv.e0
  dsimp only at *
  by_cases he : 0 < every
  · by_cases ha : a < olo
    · have hq1 : (every - 1) / every * every ≤ every - 1 := Int.ediv_mul_le _ (by omega)
      have hq0 : 0 ≤ (every - 1) / every := Int.ediv_nonneg (by omega) (by omega)
      have hq2 : 0 ≤ (every - 1) / every * every := Int.mul_nonneg hq0 e0
      have hfin : Rd.lvm ⟨frm, to, tlo, thi, olo, ohi, every⟩ a = olo + (every - 1) / every * every := by
        unfold Rd.lvm; dsimp only; rw [if_pos he, Int.max_eq_right (by omega), Int.sub_self, Int.zero_add]
      have HF := Lib.hid hfin; clear hfin
      go_enter Try.func28, Try.ntmps28
      go_wp2
      go_quiet (fail)
      go_wp2
      go_quiet (fail)
      go_wp2
      go_ret2
      rw [HF.out]
      exact ⟨rfl, below_drewN (below_drewN ((Below.refl _ w).alloc (Nat.le_refl _) _) _) _⟩
    · have hq1 : (a - olo + every - 1) / every * every ≤ a - olo + every - 1 := Int.ediv_mul_le _ (by omega)
      have hq0 : 0 ≤ (a - olo + every - 1) / every := Int.ediv_nonneg (by omega) (by omega)
      have hq2 : 0 ≤ (a - olo + every - 1) / every * every := Int.mul_nonneg hq0 e0
      have hfin : Rd.lvm ⟨frm, to, tlo, thi, olo, ohi, every⟩ a = olo + (a - olo + every - 1) / every * every := by
        unfold Rd.lvm; dsimp only; rw [if_pos he, Int.max_eq_left (by omega)]
      have HF := Lib.hid hfin; clear hfin
      go_enter Try.func28, Try.ntmps28
      go_wp2
      go_quiet (fail)
      go_wp2
      go_quiet (fail)
      go_wp2
      go_ret2
      rw [HF.out]
      exact ⟨rfl, below_drewN (below_drewN ((Below.refl _ w).alloc (Nat.le_refl _) _) _) _⟩
  · have hfin : Rd.lvm ⟨frm, to, tlo, thi, olo, ohi, every⟩ a = max a olo := by
      unfold Rd.lvm; dsimp only; rw [if_neg he]
    by_cases ha : a < olo
    · have e : max a olo = olo := Int.max_eq_right (by omega)
      rw [e] at hfin
      have HF := Lib.hid hfin; clear hfin e
      go_enter Try.func28, Try.ntmps28
      go_wp2
      go_quiet (fail)
      go_wp2
      go_ret2
      rw [HF.out]
      exact ⟨by simp [o1], below_drewN ((Below.refl _ w).alloc (Nat.le_refl _) _) _⟩
    · have e : max a olo = a := Int.max_eq_left (by omega)
      rw [e] at hfin
      have HF := Lib.hid hfin; clear hfin e
      go_enter Try.func28, Try.ntmps28
      go_wp2
      go_quiet (fail)
      go_wp2
      go_ret2
      rw [HF.out]
      exact ⟨rfl, below_drewN ((Below.refl _ w).alloc (Nat.le_refl _) _) _⟩

theorem most_any (n : Nat) (sa : Option Addr) (len cap : Nat) (w : World) :
   Calls Try.prog 22 #[cv n sa len cap] w fun e w' => e = .returned (.func (.func 46) #[] #[.pointer (some ⟨w.heap.size, 0, none⟩)]) ∧ w' = w.alloc (.cells #[.int .i64 n, .slice sa len cap] 31) := by
  go_enter Try.func22, Try.ntmps22
  go_wp2
  go_ret
  exact ⟨rfl, rfl⟩
theorem least_any (n : Nat) (sa : Option Addr) (len cap : Nat) (w : World) :
   Calls Try.prog 29 #[cv n sa len cap] w fun e w' => e = .returned (.func (.func 49) #[] #[.pointer (some ⟨w.heap.size, 0, none⟩)]) ∧ w' = w.alloc (.cells #[.int .i64 n, .slice sa len cap] 31) := by
  go_enter Try.func29, Try.ntmps29
  go_wp2
  go_ret
  exact ⟨rfl, rfl⟩

theorem most1 (n0 p : Nat) (sa : Option Addr) (cap : Nat) (ws : List Rd.Wy) (hlen : ws.length ≤ 40) (w : World) (i : Int) (h0 : 0 ≤ i) (h1 : i < ws.length) (hw : Wys n0 w sa ws) (hp : w.cell? ⟨p, 1, none⟩ = some (.slice sa ws.length cap)) :
   Calls Try.prog 46 #[.int .i64 i, .pointer (some ⟨p, 0, none⟩)] w fun e w' => e = .returned (.int .i64 (Rd.tkn (Rd.his ws) i)) ∧ w' = w := by
  rw [Rd.tkn_his ws i h0 h1]
  obtain ⟨k, rfl⟩ := Int.eq_ofNat_of_zero_le h0
  obtain ⟨sb, so, rfl, hsb, h7⟩ := hw.at (k := k) (by omega)
  have c3 := h7.c3
  clear h7
  go_enter Try.func46, Try.ntmps46
  go_wp2
  go_ret
  exact ⟨rfl, rfl⟩
theorem least1 (n0 p : Nat) (sa : Option Addr) (cap : Nat) (ws : List Rd.Wy) (hlen : ws.length ≤ 40) (w : World) (i : Int) (h0 : 0 ≤ i) (h1 : i < ws.length) (hw : Wys n0 w sa ws) (hp : w.cell? ⟨p, 1, none⟩ = some (.slice sa ws.length cap)) :
   Calls Try.prog 49 #[.int .i64 i, .pointer (some ⟨p, 0, none⟩)] w fun e w' => e = .returned (.int .i64 (Rd.tkn (Rd.los ws) i)) ∧ w' = w := by
  rw [Rd.tkn_los ws i h0 h1]
  obtain ⟨k, rfl⟩ := Int.eq_ofNat_of_zero_le h0
  obtain ⟨sb, so, rfl, hsb, h7⟩ := hw.at (k := k) (by omega)
  have c2 := h7.c2
  clear h7
  go_enter Try.func49, Try.ntmps49
  go_wp2
  go_ret
  exact ⟨rfl, rfl⟩

theorem truly_any (sa : Option Addr) (len cap : Nat) (w : World) :
   Calls Try.prog 31 #[.slice sa len cap] w fun e w' => e = .returned (.func (.func 50) #[] #[.pointer (some ⟨w.heap.size, 0, none⟩)]) ∧ w' = w.alloc (.cells #[.slice sa len cap] 27) := by
  go_enter Try.func31, Try.ntmps31
  go_wp2
  go_ret
  exact ⟨rfl, rfl⟩
theorem truly1 (n0 p : Nat) (sa : Option Addr) (cap : Nat) (l : List Int) (hlen : l.length ≤ 40) (w : World) (i : Int) (h0 : 0 ≤ i) (h1 : i < l.length) (hw : Ints n0 w sa l) (hp : w.cell? ⟨p, 0, none⟩ = some (.slice sa l.length cap)) :
   Calls Try.prog 50 #[.int .i64 i, .pointer (some ⟨p, 0, none⟩)] w fun e w' => e = .returned (.int .i64 (Rd.tkn l i)) ∧ w' = w := by
  obtain ⟨k, rfl⟩ := Int.eq_ofNat_of_zero_le h0
  obtain ⟨sb, so, rfl, hsb, h7⟩ := hw.at (k := k) (by omega)
  go_enter Try.func50, Try.ntmps50
  go_wp2
  go_ret
  exact ⟨rfl, rfl⟩
end Go.Proofs.Ytdmmjlhcjmdajaa
