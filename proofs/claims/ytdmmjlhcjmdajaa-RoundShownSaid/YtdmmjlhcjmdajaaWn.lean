/-
  The contracts of Mod and Made.
  Its conditions stand in each theorem.
-/
import Derived.Test.YtdmmjlhcjmdajaaWm
import Derived.Deep.RegionWith
import Derived.Deep.RegionHeld3
import Derived.Deep.CutRange
import Derived.Deep.CutBlock
namespace Go.Proofs.Ytdmmjlhcjmdajaa
open Go.RowKit Go.Shelf Go.Maps
set_option linter.unusedVariables false

theorem mod_law (n m : Int) (hm : 0 < m) : ((n.tmod m) + m) % m = n % m := by
  have h1 : n.tmod m = n % m ∨ n.tmod m = n % m - m := by
    rcases Int.lt_or_le n 0 with h | h
    · have h2 := Int.tmod_eq_emod_of_nonneg (a := n) (b := m)
      have := Int.tmod_eq_emod (a := n) (b := m)
      rw [this]
      split <;> omega
    · left; exact Int.tmod_eq_emod_of_nonneg h
  have h2 := Int.emod_nonneg n (show m ≠ 0 by omega)
  have h3 := Int.emod_lt_of_pos n hm
  rcases h1 with h | h
  · rw [h, Int.add_emod_right, Int.emod_emod_of_dvd _ (Int.dvd_refl m)]
  · rw [h, show n % m - m + m = n % m by omega, Int.emod_emod_of_dvd _ (Int.dvd_refl m)]

theorem mod_any (n m : Int) (w : World) (h0 : -9223372036854775808 ≤ n) (h1 : n ≤ 9223372036854775807) (hm : 0 < m) (hm2 : m ≤ 1000) : Calls Try.prog 8 #[.int .i64 n, .int .i64 m] w fun e w' => e = .returned (.int .i64 (n % m)) ∧ w' = w := by
  have hlo : -m < n.tmod m := Int.lt_tmod_of_pos n hm
  have hhi : n.tmod m < m := Int.tmod_lt_of_pos n hm
  have hlaw := Lib.hid (mod_law n m hm)
  have hm0 : m ≠ 0 := by omega
  go_enter Try.func8, Try.ntmps8
  go_wp2
  go_ret
  exact ⟨by rw [← hlaw.out]; rfl, rfl⟩

theorem mod_ex (n m : Int) (w : World) (h0 : -9223372036854775808 ≤ n ∧ n ≤ 9223372036854775807) (hm : 0 < m) (hm2 : m ≤ 1000) : Calls Try.prog 8 #[.int .i64 n, .int .i64 m] w fun e w' => ∃ r : Int, e = .returned (.int .i64 r) ∧ 0 ≤ r ∧ r < m ∧ w' = w := by
  refine (mod_any n m w h0.1 h0.2 hm hm2).mono ?_
  rintro e w' ⟨rfl, rfl⟩
  exact ⟨_, rfl, Int.emod_nonneg n (by omega), Int.emod_lt_of_pos n hm, rfl⟩

theorem mod_is (n m r : Int) (w : World) (hr : n % m = r) (h0 : -9223372036854775808 ≤ n ∧ n ≤ 9223372036854775807) (hm : 0 < m ∧ m ≤ 1000) : Calls Try.prog 8 #[.int .i64 n, .int .i64 m] w fun e w' => e = .returned (.int .i64 r) ∧ w' = w := by
  rw [← hr]; exact mod_any n m w h0.1 h0.2 hm.1 hm.2
theorem mod_name (n m : Int) (hm : 0 < m) : ∃ r, Hid (n % m = r) ∧ 0 ≤ r ∧ r < m := ⟨_, rfl, Int.emod_nonneg n (by omega), Int.emod_lt_of_pos n hm⟩

def wcells (w : Rd.Wy) : List Value := [.int .i64 w.frm, .int .i64 w.to, .int .i64 w.tlo, .int .i64 w.thi, .int .i64 w.olo, .int .i64 w.ohi, .int .i64 w.every]
theorem cells_new (w : World) (cs : Array Value) (t : TypeId) : ∀ j u, cs.toList[j]? = some u → (w.alloc (.cells cs t)).cell? ((⟨w.heap.size, 0, none⟩ : Addr).add j) = some u := by
  intro j u hj
  have e : (⟨w.heap.size, 0, none⟩ : Addr).add j = ⟨w.heap.size, j, none⟩ := by simp [Addr.add]; exact fun h => h.symm
  rw [e, World.cell?_alloc_at _ _ _ _ rfl]
  simpa using hj

theorem way_snoc (ws : List Rd.Wy) (W : Rd.Wy) (i : Int) (h0 : 0 ≤ i) : Rd.way (ws ++ [W]) i = if i < ws.length then Rd.way ws i else if i = ws.length then W else default := by
  obtain ⟨k, rfl⟩ := Int.eq_ofNat_of_zero_le h0
  simp only [Rd.way, Int.toNat_natCast, List.getD_eq_getElem?_getD, List.getElem?_append]
  by_cases h : k < ws.length
  · rw [if_pos h, if_pos (by omega)]
  · rw [if_neg h, if_neg (by omega)]
    by_cases e : k = ws.length
    · subst e; simp
    · rw [if_neg (by omega), List.getElem?_eq_none (by simp; omega)]; rfl
theorem owns_slice {W : World} {base e sz : Nat} {v : Value} {n : Nat} {xs : List Value} (h : W.ownsRow base e sz v n xs) : ∃ a cap, v = .slice a n cap := by
  rcases h.2 with ⟨rfl, rfl⟩ | ⟨g, cap, cur, rfl, -⟩
  · exact ⟨none, 0, rfl⟩
  · exact ⟨_, _, rfl⟩
theorem flat_get : ∀ (ws : List Rd.Wy) (j t : Nat), j < ws.length → t < 7 → (ws.flatMap wcells)[j * 7 + t]? = (wcells (Rd.way ws j))[t]?
  | [], j, t, h, _ => by simp at h
  | a :: ws, 0, t, _, ht => by
    rw [List.flatMap_cons, Nat.zero_mul, Nat.zero_add, List.getElem?_append_left (by simpa [wcells] using ht)]
    rfl
  | a :: ws, j + 1, t, h, ht => by
    rw [List.flatMap_cons, List.getElem?_append_right (by simp [wcells]; omega)]
    have e : (j + 1) * 7 + t - (wcells a).length = j * 7 + t := by simp [wcells]; omega
    rw [e, flat_get ws j t (by simpa using h) ht]
    rfl

theorem chart_rows {W : World} {base : Nat} {va : Option Addr} {k cap : Nat} {ws : List Rd.Wy} (hk : ws.length = k) (h : W.ownsRow base 64 7 (.slice va k cap) k (ws.flatMap wcells)) : ws = [] ∨ ∃ g, va = some ⟨g, 0, none⟩ ∧ base ≤ g ∧ g < W.heap.size ∧ ∀ j : Nat, j < ws.length → W7 W g (0 + j * 7) (Rd.way ws j) := by
  rcases h.2 with ⟨-, h0⟩ | ⟨g, cp, cur, e, hg, hh, hn, hm, hs, ht⟩
  · left; exact List.length_eq_zero_iff.1 (by omega)
  · right
    cases e
    refine ⟨g, rfl, hg, (Array.getElem?_eq_some_iff.1 hh).1, fun j hj => ?_⟩
    have key : ∀ t, t < 7 → W.cell? ⟨g, 0 + j * 7 + t, none⟩ = (wcells (Rd.way ws j))[t]? := fun t h7 => by
      rw [← flat_get ws j t hj h7, ← ht]
      unfold World.cell?
      rw [show W.heap[(⟨g, 0 + j * 7 + t, none⟩ : Addr).block]? = _ from hh]
      have hlt : j * 7 + t < k * 7 := by omega
      simp [List.getElem?_take_of_lt hlt]
    exact ⟨key 0 (by decide), key 1 (by decide), key 2 (by decide), key 3 (by decide), key 4 (by decide), key 5 (by decide), key 6 (by decide)⟩
theorem info51 : (Try.prog.info? 51).map (fun i => (i.zero, i.size, i.bytes)) = some (some (.agg #[.int .i64 0, .int .i64 0, .int .i64 0, .int .i64 0]), 4, 32) := by kernel_rfl
theorem none_or (o : Option Nat) : o = none ∨ o ≠ none := by cases o <;> simp
theorem info64 : (Try.prog.info? 64).map (fun i => (i.zero, i.size, i.bytes)) = some (some (wv ⟨0, 0, 0, 0, 0, 0, 0⟩), 7, 56) := by kernel_rfl

/-- behind A, one block more: l -/
structure WB (t : TypeId) (A W : World) (l : Array Value) : Prop where
  h : W.heap[A.heap.size]? = some (.cells l t (0, 0))
  b : Below A.heap.size A W
  s : W.heap.size = A.heap.size + 1
theorem WB.cell {t A W l} (h : WB t A W l) (j : Nat) : W.cell? ⟨A.heap.size, j, none⟩ = l[j]? := by
  unfold World.cell?
  rw [show W.heap[(⟨A.heap.size, j, none⟩ : Addr).block]? = _ from h.h]
  simp
theorem WB.frozen {t A W l} (h : WB t A W l) (j : Nat) : W.frozen? ⟨A.heap.size, j, none⟩ = false := by
  unfold World.frozen?
  rw [show W.heap[(⟨A.heap.size, j, none⟩ : Addr).block]? = _ from h.h]
  simp
theorem WB.drew {t A W l} (h : WB t A W l) : WB t A W.drew l := ⟨h.h, h.b.drew, h.s⟩
theorem WB.made (t : TypeId) (A : World) (l : Array Value) : WB t A (A.alloc (.cells l t)) l := ⟨World.alloc_heap_new A _, (Below.refl _ _).alloc (Nat.le_refl _) _, by simp⟩
theorem WB.set {t A W l} (h : WB t A W l) (j : Nat) (v : Value) : WB t A (W.setCell ⟨A.heap.size, j, none⟩ v) (l.setIfInBounds j v) := by
  refine ⟨?_, h.b.setCell (p := ⟨A.heap.size, j, none⟩) (Nat.le_refl _) v, by simp [World.setCell, h.s]⟩
  unfold World.setCell
  dsimp only
  rw [Array.getElem?_modify, if_pos rfl, h.h]
  simp
theorem WB.old {t A W l} (h : WB t A W l) {b o : Nat} {v : Value} (hb : b < A.heap.size) (hc : A.cell? ⟨b, o, none⟩ = some v) : W.cell? ⟨b, o, none⟩ = some v := (h.b.cell (p := ⟨b, o, none⟩) hb).trans hc

/-- the numbers of a chart and of a round, as they lie -/
structure RawIn (n0 : Nat) (W : World) (ya : Option Addr) (yl : Nat) (yf : Nat → Int) (za : Option Addr) (zl : Nat) (zf : Nat → Int) : Prop where
  ym : yl = 0 ∨ ∃ b o, ya = some ⟨b, o, none⟩ ∧ b < n0 ∧ ∀ t, t < yl * 7 → W.cell? ⟨b, o + t, none⟩ = some (.int .i64 (yf t))
  yr : ∀ t, -9223372036854775808 ≤ yf t ∧ yf t ≤ 9223372036854775807
  zm : zl = 0 ∨ ∃ b o, za = some ⟨b, o, none⟩ ∧ b < n0 ∧ ∀ t, t < zl * 4 → W.cell? ⟨b, o + t, none⟩ = some (.int .i64 (zf t))
  zr : ∀ t, -9223372036854775808 ≤ zf t ∧ zf t ≤ 9223372036854775807

def MadePost (w : World) (e : Ending) (w' : World) : Prop :=
  ∃ (n : Nat) (sa : Option Addr) (cap : Nat) (ws : List Rd.Wy) (p a : Int) (qa : Option Addr) (ql qc : Nat), e = .returned (.tuple #[cv n sa ws.length cap, .agg #[.int .i64 p, .int .i64 a, .slice qa ql qc]]) ∧ IsChart w'.heap.size w' sa ws n ∧ 0 ≤ p ∧ p < n ∧ 0 ≤ a ∧ a ≤ 1439 ∧ Below w.heap.size w w'

set_option maxRecDepth 100000 in
set_option maxHeartbeats 4000000 in
theorem made_any (pl r0 r1 : Int) (ya : Option Addr) (yl ycap : Nat) (yf : Nat → Int) (za : Option Addr) (zl zcap : Nat) (zf : Nat → Int) (w : World) (h : RawIn w.heap.size w ya yl yf za zl zf)
   (hp : -9223372036854775808 ≤ pl ∧ pl ≤ 9223372036854775807) (hr0 : -9223372036854775808 ≤ r0 ∧ r0 ≤ 9223372036854775807) (hr1 : -9223372036854775808 ≤ r1 ∧ r1 ≤ 9223372036854775807) :
   Calls Try.prog 5 #[.agg #[.int .i64 pl, .slice ya yl ycap, .int .i64 r0, .int .i64 r1, .slice za zl zcap]] w (MadePost w) := by
  go_enter Try.func5, Try.ntmps5
  go_wp2_with fail
  refine (mod_any pl 5 _ hp.1 hp.2 (by decide) (by decide)).mono ?_
  rintro e w' ⟨rfl, rfl⟩
  obtain ⟨n, hn⟩ : ∃ n : Nat, 2 + pl % 5 = n := ⟨(2 + pl % 5).toNat, by omega⟩
  have hn2 : n ≤ 6 := by omega
  have hn1 : 2 ≤ n := by omega
  go_upto_block 0 with fail
  obtain ⟨W0, hW0⟩ : ∃ W0, W0 = (((w.alloc (Obj.cells #[Value.int IntKind.i64 pl, Value.slice ya yl ycap, Value.int IntKind.i64 r0, Value.int IntKind.i64 r1, Value.slice za zl zcap] 26)).alloc (Obj.cells #[Value.int IntKind.i64 0, Value.slice none 0 0] 31)).alloc (Obj.cells #[Value.int IntKind.i64 0, Value.int IntKind.i64 0, Value.slice none 0 0] 34)) := ⟨_, rfl⟩
  rw [← hW0]
  have hb0 : Below w.heap.size w W0 := by rw [hW0]; exact (((Below.refl _ _).alloc (Nat.le_refl _) _).alloc (by simp) _).alloc (by simp; omega) _
  have hs0 : W0.heap.size = w.heap.size + 1 + 1 + 1 := by rw [hW0]; simp
  have a0 : W0.cell? ⟨w.heap.size, 0, none⟩ = some (.int .i64 pl) := by rw [hW0]; go_simp
  have a1 : W0.cell? ⟨w.heap.size, 1, none⟩ = some (.slice ya yl ycap) := by rw [hW0]; go_simp
  have a2 : W0.cell? ⟨w.heap.size, 2, none⟩ = some (.int .i64 r0) := by rw [hW0]; go_simp
  have a3 : W0.cell? ⟨w.heap.size, 3, none⟩ = some (.int .i64 r1) := by rw [hW0]; go_simp
  have a4 : W0.cell? ⟨w.heap.size, 4, none⟩ = some (.slice za zl zcap) := by rw [hW0]; go_simp
  have b0 : W0.cell? ⟨w.heap.size + 1, 0, none⟩ = some (.int .i64 0) := by rw [hW0]; go_simp
  have b1 : W0.cell? ⟨w.heap.size + 1, 1, none⟩ = some (.slice none 0 0) := by rw [hW0]; go_simp
  have b2 : W0.frozen? ⟨w.heap.size + 1, 0, none⟩ = false := by rw [hW0]; go_simp
  have b3 : W0.frozen? ⟨w.heap.size + 1, 1, none⟩ = false := by rw [hW0]; go_simp
  have d0 : W0.cell? ⟨w.heap.size + 1 + 1, 0, none⟩ = some (.int .i64 0) := by rw [hW0]; go_simp
  have d1 : W0.cell? ⟨w.heap.size + 1 + 1, 1, none⟩ = some (.int .i64 0) := by rw [hW0]; go_simp
  have d2 : W0.cell? ⟨w.heap.size + 1 + 1, 2, none⟩ = some (.slice none 0 0) := by rw [hW0]; go_simp
  have d3 : W0.frozen? ⟨w.heap.size + 1 + 1, 0, none⟩ = false := by rw [hW0]; go_simp
  have d4 : W0.frozen? ⟨w.heap.size + 1 + 1, 1, none⟩ = false := by rw [hW0]; go_simp
  have d5 : W0.frozen? ⟨w.heap.size + 1 + 1, 2, none⟩ = false := by rw [hW0]; go_simp
  have BB := Lib.hid (And.intro b0 (And.intro b1 (And.intro b2 b3))); clear b0 b1 b2 b3
  have DD := Lib.hid (And.intro d0 (And.intro d1 (And.intro d2 (And.intro d3 (And.intro d4 d5))))); clear d0 d1 d2 d3 d4 d5
  have HW0 := Lib.hid hW0; clear hW0
  go_cut [5, 6, 7, 8] from 19 to 103 (fun _ _ _ _ wr => ∃ (k : Nat) (ws : List Rd.Wy) (v : Value), k ≤ 12 ∧ Hid (ws.length = k ∧ (∀ i : Int, 0 ≤ i → i < ws.length → (Rd.way ws i).ok n) ∧ wr.ownsRow (w.heap.size + 1 + 1 + 1 + 1) 64 7 v k (ws.flatMap wcells)) ∧ Below W0.heap.size W0 wr ∧ w.heap.size + 1 + 1 + 1 < wr.heap.size ∧
     wr.cell? ⟨w.heap.size + 1 + 1 + 1, 0, none⟩ = some (.int .i64 n) ∧ wr.cell? ⟨w.heap.size + 1 + 1 + 1, 1, none⟩ = some v ∧ wr.frozen? ⟨w.heap.size + 1 + 1 + 1, 1, none⟩ = false)
  case first =>
    go_wp2_with fail
    go_loopw [5] (fun i wr => ∃ (k : Nat) (ws : List Rd.Wy) (v : Value), k ≤ 12 ∧ i = .int .i64 k ∧ Hid (ws.length = k ∧ (∀ i : Int, 0 ≤ i → i < ws.length → (Rd.way ws i).ok n) ∧ wr.ownsRow (w.heap.size + 1 + 1 + 1 + 1) 64 7 v k (ws.flatMap wcells)) ∧ Below W0.heap.size W0 wr ∧ w.heap.size + 1 + 1 + 1 < wr.heap.size ∧
       wr.cell? ⟨w.heap.size + 1 + 1 + 1, 0, none⟩ = some (.int .i64 n) ∧ wr.cell? ⟨w.heap.size + 1 + 1 + 1, 1, none⟩ = some v ∧ wr.frozen? ⟨w.heap.size + 1 + 1 + 1, 1, none⟩ = false) (fun i _ => 12 - (intOf i).toNat)
    case atStart => exact ⟨0, [], .slice none 0 0, by omega, rfl, ⟨rfl, fun i h0 h1 => by simp at h1; omega, World.ownsRow_nil _ _ _ _⟩, (Below.refl _ _).alloc (Nat.le_refl _) _, by simp [hs0], by rw [← hs0]; simp, by rw [← hs0]; simp, by rw [← hs0]; simp⟩
    case round =>
      obtain ⟨k, ws, v, hk, rfl, hR, hb, hsz, c0, c1, f1⟩ := hrel
      have l0 : w.heap.size < W0.heap.size := by omega
      have l1 : w.heap.size + 1 < W0.heap.size := by omega
      have z0 := (hb.cell (p := ⟨w.heap.size, 0, none⟩) l0).trans a0
      have z1 := (hb.cell (p := ⟨w.heap.size, 1, none⟩) l0).trans a1
      have z2 := (hb.cell (p := ⟨w.heap.size, 2, none⟩) l0).trans a2
      have z3 := (hb.cell (p := ⟨w.heap.size, 3, none⟩) l0).trans a3
      have z4 := (hb.cell (p := ⟨w.heap.size, 4, none⟩) l0).trans a4
      have hbw : Below w.heap.size w wr := hb0.trans (hb.mono (by omega))
      by_cases hlt : k < yl ∧ k < 12
      · obtain ⟨hlt1, hlt2⟩ := hlt
        have hrow := h.ym.resolve_left (by omega)
        obtain ⟨yb, yo, rfl, hyb, hyc⟩ := hrow
        have hyw : ∀ t, t < 7 → wr.cell? ⟨yb, yo + (k * 7 + t), none⟩ = some (.int .i64 (yf (k * 7 + t))) := fun t ht => (hbw.cell (p := ⟨yb, _, none⟩) hyb).trans (hyc _ (by omega))
        have y0 := hyw 0 (by decide); have y1 := hyw 1 (by decide); have y2 := hyw 2 (by decide); have y3 := hyw 3 (by decide); have y4 := hyw 4 (by decide); have y5 := hyw 5 (by decide); have y6 := hyw 6 (by decide)
        have q0 := h.yr (k * 7); have q1 := h.yr (k * 7 + 1); have q2 := h.yr (k * 7 + 2); have q3 := h.yr (k * 7 + 3); have q4 := h.yr (k * 7 + 4); have q5 := h.yr (k * 7 + 5); have q6 := h.yr (k * 7 + 6)
        simp only [Nat.add_zero, ← Nat.add_assoc] at y0 y1 y2 y3 y4 y5 y6
        clear hyw hyc
        have Q := Lib.hid (And.intro q0 (And.intro q1 (And.intro q2 (And.intro q3 (And.intro q4 (And.intro q5 q6)))))); clear q0 q1 q2 q3 q4 q5 q6
        generalize yf (k * 7) = v0 at *
        generalize yf (k * 7 + 1) = v1 at *
        generalize yf (k * 7 + 2) = v2 at *
        generalize yf (k * 7 + 3) = v3 at *
        generalize yf (k * 7 + 4) = v4 at *
        generalize yf (k * 7 + 5) = v5 at *
        generalize yf (k * 7 + 6) = v6 at *
        go_wp2_with fail
        refine (mod_ex v0 n _ Q.out.1 (by omega) (by omega)).mono ?_
        rintro e w' ⟨fr, rfl, fr0, fr1, rfl⟩
        go_wp2_with fail
        obtain ⟨W2, hW2⟩ : ∃ W2, W2 = (wr.alloc (Obj.cells #[Value.int IntKind.i64 v0, Value.int IntKind.i64 v1, Value.int IntKind.i64 v2, Value.int IntKind.i64 v3, Value.int IntKind.i64 v4, Value.int IntKind.i64 v5, Value.int IntKind.i64 v6] 62)) := ⟨_, rfl⟩
        rw [← hW2]
        have hb2 : Below wr.heap.size wr W2 := by rw [hW2]; exact (Below.refl _ _).alloc (Nat.le_refl _) _
        have hs2 : W2.heap.size = wr.heap.size + 1 := by rw [hW2]; simp
        have n0 : W2.cell? ⟨wr.heap.size, 0, none⟩ = some (.int .i64 v0) := by rw [hW2]; go_simp
        have n1 : W2.cell? ⟨wr.heap.size, 1, none⟩ = some (.int .i64 v1) := by rw [hW2]; go_simp
        have n2 : W2.cell? ⟨wr.heap.size, 2, none⟩ = some (.int .i64 v2) := by rw [hW2]; go_simp
        have n3 : W2.cell? ⟨wr.heap.size, 3, none⟩ = some (.int .i64 v3) := by rw [hW2]; go_simp
        have n4 : W2.cell? ⟨wr.heap.size, 4, none⟩ = some (.int .i64 v4) := by rw [hW2]; go_simp
        have n5 : W2.cell? ⟨wr.heap.size, 5, none⟩ = some (.int .i64 v5) := by rw [hW2]; go_simp
        have n6 : W2.cell? ⟨wr.heap.size, 6, none⟩ = some (.int .i64 v6) := by rw [hW2]; go_simp
        have m0 : W2.cell? ⟨w.heap.size + 1 + 1 + 1, 0, none⟩ = some (.int .i64 n) := (hb2.cell (p := ⟨w.heap.size + 1 + 1 + 1, 0, none⟩) hsz).trans c0
        have m1 : W2.cell? ⟨w.heap.size + 1 + 1 + 1, 1, none⟩ = some v := (hb2.cell (p := ⟨w.heap.size + 1 + 1 + 1, 1, none⟩) hsz).trans c1
        have m2 : W2.frozen? ⟨w.heap.size + 1 + 1 + 1, 1, none⟩ = false := (hb2.frozen (p := ⟨w.heap.size + 1 + 1 + 1, 1, none⟩) hsz).trans f1
        clear y0 y1 y2 y3 y4 y5 y6 z0 z1 z2 z3 z4 c0 c1 f1 a0 a1 a2 a3 a4
        have HW2 := Lib.hid hW2; clear hW2
        obtain ⟨r1', hr1', r10, r11⟩ := mod_name v1 ((n : Int) - 1) (by omega)
        have hwr1 : IntKind.i64.wrap ((n : Int) - 1) = (n : Int) - 1 := wrap_small _ (by omega) (by omega)
        have t0 := World.new_ne W2 ⟨wr.heap.size, 1, none⟩ n1
        have t1 := World.new_ne W2 ⟨w.heap.size + 1 + 1 + 1, 0, none⟩ m0
        obtain ⟨tq, hto⟩ : ∃ tq, (fr + 1 + r1') % (n : Int) = tq := ⟨_, rfl⟩
        have hto0 : 0 ≤ tq := by rw [← hto]; exact Int.emod_nonneg _ (by omega)
        have hto1 : tq < n := by rw [← hto]; exact Int.emod_lt_of_pos _ (by omega)
        have hne : fr ≠ tq := by
          rw [← hto]
          intro e
          by_cases h9 : fr + 1 + r1' < n
          · rw [Int.emod_eq_of_lt (by omega) h9] at e; omega
          · have : (fr + 1 + r1') % (n : Int) = fr + 1 + r1' - n := by
              rw [← Int.sub_emod_right, Int.emod_eq_of_lt (by omega) (by omega)]
            omega
        have HTO := Lib.hid (And.intro hto hne); clear hne
        go_cut [8] from 19 to 103 (fun s wx => s = .pointer (some ⟨wr.heap.size + 1, 0, none⟩) ∧ WB 64 W2 wx #[.int .i64 fr, .int .i64 tq, .int .i64 0, .int .i64 0, .int .i64 0, .int .i64 0, .int .i64 0])
        case first =>
          have hn0 : (n : Int) ≠ 0 := by omega
          have hwa : IntKind.i64.wrap (fr + 1) = fr + 1 := wrap_small _ (by omega) (by omega)
          have hwb : IntKind.i64.wrap (fr + 1 + r1') = fr + 1 + r1' := wrap_small _ (by omega) (by omega)
          have hq0 : (0 : Int) ≤ fr + 1 + r1' := by omega
          have hwe : (fr + 1 + r1').tmod (n : Int) = (fr + 1 + r1') % (n : Int) := Int.tmod_eq_emod_of_nonneg hq0
          have hwd : IntKind.i64.wrap ((fr + 1 + r1') % (n : Int)) = (fr + 1 + r1') % (n : Int) := wrap_small _ (by rw [hto]; exact hto0) (by rw [hto]; omega)
          have hn0' : n ≠ 0 := by omega
          have hn0'' : ((n : Int) == 0) = false := by simp; omega
          have HT2 := Lib.hid hto; clear hto hto0 hto1
          go_region_held3 (fun w' => w'.cell? ⟨wr.heap.size, 1, none⟩ = some (.int .i64 v1) ∧ w'.cell? ⟨w.heap.size + 1 + 1 + 1, 0, none⟩ = some (.int .i64 n)) (first | exact ⟨n1, m0⟩ | go_keep)
            (first
              | (go_at_call 8; refine (mod_is v1 _ r1' _ hr1'.out Q.out.2.1 ⟨by omega, by omega⟩).mono ?_; rintro e w' ⟨rfl, rfl⟩))
          all_goals (go_wp2_with fail; go_meet; exact ⟨rfl, by rw [← HT2.out]; exact (WB.made _ _ _).drew⟩)
        case rest =>
          obtain ⟨rfl, hB⟩ := hcut
          clear hto
          have hw2 : wr.heap.size + 1 = W2.heap.size := hs2.symm
          rw [hw2]
          clear hs2
          have m2' : W2.frozen? ⟨w.heap.size + 1 + 1 + 1, 1, none⟩ = false := m2
          have hl3 : w.heap.size + 1 + 1 + 1 < W2.heap.size := by omega
          have hlr : wr.heap.size < W2.heap.size := by omega
          have k2 := hB.old hlr n2
          go_wp2_with fail
          obtain ⟨r2, hr2, r20, r21⟩ := mod_name v2 20 (by decide)
          refine (mod_is v2 20 r2 _ hr2.out Q.out.2.2.1 ⟨by decide, by decide⟩).mono ?_
          rintro e w' ⟨rfl, rfl⟩
          have p2 := hB.cell 2
          have p2f := hB.frozen 2
          simp only [List.getElem?_toArray, List.getElem?_cons_succ, List.getElem?_cons_zero] at p2
          have hB2 := hB.set 2 (.int .i64 (1 + r2))
          simp only [List.setIfInBounds_toArray, List.set_cons_succ, List.set_cons_zero] at hB2
          have HB2 := Lib.hid hB2; clear hB2 hB k2
          go_wp2_with fail
          generalize (w'.setCell ⟨W2.heap.size, 2, none⟩ (.int .i64 (1 + r2))) = W4 at *
          have hB := HB2.out; clear HB2 p2 p2f
          have k3 := hB.old hlr n3
          have p2 := hB.cell 2
          have p3 := hB.cell 3
          have p3f := hB.frozen 3
          simp only [List.getElem?_toArray, List.getElem?_cons_succ, List.getElem?_cons_zero] at p2 p3
          obtain ⟨r3, hr3, r30, r31⟩ := mod_name v3 12 (by decide)
          go_cut [8] from 19 to 103 (fun s wx => s = .pointer (some ⟨W2.heap.size, 0, none⟩) ∧ WB 64 W2 wx #[.int .i64 fr, .int .i64 tq, .int .i64 (1 + r2), .int .i64 (1 + r2 + r3), .int .i64 0, .int .i64 0, .int .i64 0])
          case first =>
            have t0 := World.new_ne W4 ⟨wr.heap.size, 3, none⟩ k3
            go_region_held3 (fun w' => w'.cell? ⟨wr.heap.size, 3, none⟩ = some (.int .i64 v3) ∧ w'.cell? ⟨W2.heap.size, 2, none⟩ = some (.int .i64 (1 + r2))) (first | exact ⟨k3, p2⟩ | (simp [*, World.cell?_setCell_far, World.cell?_setCell_other]; done) | go_keep)
              (first
                | (go_at_call 8; refine (mod_is v3 _ r3 _ hr3.out Q.out.2.2.2.1 ⟨by omega, by omega⟩).mono ?_; rintro e w' ⟨rfl, rfl⟩))
            all_goals (go_wp2_with fail; go_meet; exact ⟨rfl, by have h9 := (hB.set 3 (.int .i64 (1 + r2 + r3))).drew; have hwr3 : IntKind.i64.wrap (1 + r2 + r3) = 1 + r2 + r3 := wrap_small _ (by omega) (by omega); simpa only [hwr3, List.setIfInBounds_toArray, List.set_cons_succ, List.set_cons_zero] using h9⟩)
          case rest =>
          obtain ⟨rfl, hB'⟩ := hcut
          clear hB p2 p3 p3f k3
          have k4 := hB'.old hlr n4
          have p4 := hB'.cell 4
          have p5 := hB'.cell 5
          have p4f := hB'.frozen 4
          have p5f := hB'.frozen 5
          simp only [List.getElem?_toArray, List.getElem?_cons_succ, List.getElem?_cons_zero] at p4 p5
          have hB2 := (hB'.set 4 (.int .i64 0)).set 5 (.int .i64 1439)
          simp only [List.setIfInBounds_toArray, List.set_cons_succ, List.set_cons_zero] at hB2
          have HB2 := Lib.hid hB2; clear hB2 hB'
          obtain ⟨r4, hr4, r40, r41⟩ := mod_name v4 3 (by decide)
          go_upto_if 74 with (go_at_call 8; refine (mod_is v4 3 r4 _ hr4.out Q.out.2.2.2.2.1 ⟨by decide, by decide⟩).mono ?_; rintro e w' ⟨rfl, rfl⟩)
          have hB0 := HB2.out
          generalize (World.setCell _ ⟨W2.heap.size, 5, none⟩ (.int .i64 1439)) = W5 at *
          clear HB2 p4 p5 p4f p5f k4
          go_cut [8] from 19 to 103 (fun s wx => s = .pointer (some ⟨W2.heap.size, 0, none⟩) ∧ ∃ lo hi : Int, (0 ≤ lo ∧ lo ≤ hi ∧ hi ≤ 1439) ∧ WB 64 W2 wx #[.int .i64 fr, .int .i64 tq, .int .i64 (1 + r2), .int .i64 (1 + r2 + r3), .int .i64 lo, .int .i64 hi, .int .i64 0])
          case first =>
            by_cases h4 : 0 < r4
            · have k5 := hB0.old hlr n5
              have p4 := hB0.cell 4
              have p4f := hB0.frozen 4
              simp only [List.getElem?_toArray, List.getElem?_cons_succ, List.getElem?_cons_zero] at p4
              obtain ⟨r5, hr5, r50, r51⟩ := mod_name v5 200 (by decide)
              have hB2 := hB0.set 4 (.int .i64 r5)
              simp only [List.setIfInBounds_toArray, List.set_cons_succ, List.set_cons_zero] at hB2
              have HB2 := Lib.hid hB2; clear hB2 hB0
              go_wp2_with (go_at_call 8; refine (mod_is v5 200 r5 _ hr5.out Q.out.2.2.2.2.2.1 ⟨by decide, by decide⟩).mono ?_; rintro e w' ⟨rfl, rfl⟩)
              have hB0 := HB2.out
              generalize (World.setCell _ ⟨W2.heap.size, 4, none⟩ (.int .i64 r5)) = W6 at *
              clear HB2 p4 p4f k5
              have k6 := hB0.old hlr n6
              have p4 := hB0.cell 4
              have p5 := hB0.cell 5
              have p5f := hB0.frozen 5
              simp only [List.getElem?_toArray, List.getElem?_cons_succ, List.getElem?_cons_zero] at p4 p5
              obtain ⟨r6, hr6, r60, r61⟩ := mod_name v6 150 (by decide)
              have t0 := World.new_ne W6 ⟨wr.heap.size, 6, none⟩ k6
              go_region_held3 (fun w' => w'.cell? ⟨wr.heap.size, 6, none⟩ = some (.int .i64 v6) ∧ w'.cell? ⟨W2.heap.size, 4, none⟩ = some (.int .i64 r5)) (first | exact ⟨k6, p4⟩ | (simp [*, World.cell?_setCell_far, World.cell?_setCell_other]; done) | go_keep)
                (first
                  | (go_at_call 8; refine (mod_is v6 _ r6 _ hr6.out Q.out.2.2.2.2.2.2 ⟨by omega, by omega⟩).mono ?_; rintro e w' ⟨rfl, rfl⟩))
              all_goals (go_wp2_with fail; go_meet; exact ⟨rfl, r5, r5 + r6, by omega, by have h9 := (hB0.set 5 (.int .i64 (r5 + r6))).drew; have hwr3 : IntKind.i64.wrap (r5 + r6) = r5 + r6 := wrap_small _ (by omega) (by omega); simpa only [hwr3, List.setIfInBounds_toArray, List.set_cons_succ, List.set_cons_zero] using h9⟩)
            · go_wp2_with fail
              go_meet
              exact ⟨rfl, 0, 1439, by omega, hB0⟩
          case rest =>
          clear hB0
          obtain ⟨rfl, lo, hi, ⟨lo0, lohi, hi1⟩, hB6⟩ := hcut
          have k4 := hB6.old hlr n4
          have HB6 := Lib.hid hB6; clear hB6
          go_upto_if 92 with (go_at_call 8; refine (mod_is v4 3 r4 _ hr4.out Q.out.2.2.2.2.1 ⟨by decide, by decide⟩).mono ?_; rintro e w' ⟨rfl, rfl⟩)
          have hB0 := HB6.out; clear HB6
          go_cut [8] from 19 to 103 (fun s wx => s = .pointer (some ⟨W2.heap.size, 0, none⟩) ∧ ∃ ev : Int, (0 ≤ ev ∧ ev ≤ 600) ∧ WB 64 W2 wx #[.int .i64 fr, .int .i64 tq, .int .i64 (1 + r2), .int .i64 (1 + r2 + r3), .int .i64 lo, .int .i64 hi, .int .i64 ev])
          case first =>
            by_cases h4 : r4 = 2
            · have k6 := hB0.old hlr n6
              have p6 := hB0.cell 6
              have p6f := hB0.frozen 6
              simp only [List.getElem?_toArray, List.getElem?_cons_succ, List.getElem?_cons_zero] at p6
              obtain ⟨r6, hr6, r60, r61⟩ := mod_name v6 40 (by decide)
              have hB2 := hB0.set 6 (.int .i64 (1 + r6))
              simp only [List.setIfInBounds_toArray, List.set_cons_succ, List.set_cons_zero] at hB2
              have HB2 := Lib.hid hB2; clear hB2 hB0
              subst h4
              go_wp2_with (go_at_call 8; refine (mod_is v6 40 r6 _ hr6.out Q.out.2.2.2.2.2.2 ⟨by decide, by decide⟩).mono ?_; rintro e w' ⟨rfl, rfl⟩)
              go_meet
              exact ⟨rfl, 1 + r6, by omega, HB2.out⟩
            · go_wp2_with fail
              go_meet
              exact ⟨rfl, 0, by omega, hB0⟩
          case rest =>
          clear hB0
          obtain ⟨rfl, ev, ⟨ev0, ev1⟩, hB7⟩ := hcut
          have p0 := hB7.cell 0; have p1 := hB7.cell 1; have p2 := hB7.cell 2; have p3 := hB7.cell 3; have p4 := hB7.cell 4; have p5 := hB7.cell 5; have p6 := hB7.cell 6
          simp only [List.getElem?_toArray, List.getElem?_cons_succ, List.getElem?_cons_zero] at p0 p1 p2 p3 p4 p5 p6
          have s1 := hB7.old hl3 m1
          have s2 := (hB7.b.frozen (p := ⟨w.heap.size + 1 + 1 + 1, 1, none⟩) hl3).trans m2'
          have hown := (hR.out.2.2.kept (grownBy_of_below hb2) (none_or _)).kept (grownBy_of_below hB7.b) (none_or _)
          have hobn : ∀ q, v.ownBlock = some q → w.heap.size + 1 + 1 + 1 + 1 ≤ q := fun q hq => (hown.lt q hq).1
          have hsc : wc.heap.size = W2.heap.size + 1 := hB7.s
          obtain ⟨i0, hi, hz0, hz1, hz2⟩ := info_parts info64
          have HI := Lib.hid (And.intro hi (And.intro hz0 (And.intro hz1 hz2))); clear hi hz0 hz1 hz2
          have HB7 := Lib.hid hB7; clear hB7
          have HO := Lib.hid hown; clear hown
          have HOB := Lib.hid hobn; clear hobn
          have hwl : (w.heap.size + 1 + 1 + 1 + 1) ≤ wc.heap.size := by omega
          have hl3c : w.heap.size + 1 + 1 + 1 < wc.heap.size := by omega
          have HSC := Lib.hid hsc; clear hsc
          go_wp2_with (at_builtin; go_loud (refine wpList_append_own _ rfl _ _ 29 rfl (w.heap.size + 1 + 1 + 1 + 1) 64 i0 (wv ⟨0, 0, 0, 0, 0, 0, 0⟩) 7 56 Try.underlying29 HI.out.1 HI.out.2.1 HI.out.2.2.1 HI.out.2.2.2 rfl (by decide) _ _ _ rfl (HO.out.alloc _) ⟨wc.heap.size, 0, none⟩ 1 1 [.int .i64 fr, .int .i64 tq, .int .i64 (1 + r2), .int .i64 (1 + r2 + r3), .int .i64 lo, .int .i64 hi, .int .i64 ev] rfl rfl (cells_new _ _ _) (by intro u hu; simp at hu; rcases hu with rfl | rfl | rfl | rfl | rfl | rfl | rfl <;> rfl) (by unfold maxLen; omega) (by omega) (by simp; omega) ?_))
          intro v' w5 hown' hgrow _
          rcases hown'.2 with ⟨-, h9⟩ | ⟨g, cp, cur, rfl, -⟩
          · omega
          have hob' : ∀ q, (Value.slice (some ⟨g, 0, none⟩) (k + 1) cp).ownBlock = some q → w.heap.size + 1 + 1 + 1 + 1 ≤ q := fun q hq => (hown'.lt q hq).1
          have hbox : w5.heap[w.heap.size + 1 + 1 + 1]? = wc.heap[w.heap.size + 1 + 1 + 1]? := (hgrow.block (w.heap.size + 1 + 1 + 1) (by simp; omega) (fun e => by have := HOB.out _ e.symm; omega)).trans (Below.heap_alloc _ _ _ hl3c)
          have e0 : w5.cell? ⟨w.heap.size + 1 + 1 + 1, 0, none⟩ = some (.int .i64 n) := (World.cell?_of_block (w := wc) (a := ⟨w.heap.size + 1 + 1 + 1, 0, none⟩) hbox).trans (HB7.out.old hl3 m0)
          have e1 : w5.cell? ⟨w.heap.size + 1 + 1 + 1, 1, none⟩ = some v := (World.cell?_of_block (w := wc) (a := ⟨w.heap.size + 1 + 1 + 1, 1, none⟩) hbox).trans s1
          have e2 : w5.frozen? ⟨w.heap.size + 1 + 1 + 1, 1, none⟩ = false := (World.frozen?_of_block (w := wc) (a := ⟨w.heap.size + 1 + 1 + 1, 1, none⟩) hbox).trans s2
          have hb5 : Below W0.heap.size W0 w5 := (((hb.trans (hb2.mono (by omega))).trans (HB7.out.b.mono (by omega))).alloc (by omega) _).grown hgrow (by simp; omega) (fun q hq => by have := HOB.out q hq; omega)
          have hs5 : w.heap.size + 1 + 1 + 1 < w5.heap.size := by have := hgrow.size; simp at this; omega
          have hg2 : w5.grownBy (w5.setCell ⟨w.heap.size + 1 + 1 + 1, 1, none⟩ (.slice (some ⟨g, 0, none⟩) (k + 1) cp)) (some (w.heap.size + 1 + 1 + 1)) :=
            ⟨rfl, rfl, rfl, by simp [World.setCell], fun q hq hne => by
              have hne : q ≠ w.heap.size + 1 + 1 + 1 := fun e => hne (by rw [e])
              rw [Below.heap_setCell _ _ _ _ hne]⟩
          have hw6 := hown'.kept hg2 (.inr (fun e => by have := hob' _ e; omega))
          have HH := Lib.hid (And.intro hb5 (And.intro hg2 (And.intro hw6 hob'))); clear hb5 hg2 hw6 hob' hown' hgrow hbox p0 p1 p2 p3 p4 p5 p6 s1 s2
          go_wp2_with fail
          go_roundw
          case rel =>
            refine ⟨k + 1, ws ++ [⟨fr, tq, 1 + r2, 1 + r2 + r3, lo, hi, ev⟩], .slice (some ⟨g, 0, none⟩) (k + 1) cp, by omega, by go_num, ⟨by simp [hR.out.1], fun i i0 i1 => ?_, ?_⟩, HH.out.1.setCell (p := ⟨w.heap.size + 1 + 1 + 1, 1, none⟩) (by show W0.heap.size ≤ w.heap.size + 1 + 1 + 1; omega) _, by simp [World.setCell]; omega, ?_, World.cell?_setCell_same _ _ _ e1, by simpa using e2⟩
            · rw [way_snoc _ _ _ i0]
              rw [List.length_append, List.length_singleton] at i1
              by_cases h9 : i < ws.length
              · rw [if_pos h9]; exact hR.out.2.1 i i0 h9
              · rw [if_neg h9, if_pos (by omega)]
                exact ⟨fr0, fr1, hto0, hto1, HTO.out.2, by show 1 ≤ 1 + r2; omega, by show 1 + r2 ≤ 1 + r2 + r3; omega, by show 1 + r2 + r3 ≤ 600; omega, lo0, lohi, hi1, ev0, ev1⟩
            · have h9 := HH.out.2.2.1
              rw [List.flatMap_append]
              exact h9
            · rw [World.cell?_setCell_other _ _ _ _ (fun h => by injection h with h1 h2 h3; omega)]; exact e0
          case measure => simp [intOf]; omega
      · go_wp2_with fail
        all_goals (go_meet; exact ⟨k, ws, v, hk, hR, hb, hsz, c0, c1, f1⟩)
  case rest =>
    obtain ⟨k, ws, v, hk, hR, hb, hsz, c0, c1, f1⟩ := hcut
    generalize hWc : wc = W9 at *
    clear hWc
    have l0 : w.heap.size < W0.heap.size := by omega
    have l1 : w.heap.size + 1 < W0.heap.size := by omega
    have l2 : w.heap.size + 1 + 1 < W0.heap.size := by omega
    have z2 := (hb.cell (p := ⟨w.heap.size, 2, none⟩) l0).trans a2
    have z3 := (hb.cell (p := ⟨w.heap.size, 3, none⟩) l0).trans a3
    have z4 := (hb.cell (p := ⟨w.heap.size, 4, none⟩) l0).trans a4
    have hbw : Below w.heap.size w W9 := hb0.trans (hb.mono (by omega))
    clear a0 a1 a2 a3 a4
    have hs9 := hb.size
    have l09 : w.heap.size < W9.heap.size := by omega
    have l19 : w.heap.size + 1 < W9.heap.size := by omega
    have l29 : w.heap.size + 1 + 1 < W9.heap.size := by omega
    obtain ⟨pr, hpr, pr0, pr1⟩ := mod_name r0 n (by omega)
    obtain ⟨ar, har, ar0, ar1⟩ := mod_name r1 150 (by decide)
    go_upto_region 17 with fail
    go_cut [9] from 104 to 116 (fun s wx => s = .pointer (some ⟨W9.heap.size, 0, none⟩) ∧ WB 34 W9 wx #[.int .i64 pr, .int .i64 ar, .slice none 0 0])
    case first =>
      have t0 := World.new_ne W9 ⟨w.heap.size, 2, none⟩ z2
      have t1 := World.new_ne W9 ⟨w.heap.size, 3, none⟩ z3
      have t2 := World.new_ne W9 ⟨w.heap.size + 1 + 1 + 1, 0, none⟩ c0
      go_region_held3 (fun w' => w'.cell? ⟨w.heap.size, 2, none⟩ = some (.int .i64 r0) ∧ w'.cell? ⟨w.heap.size, 3, none⟩ = some (.int .i64 r1) ∧ w'.cell? ⟨w.heap.size + 1 + 1 + 1, 0, none⟩ = some (.int .i64 n)) (first | exact ⟨z2, z3, c0⟩ | go_keep)
        (first
          | (go_at_call 8; refine (mod_any _ _ _ ?_ ?_ ?_ ?_).mono ?_; (· omega); (· omega); (· omega); (· omega); rintro e w' ⟨rfl, rfl⟩))
      all_goals (go_wp2_with fail; go_meet; exact ⟨rfl, by rw [← hpr.out, ← har.out]; exact (WB.made _ _ _).drew⟩)
    case rest =>
    obtain ⟨rfl, hB9⟩ := hcut
    have u0 := hB9.cell 1
    simp only [List.getElem?_toArray, List.getElem?_cons_succ, List.getElem?_cons_zero] at u0
    have g0 := hB9.frozen 1
    generalize hWd : wc = W10 at *
    clear hWd
    have z4' := hB9.old l09 z4
    have hc0 : w.heap.size + 1 + 1 + 1 < W9.heap.size := hsz
    have e0 := hB9.old hc0 c0
    have hs10 : W9.heap.size < W10.heap.size := by rw [hB9.s]; omega
    have u9 := hB9.cell 0; have u2 := hB9.cell 2; have u2f := hB9.frozen 2
    simp only [List.getElem?_toArray, List.getElem?_cons_succ, List.getElem?_cons_zero] at u9 u2
    have hb10 := hB9.b
    go_upto_block 2 with fail
    clear z2 z3
    go_cut [10, 11, 12, 13] from 117 to 173 (fun _ _ _ _ wr => ∃ (k : Nat) (v2 : Value) (xs : List Value), Hid (wr.ownsRow (W9.heap.size + 1) 51 4 v2 k xs) ∧ k ≤ 5 ∧ Below W9.heap.size W9 wr ∧ W9.heap.size < wr.heap.size ∧
      wr.cell? ⟨W9.heap.size, 0, none⟩ = some (.int .i64 pr) ∧ wr.cell? ⟨W9.heap.size, 1, none⟩ = some (.int .i64 ar) ∧ wr.cell? ⟨W9.heap.size, 2, none⟩ = some v2 ∧ wr.frozen? ⟨W9.heap.size, 2, none⟩ = false)
    case first =>
      go_wp2_with fail
      go_loopw [10, 11] (fun a i wr => ∃ (k : Nat) (at_ : Int) (v2 : Value) (xs : List Value), k ≤ 5 ∧ i = .int .i64 k ∧ a = .int .i64 at_ ∧ 0 ≤ at_ ∧ at_ ≤ 150 + 40 * k ∧ Hid (wr.ownsRow (W9.heap.size + 1) 51 4 v2 k xs) ∧ Below W9.heap.size W9 wr ∧ W9.heap.size < wr.heap.size ∧
        wr.cell? ⟨W9.heap.size, 0, none⟩ = some (.int .i64 pr) ∧ wr.cell? ⟨W9.heap.size, 1, none⟩ = some (.int .i64 ar) ∧ wr.cell? ⟨W9.heap.size, 2, none⟩ = some v2 ∧ wr.frozen? ⟨W9.heap.size, 2, none⟩ = false) (fun _ i _ => 5 - (intOf i).toNat)
      case atStart => exact ⟨0, ar, .slice none 0 0, [], by omega, rfl, rfl, by omega, by omega, World.ownsRow_nil _ _ _ _, hb10, hs10, u9, u0, u2, u2f⟩
      case round =>
        clear u0 u9 u2 u2f e0 z4' g0 hB9 hb10 hs10
        obtain ⟨k, at_, v2, xs, hk, rfl, rfl, at0, at1, hO, hbr, hszr, q0, q1, q2, q2f⟩ := hrel
        have hbwr : Below w.heap.size w wr := hbw.trans (hbr.mono (by omega))
        have x4 := (hbr.cell (p := ⟨w.heap.size, 4, none⟩) l09).trans z4
        have x0 := (hbr.cell (p := ⟨w.heap.size + 1 + 1 + 1, 0, none⟩) hc0).trans c0
        by_cases hlt : k < zl ∧ k < 5
        · obtain ⟨hlt1, hlt2⟩ := hlt
          obtain ⟨zb, zo, rfl, hzb, hzc⟩ := h.zm.resolve_left (by omega)
          have hzw : ∀ t, t < 4 → wr.cell? ⟨zb, zo + (k * 4 + t), none⟩ = some (.int .i64 (zf (k * 4 + t))) := fun t ht => (hbwr.cell (p := ⟨zb, _, none⟩) hzb).trans (hzc _ (by omega))
          have y0 := hzw 0 (by decide); have y1 := hzw 1 (by decide); have y2 := hzw 2 (by decide); have y3 := hzw 3 (by decide)
          have w0 := h.zr (k * 4); have w1 := h.zr (k * 4 + 1); have w2 := h.zr (k * 4 + 2); have w3 := h.zr (k * 4 + 3)
          simp only [Nat.add_zero, ← Nat.add_assoc] at y0 y1 y2 y3
          clear hzw hzc
          generalize zf (k * 4) = v0 at *
          generalize zf (k * 4 + 1) = v1 at *
          generalize zf (k * 4 + 2) = v2' at *
          generalize zf (k * 4 + 3) = v3 at *
          go_upto_region 23 with fail
          obtain ⟨V2, hV2⟩ : ∃ V2, V2 = (wr.alloc (Obj.cells #[Value.int IntKind.i64 v0, Value.int IntKind.i64 v1, Value.int IntKind.i64 v2', Value.int IntKind.i64 v3] 65)) := ⟨_, rfl⟩
          rw [← hV2]
          have hB0 : WB 65 wr V2 #[Value.int IntKind.i64 v0, Value.int IntKind.i64 v1, Value.int IntKind.i64 v2', Value.int IntKind.i64 v3] := by rw [hV2]; exact WB.made _ _ _
          clear hV2
          have n0 := hB0.cell 0; have n1 := hB0.cell 1; have n2 := hB0.cell 2; have n3 := hB0.cell 3
          simp only [List.getElem?_toArray, List.getElem?_cons_succ, List.getElem?_cons_zero] at n0 n1 n2 n3
          have hc0' : w.heap.size + 1 + 1 + 1 < wr.heap.size := by omega
          have x0' := hB0.old hc0' x0
          have hs2 := hB0.s
          have hlr : wr.heap.size < V2.heap.size := by omega
          have q0' := hB0.old hszr q0; have q1' := hB0.old hszr q1; have q2' := hB0.old hszr q2
          have q2f' := (hB0.b.frozen (p := ⟨W9.heap.size, 2, none⟩) hszr).trans q2f
          have hszr2 : W9.heap.size < V2.heap.size := by omega
          clear y0 y1 y2 y3 x0 x4 q0 q1 q2 q2f
          obtain ⟨pl', hpl, pl0, pl1⟩ := mod_name v0 n (by omega)
          obtain ⟨sv, hsv, sv0, sv1⟩ := mod_name v3 9 (by decide)
          have HS2 := Lib.hid hs2; clear hs2
          have HB0 := Lib.hid hB0; clear hB0
          go_cut [13] from 117 to 173 (fun s wx => s = .pointer (some ⟨V2.heap.size, 0, none⟩) ∧ WB 51 V2 wx #[.int .i64 pl', .int .i64 0, .int .i64 0, .int .i64 sv])
          case first =>
            have t0 := World.new_ne V2 ⟨wr.heap.size, 0, none⟩ n0
            have t1 := World.new_ne V2 ⟨wr.heap.size, 3, none⟩ n3
            have t2 := World.new_ne V2 ⟨w.heap.size + 1 + 1 + 1, 0, none⟩ x0'
            go_region_held3 (fun w' => w'.cell? ⟨wr.heap.size, 0, none⟩ = some (.int .i64 v0) ∧ w'.cell? ⟨wr.heap.size, 3, none⟩ = some (.int .i64 v3) ∧ w'.cell? ⟨w.heap.size + 1 + 1 + 1, 0, none⟩ = some (.int .i64 n)) (first | exact ⟨n0, n3, x0'⟩ | go_keep)
              (first
                | (go_at_call 8; refine (mod_any _ _ _ ?_ ?_ ?_ ?_).mono ?_; (· omega); (· omega); (· omega); (· omega); rintro e w' ⟨rfl, rfl⟩))
            all_goals (go_wp2_with fail; go_meet; exact ⟨rfl, by rw [← hpl.out, ← hsv.out]; exact (WB.made _ _ _).drew⟩)
          case rest =>
          obtain ⟨rfl, hB⟩ := hcut
          have k1 := hB.old hlr n1
          have p1 := hB.cell 1
          have p1f := hB.frozen 1
          simp only [List.getElem?_toArray, List.getElem?_cons_succ, List.getElem?_cons_zero] at p1
          obtain ⟨r1', hr1', r10, r11⟩ := mod_name v1 40 (by decide)
          have hB2 := hB.set 1 (.int .i64 (at_ + r1' - 10))
          simp only [List.setIfInBounds_toArray, List.set_cons_succ, List.set_cons_zero] at hB2
          have HB2 := Lib.hid hB2; clear hB2 hB
          go_upto_region 25 with (go_at_call 8; refine (mod_is v1 40 r1' _ hr1'.out w1 ⟨by decide, by decide⟩).mono ?_; rintro e w' ⟨rfl, rfl⟩)
          have hB0 := HB2.out
          generalize (World.setCell _ ⟨V2.heap.size, 1, none⟩ (.int .i64 (at_ + r1' - 10))) = W4 at *
          clear HB2 p1 p1f k1
          have p1 := hB0.cell 1
          have p1f := hB0.frozen 1
          simp only [List.getElem?_toArray, List.getElem?_cons_succ, List.getElem?_cons_zero] at p1
          obtain ⟨lo, hlo⟩ : ∃ lo, (if at_ + r1' - 10 < 0 then 0 else at_ + r1' - 10) = lo := ⟨_, rfl⟩
          have hlo0 : 0 ≤ lo := by rw [← hlo]; split <;> omega
          have hlo1 : lo ≤ 150 + 40 * (k + 1) := by rw [← hlo]; split <;> omega
          have hB2 := hB0.set 1 (.int .i64 lo)
          simp only [List.setIfInBounds_toArray, List.set_cons_succ, List.set_cons_zero] at hB2
          have HB2 := Lib.hid hB2; clear hB2 hB0
          have HLO := Lib.hid hlo; clear hlo
          go_upto_region 26 with fail
          rw [HLO.out]
          have hB0 := HB2.out
          generalize (World.setCell _ ⟨V2.heap.size, 1, none⟩ (.int .i64 lo)) = W5 at *
          clear HB2 p1 p1f
          have k2 := hB0.old hlr n2
          have p1 := hB0.cell 1
          have p2 := hB0.cell 2
          have p2f := hB0.frozen 2
          simp only [List.getElem?_toArray, List.getElem?_cons_succ, List.getElem?_cons_zero] at p1 p2
          obtain ⟨r2', hr2', r20, r21⟩ := mod_name v2' 60 (by decide)
          go_cut [13] from 117 to 173 (fun s wx => s = .pointer (some ⟨V2.heap.size, 0, none⟩) ∧ WB 51 V2 wx #[.int .i64 pl', .int .i64 lo, .int .i64 (lo + r2'), .int .i64 sv])
          case first =>
            have t0 := World.new_ne W5 ⟨wr.heap.size, 2, none⟩ k2
            have t1 := World.new_ne W5 ⟨V2.heap.size, 1, none⟩ p1
            go_region_held3 (fun w' => w'.cell? ⟨wr.heap.size, 2, none⟩ = some (.int .i64 v2') ∧ w'.cell? ⟨V2.heap.size, 1, none⟩ = some (.int .i64 lo)) (first | exact ⟨k2, p1⟩ | (simp [*, World.cell?_setCell_other]; done) | go_keep)
              (first
                | (go_at_call 8; refine (mod_is v2' 60 r2' _ hr2'.out w2 ⟨by omega, by omega⟩).mono ?_; rintro e w' ⟨rfl, rfl⟩))
            all_goals (go_wp2_with fail; go_meet; exact ⟨rfl, by have h9 := (hB0.set 2 (.int .i64 (lo + r2'))).drew; have hwr3 : IntKind.i64.wrap (lo + r2') = lo + r2' := wrap_small _ (by omega) (by omega); simpa only [hwr3, List.setIfInBounds_toArray, List.set_cons_succ, List.set_cons_zero] using h9⟩)
          case rest =>
          clear p1 p2 p2f hB0 k2
          obtain ⟨rfl, hB7⟩ := hcut
          have p0 := hB7.cell 0; have p1 := hB7.cell 1; have p2 := hB7.cell 2; have p3 := hB7.cell 3
          simp only [List.getElem?_toArray, List.getElem?_cons_succ, List.getElem?_cons_zero] at p0 p1 p2 p3
          have s0 := hB7.old hszr2 q0'; have s1 := hB7.old hszr2 q1'; have s2 := hB7.old hszr2 q2'
          have s2f := (hB7.b.frozen (p := ⟨W9.heap.size, 2, none⟩) hszr2).trans q2f'
          have hown := (hO.out.kept (grownBy_of_below HB0.out.b) (none_or _)).kept (grownBy_of_below hB7.b) (none_or _)
          have hobn : ∀ q, v2.ownBlock = some q → W9.heap.size + 1 ≤ q := fun q hq => (hown.lt q hq).1
          have hsc : wc.heap.size = V2.heap.size + 1 := hB7.s
          obtain ⟨i0, hi, hz0, hz1, hz2⟩ := info_parts info51
          have HI := Lib.hid (And.intro hi (And.intro hz0 (And.intro hz1 hz2))); clear hi hz0 hz1 hz2
          have hb7 : Below W9.heap.size W9 wc := (hbr.trans (HB0.out.b.mono (by omega))).trans (hB7.b.mono (by omega))
          have HO := Lib.hid hown; clear hown
          have HOB := Lib.hid hobn; clear hobn
          have hwl : W9.heap.size + 1 ≤ wc.heap.size := by omega
          have hl9c : W9.heap.size < wc.heap.size := by omega
          have HSC := Lib.hid hsc; clear hsc
          clear q0' q1' q2' q2f' n0 n1 n2 n3 x0' hB7
          go_wp2_with (at_builtin; refine wpList_append_own _ rfl _ _ 32 rfl (W9.heap.size + 1) 51 i0 (.agg #[.int .i64 0, .int .i64 0, .int .i64 0, .int .i64 0]) 4 32 Try.underlying32 HI.out.1 HI.out.2.1 HI.out.2.2.1 HI.out.2.2.2 rfl (by decide) _ _ _ rfl (HO.out.alloc _) ⟨wc.heap.size, 0, none⟩ 1 1 [.int .i64 pl', .int .i64 lo, .int .i64 (lo + r2'), .int .i64 sv] rfl rfl (cells_new _ _ _) (by intro u hu; simp at hu; rcases hu with rfl | rfl | rfl | rfl <;> rfl) (by unfold maxLen; omega) (by omega) (by simp; omega) ?_)
          intro v' w5 hown' hgrow _
          rcases hown'.2 with ⟨-, h9⟩ | ⟨g, cp, cur, rfl, -⟩
          · omega
          have hob' : ∀ q, (Value.slice (some ⟨g, 0, none⟩) (k + 1) cp).ownBlock = some q → W9.heap.size + 1 ≤ q := fun q hq => (hown'.lt q hq).1
          have hbox : w5.heap[W9.heap.size]? = wc.heap[W9.heap.size]? := (hgrow.block W9.heap.size (by simp; omega) (fun e => by have := HOB.out _ e.symm; omega)).trans (Below.heap_alloc _ _ _ hl9c)
          have f0 : w5.cell? ⟨W9.heap.size, 0, none⟩ = some (.int .i64 pr) := (World.cell?_of_block (w := wc) (a := ⟨W9.heap.size, 0, none⟩) hbox).trans s0
          have f1 : w5.cell? ⟨W9.heap.size, 1, none⟩ = some (.int .i64 ar) := (World.cell?_of_block (w := wc) (a := ⟨W9.heap.size, 1, none⟩) hbox).trans s1
          have f2 : w5.cell? ⟨W9.heap.size, 2, none⟩ = some v2 := (World.cell?_of_block (w := wc) (a := ⟨W9.heap.size, 2, none⟩) hbox).trans s2
          have f2f : w5.frozen? ⟨W9.heap.size, 2, none⟩ = false := (World.frozen?_of_block (w := wc) (a := ⟨W9.heap.size, 2, none⟩) hbox).trans s2f
          have hb5 : Below W9.heap.size W9 w5 := (hb7.alloc (by omega) _).grown hgrow (by simp; omega) (fun q hq => by have := HOB.out q hq; omega)
          have hs5 : W9.heap.size < w5.heap.size := by have := hgrow.size; simp at this; omega
          have hg2 : w5.grownBy (w5.setCell ⟨W9.heap.size, 2, none⟩ (.slice (some ⟨g, 0, none⟩) (k + 1) cp)) (some W9.heap.size) :=
            ⟨rfl, rfl, rfl, by simp [World.setCell], fun q hq hne => by
              have hne : q ≠ W9.heap.size := fun e => hne (by rw [e])
              rw [Below.heap_setCell _ _ _ _ hne]⟩
          have hw6 := hown'.kept hg2 (.inr (fun e => by have := hob' _ e; omega))
          have HH := Lib.hid (And.intro hb5 (And.intro hg2 (And.intro hw6 hob'))); clear hb5 hg2 hw6 hob' hown' hgrow hbox p0 p1 p2 p3 s0 s1 s2 s2f
          go_wp2_with fail
          go_roundw
          case rel =>
            refine ⟨k + 1, lo, .slice (some ⟨g, 0, none⟩) (k + 1) cp, _, by omega, by go_num, rfl, hlo0, by omega, HH.out.2.2.1, HH.out.1.setCell (p := ⟨W9.heap.size, 2, none⟩) (Nat.le_refl _) _, by simp [World.setCell]; omega, ?_, ?_, World.cell?_setCell_same _ _ _ f2, by simpa using f2f⟩
            · rw [World.cell?_setCell_other _ _ _ _ (fun h => by injection h with h1 h2 h3; omega)]; exact f0
            · rw [World.cell?_setCell_other _ _ _ _ (fun h => by injection h with h1 h2 h3; omega)]; exact f1
          case measure => simp [intOf]; omega
        · go_wp2_with fail
          all_goals (go_meet; exact ⟨k, v2, xs, hO, hk, hbr, hszr, q0, q1, q2, q2f⟩)
    case rest =>
    clear u0 g0 z4' e0 u9 u2 u2f hB9 hb10 hs10
    obtain ⟨k2, v2, xs, hO2, hk2, hb11, hs11, q0, q1, q2, q2f⟩ := hcut
    obtain ⟨va, vcap, rfl⟩ := owns_slice hR.out.2.2
    obtain ⟨v2a, v2cap, rfl⟩ := owns_slice hO2.out
    generalize hWe : wc = W11 at *
    clear hWe
    have e0 := (hb11.cell (p := ⟨w.heap.size + 1 + 1 + 1, 0, none⟩) hc0).trans c0
    have e1 := (hb11.cell (p := ⟨w.heap.size + 1 + 1 + 1, 1, none⟩) hc0).trans c1
    have hb0B : Below W0.heap.size W0 W11 := hb.trans (hb11.mono hs9)
    have t0 := (hb0B.cell (p := ⟨w.heap.size + 1, 0, none⟩) l1).trans BB.out.1
    have t1 := (hb0B.cell (p := ⟨w.heap.size + 1, 1, none⟩) l1).trans BB.out.2.1
    have t2 := (hb0B.frozen (p := ⟨w.heap.size + 1, 0, none⟩) l1).trans BB.out.2.2.1
    have t3 := (hb0B.frozen (p := ⟨w.heap.size + 1, 1, none⟩) l1).trans BB.out.2.2.2
    have o0 := (hb0B.cell (p := ⟨w.heap.size + 1 + 1, 0, none⟩) l2).trans DD.out.1
    have o1 := (hb0B.cell (p := ⟨w.heap.size + 1 + 1, 1, none⟩) l2).trans DD.out.2.1
    have o2 := (hb0B.cell (p := ⟨w.heap.size + 1 + 1, 2, none⟩) l2).trans DD.out.2.2.1
    have o3 := (hb0B.frozen (p := ⟨w.heap.size + 1 + 1, 0, none⟩) l2).trans DD.out.2.2.2.1
    have o4 := (hb0B.frozen (p := ⟨w.heap.size + 1 + 1, 1, none⟩) l2).trans DD.out.2.2.2.2.1
    have o5 := (hb0B.frozen (p := ⟨w.heap.size + 1 + 1, 2, none⟩) l2).trans DD.out.2.2.2.2.2
    clear c0 c1 f1
    have l3w : w.heap.size + 1 + 1 + 1 ≠ w.heap.size + 1 := by omega
    have l9w : W9.heap.size ≠ w.heap.size + 1 := by omega
    have l9w2 : W9.heap.size ≠ w.heap.size + 1 + 1 := by omega
    go_wp2_with fail
    go_region
    go_wp2_with fail
    obtain ⟨X, hX⟩ : ∃ X, X = (((((W11.setCell ⟨w.heap.size + 1, 0, none⟩ (Value.int IntKind.i64 ↑n)).setCell ⟨w.heap.size + 1, 1, none⟩ (Value.slice va k vcap)).setCell ⟨w.heap.size + 1 + 1, 0, none⟩ (Value.int IntKind.i64 pr)).setCell ⟨w.heap.size + 1 + 1, 1, none⟩ (Value.int IntKind.i64 ar)).setCell ⟨w.heap.size + 1 + 1, 2, none⟩ (Value.slice v2a k2 v2cap)).drew := ⟨_, rfl⟩
    rw [← hX]
    have x0 : X.cell? ⟨w.heap.size + 1, 0, none⟩ = some (.int .i64 n) := by rw [hX]; go_simp
    have x1 : X.cell? ⟨w.heap.size + 1, 1, none⟩ = some (.slice va k vcap) := by rw [hX]; go_simp
    have x2 : X.cell? ⟨w.heap.size + 1 + 1, 0, none⟩ = some (.int .i64 pr) := by rw [hX]; go_simp
    have x3 : X.cell? ⟨w.heap.size + 1 + 1, 1, none⟩ = some (.int .i64 ar) := by rw [hX]; go_simp
    have x4 : X.cell? ⟨w.heap.size + 1 + 1, 2, none⟩ = some (.slice v2a k2 v2cap) := by rw [hX]; go_simp
    have hXs : X.heap.size = W11.heap.size := by rw [hX]; simp [World.setCell, World.drew]
    have hX0 : ∀ q, q ≠ w.heap.size + 1 → q ≠ w.heap.size + 1 + 1 → X.heap[q]? = W11.heap[q]? := fun q h1 h2 => by
      rw [hX]
      show (World.setCell _ _ _).heap[q]? = _
      rw [Below.heap_setCell _ _ _ _ h2, Below.heap_setCell _ _ _ _ h2, Below.heap_setCell _ _ _ _ h2, Below.heap_setCell _ _ _ _ h1, Below.heap_setCell _ _ _ _ h1]
    have hbX : Below w.heap.size w X := by
      have h9 : Below w.heap.size w W11 := hbw.trans (hb11.mono (by omega))
      rw [hX]
      exact (((((h9.setCell (p := ⟨w.heap.size + 1, 0, none⟩) (by show _ ≤ w.heap.size + 1; omega) _).setCell (p := ⟨w.heap.size + 1, 1, none⟩) (by show _ ≤ w.heap.size + 1; omega) _).setCell (p := ⟨w.heap.size + 1 + 1, 0, none⟩) (by show _ ≤ w.heap.size + 1 + 1; omega) _).setCell (p := ⟨w.heap.size + 1 + 1, 1, none⟩) (by show _ ≤ w.heap.size + 1 + 1; omega) _).setCell (p := ⟨w.heap.size + 1 + 1, 2, none⟩) (by show _ ≤ w.heap.size + 1 + 1; omega) _).drew
    have HX := Lib.hid hX; clear hX
    refine bodyPost_ret (v := .tuple #[cv n va ws.length vcap, .agg #[.int .i64 pr, .int .i64 ar, .slice v2a k2 v2cap]]) ?_ rfl ?_
    · rw [hR.out.1]
      simp [results, asAddr, loadVar, go_sem, x0, x1, x2, x3, x4]
    · refine ⟨n, va, vcap, ws, pr, ar, _, _, _, rfl, ⟨⟨by omega, by omega, by have := hR.out.1; omega, hR.out.2.1⟩, ?_⟩, pr0, pr1, ar0, by omega, hbX⟩
      rcases chart_rows hR.out.1 hR.out.2.2 with h9 | ⟨g, rfl, hg, hgl, h9⟩
      · exact .inl h9
      · refine .inr ⟨g, 0, rfl, by omega, fun j hj => ?_⟩
        have hgX : X.heap[g]? = W9.heap[g]? := (hX0 g (by omega) (by omega)).trans (hb11.block g hgl)
        have h7 := h9 j hj
        have tr : ∀ o, X.cell? ⟨g, o, none⟩ = W9.cell? ⟨g, o, none⟩ := fun o => World.cell?_of_block (w := W9) (a := ⟨g, o, none⟩) hgX
        exact ⟨(tr _).trans h7.c0, (tr _).trans h7.c1, (tr _).trans h7.c2, (tr _).trans h7.c3, (tr _).trans h7.c4, (tr _).trans h7.c5, (tr _).trans h7.c6⟩
end Go.Proofs.Ytdmmjlhcjmdajaa
