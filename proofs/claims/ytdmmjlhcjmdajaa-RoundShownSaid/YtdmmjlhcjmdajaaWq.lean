/-
  The contract of begins for two stops.
  Its conditions stand in each theorem.
-/
import Derived.Test.YtdmmjlhcjmdajaaWo
import Derived.Test.YtdmmjlhcjmdajaaWp
import Derived.BigQuiet
import Derived.Deep.QuietTactic
import Derived.BigRegion
import Derived.Deep.CutRange
namespace Go.Proofs.Ytdmmjlhcjmdajaa
open Go.RowKit Go.Shelf Go.Maps
set_option linter.unusedVariables false

/-- when the stops are begun -/
def begs (n : Nat) (ws : List Rd.Wy) (tk : List Int) : List Stp → Int → Int → List Int
  | [], _, _ => []
  | s :: r, p, a =>
    if 1439 < a then List.replicate (r.length + 1) (-1) else
    match Rd.gt (Rd.reach n ws tk p a) s.place with
    | none => List.replicate (r.length + 1) (-1)
    | some x => if s.hi < max x.1 s.lo then List.replicate (r.length + 1) (-1) else max x.1 s.lo :: begs n ws tk r s.place (max x.1 s.lo + s.sv)

theorem begs_late {n ws tk} (l : List Stp) {p a : Int} (h : 1439 < a) : begs n ws tk l p a = List.replicate l.length (-1) := by
  cases l with
  | nil => rfl
  | cons s r => show (if 1439 < a then _ else _) = _; rw [if_pos h]; rfl
theorem begs_none {n ws tk} (s : Stp) (r : List Stp) {p a : Int} (h : ¬ 1439 < a) (hg : Rd.gt (Rd.reach n ws tk p a) s.place = none) : begs n ws tk (s :: r) p a = List.replicate (r.length + 1) (-1) := by
  show (if 1439 < a then _ else match Rd.gt (Rd.reach n ws tk p a) s.place with | none => _ | some x => _) = _
  rw [if_neg h, hg]
theorem begs_no {n ws tk} (s : Stp) (r : List Stp) {p a : Int} {x : Int × Int} (h : ¬ 1439 < a) (hg : Rd.gt (Rd.reach n ws tk p a) s.place = some x) (h2 : s.hi < max x.1 s.lo) : begs n ws tk (s :: r) p a = List.replicate (r.length + 1) (-1) := by
  show (if 1439 < a then _ else match Rd.gt (Rd.reach n ws tk p a) s.place with | none => _ | some x => _) = _
  rw [if_neg h, hg]
  dsimp only
  rw [if_pos h2]
theorem begs_yes {n ws tk} (s : Stp) (r : List Stp) {p a : Int} {x : Int × Int} (h : ¬ 1439 < a) (hg : Rd.gt (Rd.reach n ws tk p a) s.place = some x) (h2 : ¬ s.hi < max x.1 s.lo) : begs n ws tk (s :: r) p a = max x.1 s.lo :: begs n ws tk r s.place (max x.1 s.lo + s.sv) := by
  show (if 1439 < a then _ else match Rd.gt (Rd.reach n ws tk p a) s.place with | none => _ | some x => _) = _
  rw [if_neg h, hg]
  dsimp only
  rw [if_neg h2]

theorem TakesS.below {g lb tk len} {w W : World} (h : TakesS g lb tk len w) (hb : Below w.heap.size w W) : TakesS g lb tk len W :=
  fun i h0 hl W' hW => h i h0 hl W' ((Stay.of_below hb (Nat.le_refl _)).trans (hW.mono hb.size hb.size))

def BegPost (n : Nat) (ws : List Rd.Wy) (tk : List Int) (l : List Stp) (p a : Int) (w : World) (e : Ending) (w' : World) : Prop :=
  ∃ b, e = .returned (.slice (some ⟨b, 0, none⟩) 2 2) ∧ b < w'.heap.size ∧ IRow w' b (begs n ws tk l p a) ∧ Below w.heap.size w w'

set_option maxRecDepth 100000 in
set_option maxHeartbeats 4000000 in
theorem begins_2 (n : Nat) (sa : Option Addr) (cap : Nat) (ws : List Rd.Wy) (tk : List Int) (p a : Int) (ra : Option Addr) (rcap : Nat) (l : List Stp) (g : Nat) (lb : Array Value) (w : World) (ch : IsChart w.heap.size w sa ws n) (hr : IsRound w.heap.size w ra l n p 0) (hl2 : l.length = 2) (ha0 : 0 ≤ a) (ha1 : a ≤ 3000) (ok : Rd.Okay ws tk n)
   (htk : ∀ i : Int, 0 ≤ i → i < ws.length → 1 ≤ Rd.tkn tk i ∧ Rd.tkn tk i ≤ 600) (eg : ∀ args w, (callFunc g args).run Try.prog w = .ok (.enter g args) w) (hT : TakesS g lb tk ws.length w) :
   Calls Try.prog 33 #[cv n sa ws.length cap, rv p a ra 2 rcap, .func (.func g) #[] lb] w (BegPost n ws tk l p a w) := by
  have hn2 := ch.ch.n2
  have hb0 : Below w.heap.size w (((w.alloc (Obj.cells #[Value.int IntKind.i64 ↑n, Value.slice sa ws.length cap] 31)).alloc (Obj.cells #[Value.int .i64 p, .int .i64 a, .slice ra 2 rcap] 34)).alloc (Obj.cells #[Value.int .i64 (-1)] 3)) := (((Below.refl _ _).alloc (Nat.le_refl _) _).alloc (by simp) _).alloc (by simp; omega) _
  go_enter Try.func33, Try.ntmps33
  go_wp2_with fail
  refine (repeat_2 (w.heap.size + 1 + 1) _ (by simp) (by go_simp)).mono ?_
  rintro e w1 ⟨rfl, hrow, hb1, hlt1⟩
  have hs0 : (((w.alloc (Obj.cells #[Value.int IntKind.i64 ↑n, Value.slice sa ws.length cap] 31)).alloc (Obj.cells #[Value.int .i64 p, .int .i64 a, .slice ra 2 rcap] 34)).alloc (Obj.cells #[Value.int .i64 (-1)] 3)).heap.size = w.heap.size + 3 := by simp
  have hb2 : Below w.heap.size w w1 := hb0.trans (hb1.mono (by omega))
  have c0 : w1.cell? ⟨w.heap.size, 0, none⟩ = some (.int .i64 n) := by rw [hb1.cell (p := ⟨w.heap.size, 0, none⟩) (by rw [hs0]; show w.heap.size < _; omega)]; go_simp
  have c1 : w1.cell? ⟨w.heap.size, 1, none⟩ = some (.slice sa ws.length cap) := by rw [hb1.cell (p := ⟨w.heap.size, 1, none⟩) (by rw [hs0]; show w.heap.size < _; omega)]; go_simp
  have d0 : w1.cell? ⟨w.heap.size + 1, 0, none⟩ = some (.int .i64 p) := by rw [hb1.cell (p := ⟨w.heap.size + 1, 0, none⟩) (by rw [hs0]; show w.heap.size + 1 < _; omega)]; go_simp
  have d1 : w1.cell? ⟨w.heap.size + 1, 1, none⟩ = some (.int .i64 a) := by rw [hb1.cell (p := ⟨w.heap.size + 1, 1, none⟩) (by rw [hs0]; show w.heap.size + 1 < _; omega)]; go_simp
  have d2 : w1.cell? ⟨w.heap.size + 1, 2, none⟩ = some (.slice ra 2 rcap) := by rw [hb1.cell (p := ⟨w.heap.size + 1, 2, none⟩) (by rw [hs0]; show w.heap.size + 1 < _; omega)]; go_simp
  rw [hs0] at hrow hlt1
  have hlb : w.heap.size + 1 + 1 + 1 = w.heap.size + 3 := rfl
  go_wp2_with fail
  go_quiet (fail)
  go_wp2_with fail
  have ch1 : IsChart w1.heap.size w1 sa ws n := (ch.below hb2).mono (by omega)
  have hlt : w.heap.size < w1.heap.size := by omega
  have HT := Lib.hid hT; clear hT
  have EG := Lib.hid eg; clear eg
  have HB := Lib.hid hb1; clear hb1
  clear hb0 hs0 d0 d1 d2
  go_loopw [8, 9, 27] (fun pl at_ i wr => ∃ (k : Nat) (pv av : Int) (done : List Int), k ≤ 2 ∧ i = .int .i64 k ∧ pl = .int .i64 pv ∧ at_ = .int .i64 av ∧ 0 ≤ pv ∧ pv < n ∧ 0 ≤ av ∧ av ≤ 3000 ∧
    Hid (done.length = k ∧ begs n ws tk l p a = done ++ begs n ws tk (l.drop k) pv av ∧ IRow wr (w.heap.size + 3) (done ++ List.replicate (2 - k) (-1))) ∧ Below (w.heap.size + 3) w1 wr) (fun _ _ i _ => 2 - (intOf i).toNat)
  case atStart => exact ⟨0, p, a, [], by omega, rfl, rfl, rfl, hr.p0, hr.p1, ha0, ha1, ⟨rfl, rfl, hrow.same rfl⟩, below_drewN (Below.refl _ _) _⟩
  case round =>
    obtain ⟨k, pv, av, done, hk, rfl, rfl, rfl, pv0, pv1, av0, av1, hD, hb⟩ := hrel
    have hsz := hb.size
    have hbw : Below w.heap.size w wr := hb2.trans (hb.mono (by omega))
    have x0 := (hb.cell (p := ⟨w.heap.size, 0, none⟩) (by show w.heap.size < _; omega)).trans c0
    have x1 := (hb.cell (p := ⟨w.heap.size, 1, none⟩) (by show w.heap.size < _; omega)).trans c1
    by_cases hlt2 : k < 2
    · obtain ⟨sb, so, rfl, hsb, h4⟩ := (hr.me.below hbw).at (k := k) (by omega)
      have okk := hr.ok k (by omega)
      have s0 := h4.c0; have s1 := h4.c1; have s2 := h4.c2; have s3 := h4.c3
      clear h4
      have hdrop : l.drop k = stp l k :: l.drop (k + 1) := by
        rw [List.drop_eq_getElem_cons (by omega)]; simp [stp, List.getD_eq_getElem?_getD, show k < l.length by omega]
      have hdl : (l.drop (k + 1)).length = 1 - k := by simp; omega
      have HDR := Lib.hid (And.intro hdrop hdl); clear hdrop hdl
      generalize stp l k = s at *
      by_cases hav : 1439 < av
      · go_wp2_with fail
        go_ret
        refine ⟨w.heap.size + 3, rfl, by simp; omega, ?_, hbw.alloc (by omega) _⟩
        rw [hD.out.2.1, begs_late _ hav, List.length_drop, hl2]
        exact hD.out.2.2.alloc _
      · go_wp2_with fail
        obtain ⟨WA, hWA⟩ : ∃ WA, WA = wr.alloc (Obj.cells #[Value.int .i64 s.place, .int .i64 s.lo, .int .i64 s.hi, .int .i64 s.sv] 51) := ⟨_, rfl⟩
        rw [← hWA]
        have hbA : Below wr.heap.size wr WA := by rw [hWA]; exact (Below.refl _ _).alloc (Nat.le_refl _) _
        have hsA : WA.heap.size = wr.heap.size + 1 := by rw [hWA]; simp
        have m0 : WA.cell? ⟨wr.heap.size, 0, none⟩ = some (.int .i64 s.place) := by rw [hWA]; go_simp
        have m1 : WA.cell? ⟨wr.heap.size, 1, none⟩ = some (.int .i64 s.lo) := by rw [hWA]; go_simp
        have m2 : WA.cell? ⟨wr.heap.size, 2, none⟩ = some (.int .i64 s.hi) := by rw [hWA]; go_simp
        have m3 : WA.cell? ⟨wr.heap.size, 3, none⟩ = some (.int .i64 s.sv) := by rw [hWA]; go_simp
        have rA : IRow WA (w.heap.size + 3) (done ++ List.replicate (2 - k) (-1)) := by rw [hWA]; exact hD.out.2.2.alloc _
        have y0 := (hbA.cell (p := ⟨w.heap.size, 0, none⟩) (by show w.heap.size < _; omega)).trans x0
        have y1 := (hbA.cell (p := ⟨w.heap.size, 1, none⟩) (by show w.heap.size < _; omega)).trans x1
        have hbwA : Below w.heap.size w WA := hbw.trans (hbA.mono (by omega))
        have HWA := Lib.hid hWA; clear hWA
        have hltA : w.heap.size < WA.heap.size := by omega
        have hltr : wr.heap.size < WA.heap.size := by omega
        have hlt3 : w.heap.size + 3 < WA.heap.size := by omega
        have HSA := Lib.hid hsA; clear hsA
        have RA := Lib.hid rA; clear rA
        have hp0 := okk.p0; have hp1 := okk.p1; have ha0' := okk.a0; have ha1' := okk.a1; have ha2' := okk.a2; have hs0' := okk.s0; have hs1' := okk.s1
        clear s0 s1 s2 s3 x0 x1 c0 c1 okk hrow
        have HX : ∀ X, Below WA.heap.size WA X → IsChart X.heap.size X sa ws n ∧ TakesS g lb tk ws.length X ∧ X.cell? ⟨wr.heap.size, 0, none⟩ = some (.int .i64 s.place) := fun X hX =>
          ⟨(ch.below (hbwA.trans (hX.mono (by omega)))).mono (by have := hX.size; omega), HT.out.below (hbwA.trans (hX.mono (by omega))), (hX.cell (p := ⟨wr.heap.size, 0, none⟩) hltr).trans m0⟩
        have hX1 := HX WA.drew (Below.refl _ _).drew
        have hX2 := HX (WA.alloc (Obj.cells #[.int .i64 0, .int .i64 0] 78)).drew ((Below.refl _ _).alloc (Nat.le_refl _) _).drew
        have HX1 := Lib.hid hX1; have HX2 := Lib.hid hX2; clear hX1 hX2 HX
        have hB1 : Below WA.heap.size WA WA.drew := (Below.refl _ _).drew
        have hB2 : Below WA.heap.size WA (WA.alloc (Obj.cells #[.int .i64 0, .int .i64 0] 78)).drew := ((Below.refl _ _).alloc (Nat.le_refl _) _).drew
        have HB1 := Lib.hid hB1; have HB2 := Lib.hid hB2; clear hB1 hB2
        obtain ⟨O, hO⟩ : ∃ O, O = Rd.reach n ws tk pv av := ⟨_, rfl⟩
        have HO := Lib.hid hO; clear hO
        obtain ⟨x, hx⟩ : ∃ x, (Rd.gt O s.place).getD (0, 0) = x := ⟨_, rfl⟩
        obtain ⟨fd, hfd⟩ : ∃ fd, (Rd.gt O s.place).isSome = fd := ⟨_, rfl⟩
        have GX := Lib.hid (And.intro hx hfd); clear hx hfd
        go_cut [12, 13] from 28 to 70 (fun s12 s13 wx => ∃ b12 : Nat, s12 = .pointer (some ⟨b12, 0, none⟩) ∧ s13 = .bool fd ∧ WA.heap.size ≤ b12 ∧ b12 < wx.heap.size ∧ wx.cell? ⟨b12, 0, none⟩ = some (.int .i64 x.1) ∧ wx.cell? ⟨b12, 1, none⟩ = some (.int .i64 x.2) ∧ Below WA.heap.size WA wx)
        case first =>
          have hz9 : WA.heap.size < (WA.alloc (Obj.cells #[.int .i64 0, .int .i64 0] 78)).drew.heap.size := by show _ < (WA.alloc _).heap.size; simp
          have t0 := World.new_ne WA ⟨wr.heap.size, 0, none⟩ m0
          have t1 := World.new_ne WA ⟨w.heap.size, 0, none⟩ y0
          have t2 := World.new_ne WA ⟨w.heap.size, 1, none⟩ y1
          go_region_held3 (fun w' => w'.cell? ⟨wr.heap.size, 0, none⟩ = some (.int .i64 s.place) ∧ w'.cell? ⟨w.heap.size, 0, none⟩ = some (.int .i64 n) ∧ w'.cell? ⟨w.heap.size, 1, none⟩ = some (.slice sa ws.length cap)) (first | exact ⟨m0, y0, y1⟩ | exact ⟨p0, p1, p2⟩ | go_keep) (first
            | (go_at_call 21; refine (reach_in n sa cap ws tk pv av g lb _ HX1.out.1 ok htk pv0 pv1 av0 (by omega) EG.out HX1.out.2.1).mono ?_; rintro e w3 ⟨b, rfl, hm, hb3⟩; rw [← HO.out] at hm; have hbX : Below WA.heap.size WA w3 := HB1.out.trans (hb3.mono HB1.out.size); have p0 := (hbX.cell (p := ⟨wr.heap.size, 0, none⟩) hltr).trans m0; have p1 := (hbX.cell (p := ⟨w.heap.size, 0, none⟩) hltA).trans y0; have p2 := (hbX.cell (p := ⟨w.heap.size, 1, none⟩) hltA).trans y1; have t3 := World.new_ne w3 ⟨wr.heap.size, 0, none⟩ p0; have t4 := World.new_ne w3 ⟨w.heap.size, 0, none⟩ p1; have e1 := hm.look_ok s.place (by omega) (by omega); rw [GX.out.1, GX.out.2] at e1; have e2 := (hm.kept (World.grownBy_alloc w3 (Obj.cells #[.int .i64 0, .int .i64 0] 78) none) (by simp)).look_ok s.place (by omega) (by omega); rw [GX.out.1, GX.out.2] at e2)
            | (go_at_call 21; refine (reach_in n sa cap ws tk pv av g lb _ HX2.out.1 ok htk pv0 pv1 av0 (by omega) EG.out HX2.out.2.1).mono ?_; rintro e w3 ⟨b, rfl, hm, hb3⟩; rw [← HO.out] at hm; have hbX : Below WA.heap.size WA w3 := HB2.out.trans (hb3.mono HB2.out.size); have p0 := (hbX.cell (p := ⟨wr.heap.size, 0, none⟩) hltr).trans m0; have p1 := (hbX.cell (p := ⟨w.heap.size, 0, none⟩) hltA).trans y0; have p2 := (hbX.cell (p := ⟨w.heap.size, 1, none⟩) hltA).trans y1; have t3 := World.new_ne w3 ⟨wr.heap.size, 0, none⟩ p0; have t4 := World.new_ne w3 ⟨w.heap.size, 0, none⟩ p1; have e1 := hm.look_ok s.place (by omega) (by omega); rw [GX.out.1, GX.out.2] at e1; have v0 : w3.cell? ⟨WA.heap.size, 0, none⟩ = some (.int .i64 0) := (hb3.cell (p := ⟨WA.heap.size, 0, none⟩) hz9).trans (show (WA.alloc _).cell? _ = _ by simp); have v1 : w3.cell? ⟨WA.heap.size, 1, none⟩ = some (.int .i64 0) := (hb3.cell (p := ⟨WA.heap.size, 1, none⟩) hz9).trans (show (WA.alloc _).cell? _ = _ by simp); have v2 : w3.frozen? ⟨WA.heap.size, 0, none⟩ = false := (hb3.frozen (p := ⟨WA.heap.size, 0, none⟩) hz9).trans (show (WA.alloc _).frozen? _ = _ by simp); have v3 : w3.frozen? ⟨WA.heap.size, 1, none⟩ = false := (hb3.frozen (p := ⟨WA.heap.size, 1, none⟩) hz9).trans (show (WA.alloc _).frozen? _ = _ by simp)))
          all_goals (go_wp2_with fail; go_meet)
          all_goals first
            | exact ⟨w3.heap.size, rfl, rfl, hbX.size, by simp, by simp, by simp, hbX.alloc hbX.size _⟩
            | exact ⟨WA.heap.size, rfl, rfl, Nat.le_refl _, by have h9 := World.block_lt_of_cell? w3 ⟨WA.heap.size, 0, none⟩ v0; simpa [World.setCell] using h9, by rw [World.cell?_setCell_other _ _ _ _ (fun h => by injection h with h1 h2 h3; omega)]; exact World.cell?_setCell_same _ _ _ v0, World.cell?_setCell_same _ _ _ (by rw [World.cell?_setCell_other _ _ _ _ (fun h => by injection h with h1 h2 h3; omega)]; exact v1), (hbX.setCell (p := ⟨WA.heap.size, 0, none⟩) (Nat.le_refl _) _).setCell (p := ⟨WA.heap.size, 1, none⟩) (Nat.le_refl _) _⟩
        case rest =>
          obtain ⟨b12, rfl, rfl, hb12, hb12', v0, v1, hbx⟩ := hcut
          have r0 := (hbx.cell (p := ⟨wr.heap.size, 0, none⟩) hltr).trans m0
          have r1 := (hbx.cell (p := ⟨wr.heap.size, 1, none⟩) hltr).trans m1
          have r2 := (hbx.cell (p := ⟨wr.heap.size, 2, none⟩) hltr).trans m2
          have r3 := (hbx.cell (p := ⟨wr.heap.size, 3, none⟩) hltr).trans m3
          have rX : IRow wc (w.heap.size + 3) (done ++ List.replicate (2 - k) (-1)) := RA.out.same (hbx.block _ hlt3)
          have hdone : done.length = k := hD.out.1
          have hrl : (done ++ List.replicate (2 - k) (-1 : Int)).length = 2 := by simp [hdone]; omega
          have z0 := rX.cell (j := k) (by omega)
          have z1 := rX.frozen k
          have hset : (done ++ List.replicate (2 - k) (-1 : Int)).set k (max x.1 s.lo) = (done ++ [max x.1 s.lo]) ++ List.replicate (2 - (k + 1)) (-1) := by
            have e : 2 - k = (2 - (k + 1)) + 1 := by omega
            rw [e, List.replicate_succ, List.set_append_right _ _ (by omega), hdone, Nat.sub_self]
            simp
          have rS := rX.set k (max x.1 s.lo)
          rw [hset] at rS
          have hbB : Below (w.heap.size + 3) w1 wc := (hb.trans (hbA.mono (by omega))).trans (hbx.mono (by omega))
          have HH := Lib.hid (And.intro rX (And.intro hset (And.intro rS (And.intro hbB (And.intro hdone hrl))))); clear rX hset rS hbB hdone hrl
          clear m0 m1 m2 m3 y0 y1
          have hGT := GX.out
          obtain ⟨mv, hmv⟩ : ∃ mv, (if x.1 < s.lo then s.lo else x.1) = mv := ⟨_, rfl⟩
          have hmx : max x.1 s.lo = mv := by rw [← hmv]; split <;> omega
          rw [hmx] at HH
          have hO2 := HO.out
          have hbf := hD.out.2.1
          rw [HDR.out.1] at hbf
          have HMX := Lib.hid hmx; clear hmx
          have hbwx : Below w.heap.size w wc := hbwA.trans (hbx.mono (by omega))
          have hlx : w.heap.size + 3 < wc.heap.size := by have := hbx.size; omega
          cases hgt : Rd.gt O s.place with
          | none =>
            rw [hgt] at hGT
            obtain ⟨-, h2⟩ := hGT
            simp only [Option.isSome_none] at h2
            subst h2
            rw [begs_none s _ (by omega) (by rw [← hO2]; exact hgt), HDR.out.2] at hbf
            have HBF := Lib.hid hbf; clear hbf hgt hO2
            go_wp2_with fail
            go_ret
            refine ⟨w.heap.size + 3, rfl, by omega, ?_, hbwx⟩
            rw [HBF.out, show 1 - k + 1 = 2 - k by omega]
            exact HH.out.1
          | some y =>
            rw [hgt] at hGT
            obtain ⟨h1, h2⟩ := hGT
            simp only [Option.getD_some] at h1
            simp only [Option.isSome_some] at h2
            subst h1; subst h2
            have hmv0 : 0 ≤ mv := by rw [← hmv]; split <;> omega
            have hcs : (y.1 < s.lo ∧ mv = s.lo) ∨ (¬ y.1 < s.lo ∧ mv = y.1) := by
              rw [← hmv]
              by_cases h9 : y.1 < s.lo
              · exact .inl ⟨h9, by rw [if_pos h9]⟩
              · exact .inr ⟨h9, by rw [if_neg h9]⟩
            clear hmv
            rcases hcs with ⟨hcmp, rfl⟩ | ⟨hcmp, rfl⟩
            · by_cases hhi : s.hi < s.lo
              · omega
              · rw [begs_yes s _ (by omega) (by rw [← hO2]; exact hgt) (by rw [HMX.out]; exact hhi), HMX.out] at hbf
                have HBF := Lib.hid hbf; clear hbf hgt hO2
                have q0 : (wc.setCell ⟨w.heap.size + 3, k, none⟩ (.int .i64 s.lo)).cell? ⟨wr.heap.size, 0, none⟩ = some (.int .i64 s.place) := by rw [World.cell?_setCell_other _ _ _ _ (fun h => by injection h with h1 h2 h3; omega)]; exact r0
                have q3 : (wc.setCell ⟨w.heap.size + 3, k, none⟩ (.int .i64 s.lo)).cell? ⟨wr.heap.size, 3, none⟩ = some (.int .i64 s.sv) := by rw [World.cell?_setCell_other _ _ _ _ (fun h => by injection h with h1 h2 h3; omega)]; exact r3
                go_wp2_with fail
                go_quiet (fail)
                go_wp2_with fail
                exact ⟨⟨k + 1, s.place, s.lo + s.sv, done ++ [s.lo], by omega, by go_num, rfl, rfl, hp0, hp1, by omega, by omega, ⟨by rw [List.length_append, HH.out.2.2.2.2.1]; rfl, by rw [HBF.out, List.append_assoc]; rfl, HH.out.2.2.1.same rfl⟩, below_drewN (HH.out.2.2.2.1.setCell (p := ⟨w.heap.size + 3, k, none⟩) (Nat.le_refl _) _) _⟩, by simp [intOf]; omega⟩
            · by_cases hhi : s.hi < y.1
              · rw [begs_no s _ (by omega) (by rw [← hO2]; exact hgt) (by rw [HMX.out]; exact hhi), HDR.out.2] at hbf
                have HBF := Lib.hid hbf; clear hbf hgt hO2
                go_wp2_with fail
                go_ret
                refine ⟨w.heap.size + 3, rfl, by omega, ?_, hbwx⟩
                rw [HBF.out, show 1 - k + 1 = 2 - k by omega]
                exact HH.out.1
              · rw [begs_yes s _ (by omega) (by rw [← hO2]; exact hgt) (by rw [HMX.out]; exact hhi), HMX.out] at hbf
                have HBF := Lib.hid hbf; clear hbf hgt hO2
                have q0 : (wc.setCell ⟨w.heap.size + 3, k, none⟩ (.int .i64 y.1)).cell? ⟨wr.heap.size, 0, none⟩ = some (.int .i64 s.place) := by rw [World.cell?_setCell_other _ _ _ _ (fun h => by injection h with h1 h2 h3; omega)]; exact r0
                have q3 : (wc.setCell ⟨w.heap.size + 3, k, none⟩ (.int .i64 y.1)).cell? ⟨wr.heap.size, 3, none⟩ = some (.int .i64 s.sv) := by rw [World.cell?_setCell_other _ _ _ _ (fun h => by injection h with h1 h2 h3; omega)]; exact r3
                go_wp2_with fail
                go_quiet (fail)
                go_wp2_with fail
                exact ⟨⟨k + 1, s.place, y.1 + s.sv, done ++ [y.1], by omega, by go_num, rfl, rfl, hp0, hp1, by omega, by omega, ⟨by rw [List.length_append, HH.out.2.2.2.2.1]; rfl, by rw [HBF.out, List.append_assoc]; rfl, HH.out.2.2.1.same rfl⟩, below_drewN (HH.out.2.2.2.1.setCell (p := ⟨w.heap.size + 3, k, none⟩) (Nat.le_refl _) _) _⟩, by simp [intOf]; omega⟩
    · go_wp2_with fail
      go_ret
      obtain rfl : k = 2 := by omega
      refine ⟨w.heap.size + 3, rfl, by omega, ?_, hbw⟩
      rw [hD.out.2.1, List.drop_eq_nil_of_le (by omega)]
      exact hD.out.2.2
end Go.Proofs.Ytdmmjlhcjmdajaa
