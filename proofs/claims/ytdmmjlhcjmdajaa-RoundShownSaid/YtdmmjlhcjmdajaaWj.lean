/-
  The contract of CheckPath.
  Its conditions stand in each theorem.
-/
import Derived.Test.YtdmmjlhcjmdajaaWi
import Derived.BigQuiet
import Derived.Deep.QuietTactic
namespace Go.Proofs.Ytdmmjlhcjmdajaa
open Go.RowKit Go.Shelf Go.Maps
set_option linter.unusedVariables false

theorem within_no (n lo hi : Int) (w : World) (h : ¬ (lo ≤ n ∧ n ≤ hi)) : Calls Try.prog 25 #[.int .i64 n, .int .i64 lo, .int .i64 hi] w fun e w' => e = .returned (.bool false) ∧ w = w' := by
  by_cases h1 : lo ≤ n
  · have h2 : ¬ n ≤ hi := fun h2 => h ⟨h1, h2⟩
    clear h
    go_enter Try.func25, Try.ntmps25
    go_wp2
    go_ret
    exact ⟨rfl, rfl⟩
  · clear h
    go_enter Try.func25, Try.ntmps25
    go_wp2
    go_ret
    exact ⟨rfl, rfl⟩

/-- what CheckPath answers -/
def cpCode (ws : List Rd.Wy) (path : List Int) (p a to by_ : Int) : Int :=
  match Rd.goPath ws path p a with
  | none => 34
  | some x => if x.1 = to then (if by_ < x.2 then 36 else 0) else 34

def ErrPost (c : Int) (n0 : Nat) (w : World) (e : Ending) (w' : World) : Prop := e = .returned (.int .i64 c) ∧ Below n0 w w'

theorem ints_two {n0 b : Nat} {W : World} {p q : Int} (h : W.cell? ⟨b, 0, none⟩ = some (.int .i64 p)) (h1 : W.cell? ⟨b, 1, none⟩ = some (.int .i64 q)) (hn : b < n0) : Ints n0 W (some ⟨b, 0, none⟩) [p, q] :=
  .inr ⟨b, 0, rfl, hn, fun j hj => by
    have : j = 0 ∨ j = 1 := by simp at hj; omega
    rcases this with rfl | rfl
    · exact h
    · exact h1⟩

set_option maxRecDepth 100000 in
set_option maxHeartbeats 4000000 in
theorem checkPath_any (n : Nat) (sa : Option Addr) (cap : Nat) (ws : List Rd.Wy) (p to a by_ : Int) (pa : Option Addr) (pcap : Nat) (path : List Int) (w : World) (ch : IsChart w.heap.size w sa ws n) (hi : Ints w.heap.size w pa path) (hpl : path.length ≤ 100000)
   (hp0 : 0 ≤ p) (hp1 : p < n) (ht0 : 0 ≤ to) (ht1 : to < n) (ha0 : 0 ≤ a) (ha1 : a ≤ 1439) :
   Calls Try.prog 10 #[cv n sa ws.length cap, .agg #[.int .i64 p, .int .i64 to, .int .i64 a], .slice pa path.length pcap, .int .i64 by_] w (ErrPost (cpCode ws path p a to by_) w.heap.size w) := by
  have hb0 : Below w.heap.size w (((w.alloc (Obj.cells #[Value.int IntKind.i64 ↑n, Value.slice sa ws.length cap] 31)).alloc (Obj.cells #[Value.int .i64 p, .int .i64 to, .int .i64 a] 43)).alloc (Obj.cells #[Value.int .i64 p, .int .i64 to] 3)) := (((Below.refl _ _).alloc (Nat.le_refl _) _).alloc (by simp) _).alloc (by simp; omega) _
  have hp' : ∀ j : Nat, j < [p, to].length → 0 ≤ Rd.mrk [p, to] j ∧ Rd.mrk [p, to] j < n := fun j hj => by
    have : j = 0 ∨ j = 1 := by simp at hj; omega
    rcases this with rfl | rfl
    · exact ⟨hp0, hp1⟩
    · exact ⟨ht0, ht1⟩
  have HP := Lib.hid hp'; clear hp'
  obtain ⟨len, hL⟩ : ∃ len, len = ws.length := ⟨_, rfl⟩
  have hlen := ch.ch.len
  rw [← hL] at hlen
  have HL := Lib.hid hL
  obtain ⟨pl, hPL⟩ : ∃ pl, pl = path.length := ⟨_, rfl⟩
  rw [← hPL] at hpl ⊢
  have HPL := Lib.hid hPL; clear hPL
  go_enter Try.func10, Try.ntmps10
  go_wp2_with fail
  refine (placeOf_ok n sa cap ws a (some ⟨w.heap.size + 1 + 1, 0, none⟩) 2 [p, to] _ ((ch.below hb0).mono (by simp; omega)) ha0 ha1 (by simp) (ints_two (by rw [World.cell?_alloc_at _ _ _ _ (by simp)]; rfl) (by rw [World.cell?_alloc_at _ _ _ _ (by simp)]; rfl) (by simp)) HP.out).mono ?_
  rintro e w0 ⟨rfl, hb1⟩
  have hb2 : Below w.heap.size w w0 := hb0.trans (hb1.mono (by simp; omega))
  have hs1 := hb1.size
  simp only [World.size_alloc] at hs1
  have c0 : w0.cell? ⟨w.heap.size, 0, none⟩ = some (.int .i64 n) := by rw [hb1.cell (p := ⟨w.heap.size, 0, none⟩) (by simp; omega)]; rw [World.cell?_alloc_past _ _ _ (by simp <;> omega), World.cell?_alloc_past _ _ _ (by simp <;> omega)]; simp
  have c1 : w0.cell? ⟨w.heap.size, 1, none⟩ = some (.slice sa ws.length cap) := by rw [hb1.cell (p := ⟨w.heap.size, 1, none⟩) (by simp; omega)]; rw [World.cell?_alloc_past _ _ _ (by simp <;> omega), World.cell?_alloc_past _ _ _ (by simp <;> omega)]; simp
  have d0 : w0.cell? ⟨w.heap.size + 1, 0, none⟩ = some (.int .i64 p) := by rw [hb1.cell (p := ⟨w.heap.size + 1, 0, none⟩) (by simp)]; rw [World.cell?_alloc_past _ _ _ (by simp <;> omega)]; rw [World.cell?_alloc_at _ _ _ _ (by simp)]; rfl
  have d1 : w0.cell? ⟨w.heap.size + 1, 1, none⟩ = some (.int .i64 to) := by rw [hb1.cell (p := ⟨w.heap.size + 1, 1, none⟩) (by simp)]; rw [World.cell?_alloc_past _ _ _ (by simp <;> omega)]; rw [World.cell?_alloc_at _ _ _ _ (by simp)]; rfl
  have d2 : w0.cell? ⟨w.heap.size + 1, 2, none⟩ = some (.int .i64 a) := by rw [hb1.cell (p := ⟨w.heap.size + 1, 2, none⟩) (by simp)]; rw [World.cell?_alloc_past _ _ _ (by simp <;> omega)]; rw [World.cell?_alloc_at _ _ _ _ (by simp)]; rfl
  rw [← hL] at c1
  clear hb1 hb0 hL
  have hlt0 : w.heap.size < w0.heap.size := by omega
  have hlt1 : w.heap.size + 1 < w0.heap.size := by omega
  go_wp2_with fail
  go_quiet (fail)
  go_wp2_with fail
  go_loopw [34, 10, 11] (fun i pl2 at2 wr => ∃ (k : Nat) (p2 a2 : Int), k ≤ pl ∧ i = .int .i64 k ∧ pl2 = .int .i64 p2 ∧ at2 = .int .i64 a2 ∧ 0 ≤ a2 ∧ a2 ≤ 1439 ∧ Below w0.heap.size w0 wr ∧ Hid (Rd.goPath ws path p a = Rd.goPath ws (path.drop k) p2 a2)) (fun i _ _ _ => pl - (intOf i).toNat)
  case atStart => exact ⟨0, p, a, Nat.zero_le _, rfl, rfl, rfl, ha0, ha1, below_drewN (Below.refl _ _) _, by rw [List.drop_zero]; rfl⟩
  case round =>
    obtain ⟨k, p2, a2, hk, rfl, rfl, rfl, ha20, ha21, hb, hgp⟩ := hrel
    have hsz := hb.size
    have x0 := (hb.cell (p := ⟨w.heap.size, 0, none⟩) hlt0).trans c0
    have x1 := (hb.cell (p := ⟨w.heap.size, 1, none⟩) hlt0).trans c1
    have y0 := (hb.cell (p := ⟨w.heap.size + 1, 1, none⟩) hlt1).trans d1
    have hbw : Below w.heap.size w wr := hb2.trans (hb.mono (by omega))
    clear c0 c1 d0 d1 d2
    by_cases hlt : k < pl
    · have hkp : k < path.length := by rw [← HPL.out]; exact hlt
      obtain ⟨pb, po, rfl, hpb, hpc⟩ := (hi.below hbw).at hkp
      have hdr : path.drop k = Rd.mrk path k :: path.drop (k + 1) := by
        rw [List.drop_eq_getElem_cons hkp]; simp [Rd.mrk, List.getD_eq_getElem?_getD, hkp]
      have hgp3 : Rd.goPath ws path p a = Rd.goPath ws (Rd.mrk path k :: path.drop (k + 1)) p2 a2 := by rw [← hdr]; exact hgp.out
      generalize hwy : Rd.mrk path k = wy at *
      have HGP := Lib.hid hgp3; clear hgp3 hdr hgp
      have HWY := Lib.hid hwy; clear hwy
      by_cases hin : 0 ≤ wy ∧ wy ≤ (len : Int) - 1
      · obtain ⟨q0, q1⟩ := hin
        obtain ⟨j, rfl⟩ := Int.eq_ofNat_of_zero_le q0
        have hjl : j < ws.length := by rw [← HL.out]; omega
        have ok := ch.ch.ways j (by omega) (by omega)
        obtain ⟨sb, so, rfl, hsb, h7⟩ := (ch.wy.below hbw).at hjl
        have e0 := h7.c0; have e1 := h7.c1; have e2 := h7.c2; have e3 := h7.c3; have e4 := h7.c4; have e5 := h7.c5; have e6 := h7.c6
        clear h7
        by_cases hfr : (Rd.way ws (j : Int)).frm = p2
        · have hfb : ((Rd.way ws (j : Int)).frm != p2) = false := by simpa using hfr
          have HFR := Lib.hid hfr; clear hfr
          have hlv := lvm_bd _ a2 n ok ha20 ha21
          have b1 := ok.a0; have b2 := ok.a1; have b3 := ok.a2
          go_wp2_with (go_at_call 25; refine (within_yes _ _ _ _ (by omega) (by omega)).mono ?_; rintro e w' ⟨rfl, rfl⟩)
          refine (leave_any (Rd.way ws (j : Int)) n a2 _ ok ha20 ha21).mono ?_
          rintro e w2 ⟨rfl, hbl⟩
          have hsw : sb < wr.heap.size := by have := hbw.size; omega
          have g1 := (hbl.cell (p := ⟨w.heap.size, 1, none⟩) (by show w.heap.size < _; omega)).trans x1
          have g0 := (hbl.cell (p := ⟨w.heap.size, 0, none⟩) (by show w.heap.size < _; omega)).trans x0
          have f1 := (hbl.cell (p := ⟨sb, _, none⟩) hsw).trans e1
          have f3 := (hbl.cell (p := ⟨sb, _, none⟩) hsw).trans e3
          have hbl2 : Below w0.heap.size w0 w2 := hb.trans (hbl.mono hsz)
          have hblw : Below w.heap.size w w2 := hbw.trans (hbl.mono (by omega))
          have hgo1 : ∀ h : Rd.lvm (Rd.way ws (j : Int)) a2 ≤ (Rd.way ws (j : Int)).ohi ∧ Rd.lvm (Rd.way ws (j : Int)) a2 + (Rd.way ws (j : Int)).thi ≤ 1439, Rd.goPath ws path p a = Rd.goPath ws (path.drop (k + 1)) (Rd.way ws (j : Int)).to (Rd.lvm (Rd.way ws (j : Int)) a2 + (Rd.way ws (j : Int)).thi) := by
            intro h; rw [HGP.out]; conv => lhs; unfold Rd.goPath
            rw [if_pos ⟨by omega, by omega, HFR.out, h⟩]
          have hgo2 : ∀ h : ¬ (Rd.lvm (Rd.way ws (j : Int)) a2 ≤ (Rd.way ws (j : Int)).ohi ∧ Rd.lvm (Rd.way ws (j : Int)) a2 + (Rd.way ws (j : Int)).thi ≤ 1439), cpCode ws path p a to by_ = 34 := by
            intro h; unfold cpCode; rw [HGP.out]; unfold Rd.goPath; rw [if_neg (fun h' => h h'.2.2.2)]
          have H1 := Lib.hid hgo1; have H2 := Lib.hid hgo2; clear hgo1 hgo2 hbl e0 e1 e2 e3 e4 e5 e6 x0 x1
          have B0 : 0 ≤ Rd.lvm (Rd.way ws (j : Int)) a2 := hlv.1
          have B1 : Rd.lvm (Rd.way ws (j : Int)) a2 ≤ 3000 := hlv.2
          clear hlv
          generalize Rd.lvm (Rd.way ws (j : Int)) a2 = lv at *
          go_wp2_with fail
          go_quiet (fail)
          by_cases h1 : lv ≤ (Rd.way ws (j : Int)).ohi
          · by_cases h2 : lv + (Rd.way ws (j : Int)).thi ≤ 1439
            · go_wp2_with fail
              go_roundw
              case rel => exact ⟨k + 1, _, _, by omega, by go_num, rfl, rfl, by omega, by omega, below_drewN hbl2 _, H1.out ⟨h1, h2⟩⟩
              case measure => simp [intOf]; omega
            · go_wp2_with fail
              go_ret
              exact ⟨by rw [H2.out (fun h => by omega)]; rfl, below_drewN hblw _⟩
          · go_wp2_with fail
            go_ret
            exact ⟨by rw [H2.out (fun h => by omega)]; rfl, below_drewN hblw _⟩
        · have hfb : ((Rd.way ws (j : Int)).frm != p2) = true := by simpa using hfr
          have hfin : cpCode ws path p a to by_ = 34 := by
            unfold cpCode; rw [HGP.out]; unfold Rd.goPath; rw [if_neg (fun h => hfr h.2.2.1)]
          have HF := Lib.hid hfin; clear hfin
          have HFR := Lib.hid hfr; clear hfr
          go_wp2_with (go_at_call 25; refine (within_yes _ _ _ _ (by omega) (by omega)).mono ?_; rintro e w' ⟨rfl, rfl⟩)
          go_ret
          exact ⟨by rw [HF.out]; rfl, hbw⟩
      · have hfin : cpCode ws path p a to by_ = 34 := by
          unfold cpCode; rw [HGP.out]; unfold Rd.goPath; rw [if_neg (fun h => hin ⟨h.1, by rw [HL.out]; omega⟩)]
        have HF := Lib.hid hfin; clear hfin
        have HIN := Lib.hid hin; clear hin
        go_wp2_with (go_at_call 25; refine (within_no _ _ _ _ HIN.out).mono ?_; rintro e w' ⟨rfl, rfl⟩)
        go_ret
        exact ⟨by rw [HF.out]; rfl, hbw⟩
    · obtain rfl : k = pl := by omega
      have hgp2 : Rd.goPath ws path p a = some (p2, a2) := by rw [hgp.out, List.drop_of_length_le (by rw [← HPL.out]; omega)]; rfl
      by_cases h1 : p2 = to
      · by_cases h2 : by_ < a2
        · have hfin : cpCode ws path p a to by_ = 36 := by unfold cpCode; rw [hgp2]; simp [h1, h2]
          have HF := Lib.hid hfin; clear hfin
          have hne : (p2 != to) = false := by simpa using h1
          have H1 := Lib.hid h1; have H2 := Lib.hid hgp2; clear h1 hgp2
          go_wp2_with fail
          go_ret
          exact ⟨by rw [HF.out]; rfl, hbw⟩
        · have hfin : cpCode ws path p a to by_ = 0 := by unfold cpCode; rw [hgp2]; simp [h1, h2]
          have HF := Lib.hid hfin; clear hfin
          have hne : (p2 != to) = false := by simpa using h1
          have H1 := Lib.hid h1; have H2 := Lib.hid hgp2; clear h1 hgp2
          go_wp2_with fail
          go_ret
          exact ⟨by rw [HF.out]; rfl, hbw⟩
      · have hfin : cpCode ws path p a to by_ = 34 := by unfold cpCode; rw [hgp2]; simp [h1]
        have HF := Lib.hid hfin; clear hfin
        have hne : (p2 != to) = true := by simpa using h1
        have H1 := Lib.hid h1; have H2 := Lib.hid hgp2; clear h1 hgp2
        go_wp2_with fail
        go_ret
        exact ⟨by rw [HF.out]; rfl, hbw⟩
end Go.Proofs.Ytdmmjlhcjmdajaa
