/-
  The contracts on stops and rounds: isStop, isRound, CheckRound.
  Its conditions stand in each theorem.
-/
import Derived.Test.YtdmmjlhcjmdajaaWm
import Derived.Deep.RegionWith
import Derived.Deep.RegionHeld3
namespace Go.Proofs.Ytdmmjlhcjmdajaa
open Go.RowKit Go.Shelf Go.Maps
set_option linter.unusedVariables false

/-- a stop -/
structure Stp where
  place : Int
  lo : Int
  hi : Int
  sv : Int
instance : Inhabited Stp := ⟨⟨0, 0, 0, 0⟩⟩
def stp (l : List Stp) (i : Int) : Stp := l.getD i.toNat default
structure Stp.ok (n : Int) (s : Stp) : Prop where
  p0 : 0 ≤ s.place
  p1 : s.place < n
  a0 : 0 ≤ s.lo
  a1 : s.lo ≤ s.hi
  a2 : s.hi ≤ 1439
  s0 : 0 ≤ s.sv
  s1 : s.sv ≤ 120
abbrev sval (s : Stp) : Value := .agg #[.int .i64 s.place, .int .i64 s.lo, .int .i64 s.hi, .int .i64 s.sv]
structure S4 (W : World) (b o : Nat) (s : Stp) : Prop where
  c0 : W.cell? ⟨b, o, none⟩ = some (.int .i64 s.place)
  c1 : W.cell? ⟨b, o + 1, none⟩ = some (.int .i64 s.lo)
  c2 : W.cell? ⟨b, o + 2, none⟩ = some (.int .i64 s.hi)
  c3 : W.cell? ⟨b, o + 3, none⟩ = some (.int .i64 s.sv)
theorem S4.below {n0 b o : Nat} {A B : World} {s : Stp} (h : S4 A b o s) (hb : Below n0 A B) (hn : b < n0) : S4 B b o s :=
  ⟨(hb.cell (p := ⟨b, _, none⟩) hn).trans h.c0, (hb.cell (p := ⟨b, _, none⟩) hn).trans h.c1, (hb.cell (p := ⟨b, _, none⟩) hn).trans h.c2, (hb.cell (p := ⟨b, _, none⟩) hn).trans h.c3⟩
def Sts (n0 : Nat) (W : World) (sa : Option Addr) (l : List Stp) : Prop :=
  l = [] ∨ ∃ sb so, sa = some ⟨sb, so, none⟩ ∧ sb < n0 ∧ ∀ j : Nat, j < l.length → S4 W sb (so + j * 4) (stp l j)
theorem Sts.below {n0 : Nat} {A B : World} {sa l} (h : Sts n0 A sa l) (hb : Below n0 A B) : Sts n0 B sa l := by
  rcases h with h | ⟨sb, so, rfl, hn, h⟩
  · exact .inl h
  · exact .inr ⟨sb, so, rfl, hn, fun j hj => (h j hj).below hb hn⟩
theorem Sts.mono {n0 n1 : Nat} {A : World} {sa l} (h : Sts n0 A sa l) (hn : n0 ≤ n1) : Sts n1 A sa l := by
  rcases h with h | ⟨sb, so, rfl, hb, h⟩
  · exact .inl h
  · exact .inr ⟨sb, so, rfl, by omega, h⟩
theorem Sts.at {n0 : Nat} {W : World} {sa l} (h : Sts n0 W sa l) {k : Nat} (hk : k < l.length) : ∃ sb so, sa = some ⟨sb, so, none⟩ ∧ sb < n0 ∧ S4 W sb (so + k * 4) (stp l k) := by
  rcases h with h | ⟨sb, so, rfl, hb, h⟩
  · subst h; simp at hk
  · exact ⟨sb, so, rfl, hb, h k hk⟩

theorem isStop_yes (n p a b s : Int) (w : World) (hn : n ≤ 12) (h1 : 0 ≤ p) (h2 : p < n) (h3 : 0 ≤ a) (h4 : a ≤ b) (h5 : b ≤ 1439) (h6 : 0 ≤ s) (h7 : s ≤ 120) :
   Calls Try.prog 55 #[.agg #[.int .i64 p, .int .i64 a, .int .i64 b, .int .i64 s]] w fun e w' => e = .returned (.bool true) ∧ Below w.heap.size w w' := by
  go_enter Try.func55, Try.ntmps55
  go_wp2_with (first
   | (go_at_call 25; refine (within_yes _ _ _ _ (by omega) (by omega)).mono ?_; rintro e w' ⟨rfl, rfl⟩)
   | (go_at_call 64; refine (isSpan_yes _ _ _ _ _ (by omega) (by omega) (by omega)).mono ?_; rintro e w' ⟨rfl, rfl⟩))
  go_ret
  exact ⟨rfl, ((Below.refl _ w).alloc (Nat.le_refl _) _).alloc (by simp) _⟩

theorem bad_no (n p a b s : Int) (w : World) (q : Nat) (hpl : q < w.heap.size) (hp : w.cell? ⟨q, 0, none⟩ = some (.int .i64 n)) (hn : n ≤ 12) (h1 : 0 ≤ p) (h2 : p < n) (h3 : 0 ≤ a) (h4 : a ≤ b) (h5 : b ≤ 1439) (h6 : 0 ≤ s) (h7 : s ≤ 120) :
   Calls Try.prog 54 #[.agg #[.int .i64 p, .int .i64 a, .int .i64 b, .int .i64 s], .pointer (some ⟨q, 0, none⟩)] w fun e w' => e = .returned (.bool false) ∧ Below w.heap.size w w' := by
  go_enter Try.func54, Try.ntmps54
  go_wp2_with fail
  refine (isStop_yes n _ _ _ _ _ hn h1 h2 h3 h4 h5 h6 h7).mono ?_
  rintro e w' ⟨rfl, hb⟩
  obtain ⟨hc, hf⟩ := bcell hb
  have c1 : w'.cell? ⟨q, 0, none⟩ = some (.int .i64 n) := (hc q 0 (by simp; omega)).trans (by rw [World.cell?_alloc_past _ _ _ hpl]; exact hp)
  have c2 : w'.cell? ⟨w.heap.size, 0, none⟩ = some (.int .i64 p) := (hc w.heap.size 0 (by simp)).trans (by simp)
  clear hc hf
  go_wp2_with fail
  go_ret
  exact ⟨by simp; omega, ((Below.refl _ w).alloc (Nat.le_refl _) _).trans (hb.mono (by simp))⟩

set_option maxHeartbeats 400000 in
theorem index65 (sa : Option Addr) (cap : Nat) (l : List Stp) (hlen : l.length ≤ 40) (n0 : Nat) (w : World) (hw : Sts n0 w sa l) (g : Nat) (lb : Array Value)
   (eg : ∀ args w, (callFunc g args).run Try.prog w = .ok (.enter g args) w)
   (hG : ∀ (j : Nat), j < l.length → ∀ W', Below n0 w W' → Calls Try.prog g (#[sval (stp l j)] ++ lb) W' fun e w' => e = .returned (.bool false) ∧ Below n0 W' w') : 
   Calls Try.prog 65 #[.slice sa l.length cap, .func (.func g) #[] lb] w fun e w' => e = .returned (.int .i64 (-1)) ∧ Below n0 w w' := by
  obtain ⟨len, hL⟩ : ∃ len, len = l.length := ⟨_, rfl⟩
  rw [← hL] at hlen ⊢
  have HG := Lib.hid hG; clear hG
  have HL := Lib.hid hL; clear hL
  go_enter Try.func65, Try.ntmps65
  go_wp2_with fail
  go_loopw [5, 8] (fun _ i wr => ∃ k : Nat, k ≤ len ∧ i = .int .i64 k ∧ Below n0 w wr) (fun _ i _ => len - (intOf i).toNat)
  case atStart => exact ⟨0, Nat.zero_le _, rfl, Below.refl _ _⟩
  case round =>
    obtain ⟨k, hk, rfl, hb⟩ := hrel
    by_cases hlt : k < len
    · obtain ⟨sb, so, rfl, hsb, h7⟩ := (hw.below hb).at (k := k) (by rw [← HL.out]; exact hlt)
      have c0 := h7.c0; have c1 := h7.c1; have c2 := h7.c2; have c3 := h7.c3
      clear h7
      go_wp2_with fail
      refine (HG.out k (by rw [← HL.out]; exact hlt) _ hb).mono ?_
      rintro e w2 ⟨rfl, hb2⟩
      go_wp2_with fail
      go_roundw
      case rel => exact ⟨k + 1, by omega, by go_num, hb.trans hb2⟩
      case measure => simp [intOf]; omega
    · go_wp2_with fail
      go_ret
      exact ⟨rfl, hb⟩

theorem contains56 (sa : Option Addr) (cap : Nat) (l : List Stp) (hlen : l.length ≤ 40) (n0 : Nat) (w : World) (hw : Sts n0 w sa l) (g : Nat) (lb : Array Value)
   (eg : ∀ args w, (callFunc g args).run Try.prog w = .ok (.enter g args) w)
   (hG : ∀ (j : Nat), j < l.length → ∀ W', Below n0 w W' → Calls Try.prog g (#[sval (stp l j)] ++ lb) W' fun e w' => e = .returned (.bool false) ∧ Below n0 W' w') : 
   Calls Try.prog 56 #[.slice sa l.length cap, .func (.func g) #[] lb] w fun e w' => e = .returned (.bool false) ∧ Below n0 w w' := by
  have HG := Lib.hid hG; clear hG
  have EG := Lib.hid eg; clear eg
  go_enter Try.func56, Try.ntmps56
  go_wp2_with fail
  refine (index65 sa cap l hlen n0 w hw g lb EG.out HG.out).mono ?_
  rintro e w2 ⟨rfl, hb2⟩
  go_wp2_with fail
  go_ret
  exact ⟨rfl, hb2⟩

/-- a round in memory -/
structure IsRound (n0 : Nat) (W : World) (ra : Option Addr) (l : List Stp) (n : Nat) (p a : Int) : Prop where
  len : l.length ≤ 16
  p0 : 0 ≤ p
  p1 : p < n
  a0 : 0 ≤ a
  a1 : a ≤ 1439
  ok : ∀ j : Nat, j < l.length → (stp l j).ok n
  me : Sts n0 W ra l
theorem IsRound.below {n0 : Nat} {A B : World} {ra l n p a} (h : IsRound n0 A ra l n p a) (hb : Below n0 A B) : IsRound n0 B ra l n p a := ⟨h.len, h.p0, h.p1, h.a0, h.a1, h.ok, h.me.below hb⟩
theorem IsRound.mono {n0 n1 : Nat} {A : World} {ra l n p a} (h : IsRound n0 A ra l n p a) (hb : n0 ≤ n1) : IsRound n1 A ra l n p a := ⟨h.len, h.p0, h.p1, h.a0, h.a1, h.ok, h.me.mono hb⟩
abbrev rv (p a : Int) (ra : Option Addr) (len cap : Nat) : Value := .agg #[.int .i64 p, .int .i64 a, .slice ra len cap]

theorem isRound_yes (n : Nat) (sa : Option Addr) (len cap : Nat) (p a : Int) (ra : Option Addr) (rcap : Nat) (l : List Stp) (w : World) (hn : n ≤ 12) (h : IsRound w.heap.size w ra l n p a) :
   Calls Try.prog 39 #[cv n sa len cap, rv p a ra l.length rcap] w fun e w' => e = .returned (.bool true) ∧ Below w.heap.size w w' := by
  have h1 := h.p0; have h2 := h.p1; have h3 := h.a0; have h4 := h.a1; have hl := h.len
  have hb0 : Below w.heap.size w ((w.alloc (Obj.cells #[Value.int IntKind.i64 ↑n, Value.slice sa len cap] 31)).alloc (Obj.cells #[Value.int .i64 p, .int .i64 a, .slice ra l.length rcap] 34)) := ((Below.refl _ _).alloc (Nat.le_refl _) _).alloc (by simp) _
  go_enter Try.func39, Try.ntmps39
  go_wp2_with (first
   | (go_at_call 25; refine (within_yes _ _ _ _ (by omega) (by omega)).mono ?_; rintro e w' ⟨rfl, rfl⟩)
   | (go_at_call 44; refine (isMinute_yes _ _ (by omega) (by omega)).mono ?_; rintro e w' ⟨rfl, rfl⟩))
  refine (contains56 ra rcap l (by omega) (w.heap.size + 1) _ ((h.me.below hb0).mono (by omega)) 54 #[.pointer (some ⟨w.heap.size, 0, none⟩)] (enters_of Try.func54 (by kernel_rfl) rfl) (fun j hj W' hW => ?_)).mono ?_
  · have ok := h.ok j hj
    have hs := hW.size
    simp at hs
    refine (bad_no n _ _ _ _ W' w.heap.size (by omega) (by rw [hW.cell (p := ⟨w.heap.size, 0, none⟩) (by simp)]; simp) (by omega) ok.p0 ok.p1 ok.a0 ok.a1 ok.a2 ok.s0 ok.s1).mono ?_
    rintro e w2 ⟨rfl, hb2⟩
    exact ⟨rfl, hb2.mono (by omega)⟩
  · rintro e w2 ⟨rfl, hb2⟩
    go_wp2_with fail
    go_ret
    exact ⟨rfl, hb0.trans (hb2.mono (by omega))⟩

theorem checkRound_ok (n : Nat) (sa : Option Addr) (cap : Nat) (ws : List Rd.Wy) (p a : Int) (ra : Option Addr) (rcap : Nat) (l : List Stp) (w : World) (ch : IsChart w.heap.size w sa ws n) (h : IsRound w.heap.size w ra l n p a) :
   Calls Try.prog 32 #[cv n sa ws.length cap, rv p a ra l.length rcap] w fun e w' => e = .returned (.int .i64 0) ∧ Below w.heap.size w w' := by
  have hb0 : Below w.heap.size w ((w.alloc (Obj.cells #[Value.int IntKind.i64 ↑n, Value.slice sa ws.length cap] 31)).alloc (Obj.cells #[Value.int .i64 p, .int .i64 a, .slice ra l.length rcap] 34)) := ((Below.refl _ _).alloc (Nat.le_refl _) _).alloc (by simp) _
  go_enter Try.func32, Try.ntmps32
  go_wp2_with fail
  refine (check_ok n sa cap ws _ ((ch.below hb0).mono (by simp; omega))).mono ?_
  rintro e w1 ⟨rfl, hb1⟩
  have hb2 : Below w.heap.size w w1 := hb0.trans (hb1.mono (by simp; omega))
  have hs1 := hb1.size
  simp only [World.size_alloc] at hs1
  have c0 : w1.cell? ⟨w.heap.size, 0, none⟩ = some (.int .i64 n) := by rw [hb1.cell (p := ⟨w.heap.size, 0, none⟩) (by simp; omega)]; go_simp
  have c1 : w1.cell? ⟨w.heap.size, 1, none⟩ = some (.slice sa ws.length cap) := by rw [hb1.cell (p := ⟨w.heap.size, 1, none⟩) (by simp; omega)]; go_simp
  have d0 : w1.cell? ⟨w.heap.size + 1, 0, none⟩ = some (.int .i64 p) := by rw [hb1.cell (p := ⟨w.heap.size + 1, 0, none⟩) (by simp)]; go_simp
  have d1 : w1.cell? ⟨w.heap.size + 1, 1, none⟩ = some (.int .i64 a) := by rw [hb1.cell (p := ⟨w.heap.size + 1, 1, none⟩) (by simp)]; go_simp
  have d2 : w1.cell? ⟨w.heap.size + 1, 2, none⟩ = some (.slice ra l.length rcap) := by rw [hb1.cell (p := ⟨w.heap.size + 1, 2, none⟩) (by simp)]; go_simp
  have h1 : IsRound w1.heap.size w1 ra l n p a := (h.below hb2).mono (by omega)
  clear hb1 hb0
  go_wp2_with fail
  refine (isRound_yes n sa ws.length cap p a ra rcap l _ ch.ch.n2 h1).mono ?_
  rintro e w2 ⟨rfl, hb3⟩
  go_wp2_with fail
  go_ret
  exact ⟨rfl, hb2.trans (hb3.mono (by omega))⟩
end Go.Proofs.Ytdmmjlhcjmdajaa
