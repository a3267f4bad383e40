/-
  The contracts of within, isSpan and isWay, and how a chart lies in memory.
  Its conditions stand in each theorem.
-/
import Derived.Test.YtdmmjlhcjmdajaaProg
import Derived.WalkKit
import Derived.Lib.Hide
import Derived.Test.YtdmmjlhcjmdajaaRd
namespace Go.Proofs.Ytdmmjlhcjmdajaa
open Go.RowKit
set_option linter.unusedVariables false

theorem within_yes (n lo hi : Int) (w : World) (h1 : lo ≤ n) (h2 : n ≤ hi) : Calls Try.prog 25 #[.int .i64 n, .int .i64 lo, .int .i64 hi] w fun e w' => e = .returned (.bool true) ∧ w = w' := by
  go_enter Try.func25, Try.ntmps25
  go_wp2
  go_ret
  exact ⟨rfl, rfl⟩

theorem isSpan_yes (a b lo hi : Int) (w : World) (h1 : lo ≤ a) (h2 : a ≤ b) (h3 : b ≤ hi) : Calls Try.prog 64 #[.agg #[.int .i64 a, .int .i64 b], .int .i64 lo, .int .i64 hi] w fun e w' => e = .returned (.bool true) ∧ w' = w.alloc (.cells #[.int .i64 a, .int .i64 b] 49) := by
  go_enter Try.func64, Try.ntmps64
  go_wp2
  go_ret
  exact ⟨rfl, rfl⟩

theorem isWay_yes (n a b c d e f g : Int) (w : World) (hn : n ≤ 12) (h1 : 0 ≤ a) (h2 : a < n) (h3 : 0 ≤ b) (h4 : b < n) (h5 : (a != b) = true) (h6 : 1 ≤ c) (h7 : c ≤ d) (h8 : d ≤ 600) (h9 : 0 ≤ e) (h10 : e ≤ f) (h11 : f ≤ 1439) (h12 : 0 ≤ g) (h13 : g ≤ 600) :
   Calls Try.prog 67 #[.agg #[.int .i64 a, .int .i64 b, .int .i64 c, .int .i64 d, .int .i64 e, .int .i64 f, .int .i64 g]] w fun e w' => e = .returned (.bool true) ∧ Below w.heap.size w w' := by
  go_enter Try.func67, Try.ntmps67
  go_wp2_with (first
   | (go_at_call 25; refine (within_yes _ _ _ _ (by omega) (by omega)).mono ?_; rintro e w' ⟨rfl, rfl⟩)
   | (go_at_call 64; refine (isSpan_yes _ _ _ _ _ (by omega) (by omega) (by omega)).mono ?_; rintro e w' ⟨rfl, rfl⟩))
  go_ret
  exact ⟨rfl, (((Below.refl _ w).alloc (Nat.le_refl _) _).alloc (by simp) _).alloc (by simp; omega) _⟩

theorem bcell {W w1 : World} {B : Nat} (hb : Below B W w1) : (∀ b o, b < B → w1.cell? ⟨b, o, none⟩ = W.cell? ⟨b, o, none⟩) ∧ (∀ b o, b < B → w1.frozen? ⟨b, o, none⟩ = W.frozen? ⟨b, o, none⟩) :=
  ⟨fun b o h => hb.cell (p := ⟨b, o, none⟩) h, fun b o h => hb.frozen (p := ⟨b, o, none⟩) h⟩

theorem joins_yes (n a b c d e f g : Int) (sa : Option Addr) (len cap : Nat) (w : World) (hn : n ≤ 12) (h1 : 0 ≤ a) (h2 : a < n) (h3 : 0 ≤ b) (h4 : b < n) (h5 : (a != b) = true) (h6 : 1 ≤ c) (h7 : c ≤ d) (h8 : d ≤ 600) (h9 : 0 ≤ e) (h10 : e ≤ f) (h11 : f ≤ 1439) (h12 : 0 ≤ g) (h13 : g ≤ 600) :
   Calls Try.prog 61 #[.agg #[.int .i64 n, .slice sa len cap], .agg #[.int .i64 a, .int .i64 b, .int .i64 c, .int .i64 d, .int .i64 e, .int .i64 f, .int .i64 g]] w fun e w' => e = .returned (.bool true) ∧ Below w.heap.size w w' := by
  go_enter Try.func61, Try.ntmps61
  go_wp2_with fail
  refine (isWay_yes n _ _ _ _ _ _ _ _ hn h1 h2 h3 h4 h5 h6 h7 h8 h9 h10 h11 h12 h13).mono ?_
  rintro e w' ⟨rfl, hb⟩
  obtain ⟨hc, hf⟩ := bcell hb
  go_wp2_with fail
  go_ret
  refine ⟨rfl, (((Below.refl _ w).alloc (Nat.le_refl _) _).alloc (by simp) _).trans (hb.mono (by simp; omega))⟩

theorem check1_no (n a b c d e f g : Int) (sa : Option Addr) (len cap : Nat) (w : World) (p : Nat) (hpl : p < w.heap.size) (hp : w.cell? ⟨p, 0, none⟩ = some (.int .i64 n)) (hp1 : w.cell? ⟨p, 1, none⟩ = some (.slice sa len cap)) (hn : n ≤ 12) (h1 : 0 ≤ a) (h2 : a < n) (h3 : 0 ≤ b) (h4 : b < n) (h5 : (a != b) = true) (h6 : 1 ≤ c) (h7 : c ≤ d) (h8 : d ≤ 600) (h9 : 0 ≤ e) (h10 : e ≤ f) (h11 : f ≤ 1439) (h12 : 0 ≤ g) (h13 : g ≤ 600) :
   Calls Try.prog 60 #[.agg #[.int .i64 a, .int .i64 b, .int .i64 c, .int .i64 d, .int .i64 e, .int .i64 f, .int .i64 g], .pointer (some ⟨p, 0, none⟩)] w fun e w' => e = .returned (.bool false) ∧ Below w.heap.size w w' := by
  go_enter Try.func60, Try.ntmps60
  go_wp2_with fail
  refine (joins_yes n _ _ _ _ _ _ _ sa len cap _ hn h1 h2 h3 h4 h5 h6 h7 h8 h9 h10 h11 h12 h13).mono ?_
  rintro e w' ⟨rfl, hb⟩
  go_wp2_with fail
  go_ret
  exact ⟨rfl, ((Below.refl _ w).alloc (Nat.le_refl _) _).trans (hb.mono (by simp))⟩


abbrev wv (w : Rd.Wy) : Value := .agg #[.int .i64 w.frm, .int .i64 w.to, .int .i64 w.tlo, .int .i64 w.thi, .int .i64 w.olo, .int .i64 w.ohi, .int .i64 w.every]

/-- seven cells that are a way -/
structure W7 (W : World) (b o : Nat) (w : Rd.Wy) : Prop where
  c0 : W.cell? ⟨b, o, none⟩ = some (.int .i64 w.frm)
  c1 : W.cell? ⟨b, o + 1, none⟩ = some (.int .i64 w.to)
  c2 : W.cell? ⟨b, o + 2, none⟩ = some (.int .i64 w.tlo)
  c3 : W.cell? ⟨b, o + 3, none⟩ = some (.int .i64 w.thi)
  c4 : W.cell? ⟨b, o + 4, none⟩ = some (.int .i64 w.olo)
  c5 : W.cell? ⟨b, o + 5, none⟩ = some (.int .i64 w.ohi)
  c6 : W.cell? ⟨b, o + 6, none⟩ = some (.int .i64 w.every)

/-- ways in memory, below block n0 -/
def Wys (n0 : Nat) (W : World) (sa : Option Addr) (ws : List Rd.Wy) : Prop :=
  ws = [] ∨ ∃ sb so, sa = some ⟨sb, so, none⟩ ∧ sb < n0 ∧ ∀ j : Nat, j < ws.length → W7 W sb (so + j * 7) (Rd.way ws j)

theorem W7.below {n0 b o : Nat} {A B : World} {w : Rd.Wy} (h : W7 A b o w) (hb : Below n0 A B) (hn : b < n0) : W7 B b o w :=
  ⟨(hb.cell (p := ⟨b, _, none⟩) hn).trans h.c0, (hb.cell (p := ⟨b, _, none⟩) hn).trans h.c1, (hb.cell (p := ⟨b, _, none⟩) hn).trans h.c2, (hb.cell (p := ⟨b, _, none⟩) hn).trans h.c3,
   (hb.cell (p := ⟨b, _, none⟩) hn).trans h.c4, (hb.cell (p := ⟨b, _, none⟩) hn).trans h.c5, (hb.cell (p := ⟨b, _, none⟩) hn).trans h.c6⟩
theorem Wys.below {n0 : Nat} {A B : World} {sa ws} (h : Wys n0 A sa ws) (hb : Below n0 A B) : Wys n0 B sa ws := by
  rcases h with h | ⟨sb, so, rfl, hn, h⟩
  · exact .inl h
  · exact .inr ⟨sb, so, rfl, hn, fun j hj => (h j hj).below hb hn⟩
theorem Wys.mono {n0 n1 : Nat} {A : World} {sa ws} (h : Wys n0 A sa ws) (hn : n0 ≤ n1) : Wys n1 A sa ws := by
  rcases h with h | ⟨sb, so, rfl, hb, h⟩
  · exact .inl h
  · exact .inr ⟨sb, so, rfl, by omega, h⟩
theorem Wys.at {n0 : Nat} {W : World} {sa ws} (h : Wys n0 W sa ws) {k : Nat} (hk : k < ws.length) : ∃ sb so, sa = some ⟨sb, so, none⟩ ∧ sb < n0 ∧ W7 W sb (so + k * 7) (Rd.way ws k) := by
  rcases h with h | ⟨sb, so, rfl, hb, h⟩
  · subst h; simp at hk
  · exact ⟨sb, so, rfl, hb, h k hk⟩

set_option maxHeartbeats 400000 in
theorem index66 (sa : Option Addr) (cap : Nat) (ws : List Rd.Wy) (hlen : ws.length ≤ 40) (n0 : Nat) (w : World) (hw : Wys n0 w sa ws) (g : Nat) (lb : Array Value)
   (eg : ∀ args w, (callFunc g args).run Try.prog w = .ok (.enter g args) w)
   (hG : ∀ (j : Nat), j < ws.length → ∀ W', Below n0 w W' → Calls Try.prog g (#[wv (Rd.way ws j)] ++ lb) W' fun e w' => e = .returned (.bool false) ∧ Below n0 W' w') : 
   Calls Try.prog 66 #[.slice sa ws.length cap, .func (.func g) #[] lb] w fun e w' => e = .returned (.int .i64 (-1)) ∧ Below n0 w w' := by
  obtain ⟨len, hL⟩ : ∃ len, len = ws.length := ⟨_, rfl⟩
  rw [← hL] at hlen ⊢
  have HG := Lib.hid hG; clear hG
  have HL := Lib.hid hL; clear hL
  go_enter Try.func66, Try.ntmps66
  go_wp2_with fail
  go_loopw [5, 8] (fun _ i wr => ∃ k : Nat, k ≤ len ∧ i = .int .i64 k ∧ Below n0 w wr) (fun _ i _ => len - (intOf i).toNat)
  case atStart => exact ⟨0, Nat.zero_le _, rfl, Below.refl _ _⟩
  case round =>
    obtain ⟨k, hk, rfl, hb⟩ := hrel
    by_cases hlt : k < len
    · obtain ⟨sb, so, rfl, hsb, h7⟩ := (hw.below hb).at (k := k) (by rw [← HL.out]; exact hlt)
      have c0 := h7.c0; have c1 := h7.c1; have c2 := h7.c2; have c3 := h7.c3; have c4 := h7.c4; have c5 := h7.c5; have c6 := h7.c6
      clear h7
      go_wp2_with fail
      refine (HG.out k (by rw [← HL.out]; exact hlt) _ hb).mono ?_
      rintro e w2 ⟨rfl, hb2⟩
      go_wp2_with fail
      go_roundw
      case rel => exact ⟨k + 1, by omega, by go_num, hb.trans hb2⟩
      case measure => simp [intOf]; omega
    · go_wp2_with fail
      go_ret
      exact ⟨rfl, hb⟩

theorem contains59 (sa : Option Addr) (cap : Nat) (ws : List Rd.Wy) (hlen : ws.length ≤ 40) (n0 : Nat) (w : World) (hw : Wys n0 w sa ws) (g : Nat) (lb : Array Value)
   (eg : ∀ args w, (callFunc g args).run Try.prog w = .ok (.enter g args) w)
   (hG : ∀ (j : Nat), j < ws.length → ∀ W', Below n0 w W' → Calls Try.prog g (#[wv (Rd.way ws j)] ++ lb) W' fun e w' => e = .returned (.bool false) ∧ Below n0 W' w') : 
   Calls Try.prog 59 #[.slice sa ws.length cap, .func (.func g) #[] lb] w fun e w' => e = .returned (.bool false) ∧ Below n0 w w' := by
  have HG := Lib.hid hG; clear hG
  have EG := Lib.hid eg; clear eg
  go_enter Try.func59, Try.ntmps59
  go_wp2_with fail
  refine (index66 sa cap ws hlen n0 w hw g lb EG.out HG.out).mono ?_
  rintro e w2 ⟨rfl, hb2⟩
  go_wp2_with fail
  go_ret
  exact ⟨rfl, hb2⟩

/-- a chart in memory -/
structure IsChart (n0 : Nat) (W : World) (sa : Option Addr) (ws : List Rd.Wy) (n : Nat) : Prop where
  ch : Rd.Chart ws n
  wy : Wys n0 W sa ws

theorem IsChart.below {n0 : Nat} {A B : World} {sa ws n} (h : IsChart n0 A sa ws n) (hb : Below n0 A B) : IsChart n0 B sa ws n := ⟨h.ch, h.wy.below hb⟩
theorem IsChart.mono {n0 n1 : Nat} {A : World} {sa ws n} (h : IsChart n0 A sa ws n) (hb : n0 ≤ n1) : IsChart n1 A sa ws n := ⟨h.ch, h.wy.mono hb⟩

abbrev cv (n : Nat) (sa : Option Addr) (len cap : Nat) : Value := .agg #[.int .i64 n, .slice sa len cap]

end Go.Proofs.Ytdmmjlhcjmdajaa
