/-
  The contracts of wayOf and of what Moved asks of rounds.
  Its conditions stand in each theorem.
-/
import Derived.Test.YtdmmjlhcjmdajaaWu
import Derived.LoopN
namespace Go.Proofs.Ytdmmjlhcjmdajaa
open Go.RowKit Go.Shelf Go.Maps
set_option linter.unusedVariables false

theorem wayOf_ok (n : Nat) (sa : Option Addr) (cap : Nat) (ws : List Rd.Wy) (k : Int) (w : World) (ch : IsChart w.heap.size w sa ws n) (h0 : 0 ≤ k) (h1 : k < ws.length) :
   Calls Try.prog 36 #[cv n sa ws.length cap, .int .i64 k] w (ErrPost 0 w.heap.size w) := by
  have hl := ch.ch.len
  have hb0 : Below w.heap.size w (w.alloc (Obj.cells #[Value.int IntKind.i64 ↑n, Value.slice sa ws.length cap] 31)) := (Below.refl _ _).alloc (Nat.le_refl _) _
  go_enter Try.func36, Try.ntmps36
  go_wp2_with fail
  refine (check_ok n sa cap ws _ ((ch.below hb0).mono (by simp))).mono ?_
  rintro e w1 ⟨rfl, hb1⟩
  have c1 : w1.cell? ⟨w.heap.size, 1, none⟩ = some (.slice sa ws.length cap) := by rw [hb1.cell (p := ⟨w.heap.size, 1, none⟩) (by simp)]; go_simp
  go_wp2_with (go_at_call 25; refine (within_yes _ _ _ _ (by omega) (by omega)).mono ?_; rintro e w' ⟨rfl, rfl⟩)
  go_ret
  exact ⟨rfl, hb0.trans (hb1.mono (by simp))⟩

theorem bad38 (n : Nat) (sa : Option Addr) (len cap : Nat) (p a : Int) (ra : Option Addr) (rcap : Nat) (l : List Stp) (w : World) (hn : n ≤ 12) (h : IsRound w.heap.size w ra l n p a) (q : Nat) (hq : q < w.heap.size) (c0 : w.cell? ⟨q, 0, none⟩ = some (.int .i64 n)) (c1 : w.cell? ⟨q, 1, none⟩ = some (.slice sa len cap)) :
   Calls Try.prog 38 #[rv p a ra l.length rcap, .pointer (some ⟨q, 0, none⟩)] w (BoolPost false w.heap.size w) := by
  go_enter Try.func38, Try.ntmps38
  go_wp2_with fail
  have hb0 : Below w.heap.size w (w.alloc (Obj.cells #[Value.int .i64 p, .int .i64 a, .slice ra l.length rcap] 34)) := (Below.refl _ _).alloc (Nat.le_refl _) _
  refine (isRound_yes n sa len cap p a ra rcap l _ hn ((h.below hb0).mono (by simp))).mono ?_
  rintro e w1 ⟨rfl, hb1⟩
  go_wp2_with fail
  go_ret
  exact ⟨rfl, hb0.trans (hb1.mono (by simp))⟩

/-- one round in memory -/
structure OneR (W : World) (b : Nat) (p a : Int) (ra : Option Addr) (len cap : Nat) : Prop where
  c0 : W.cell? ⟨b, 0, none⟩ = some (.int .i64 p)
  c1 : W.cell? ⟨b, 1, none⟩ = some (.int .i64 a)
  c2 : W.cell? ⟨b, 2, none⟩ = some (.slice ra len cap)
theorem OneR.below {W W' : World} {b n0 : Nat} {p a : Int} {ra : Option Addr} {len cap : Nat} (h : OneR W b p a ra len cap) (hb : Below n0 W W') (hn : b < n0) : OneR W' b p a ra len cap :=
  ⟨(hb.cell (p := ⟨b, 0, none⟩) hn).trans h.c0, (hb.cell (p := ⟨b, 1, none⟩) hn).trans h.c1, (hb.cell (p := ⟨b, 2, none⟩) hn).trans h.c2⟩

theorem index53 (b : Nat) (p a : Int) (ra : Option Addr) (rlen rcap : Nat) (w : World) (hb : b < w.heap.size) (h : OneR w b p a ra rlen rcap) (g : Nat) (lb : Array Value) (eg : ∀ args w, (callFunc g args).run Try.prog w = .ok (.enter g args) w)
   (hG : Calls Try.prog g (#[rv p a ra rlen rcap] ++ lb) w (BoolPost false w.heap.size w)) :
   Calls Try.prog 53 #[.slice (some ⟨b, 0, none⟩) 1 1, .func (.func g) #[] lb] w fun e w' => e = .returned (.int .i64 (-1)) ∧ Below w.heap.size w w' := by
  have e0 := h.c0; have e1 := h.c1; have e2 := h.c2
  have HG := Lib.hid hG; clear hG
  go_enter Try.func53, Try.ntmps53
  go_wp2_with fail
  refine wp_loop_rounds 2 ?_
  rw [rounds_succ]
  go_wp2_with fail
  refine HG.out.mono ?_
  rintro e w2 ⟨rfl, hb2⟩
  go_wp2_with fail
  rw [rounds_succ]
  go_wp2_with fail
  go_ret
  exact ⟨rfl, hb2⟩
theorem contains37 (b : Nat) (p a : Int) (ra : Option Addr) (rlen rcap : Nat) (w : World) (hb : b < w.heap.size) (h : OneR w b p a ra rlen rcap) (g : Nat) (lb : Array Value) (eg : ∀ args w, (callFunc g args).run Try.prog w = .ok (.enter g args) w)
   (hG : Calls Try.prog g (#[rv p a ra rlen rcap] ++ lb) w (BoolPost false w.heap.size w)) :
   Calls Try.prog 37 #[.slice (some ⟨b, 0, none⟩) 1 1, .func (.func g) #[] lb] w (BoolPost false w.heap.size w) := by
  have EG := Lib.hid eg; clear eg
  have HG := Lib.hid hG; clear hG
  go_enter Try.func37, Try.ntmps37
  go_wp2_with fail
  refine (index53 b p a ra rlen rcap w hb h g lb EG.out HG.out).mono ?_
  rintro e w2 ⟨rfl, hb2⟩
  go_wp2_with fail
  go_ret
  exact ⟨rfl, hb2⟩
end Go.Proofs.Ytdmmjlhcjmdajaa
