/-
  The contracts of check and contains at a valid chart.
  Its conditions stand in each theorem.
-/
import Derived.Test.YtdmmjlhcjmdajaaWa
import Derived.Shelf.Abstract
namespace Go.Proofs.Ytdmmjlhcjmdajaa
open Go.RowKit Go.Shelf
set_option linter.unusedVariables false

theorem cell_at_new (w : World) (c : Array Value) (t : TypeId) (i : Nat) {W' : World} (hb : Below (w.heap.size + 1) (w.alloc (.cells c t)) W') : W'.cell? ⟨w.heap.size, i, none⟩ = c[i]? := by
  rw [hb.cell (p := ⟨w.heap.size, i, none⟩) (by simp)]
  exact World.cell?_alloc_new _ _ _ _

theorem check_ok (n : Nat) (sa : Option Addr) (cap : Nat) (ws : List Rd.Wy) (w : World) (h : IsChart w.heap.size w sa ws n) :
   Calls Try.prog 42 #[cv n sa ws.length cap] w fun e w' => e = .returned (.int .i64 0) ∧ Below w.heap.size w w' := by
  have hlen := h.ch.len
  have hn1 := h.ch.n1
  have hn2 := h.ch.n2
  go_enter Try.func42, Try.ntmps42
  go_wp2_with (go_at_call 25; refine (within_yes _ _ _ _ (by omega) (by omega)).mono ?_; rintro e w' ⟨rfl, rfl⟩)
  have hb0 : Below w.heap.size w (w.alloc (Obj.cells #[Value.int IntKind.i64 ↑n, Value.slice sa ws.length cap] 31)) := (Below.refl _ _).alloc (Nat.le_refl _) _
  have hG : ∀ (j : Nat), j < ws.length → ∀ W', Below (w.heap.size + 1) (w.alloc (Obj.cells #[Value.int IntKind.i64 ↑n, Value.slice sa ws.length cap] 31)) W' → Calls Try.prog 60 (#[wv (Rd.way ws j)] ++ #[Value.pointer (some { block := w.heap.size, off := 0 })]) W' fun e w' => e = .returned (.bool false) ∧ Below (w.heap.size + 1) W' w' := by
    intro j hj W' hW
    have ok := h.ch.ways j (by omega) (by omega)
    have hs := hW.size
    simp at hs
    refine (check1_no n _ _ _ _ _ _ _ sa ws.length cap W' w.heap.size (by omega) (by rw [cell_at_new _ _ _ _ hW]; rfl) (by rw [cell_at_new _ _ _ _ hW]; rfl) (by omega) ok.f0 ok.f1 ok.t0 ok.t1 (by simpa using ok.ne) ok.a0 ok.a1 ok.a2 ok.o0 ok.o1 ok.o2 ok.e0 ok.e1).mono ?_
    rintro e w2 ⟨rfl, hb⟩
    exact ⟨rfl, hb.mono hs⟩
  refine (contains59 sa cap ws hlen (w.heap.size + 1) _ ((h.wy.below hb0).mono (by omega)) 60 _ (enters_of Try.func60 (by kernel_rfl) rfl) hG).mono ?_
  rintro e w2 ⟨rfl, hb⟩
  clear hG
  go_wp2_with fail
  go_ret
  exact ⟨rfl, hb0.trans (hb.mono (by omega))⟩

/-- ints in memory, below block n0 -/
def Ints (n0 : Nat) (W : World) (sa : Option Addr) (l : List Int) : Prop :=
  l = [] ∨ ∃ sb so, sa = some ⟨sb, so, none⟩ ∧ sb < n0 ∧ ∀ j : Nat, j < l.length → W.cell? ⟨sb, so + j, none⟩ = some (.int .i64 (Rd.mrk l j))
theorem Ints.below {n0 : Nat} {A B : World} {sa l} (h : Ints n0 A sa l) (hb : Below n0 A B) : Ints n0 B sa l := by
  rcases h with h | ⟨sb, so, rfl, hn, h⟩
  · exact .inl h
  · exact .inr ⟨sb, so, rfl, hn, fun j hj => (hb.cell (p := ⟨sb, _, none⟩) hn).trans (h j hj)⟩
theorem Ints.mono {n0 n1 : Nat} {A : World} {sa l} (h : Ints n0 A sa l) (hn : n0 ≤ n1) : Ints n1 A sa l := by
  rcases h with h | ⟨sb, so, rfl, hb, h⟩
  · exact .inl h
  · exact .inr ⟨sb, so, rfl, by omega, h⟩
theorem Ints.at {n0 : Nat} {W : World} {sa l} (h : Ints n0 W sa l) {k : Nat} (hk : k < l.length) : ∃ sb so, sa = some ⟨sb, so, none⟩ ∧ sb < n0 ∧ W.cell? ⟨sb, so + k, none⟩ = some (.int .i64 (Rd.mrk l k)) := by
  rcases h with h | ⟨sb, so, rfl, hb, h⟩
  · subst h; simp at hk
  · exact ⟨sb, so, rfl, hb, h k hk⟩

def Found (pr : Nat → Bool) (len : Nat) (r : Int) : Prop := (r = -1 ∧ ∀ j, j < len → pr j = false) ∨ (0 ≤ r ∧ ∃ j, j < len ∧ pr j = true)
def FoundPost (pr : Nat → Bool) (len n0 : Nat) (w : World) (e : Ending) (w' : World) : Prop := ∃ r, e = .returned (.int .i64 r) ∧ Found pr len r ∧ Below n0 w w'
def AnyPost (pr : Nat → Bool) (len n0 : Nat) (w : World) (e : Ending) (w' : World) : Prop := ∃ b, e = .returned (.bool b) ∧ (b = true ↔ ∃ j, j < len ∧ pr j = true) ∧ Below n0 w w'

set_option maxHeartbeats 400000 in
theorem index47 (sa : Option Addr) (cap : Nat) (l : List Int) (hlen : l.length ≤ 1000) (n0 : Nat) (w : World) (hw : Ints n0 w sa l) (g : Nat) (lb : Array Value) (pr : Nat → Bool)
   (eg : ∀ args w, (callFunc g args).run Try.prog w = .ok (.enter g args) w)
   (hG : ∀ (j : Nat), j < l.length → ∀ W', Below n0 w W' → Calls Try.prog g (#[.int .i64 (Rd.mrk l j)] ++ lb) W' fun e w' => e = .returned (.bool (pr j)) ∧ Below n0 W' w') : 
   Calls Try.prog 47 #[.slice sa l.length cap, .func (.func g) #[] lb] w (FoundPost pr l.length n0 w) := by
  obtain ⟨len, hL⟩ : ∃ len, len = l.length := ⟨_, rfl⟩
  rw [← hL] at hlen ⊢
  have HG := Lib.hid hG; clear hG
  have HL := Lib.hid hL; clear hL
  go_enter Try.func47, Try.ntmps47
  go_wp2_with fail
  go_loopw [5, 8] (fun _ i wr => ∃ k : Nat, k ≤ len ∧ i = .int .i64 k ∧ Below n0 w wr ∧ Hid (∀ j, j < k → pr j = false)) (fun _ i _ => len - (intOf i).toNat)
  case atStart => exact ⟨0, Nat.zero_le _, rfl, Below.refl _ _, fun j hj => by omega⟩
  case round =>
    obtain ⟨k, hk, rfl, hb, hF⟩ := hrel
    by_cases hlt : k < len
    · obtain ⟨sb, so, rfl, hsb, c0⟩ := (hw.below hb).at (k := k) (by rw [← HL.out]; exact hlt)
      go_wp2_with fail
      refine (HG.out k (by rw [← HL.out]; exact hlt) _ hb).mono ?_
      rintro e w2 ⟨rfl, hb2⟩
      cases hp : pr k with
      | false =>
        have HP := Lib.hid hp; clear hp
        go_wp2_with fail
        go_roundw
        case rel => exact ⟨k + 1, by omega, by go_num, hb.trans hb2, fun j hj => by
          by_cases e : j = k
          · rw [e]; exact HP.out
          · exact hF.out j (by omega)⟩
        case measure => simp [intOf]; omega
      | true =>
        have HP := Lib.hid hp; clear hp
        go_wp2_with fail
        go_ret
        exact ⟨_, rfl, .inr ⟨by omega, k, hlt, HP.out⟩, hb.trans hb2⟩
    · go_wp2_with fail
      go_ret
      obtain rfl : k = len := by omega
      exact ⟨_, rfl, .inl ⟨rfl, hF.out⟩, hb⟩

theorem contains23 (sa : Option Addr) (cap : Nat) (l : List Int) (hlen : l.length ≤ 1000) (n0 : Nat) (w : World) (hw : Ints n0 w sa l) (g : Nat) (lb : Array Value) (pr : Nat → Bool)
   (eg : ∀ args w, (callFunc g args).run Try.prog w = .ok (.enter g args) w)
   (hG : ∀ (j : Nat), j < l.length → ∀ W', Below n0 w W' → Calls Try.prog g (#[.int .i64 (Rd.mrk l j)] ++ lb) W' fun e w' => e = .returned (.bool (pr j)) ∧ Below n0 W' w') : 
   Calls Try.prog 23 #[.slice sa l.length cap, .func (.func g) #[] lb] w (AnyPost pr l.length n0 w) := by
  have HG := Lib.hid hG; clear hG
  have EG := Lib.hid eg; clear eg
  go_enter Try.func23, Try.ntmps23
  go_wp2_with fail
  refine (index47 sa cap l hlen n0 w hw g lb pr EG.out HG.out).mono ?_
  rintro e w2 ⟨r, rfl, hr, hb2⟩
  have HR := Lib.hid hr; clear hr
  go_wp2_with fail
  go_ret
  refine ⟨_, rfl, ?_, hb2⟩
  rcases HR.out with ⟨rfl, h⟩ | ⟨h0, j, hj, h⟩
  · simp; intro j hj; rw [h j hj]
  · simp [h0]; exact ⟨j, hj, h⟩
end Go.Proofs.Ytdmmjlhcjmdajaa
