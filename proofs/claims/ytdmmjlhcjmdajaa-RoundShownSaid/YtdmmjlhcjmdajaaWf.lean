/-
  What the function value of minutes says, and the first parts of reach.
  Its conditions stand in each theorem.
-/
import Derived.Test.YtdmmjlhcjmdajaaWe
import Derived.Deep.LoopGhost
import Derived.RangeFuncWrites
namespace Go.Proofs.Ytdmmjlhcjmdajaa
open Go.RowKit Go.Shelf Go.Maps
set_option linter.unusedVariables false
attribute [local go_sem] Oper.semAt_some

theorem Stay.mono {m mb s : Nat} {A B : World} (h : Stay m mb A B) (h1 : s ≤ m) (h2 : s ≤ mb) : Stay s s A B := ⟨h.size, fun k hk hn => h.block k (by omega) (by omega)⟩

/-- what the function value takes says, while what lay at the call lies -/
def TakesS (g : Nat) (lb : Array Value) (tk : List Int) (len : Nat) (w : World) : Prop :=
  ∀ i : Int, 0 ≤ i → i < len → ∀ W', Stay w.heap.size w.heap.size w W' → Calls Try.prog g (#[.int .i64 i] ++ lb) W' fun e w' => e = .returned (.int .i64 (Rd.tkn tk i)) ∧ w' = W'

theorem TakesS.takes {g lb tk len m mb} {w W : World} (h : TakesS g lb tk len w) (hb : Below w.heap.size w W) (h1 : w.heap.size ≤ m) (h2 : w.heap.size ≤ mb) : Takes g lb tk len m mb W :=
  fun i h0 hl W' hW => h i h0 hl W' ((Stay.of_below hb (Nat.le_refl _)).trans (hW.mono h1 h2))

abbrev mk (r : Nat) : Deferred := { target := .collected r, args := #[] }
/-- the marks of the loops that are over -/
def Marks (n0 : Nat) (W : World) (ds : List Deferred) : Prop := ∃ rs : List Nat, ds = rs.map mk ∧ rs.Nodup ∧ ∀ r ∈ rs, n0 ≤ r ∧ W.heap[r]? = some (.deferred (some []))
theorem Marks.nil (n0 : Nat) (W : World) : Marks n0 W [] := ⟨[], rfl, List.nodup_nil, fun r h => by cases h⟩
theorem Marks.cons {n0 B : Nat} {W W' : World} {ds : List Deferred} (h : Marks n0 W ds) (hs : ∀ r, n0 ≤ r → r < B → W'.heap[r]? = W.heap[r]?) (hB : W.heap.size ≤ B) {D : Nat} (hD : B ≤ D) (hn : n0 ≤ D) (hK : W'.heap[D]? = some (.deferred (some []))) : Marks n0 W' (mk D :: ds) := by
  obtain ⟨rs, rfl, hnd, hr⟩ := h
  have hlt : ∀ r ∈ rs, r < B := fun r hm => by
    have := (Array.getElem?_eq_some_iff.1 (hr r hm).2).1
    omega
  refine ⟨D :: rs, rfl, List.nodup_cons.2 ⟨fun hm => by have := hlt D hm; omega, hnd⟩, fun r hm => ?_⟩
  rcases List.mem_cons.1 hm with rfl | hm
  · exact ⟨hn, hK⟩
  · exact ⟨(hr r hm).1, (hs r (hr r hm).1 (hlt r hm)).trans (hr r hm).2⟩

structure PutMarks (n0 : Nat) (W W' : World) : Prop where
  os : W'.os = W.os
  tape : W'.tape = W.tape
  output : W'.output = W.output
  size : W'.heap.size = W.heap.size
  block : ∀ k o, W.heap[k]? = some o → (k < n0 ∨ ∀ l, o ≠ .deferred l) → W'.heap[k]? = some o

theorem leaves_marks {fn : Func} {tmps : Array Value} {n : Nat} {R : Ending → World → Prop} {v : Value} (n0 : Nat) (hres : ∀ W, (results fn tmps).run Try.prog W = .ok v W) : ∀ (rs : List Nat) (W : World), rs.Nodup → (∀ r ∈ rs, n0 ≤ r ∧ W.heap[r]? = some (.deferred (some []))) →
    (∀ W', PutMarks n0 W W' → R (.returned v) W') → LeavesInM Fence.wide n Try.prog fn tmps R (rs.map mk) .returning W
  | [], W, _, _, hR => ⟨v, hres W, hR W ⟨rfl, rfl, rfl, rfl, fun _ _ h _ => h⟩⟩
  | r :: rs, W, hnd, hr, hR => by
    obtain ⟨hnr, hnd'⟩ := List.nodup_cons.1 hnd
    have h0 := hr r (by simp)
    refine ⟨by simp, .inl ⟨r, _, rfl, run_takeDeferred h0.2, ?_⟩⟩
    refine leaves_marks n0 hres rs _ hnd' (fun q hq => ⟨(hr q (by simp [hq])).1, (World.putObj_heap_other (fun e => hnr (by rw [← e]; exact hq))).trans (hr q (by simp [hq])).2⟩) (fun W' h => hR W' ?_)
    refine ⟨h.os, h.tape, h.output, by rw [h.size]; simp, fun k o hk hc => h.block k o ?_ hc⟩
    refine (World.putObj_heap_other (fun e => ?_)).trans hk
    subst e
    rw [h0.2] at hk
    cases hk
    rcases hc with hc | hc
    · omega
    · exact hc _ rfl

theorem below_putMarks {n0 : Nat} {w W W' : World} (h : Below n0 w W) (hp : PutMarks n0 W W') : Below n0 w W' := by
  refine ⟨hp.os.trans h.os, hp.tape.trans h.tape, hp.output.trans h.output, by rw [hp.size]; exact h.size, fun k hk => ?_⟩
  cases ho : W.heap[k]? with
  | some o => rw [hp.block k o ho (.inl hk), ← ho]; exact h.block k hk
  | none =>
    have h1 := Array.getElem?_eq_none_iff.1 ho
    rw [Array.getElem?_eq_none (by rw [hp.size]; exact h1)]
    exact ho ▸ h.block k hk

structure ReachRel (w : World) (n : Nat) (sa : Option Addr) (cap : Nat) (ws : List Rd.Wy) (tk : List Int) (p a : Int) (d : Nat) (W : World) (r N : Nat) (O P : Rd.Tab) : Prop where
  bel : Below w.heap.size w W
  big : w.heap.size + 5 ≤ W.heap.size
  c0 : W.cell? ⟨w.heap.size, 0, none⟩ = some (.int .i64 n)
  c1 : W.cell? ⟨w.heap.size, 1, none⟩ = some (.slice sa ws.length cap)
  c2 : W.cell? ⟨w.heap.size + 1 + 1, 0, none⟩ = some (.map (some (w.heap.size + 1)))
  c4 : W.cell? ⟨w.heap.size + 1 + 1 + 1 + 1, 0, none⟩ = some (.map (some (w.heap.size + 1 + 1 + 1)))
  rd : r + d = n
  hN : N ≤ 1 + 100 * r
  st : Rd.rounds ws tk (n + 1) (Rd.start n p a) = Rd.rounds ws tk (n + 1 - r) (O, P)
  inv : Rd.Inv ws tk n p a O P
  lf : Rd.left O ≤ d
  mo : MapIs W (w.heap.size + 1) N O
  mp : MapIs W (w.heap.size + 1 + 1 + 1) N P

/-- the relation of the great loop -/
def RI (w : World) (n : Nat) (sa : Option Addr) (cap : Nat) (ws : List Rd.Wy) (tk : List Int) (p a : Int) (g : Nat) (lb : Array Value) (d : Nat) (a' : Act) (W : World) : Prop :=
  ∃ (u : Nat → Value) (ds : List Deferred) (r N : Nat) (O P : Rd.Tab), (ReachRel w n sa cap ws tk p a d W r N O P ∧ Marks (w.heap.size + 5) W ds) ∧ a' = { tmps := #[cv n sa ws.length cap, .int .i64 p, .int .i64 a, .func (.func g) #[] lb, .pointer (some ⟨w.heap.size, 0, none⟩), undef, undef, undef, .map none, .pointer (some ⟨w.heap.size + 1 + 1, 0, none⟩), .pointer (some ⟨w.heap.size + 1 + 1 + 1 + 1, 0, none⟩), (u 11), (u 12), (u 13), (u 14), (u 15), (u 16), (u 17), (u 18), (u 19), (u 20), (u 21), (u 22), .map (some (w.heap.size + 1)), .map (some (w.heap.size + 1 + 1 + 1)), .int .i64 p, .int .i64 a, .agg #[.int .i64 a, .int .i64 (-1)], .map (some (w.heap.size + 1 + 1 + 1)), (u 29), (u 30), (u 31), (u 32), (u 33), (u 34), (u 35), (u 36), (u 37), (u 38), (u 39), (u 40), (u 41), (u 42), (u 43), (u 44), (u 45), (u 46), (u 47), (u 48), (u 49), (u 50), (u 51), (u 52), (u 53), (u 54), (u 55), (u 56), (u 57), (u 58), (u 59), (u 60), (u 61), (u 62), (u 63), (u 64), (u 65), (u 66), (u 67), (u 68), (u 69), (u 70), (u 71), (u 72), (u 73), (u 74), (u 75), (u 76), (u 77), (u 78), (u 79), (u 80), (u 81), (u 82), (u 83), (u 84), (u 85), (u 86), (u 87), (u 88), (u 89), (u 90), (u 91), (u 92), (u 93), (u 94), (u 95), (u 96), (u 97), (u 98), (u 99), (u 100), (u 101), (u 102), (u 103), (u 104), (u 105), (u 106), (u 107), (u 108), undef], defers := ds }

theorem RI.intro {w : World} {n : Nat} {sa : Option Addr} {cap : Nat} {ws : List Rd.Wy} {tk : List Int} {p a : Int} {g : Nat} {lb : Array Value} {d : Nat} {a' : Act} {W : World} {ds : List Deferred} {r N : Nat} {O P : Rd.Tab} (h1 : ReachRel w n sa cap ws tk p a d W r N O P) (h2 : Marks (w.heap.size + 5) W ds) (u : Nat → Value)
  (h : a' = { tmps := #[cv n sa ws.length cap, .int .i64 p, .int .i64 a, .func (.func g) #[] lb, .pointer (some ⟨w.heap.size, 0, none⟩), undef, undef, undef, .map none, .pointer (some ⟨w.heap.size + 1 + 1, 0, none⟩), .pointer (some ⟨w.heap.size + 1 + 1 + 1 + 1, 0, none⟩), (u 11), (u 12), (u 13), (u 14), (u 15), (u 16), (u 17), (u 18), (u 19), (u 20), (u 21), (u 22), .map (some (w.heap.size + 1)), .map (some (w.heap.size + 1 + 1 + 1)), .int .i64 p, .int .i64 a, .agg #[.int .i64 a, .int .i64 (-1)], .map (some (w.heap.size + 1 + 1 + 1)), (u 29), (u 30), (u 31), (u 32), (u 33), (u 34), (u 35), (u 36), (u 37), (u 38), (u 39), (u 40), (u 41), (u 42), (u 43), (u 44), (u 45), (u 46), (u 47), (u 48), (u 49), (u 50), (u 51), (u 52), (u 53), (u 54), (u 55), (u 56), (u 57), (u 58), (u 59), (u 60), (u 61), (u 62), (u 63), (u 64), (u 65), (u 66), (u 67), (u 68), (u 69), (u 70), (u 71), (u 72), (u 73), (u 74), (u 75), (u 76), (u 77), (u 78), (u 79), (u 80), (u 81), (u 82), (u 83), (u 84), (u 85), (u 86), (u 87), (u 88), (u 89), (u 90), (u 91), (u 92), (u 93), (u 94), (u 95), (u 96), (u 97), (u 98), (u 99), (u 100), (u 101), (u 102), (u 103), (u 104), (u 105), (u 106), (u 107), (u 108), undef], defers := ds }) : RI w n sa cap ws tk p a g lb d a' W := ⟨u, ds, r, N, O, P, ⟨h1, h2⟩, h⟩


theorem from_stops (n nn : Nat) (hn : 1 ≤ n) (cb m mb : Nat) (sa : Option Addr) (cap : Nat) (ws : List Rd.Wy) (tk : List Int) (p a : Int) (g : Nat) (lb : Array Value) (n0 : Nat)
    (hcb : cb + 4 ≤ m) (hmb : mb < cb) (hn0 : n0 ≤ mb) (ch : Rd.Chart ws nn) (ha0 : 0 ≤ a) (ha1 : a ≤ 1439) (htk : ∀ i : Int, 0 ≤ i → i < ws.length → 1 ≤ Rd.tkn tk i ∧ Rd.tkn tk i ≤ 600)
    (w : World) (hm : m ≤ w.heap.size) (hw : Wys n0 w sa ws) (eg : ∀ args w, (callFunc g args).run Try.prog w = .ok (.enter g args) w) (hT : Takes g lb tk ws.length m mb w)
    (c0 : w.cell? ⟨cb, 0, none⟩ = some (.int .i64 nn)) (c1 : w.cell? ⟨cb, 1, none⟩ = some (.slice sa ws.length cap)) (c2 : w.cell? ⟨cb + 1, 0, none⟩ = some (.int .i64 p)) (c3 : w.cell? ⟨cb + 1 + 1, 0, none⟩ = some (.int .i64 a)) (c4 : w.cell? ⟨cb + 1 + 1 + 1, 0, none⟩ = some (.func (.func g) #[] lb)) :
    SeqStopsK Fence.wide n Try.prog 48 #[.pointer (some ⟨cb, 0, none⟩), .pointer (some ⟨cb + 1, 0, none⟩), .pointer (some ⟨cb + 1 + 1, 0, none⟩), .pointer (some ⟨cb + 1 + 1 + 1, 0, none⟩)]
      (fun x : Pr ws tk p a => #[Value.int .i64 x.1.1, Value.int .i64 x.1.2]) (Stay m mb) (fun ys => ys.map (·.1) = Rd.outs ws tk p a ws.length) (fun _ => True) ws.length w := fun l J Jx W hW hJ _ hY h0 => by
  have hsz := hW.size
  have hst : Stay m mb w W := Stay.of_below hW hm
  exact from1_in n nn hn l cb m mb sa cap ws tk p a g lb n0 hcb hmb hn0 ch ha0 ha1 htk J Jx W (by omega) hJ hY (hw.stay hst (by omega) hn0) h0 eg (fun i h0 hl W' hW' => hT i h0 hl W' (hst.trans hW'))
    ((hst.cell (by omega) (by omega)).trans c0) ((hst.cell (by omega) (by omega)).trans c1) ((hst.cell (by omega) (by omega)).trans c2) ((hst.cell (by omega) (by omega)).trans c3) ((hst.cell (by omega) (by omega)).trans c4)
structure FromW (n : Nat) (sa : Option Addr) (len cap : Nat) (p a : Int) (g : Nat) (lb : Array Value) (w w' : World) : Prop where
  bel : Below w.heap.size w w'
  size : w'.heap.size = w.heap.size + 4
  f0 : w'.cell? ⟨w.heap.size, 0, none⟩ = some (.int .i64 n)
  f1 : w'.cell? ⟨w.heap.size, 1, none⟩ = some (.slice sa len cap)
  f2 : w'.cell? ⟨w.heap.size + 1, 0, none⟩ = some (.int .i64 p)
  f3 : w'.cell? ⟨w.heap.size + 1 + 1, 0, none⟩ = some (.int .i64 a)
  f4 : w'.cell? ⟨w.heap.size + 1 + 1 + 1, 0, none⟩ = some (.func (.func g) #[] lb)

theorem from_any2 (n : Nat) (sa : Option Addr) (len cap : Nat) (p a : Int) (g : Nat) (lb : Array Value) (w : World) :
   Calls Try.prog 26 #[cv n sa len cap, .int .i64 p, .int .i64 a, .func (.func g) #[] lb] w fun e w' =>
     e = .returned (.func (.func 48) #[] #[.pointer (some ⟨w.heap.size, 0, none⟩), .pointer (some ⟨w.heap.size + 1, 0, none⟩), .pointer (some ⟨w.heap.size + 1 + 1, 0, none⟩), .pointer (some ⟨w.heap.size + 1 + 1 + 1, 0, none⟩)]) ∧
     FromW n sa len cap p a g lb w w' := by
  refine (from_any n sa len cap p a g lb w).mono ?_
  rintro e w' ⟨rfl, rfl⟩
  refine ⟨rfl, ?_, ?_, ?_, ?_, ?_, ?_, ?_⟩
  · exact ((((Below.refl _ _).alloc (Nat.le_refl _) _).alloc (by simp) _).alloc (by simp <;> omega) _).alloc (by simp <;> omega) _
  · simp
  · rw [World.cell?_alloc_past _ _ _ (by simp <;> omega), World.cell?_alloc_past _ _ _ (by simp <;> omega), World.cell?_alloc_past _ _ _ (by simp), World.cell?_alloc_at _ _ _ _ rfl]; rfl
  · rw [World.cell?_alloc_past _ _ _ (by simp <;> omega), World.cell?_alloc_past _ _ _ (by simp <;> omega), World.cell?_alloc_past _ _ _ (by simp), World.cell?_alloc_at _ _ _ _ rfl]; rfl
  · rw [World.cell?_alloc_past _ _ _ (by simp <;> omega), World.cell?_alloc_past _ _ _ (by simp), World.cell?_alloc_at _ _ _ _ (by simp)]; rfl
  · rw [World.cell?_alloc_past _ _ _ (by simp), World.cell?_alloc_at _ _ _ _ (by simp)]; rfl
  · rw [World.cell?_alloc_at _ _ _ _ (by simp)]; rfl
end Go.Proofs.Ytdmmjlhcjmdajaa
