/-
  The contract of from (the ways that can be begun).
  Its conditions stand in each theorem.
-/
import Derived.RangeFuncNested
import Derived.RangeFuncBound
import Derived.RangeFuncCalls
import Derived.RangeFuncLeaves
import Derived.Shelf.Abstract
import Derived.Shelf.RegionOpen
import Derived.WalkKit
import Derived.OwnWalkIn
import Derived.TacticsInMore
import Derived.LoopNIn
import Derived.LoopIn
import Derived.Test.YtdmmjlhcjmdajaaWc
namespace Go.Proofs.Ytdmmjlhcjmdajaa
open Go.RowKit Go.Shelf
set_option linter.unusedVariables false
attribute [local go_sem] Oper.semAt_some

theorem from_any (n : Nat) (sa : Option Addr) (len cap : Nat) (p a : Int) (g : Nat) (lb : Array Value) (w : World) :
   Calls Try.prog 26 #[cv n sa len cap, .int .i64 p, .int .i64 a, .func (.func g) #[] lb] w fun e w' =>
     e = .returned (.func (.func 48) #[] #[.pointer (some ⟨w.heap.size, 0, none⟩), .pointer (some ⟨w.heap.size + 1, 0, none⟩), .pointer (some ⟨w.heap.size + 1 + 1, 0, none⟩), .pointer (some ⟨w.heap.size + 1 + 1 + 1, 0, none⟩)]) ∧
     w' = (((w.alloc (.cells #[.int .i64 n, .slice sa len cap] 31)).alloc (.cells #[.int .i64 p] 3)).alloc (.cells #[.int .i64 a] 3)).alloc (.cells #[.func (.func g) #[] lb] 70) := by
  go_enter Try.func26, Try.ntmps26
  go_wp2
  go_ret
  exact ⟨rfl, rfl⟩

/-- below m all but block mb lies as it lay -/
structure Stay (m mb : Nat) (W W' : World) : Prop where
  size : W.heap.size ≤ W'.heap.size
  block : ∀ k, k < m → k ≠ mb → W'.heap[k]? = W.heap[k]?
theorem Stay.refl (m mb : Nat) (W : World) : Stay m mb W W := ⟨Nat.le_refl _, fun _ _ _ => rfl⟩
theorem Stay.trans {m mb : Nat} {A B C : World} (h : Stay m mb A B) (k : Stay m mb B C) : Stay m mb A C :=
  ⟨Nat.le_trans h.size k.size, fun i hi hn => (k.block i hi hn).trans (h.block i hi hn)⟩
theorem Stay.of_below {m mb : Nat} {A B : World} {n : Nat} (h : Below n A B) (hm : m ≤ n) : Stay m mb A B := ⟨h.size, fun k hk _ => h.block k (by omega)⟩
theorem Stay.cell {m mb : Nat} {A B : World} (h : Stay m mb A B) {b o : Nat} (hb : b < m) (hn : b ≠ mb) : B.cell? ⟨b, o, none⟩ = A.cell? ⟨b, o, none⟩ := World.cell?_of_block (w := A) (h.block b hb hn)

theorem W7.stay {m mb b o : Nat} {A B : World} {w : Rd.Wy} (h : W7 A b o w) (hb : Stay m mb A B) (h1 : b < m) (h2 : b ≠ mb) : W7 B b o w :=
  ⟨(hb.cell h1 h2).trans h.c0, (hb.cell h1 h2).trans h.c1, (hb.cell h1 h2).trans h.c2, (hb.cell h1 h2).trans h.c3, (hb.cell h1 h2).trans h.c4, (hb.cell h1 h2).trans h.c5, (hb.cell h1 h2).trans h.c6⟩
theorem Wys.stay {n0 m mb : Nat} {A B : World} {sa ws} (h : Wys n0 A sa ws) (hb : Stay m mb A B) (h1 : n0 ≤ m) (h2 : n0 ≤ mb) : Wys n0 B sa ws := by
  rcases h with h | ⟨sb, so, rfl, hn, h⟩
  · exact .inl h
  · exact .inr ⟨sb, so, rfl, hn, fun j hj => (h j hj).stay hb (by omega) (by omega)⟩

theorem grownBy_of_below {w w' : World} (h : Below w.heap.size w w') : w.grownBy w' none := ⟨h.os, h.tape, h.output, h.size, fun i hi _ => h.block i hi⟩

/-- what the function value takes says -/
def Takes (g : Nat) (lb : Array Value) (tk : List Int) (len : Nat) (m mb : Nat) (W : World) : Prop :=
  ∀ i : Int, 0 ≤ i → i < len → ∀ W', Stay m mb W W' → Calls Try.prog g (#[.int .i64 i] ++ lb) W' fun e w' => e = .returned (.int .i64 (Rd.tkn tk i)) ∧ w' = W'

abbrev Pr (ws : List Rd.Wy) (tk : List Int) (p a : Int) := { q : Int × Int // q ∈ Rd.outs ws tk p a ws.length }

theorem outs_len (ws : List Rd.Wy) (tk : List Int) (p a : Int) : ∀ k, (Rd.outs ws tk p a k).length ≤ k
  | 0 => by simp [Rd.outs]
  | k + 1 => by
    have := outs_len ws tk p a k
    unfold Rd.outs
    rw [List.length_append]
    split <;> simp <;> omega

theorem outs_succ_yes {ws : List Rd.Wy} {tk : List Int} {p a : Int} {k : Nat} (h1 : (Rd.way ws k).frm = p) (h2 : Rd.lvm (Rd.way ws k) a ≤ (Rd.way ws k).ohi) (h3 : Rd.lvm (Rd.way ws k) a + Rd.tkn tk k ≤ 1439) :
   Rd.outs ws tk p a (k + 1) = Rd.outs ws tk p a k ++ [((k : Int), Rd.lvm (Rd.way ws k) a + Rd.tkn tk k)] := by
  show Rd.outs ws tk p a k ++ _ = _
  rw [if_pos ⟨h1, h2, h3⟩]
theorem outs_succ_no {ws : List Rd.Wy} {tk : List Int} {p a : Int} {k : Nat} (h : ¬ ((Rd.way ws k).frm = p ∧ Rd.lvm (Rd.way ws k) a ≤ (Rd.way ws k).ohi ∧ Rd.lvm (Rd.way ws k) a + Rd.tkn tk k ≤ 1439)) :
   Rd.outs ws tk p a (k + 1) = Rd.outs ws tk p a k := by
  show Rd.outs ws tk p a k ++ _ = _
  rw [if_neg h, List.append_nil]

set_option maxRecDepth 100000 in
set_option maxHeartbeats 2000000 in
theorem from1_in (n nn : Nat) (hn : 1 ≤ n) (l : Nat) (cb m mb : Nat) (sa : Option Addr) (cap : Nat) (ws : List Rd.Wy) (tk : List Int) (p a : Int) (g : Nat) (lb : Array Value) (n0 : Nat)
    (hcb : cb + 4 ≤ m) (hmb : mb < cb) (hn0 : n0 ≤ mb) (ch : Rd.Chart ws nn) (ha0 : 0 ≤ a) (ha1 : a ≤ 1439) (htk : ∀ i : Int, 0 ≤ i → i < ws.length → 1 ≤ Rd.tkn tk i ∧ Rd.tkn tk i ≤ 600)
    (J Jx : List (Pr ws tk p a) → World → Prop)
    (W : World) (hm : m ≤ W.heap.size) (hJ : AbidesFrom W.heap.size J) 
    (hY : ∀ pre x W1, J pre W1 → pre.length < ws.length → YieldAt Fence.wide (n - 1) Try.prog l #[.int .i64 x.1.1, .int .i64 x.1.2] W1 fun e W' =>
      (e = .returned (.bool true) ∧ J (pre ++ [x]) W' ∧ Stay m mb W1 W') ∨ (e = .returned (.bool false) ∧ Jx (pre ++ [x]) W'))
    (hw : Wys n0 W sa ws) (h0 : J [] W) (eg : ∀ args w, (callFunc g args).run Try.prog w = .ok (.enter g args) w) (hT : Takes g lb tk ws.length m mb W)
    (c0 : W.cell? ⟨cb, 0, none⟩ = some (.int .i64 nn)) (c1 : W.cell? ⟨cb, 1, none⟩ = some (.slice sa ws.length cap)) (c2 : W.cell? ⟨cb + 1, 0, none⟩ = some (.int .i64 p)) (c3 : W.cell? ⟨cb + 1 + 1, 0, none⟩ = some (.int .i64 a)) (c4 : W.cell? ⟨cb + 1 + 1 + 1, 0, none⟩ = some (.func (.func g) #[] lb)) :
    CallsIn Fence.wide n Try.prog 48 #[.func (.yield l) #[] #[], .pointer (some ⟨cb, 0, none⟩), .pointer (some ⟨cb + 1, 0, none⟩), .pointer (some ⟨cb + 1 + 1, 0, none⟩), .pointer (some ⟨cb + 1 + 1 + 1, 0, none⟩)] W fun e W' => (∃ v, e = .returned v) ∧
      ((∃ ys : List (Pr ws tk p a), ys.map (·.1) = Rd.outs ws tk p a ws.length ∧ J ys W') ∨ (∃ pre : List (Pr ws tk p a), True ∧ Jx pre W')) := by
  have hlen := ch.len
  refine callsIn_of_wp Try.func48 rfl trivial ?_ rfl
  simp only [Try.ntmps48, List.size_toArray, List.length_cons, List.length_nil, Nat.reduceAdd, Nat.reduceSub, Array.replicate_succ, Array.replicate_zero, List.push_toArray, List.append_toArray, List.nil_append, List.cons_append]
  gi_wp2
  obtain ⟨len, hL⟩ : ∃ len, len = ws.length := ⟨_, rfl⟩
  have HL := Lib.hid hL; clear hL
  rw [← HL.out] at hlen ⊢
  gi_loopw [13] (fun i wr => ∃ (k : Nat) (pre : List (Pr ws tk p a)), k ≤ len ∧ i = .int .i64 k ∧ Hid (pre.map (·.1) = Rd.outs ws tk p a k) ∧ J pre wr ∧ Stay m mb W wr)
    (fun i _ => len - (intOf i).toNat)
  case atStart => exact ⟨0, [], Nat.zero_le _, rfl, rfl, h0, Stay.refl _ _ _⟩
  case round =>
    obtain ⟨k, pre, hk, rfl, hpre, hJs, hst⟩ := hrel
    by_cases hlt : k < len
    · have hkl : (k : Int) < ws.length := by rw [← HL.out]; omega
      have ok := ch.ways k (by omega) hkl
      obtain ⟨sb, so, rfl, hsb, h7⟩ := (hw.stay hst (by omega) (by omega)).at (k := k) (by rw [← HL.out]; exact hlt)
      have d0 := h7.c0; have d1 := h7.c1; have d2 := h7.c2; have d3 := h7.c3; have d4 := h7.c4; have d5 := h7.c5; have d6 := h7.c6
      clear h7
      have e0 := (hst.cell (o := 0) (b := cb) (by omega) (by omega)).trans c0
      have e2 := (hst.cell (o := 0) (b := cb + 1) (by omega) (by omega)).trans c2
      have e3 := (hst.cell (o := 0) (b := cb + 1 + 1) (by omega) (by omega)).trans c3
      have e4 := (hst.cell (o := 0) (b := cb + 1 + 1 + 1) (by omega) (by omega)).trans c4
      have hsz := hst.size
      have hb1 : cb < wr.heap.size := by omega
      have hb2 : cb + 1 < wr.heap.size := by omega
      have hb3 : cb + 1 + 1 < wr.heap.size := by omega
      have hb4 : cb + 1 + 1 + 1 < wr.heap.size := by omega
      have hb5 : sb < wr.heap.size := by omega
      by_cases hp : (Rd.way ws k).frm = p
      · have hpb : ((Rd.way ws k).frm != p) = false := by simpa using hp
        have HP := Lib.hid hp; clear hp
        gi_wp2_with fail
        refine ⟨trivial, (callsIn_wide.2 (leave_any (Rd.way ws k) nn a _ ok ha0 ha1)).mono ?_⟩
        rintro e w2 ⟨rfl, hb⟩
        have hlb := lvm_bd _ a nn ok ha0 ha1
        have htb := htk k (by omega) hkl
        have hball : Below wr.heap.size wr w2 := ((Below.refl _ _).alloc (Nat.le_refl _) _).trans (hb.mono (by simp))
        have hst2 : Stay m mb wr w2 := Stay.of_below hball (by omega)
        have hJ2 : J pre w2 := hJ pre wr _ none hJs (grownBy_of_below hball) (fun r e => by cases e)
        have hTk := hT k (by omega) hkl w2 (hst.trans hst2)
        have hsz2 := hball.size
        generalize hlv : Rd.lvm (Rd.way ws k) a = lv at *
        have HLV := Lib.hid hlv; clear hlv
        have f4 := (hst2.cell (o := 0) (b := cb + 1 + 1 + 1) (by omega) (by omega)).trans e4
        clear hb
        by_cases h2 : lv ≤ (Rd.way ws k).ohi
        · have htk1 := htb.1
          have htk2 := htb.2
          generalize htv : Rd.tkn tk k = t at *
          have HTV := Lib.hid htv; clear htv
          gi_wp2_with fail
          refine ⟨trivial, (callsIn_wide.2 hTk).mono ?_⟩
          rintro e w3 ⟨rfl, rfl⟩
          by_cases h3 : lv + t ≤ 1439
          · gi_wp2_with fail
            refine ⟨trivial, (callsIn_wide.2 hTk).mono ?_⟩
            rintro e w3 ⟨rfl, rfl⟩
            have hmem : (((k : Int), lv + t) : Int × Int) ∈ Rd.outs ws tk p a ws.length := Rd.mem_outs.2 ⟨by dsimp only; omega, hkl, HP.out, by dsimp only; rw [HLV.out]; exact h2, by dsimp only; rw [HLV.out, HTV.out]; exact h3, by dsimp only; rw [HLV.out, HTV.out]⟩
            have hpl : pre.length < ws.length := by
              have : (pre.map (·.1)).length = (Rd.outs ws tk p a k).length := by rw [hpre.out]
              rw [List.length_map] at this
              have := outs_len ws tk p a k
              omega
            have hnew : Hid ((pre ++ [(⟨((k : Int), lv + t), hmem⟩ : Pr ws tk p a)]).map (·.1) = Rd.outs ws tk p a (k + 1)) := by
              unfold Hid
              rw [outs_succ_yes HP.out (by rw [HLV.out]; exact h2) (by rw [HLV.out, HTV.out]; exact h3), List.map_append, hpre.out, HLV.out, HTV.out]
              rfl
            obtain ⟨fn, tmps, assign, body, hy, hR⟩ := hY pre ⟨((k : Int), lv + t), hmem⟩ w3 hJ2 hpl
            dsimp only at hy
            gi_wp2_with fail
            refine hR.mono ?_
            rintro e W4 (⟨rfl, hJ4, hk4⟩ | ⟨rfl, hJx4⟩)
            · gi_wp2_with fail
              go_roundw
              case rel => exact ⟨k + 1, _, by omega, by go_num, hnew, hJ4, (hst.trans hst2).trans hk4⟩
              case measure => simp [intOf]; omega
            · gi_wp2_with fail
              refine bodyPost_ret (results_none rfl _ _ _) rfl ?_
              exact ⟨⟨_, rfl⟩, .inr ⟨_, trivial, hJx4⟩⟩
          · gi_wp2_with fail
            repeat (refine ⟨fun _ h => (by cases h), ?_⟩; gi_wp2_with fail)
            go_roundw
            case rel => exact ⟨k + 1, pre, by omega, by go_num, by rw [outs_succ_no (fun h => by have h' := h.2.2; rw [HLV.out, HTV.out] at h'; omega)]; exact hpre, hJ2, hst.trans hst2⟩
            case measure => simp [intOf]; omega
        · gi_wp2_with fail
          repeat (refine ⟨fun _ h => (by cases h), ?_⟩; gi_wp2_with fail)
          go_roundw
          case rel => exact ⟨k + 1, pre, by omega, by go_num, by rw [outs_succ_no (fun h => by have h' := h.2.1; rw [HLV.out] at h'; omega)]; exact hpre, hJ2, hst.trans hst2⟩
          case measure => simp [intOf]; omega
      · have hpb : ((Rd.way ws k).frm != p) = true := by simpa using hp
        have HP := Lib.hid hp; clear hp
        gi_wp2_with fail
        go_roundw
        case rel => exact ⟨k + 1, pre, by omega, by go_num, by rw [outs_succ_no (fun h => HP.out h.1)]; exact hpre, hJ pre wr _ none hJs (World.grownBy_alloc _ _ _) (fun r e => by cases e), hst.trans (Stay.of_below ((Below.refl _ _).alloc (Nat.le_refl _) _) (by omega))⟩
        case measure => simp [intOf]; omega
    · obtain rfl : k = len := by omega
      gi_wp2
      go_end0
      exact ⟨⟨_, rfl⟩, .inl ⟨pre, by rw [hpre.out, HL.out], hJs⟩⟩
end Go.Proofs.Ytdmmjlhcjmdajaa
