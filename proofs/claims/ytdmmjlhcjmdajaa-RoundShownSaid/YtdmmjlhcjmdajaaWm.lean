/-
  The contract of CheckMarks.
  Its conditions stand in each theorem.
-/
import Derived.Test.YtdmmjlhcjmdajaaWl
import Derived.Sort.QuietThIn
import Derived.Sort.BigQuietIn
namespace Go.Proofs.Ytdmmjlhcjmdajaa
open Go.RowKit Go.Shelf Go.Maps
set_option linter.unusedVariables false
attribute [local go_sem] Oper.semAt_some

section
variable {F : Fence} {fu : Nat} {P : Program} {ops : Array Oper} {md : Region.Mode} {C : World → Prop}
/-- no operation of a region defers -/
def noDefer (ops : List Oper) : Bool := ops.all fun o => match o.op with | .defer _ => false | _ => true
theorem noDefer_spec {l : List Oper} (h : noDefer l = true) {i : Nat} {o : Oper} (ho : l.toArray[i]? = some o) : ∀ c, o.op ≠ .defer c := fun c e => by
  have hm : o ∈ l := List.mem_of_getElem? (by simpa using ho)
  have := List.all_eq_true.1 h o hm
  rw [e] at this
  cases this
theorem opIn_of_quiet_rd {o : Oper} {a : Act} {K : Act → Prop} {K' : Act → World → Prop} {Q' : Exit → Act → World → Prop} {w : World} (hnd : ∀ c, o.op ≠ .defer c) (hw : C w) (h : ∀ a w', C w' → K a → K' a w')
    (ha : o.askedIn F P a C) (hh : o.quietIn F fu P a C K) : o.wpIn F fu P a w K' Q' := by
  obtain ⟨v, h1, h2⟩ := hh
  have h3 := h1 w hw
  unfold Oper.quietAtIn at h3
  unfold Oper.wpIn
  refine ⟨ha w hw, ?_⟩
  rw [Oper.semAt_eq _ _ _ hnd]
  generalize (execOp a.eval o).run P w = r at *
  cases r with
  | ok x w' =>
    cases x <;> simp only [Oper.quietUponIn] at h3 <;> simp only [Oper.uponIn]
    case value u =>
      obtain ⟨e1, e2⟩ := h3
      rw [e1, e2]
      exact h _ _ hw h2
    case skip =>
      obtain ⟨e1, e2⟩ := h3
      rw [e1, ← e2]
      exact h _ _ hw h2
    case enter f args =>
      obtain ⟨e1, hd, hc⟩ := h3
      rw [e1]
      exact ⟨hd, hc.mono fun e w'' ⟨he, hw''⟩ => by subst he; exact h _ _ hw'' h2⟩
  | halt x w' => simp only [Oper.quietUponIn] at h3
theorem wpOpIn_of_qOpIn_rd {i : Nat} {a : Act} {K : Act → Prop} {K' : Act → World → Prop} {Q' : Exit → Act → World → Prop} {w : World} (hnd : ∀ (i : Nat) (o : Oper), ops[i]? = some o → ∀ c, o.op ≠ .defer c) (hC : C w) (h : ∀ a w', C w' → K a → K' a w')
    (hh : qOpIn F fu P ops C i K a) : wpOpIn F fu P ops Q' i K' a w := by
  unfold qOpIn at hh
  unfold wpOpIn
  split
  · rename_i ho; simp only [ho] at hh; exact h _ _ hC hh
  · rename_i o ho
    simp only [ho] at hh
    obtain ⟨ha, hh⟩ := hh
    split
    · rename_i hw; simp only [hw, if_true] at hh; exact opIn_of_quiet_rd (hnd i o ho) hC h ha hh
    · rename_i hw; simp only [hw] at hh; exact ⟨ha w hC, h _ _ hC hh⟩
theorem wpAnyIn_of_quiet_rd {Q : Act → Prop} {Q' : Exit → Act → World → Prop} (hnd : ∀ (i : Nat) (o : Oper), ops[i]? = some o → ∀ c, o.op ≠ .defer c) (hQ : ∀ a w, C w → Q a → Q' .normal a w) : ∀ (fuel : Nat) (listed : Array Bool) (a : Act) (w : World), C w →
    wpAnyQIn F fu P md ops C Q fuel listed a → wpAnyIn F fu P md ops Q' fuel listed a w
  | 0, _, _, _, hw, h => ⟨h.1, hQ _ _ hw h.2⟩
  | fuel + 1, _, _, _, hw, h => ⟨fun h0 => hQ _ _ hw (h.1 h0), fun i hi => wpOpIn_of_qOpIn_rd hnd hw (fun a' w' hw' => wpAnyIn_of_quiet_rd hnd hQ fuel _ a' w' hw') (h.2 i hi)⟩
/-- a region that only reads, in a round -/
theorem region_quiet_rd {id : Nat} {Q : Exit → Act → World → Prop} {a : Act} {w : World} {l : List Oper} (hnd : noDefer l = true) (hm : P.follows .mixedOrders = true) (hB : Region.lexB .any l.toArray = true)
    (h : wpQuietIn F fu P l.toArray (fun w' => ∃ n, w' = w.drewN n) (fun a' => ∀ w', (∃ n, w' = w.drewN n) → Q .normal a' w') l a) : (Code.region id l.toArray true).wpIn F fu P Q a w := by
  simp only [Region.lexB, Bool.and_eq_true] at hB
  refine wpIn_region_any hm (wpAnyIn_of_quiet_rd (C := fun w' => ∃ n, w' = w.drewN n) (Q := fun a' => ∀ w', (∃ n, w' = w.drewN n) → Q .normal a' w') (fun i o ho => noDefer_spec hnd ho) (fun _ w' hw' h => h w' hw') _ _ _ _ ⟨1, rfl⟩ ?_)
  have := wpAnyQIn_lex (F := F) (n := fu) (C := fun w' => ∃ n, w' = w.drewN n) (md := .any) hB.1 l 0 (Array.replicate l.length false) a (by simp) (by simpa using hB.2) h
  simpa using this
end

theorem leaves_marks2 {fn : Func} {tmps : Array Value} {n : Nat} {R : Ending → World → Prop} {v : Value} (n0 : Nat) : ∀ (rs : List Nat) (W : World), (∀ W', PutMarks n0 W W' → (results fn tmps).run Try.prog W' = .ok v W') → rs.Nodup → (∀ r ∈ rs, n0 ≤ r ∧ W.heap[r]? = some (.deferred (some []))) →
    (∀ W', PutMarks n0 W W' → R (.returned v) W') → LeavesInM Fence.wide n Try.prog fn tmps R (rs.map mk) .returning W
  | [], W, hres, _, _, hR => ⟨v, hres W ⟨rfl, rfl, rfl, rfl, fun _ _ h _ => h⟩, hR W ⟨rfl, rfl, rfl, rfl, fun _ _ h _ => h⟩⟩
  | r :: rs, W, hres, hnd, hr, hR => by
    obtain ⟨hnr, hnd'⟩ := List.nodup_cons.1 hnd
    have h0 := hr r (by simp)
    refine ⟨by simp, .inl ⟨r, _, rfl, run_takeDeferred h0.2, ?_⟩⟩
    have key : ∀ W', PutMarks n0 (W.putObj r (.deferred none)) W' → PutMarks n0 W W' := fun W' h => by
      refine ⟨h.os, h.tape, h.output, by rw [h.size]; simp, fun k o hk hc => h.block k o ?_ hc⟩
      refine (World.putObj_heap_other (fun e => ?_)).trans hk
      subst e
      rw [h0.2] at hk
      cases hk
      rcases hc with hc | hc
      · omega
      · exact hc _ rfl
    exact leaves_marks2 n0 rs _ (fun W' h => hres W' (key W' h)) hnd' (fun q hq => ⟨(hr q (by simp [hq])).1, (World.putObj_heap_other (fun e => hnr (by rw [← e]; exact hq))).trans (hr q (by simp [hq])).2⟩) (fun W' h => hR W' (key W' h))

theorem results7 (tmps : Array Value) (W : World) (b : Nat) (v : Int) (ht : tmps.getD 8 undef = .pointer (some ⟨b, 0, none⟩)) (hc : W.cell? ⟨b, 0, none⟩ = some (.int .i64 v)) : (results Try.f7 tmps).run Try.prog W = .ok (.int .i64 v) W := by
  have ht' : tmps[8]?.getD undef = .pointer (some ⟨b, 0, none⟩) := by simpa using ht
  have h2 : (loadVar 37 ⟨b, 0, none⟩).run Try.prog W = .ok (.int .i64 v) W := by
    simp [loadVar, go_sem, hc]
  simp [results, ht', asAddr, h2]

theorem not24 (m : Int) (w : World) : Calls Try.prog 24 (#[.int .i64 m] ++ #[]) w fun e w' => e = .returned (.bool (!(decide (-1 ≤ m ∧ m ≤ 1439)))) ∧ w' = w := by
  by_cases h : -1 ≤ m ∧ m ≤ 1439
  · go_enter Try.func24, Try.ntmps24
    go_wp2_with (go_at_call 25; refine (within_yes _ _ _ _ h.1 h.2).mono ?_; rintro e w' ⟨rfl, rfl⟩)
    go_ret
    exact ⟨by simp [h], rfl⟩
  · go_enter Try.func24, Try.ntmps24
    go_wp2_with (go_at_call 25; refine (within_no _ _ _ _ h).mono ?_; rintro e w' ⟨rfl, rfl⟩)
    go_ret
    exact ⟨by simp [h], rfl⟩

theorem within_any (n lo hi : Int) (w : World) : Calls Try.prog 25 #[.int .i64 n, .int .i64 lo, .int .i64 hi] w fun e w' => e = .returned (.bool (decide (lo ≤ n ∧ n ≤ hi))) ∧ w' = w := by
  by_cases h : lo ≤ n ∧ n ≤ hi
  · refine (within_yes _ _ _ _ h.1 h.2).mono ?_
    rintro e w' ⟨rfl, rfl⟩
    exact ⟨by simp [h], rfl⟩
  · refine (within_no _ _ _ _ h).mono ?_
    rintro e w' ⟨rfl, rfl⟩
    exact ⟨by rw [decide_eq_false h], rfl⟩

def MarksPost (n : Nat) (ws : List Rd.Wy) (p a : Int) (M : List Int) (w : World) (e : Ending) (w' : World) : Prop :=
  ∃ c, e = .returned (.int .i64 c) ∧ (c = 0 ↔ Rd.Shows ws n p a M) ∧ Below w.heap.size w w'


/-- at place i the marks are closed -/
def CL (ws : List Rd.Wy) (M : List Int) (i : Int) : Prop := 0 ≤ Rd.mrk M i → ∀ q ∈ Rd.outs ws (Rd.his ws) i (Rd.mrk M i) ws.length, 0 ≤ Rd.mrk M (Rd.way ws q.1).to ∧ Rd.mrk M (Rd.way ws q.1).to ≤ q.2

/-- the relation of the loop of CheckMarks -/
def RK (w w3 : World) (n : Nat) (sa : Option Addr) (cap : Nat) (ws : List Rd.Wy) (pk : Nat) (a : Int) (mb mo mcap : Nat) (M : List Int) (d : Nat) (a' : Act) (W : World) : Prop :=
  ∃ (u : Nat → Value) (ds : List Deferred) (k : Nat), (Below w3.heap.size w3 W ∧ k + d = n ∧ (∀ i : Nat, i < k → CL ws M i) ∧ Marks w3.heap.size W ds) ∧ a' = { tmps := #[cv n sa ws.length cap, .int .i64 (pk : Int), .int .i64 a, .slice (some ⟨mb, mo, none⟩) n mcap, .pointer (some ⟨w.heap.size, 0, none⟩), undef, undef, .pointer (some ⟨w.heap.size + 1, 0, none⟩), .pointer (some ⟨w.heap.size + 1 + 1, 0, none⟩), .int .i64 0, (u 10), (u 11), (u 12), (u 13), (u 14), .agg #[.int .i64 n, .slice sa ws.length cap], .int .i64 a, .int .i64 (pk : Int), .slice (some ⟨w.heap.size + 1 + 1 + 1, 0, none⟩) 1 1, .int .i64 0, .int .i64 0, .bool false, undef, .slice (some ⟨mb, mo, none⟩) n mcap, .int .i64 n, .pointer (some ⟨w.heap.size, 0, none⟩), .int .i64 n, .bool false, .bool false, .slice (some ⟨mb, mo, none⟩) n mcap, .bool false, .bool false, .bool false, .slice (some ⟨mb, mo, none⟩) n mcap, .int .i64 (pk : Int), .pointer (some ⟨mb, mo + pk, none⟩), .int .i64 (Rd.mrk M pk), .int .i64 a, .bool true, .bool false, .bool false, .slice (some ⟨mb, mo, none⟩) n mcap, .int .i64 n, .int .i64 (k : Nat), (u 44), (u 45), (u 46), (u 47), (u 48), (u 49), (u 50), (u 51), (u 52), (u 53), (u 54), (u 55), (u 56), (u 57), (u 58), (u 59), (u 60), (u 61), (u 62), (u 63), (u 64), (u 65), (u 66), (u 67), (u 68), (u 69), (u 70), (u 71), (u 72), (u 73), (u 74)], defers := ds }
theorem RK.intro {w w3 : World} {n : Nat} {sa : Option Addr} {cap : Nat} {ws : List Rd.Wy} {pk : Nat} {a : Int} {mb mo mcap : Nat} {M : List Int} {d : Nat} {a' : Act} {W : World} {ds : List Deferred} {k : Nat} (h1 : Below w3.heap.size w3 W) (h2 : k + d = n) (h3 : ∀ i : Nat, i < k → CL ws M i) (h4 : Marks w3.heap.size W ds) (u : Nat → Value)
  (h : a' = { tmps := #[cv n sa ws.length cap, .int .i64 (pk : Int), .int .i64 a, .slice (some ⟨mb, mo, none⟩) n mcap, .pointer (some ⟨w.heap.size, 0, none⟩), undef, undef, .pointer (some ⟨w.heap.size + 1, 0, none⟩), .pointer (some ⟨w.heap.size + 1 + 1, 0, none⟩), .int .i64 0, (u 10), (u 11), (u 12), (u 13), (u 14), .agg #[.int .i64 n, .slice sa ws.length cap], .int .i64 a, .int .i64 (pk : Int), .slice (some ⟨w.heap.size + 1 + 1 + 1, 0, none⟩) 1 1, .int .i64 0, .int .i64 0, .bool false, undef, .slice (some ⟨mb, mo, none⟩) n mcap, .int .i64 n, .pointer (some ⟨w.heap.size, 0, none⟩), .int .i64 n, .bool false, .bool false, .slice (some ⟨mb, mo, none⟩) n mcap, .bool false, .bool false, .bool false, .slice (some ⟨mb, mo, none⟩) n mcap, .int .i64 (pk : Int), .pointer (some ⟨mb, mo + pk, none⟩), .int .i64 (Rd.mrk M pk), .int .i64 a, .bool true, .bool false, .bool false, .slice (some ⟨mb, mo, none⟩) n mcap, .int .i64 n, .int .i64 (k : Nat), (u 44), (u 45), (u 46), (u 47), (u 48), (u 49), (u 50), (u 51), (u 52), (u 53), (u 54), (u 55), (u 56), (u 57), (u 58), (u 59), (u 60), (u 61), (u 62), (u 63), (u 64), (u 65), (u 66), (u 67), (u 68), (u 69), (u 70), (u 71), (u 72), (u 73), (u 74)], defers := ds }) : RK w w3 n sa cap ws pk a mb mo mcap M d a' W := ⟨u, ds, k, ⟨h1, h2, h3, h4⟩, h⟩


theorem marks_rng {n : Nat} {M : List Int} (hM : M.length = n) (h : false = true ↔ ∃ j, j < n ∧ (!(decide (-1 ≤ Rd.mrk M j ∧ Rd.mrk M j ≤ 1439))) = true) : ∀ m ∈ M, -1 ≤ m ∧ m ≤ 1439 := by
  intro m hm
  obtain ⟨i, hi, rfl⟩ := List.mem_iff_getElem.1 hm
  have hmr : Rd.mrk M i = M[i] := by simp [Rd.mrk, List.getD_eq_getElem?_getD, hi]
  by_cases hc : -1 ≤ Rd.mrk M i ∧ Rd.mrk M i ≤ 1439
  · rw [hmr] at hc; exact hc
  · exact absurd (h.2 ⟨i, by omega, by simp [decide_eq_false hc]⟩) (by simp)

theorem marks_bad {n : Nat} {ws : List Rd.Wy} {p a : Int} {M : List Int} (hM : M.length = n) (h : Rd.Shows ws n p a M) : ¬ (True ↔ ∃ j, j < n ∧ (!(decide (-1 ≤ Rd.mrk M j ∧ Rd.mrk M j ≤ 1439))) = true) := by
  intro hh
  obtain ⟨j, hj, h2⟩ := hh.1 trivial
  have hmr : Rd.mrk M j = M[j] := by simp [Rd.mrk, List.getD_eq_getElem?_getD, show j < M.length by omega]
  have := h.rng M[j] (List.getElem_mem _)
  rw [hmr, decide_eq_true this] at h2
  cases h2

theorem mrk_mem {M : List Int} {k : Nat} (h : k < M.length) : Rd.mrk M k ∈ M := by
  have hmr : Rd.mrk M k = M[k] := by simp [Rd.mrk, List.getD_eq_getElem?_getD, h]
  rw [hmr]; exact List.getElem_mem _

theorem fin7 {n : Nat} {ws : List Rd.Wy} {p a : Int} {M : List Int} {w : World} (c : Int) (tmps : Array Value) (W : World) (n0 b : Nat) (ds : List Deferred) (hb : b < n0) (hn0 : w.heap.size ≤ n0) (ht : tmps.getD 8 undef = .pointer (some ⟨b, 0, none⟩)) (hc : W.cell? ⟨b, 0, none⟩ = some (.int .i64 c)) (hbl : Below w.heap.size w W) (hmk : Marks n0 W ds) (hS : c = 0 ↔ Rd.Shows ws n p a M) :
    LeavesInM Fence.wide 9 Try.prog Try.f7 tmps (MarksPost n ws p a M w) ds .returning W := by
  obtain ⟨rs, rfl, hnd, hrs⟩ := hmk
  refine leaves_marks2 n0 rs W (fun W' h => results7 tmps W' b c ht ?_) hnd hrs (fun W' h => ⟨c, rfl, hS, below_putMarks (n0 := w.heap.size) hbl ⟨h.os, h.tape, h.output, h.size, fun k o hk hc => h.block k o hk (hc.imp (fun h => by omega) id)⟩⟩)
  refine (World.cell?_of_block (w := W) (a := ⟨b, 0, none⟩) ?_).trans hc
  have hlt := World.block_lt_of_cell? W ⟨b, 0, none⟩ hc
  obtain ⟨o, ho⟩ : ∃ o, W.heap[b]? = some o := ⟨_, Array.getElem?_eq_getElem hlt⟩
  exact (h.block b o ho (.inl hb)).trans ho.symm

set_option maxRecDepth 100000 in
set_option maxHeartbeats 4000000 in
theorem checkMarks_any (n : Nat) (sa : Option Addr) (cap : Nat) (ws : List Rd.Wy) (p a : Int) (ma : Option Addr) (mcap : Nat) (M : List Int) (w : World) (ch : IsChart w.heap.size w sa ws n) (hM : M.length = n) (hi : Ints w.heap.size w ma M) (hp0 : 0 ≤ p) (hp1 : p < n) (ha0 : 0 ≤ a) (ha1 : a ≤ 1439) :
   Calls Try.prog 7 #[cv n sa ws.length cap, .int .i64 p, .int .i64 a, .slice ma n mcap] w (MarksPost n ws p a M w) := by
  obtain ⟨pk, rfl⟩ : ∃ pk : Nat, p = pk := ⟨p.toNat, by omega⟩
  have hi0 := hi
  rcases hi with h | ⟨mb, mo, rfl, hmb, hmc⟩
  · subst h; simp at hM; omega
  have hn2 := ch.ch.n2
  have hp' : ∀ j : Nat, j < [(pk : Int)].length → 0 ≤ Rd.mrk [(pk : Int)] j ∧ Rd.mrk [(pk : Int)] j < n := fun j hj => by
    have : j = 0 := by simpa using hj
    subst this
    exact ⟨hp0, hp1⟩
  have HP := Lib.hid hp'; clear hp'
  have hb0 : Below w.heap.size w ((((w.alloc (Obj.cells #[Value.int IntKind.i64 ↑n, Value.slice sa ws.length cap] 31)).alloc (Obj.cells #[Value.slice (some ⟨mb, mo, none⟩) n mcap] 27)).alloc (Obj.cells #[Value.int .i64 0] 37)).alloc (Obj.cells #[Value.int .i64 (pk : Int)] 3)) := ((((Below.refl _ _).alloc (Nat.le_refl _) _).alloc (by simp) _).alloc (by simp; omega) _).alloc (by simp; omega) _
  refine callsIn_wide (n := 9) |>.1 ?_
  refine callsIn_of_wp_marks Try.func7 rfl trivial ?_ rfl
  simp only [Try.ntmps7, List.size_toArray, List.length_cons, List.length_nil, Nat.reduceAdd, Nat.reduceSub, Array.replicate_succ, Array.replicate_zero, List.push_toArray, List.append_toArray, List.nil_append, List.cons_append]
  refine wpIn_wide.2 ?_
  go_wp2_with fail
  refine (placeOf_ok n sa cap ws a (some ⟨w.heap.size + 1 + 1 + 1, 0, none⟩) 1 [(pk : Int)] _ ((ch.below hb0).mono (by simp; omega)) ha0 ha1 (by simp) (ints_one (by rw [World.cell?_alloc_at _ _ _ _ (by simp)]; rfl) (by simp)) HP.out).mono ?_
  rintro e w1 ⟨rfl, hb1⟩
  have hb2 : Below w.heap.size w w1 := hb0.trans (hb1.mono (by simp; omega))
  have hs1 := hb1.size
  simp only [World.size_alloc] at hs1
  have c0 : w1.cell? ⟨w.heap.size, 0, none⟩ = some (.int .i64 n) := by rw [hb1.cell (p := ⟨w.heap.size, 0, none⟩) (by simp; omega)]; rw [World.cell?_alloc_past _ _ _ (by simp <;> omega), World.cell?_alloc_past _ _ _ (by simp <;> omega), World.cell?_alloc_past _ _ _ (by simp <;> omega)]; simp
  have c1 : w1.cell? ⟨w.heap.size, 1, none⟩ = some (.slice sa ws.length cap) := by rw [hb1.cell (p := ⟨w.heap.size, 1, none⟩) (by simp; omega)]; rw [World.cell?_alloc_past _ _ _ (by simp <;> omega), World.cell?_alloc_past _ _ _ (by simp <;> omega), World.cell?_alloc_past _ _ _ (by simp <;> omega)]; simp
  have d0 : w1.cell? ⟨w.heap.size + 1, 0, none⟩ = some (.slice (some ⟨mb, mo, none⟩) n mcap) := by rw [hb1.cell (p := ⟨w.heap.size + 1, 0, none⟩) (by simp <;> omega)]; rw [World.cell?_alloc_past _ _ _ (by simp <;> omega), World.cell?_alloc_past _ _ _ (by simp <;> omega)]; rw [World.cell?_alloc_at _ _ _ _ (by simp)]; rfl
  have e0 : w1.cell? ⟨w.heap.size + 1 + 1, 0, none⟩ = some (.int .i64 0) := by rw [hb1.cell (p := ⟨w.heap.size + 1 + 1, 0, none⟩) (by simp <;> omega)]; rw [World.cell?_alloc_past _ _ _ (by simp <;> omega)]; rw [World.cell?_alloc_at _ _ _ _ (by simp)]; rfl
  have e1 : w1.frozen? ⟨w.heap.size + 1 + 1, 0, none⟩ = false := by rw [hb1.frozen (p := ⟨w.heap.size + 1 + 1, 0, none⟩) (by simp <;> omega)]; rw [World.frozen?_alloc_past _ _ _ (by simp <;> omega)]; exact World.frozen?_alloc_at _ _ _ _ (by simp)
  have hi1 : Ints w.heap.size w1 (some ⟨mb, mo, none⟩) M := hi0.below hb2
  clear hb1 hb0
  have hlt : w.heap.size < w1.heap.size := by omega
  have hlt1 : w.heap.size + 1 < w1.heap.size := by omega
  have hlt2 : w.heap.size + 1 + 1 < w1.heap.size := by omega
  have hcon := contains23 (some ⟨mb, mo, none⟩) mcap M (by omega) w1.heap.size w1 (hi1.mono (by omega)) 24 #[] (fun j => !(decide (-1 ≤ Rd.mrk M j ∧ Rd.mrk M j ≤ 1439))) (enters_of Try.func24 (by kernel_rfl) rfl) (fun j hj W' hW => (not24 _ _).mono (by rintro e w' ⟨rfl, rfl⟩; exact ⟨rfl, Below.refl _ _⟩))
  rw [hM] at hcon
  go_wp2_with fail
  refine hcon.mono ?_
  rintro e w2 ⟨b, rfl, hbb, hb3⟩
  have x0 := (hb3.cell (p := ⟨w.heap.size, 0, none⟩) hlt).trans c0
  have x1 := (hb3.cell (p := ⟨w.heap.size, 1, none⟩) hlt).trans c1
  have y0 := (hb3.cell (p := ⟨w.heap.size + 1, 0, none⟩) hlt1).trans d0
  have z0 := (hb3.cell (p := ⟨w.heap.size + 1 + 1, 0, none⟩) hlt2).trans e0
  have z1 := (hb3.frozen (p := ⟨w.heap.size + 1 + 1, 0, none⟩) hlt2).trans e1
  have hm2 := (hb3.cell (p := ⟨mb, mo + pk, none⟩) (by show mb < _; omega)).trans ((hb2.cell (p := ⟨mb, mo + pk, none⟩) hmb).trans (hmc pk (by omega)))
  have hb4 : Below w.heap.size w w2 := hb2.trans (hb3.mono (by omega))
  have hs2 := hb3.size
  have hlt2' : w.heap.size + 1 + 1 < w2.heap.size := by omega
  clear c0 c1 d0 e0 e1 hb3 hb2 hcon hi1
  cases b with
  | true =>
    have HB := Lib.hid hbb; clear hbb
    go_wp2_with fail
    refine fin7 37 _ _ w2.heap.size (w.heap.size + 1 + 1) [] hlt2' (by omega) rfl (World.cell?_setCell_same _ _ _ z0) (hb4.setCell (p := ⟨w.heap.size + 1 + 1, 0, none⟩) (by show _ ≤ w.heap.size + 1 + 1; omega) _) (Marks.nil _ _) ⟨fun h => absurd h (by decide), fun h => absurd HB.out (marks_bad hM h)⟩
  | false =>
    have HB := Lib.hid hbb; clear hbb
    go_wp2_with fail
    refine (within_any _ _ _ _).mono ?_
    rintro e w3 ⟨rfl, rfl⟩
    by_cases hbeg : 0 ≤ Rd.mrk M pk ∧ Rd.mrk M pk ≤ a
    · have HBG := Lib.hid hbeg
      rw [decide_eq_true hbeg]
      clear hbeg
      go_wp2_with fail
      refine wp_loop_ghost_k (RK w w3 n sa cap ws pk a mb mo mcap M) n ?_ ?_
      · exact RK.intro (k := 0) (Below.refl _ _) (by omega) (fun i hi => by omega) (Marks.nil _ _) (fun _ => undef) rfl
      · rintro gk _ wo ⟨u, ds, k, ⟨hbo, hkn, hcl, hmk⟩, rfl⟩ J K hJ hK
        have HMK := Lib.hid hmk; clear hmk
        have HCL := Lib.hid hcl; clear hcl
        have v0 := (hbo.cell (p := ⟨w.heap.size, 0, none⟩) (by show w.heap.size < _; omega)).trans x0
        have v1 := (hbo.cell (p := ⟨w.heap.size, 1, none⟩) (by show w.heap.size < _; omega)).trans x1
        have v2 := (hbo.cell (p := ⟨w.heap.size + 1, 0, none⟩) (by show w.heap.size + 1 < _; omega)).trans y0
        have v3 := (hbo.cell (p := ⟨w.heap.size + 1 + 1, 0, none⟩) (by show w.heap.size + 1 + 1 < _; omega)).trans z0
        have v4 := (hbo.frozen (p := ⟨w.heap.size + 1 + 1, 0, none⟩) (by show w.heap.size + 1 + 1 < _; omega)).trans z1
        have hbw : Below w.heap.size w wo := hb4.trans (hbo.mono (by omega))
        have hso := hbo.size
        by_cases hlt : k < n
        · have hmk2 := (hbw.cell (p := ⟨mb, mo + k, none⟩) hmb).trans (hmc k (by omega))
          by_cases hneg : Rd.mrk M k < 0
          · go_wp2_with fail
            refine Handed.intro (gk - 1) (by omega) (hJ _ _ _ (RK.intro (k := k + 1) hbo (by omega) (fun i hi => ?_) HMK.out (fun q => List.getD [cv n sa ws.length cap, .int .i64 (pk : Int), .int .i64 a, .slice (some ⟨mb, mo, none⟩) n mcap, .pointer (some ⟨w.heap.size, 0, none⟩), undef, undef, .pointer (some ⟨w.heap.size + 1, 0, none⟩), .pointer (some ⟨w.heap.size + 1 + 1, 0, none⟩), .int .i64 0, .int .i64 k, .int .i64 (Rd.mrk M k), (u 12), (u 13), (u 14), .agg #[.int .i64 n, .slice sa ws.length cap], .int .i64 a, .int .i64 (pk : Int), .slice (some ⟨w.heap.size + 1 + 1 + 1, 0, none⟩) 1 1, .int .i64 0, .int .i64 0, .bool false, undef, .slice (some ⟨mb, mo, none⟩) n mcap, .int .i64 n, .pointer (some ⟨w.heap.size, 0, none⟩), .int .i64 n, .bool false, .bool false, .slice (some ⟨mb, mo, none⟩) n mcap, .bool false, .bool false, .bool false, .slice (some ⟨mb, mo, none⟩) n mcap, .int .i64 (pk : Int), .pointer (some ⟨mb, mo + pk, none⟩), .int .i64 (Rd.mrk M pk), .int .i64 a, .bool true, .bool false, .bool false, .slice (some ⟨mb, mo, none⟩) n mcap, .int .i64 n, .int .i64 (k + 1), .bool true, .int .i64 k, .pointer (some ⟨mb, mo + k, none⟩), .int .i64 (Rd.mrk M k), .int .i64 (Rd.mrk M k), .bool true, (u 50), (u 51), (u 52), (u 53), (u 54), (u 55), (u 56), (u 57), (u 58), (u 59), (u 60), (u 61), (u 62), (u 63), (u 64), (u 65), (u 66), (u 67), (u 68), (u 69), (u 70), (u 71), (u 72), (u 73), .int .i64 (k + 1)] q undef) rfl))
            by_cases e : i = k
            · subst e; exact fun h => absurd h (by omega)
            · exact HCL.out i (by omega)
          · have hlt0 : w.heap.size < wo.heap.size := by omega
            have hmr := marks_rng hM HB.out (Rd.mrk M k) (mrk_mem (by omega))
            go_wp2_with fail
            have hbD : Below wo.heap.size wo (wo.alloc (Obj.cells #[Value.int IntKind.i64 ↑n, Value.slice sa ws.length cap] 31)).drew := ((Below.refl _ _).alloc (Nat.le_refl _) _).drew
            have hsD : (wo.alloc (Obj.cells #[Value.int IntKind.i64 ↑n, Value.slice sa ws.length cap] 31)).drew.heap.size = wo.heap.size + 1 := by show (wo.alloc _).heap.size = _; simp
            have hxD : (wo.alloc (Obj.cells #[Value.int IntKind.i64 ↑n, Value.slice sa ws.length cap] 31)).drew.cell? ⟨wo.heap.size, 1, none⟩ = some (.slice sa ws.length cap) := by show (wo.alloc _).cell? _ = _; simp
            have HD := Lib.hid (And.intro hbD (And.intro hsD hxD)); clear hbD hsD hxD
            go_region_held3 (fun w' => w'.cell? ⟨w.heap.size, 0, none⟩ = some (.int .i64 n) ∧ w'.cell? ⟨w.heap.size, 1, none⟩ = some (.slice sa ws.length cap)) (first | exact ⟨v0, v1⟩ | exact ⟨g0, g1⟩ | go_keep)
             (first
              | (go_at_call 22; refine (most_any _ _ _ _ _).mono ?_; rintro e wm ⟨rfl, rfl⟩)
              | (go_at_call 26; refine (from_any2 n sa ws.length cap _ _ 46 _ _).mono ?_; rintro e W7 ⟨rfl, hW7⟩; have hb7 : Below wo.heap.size wo W7 := HD.out.1.trans (hW7.bel.mono (by rw [HD.out.2.1]; omega)); have g0 := (hb7.cell (p := ⟨w.heap.size, 0, none⟩) hlt0).trans v0; have g1 := (hb7.cell (p := ⟨w.heap.size, 1, none⟩) hlt0).trans v1))
            have F0 := hW7.f0; have F1 := hW7.f1; have F2 := hW7.f2; have F3 := hW7.f3; have F4 := hW7.f4
            have hs7 := hW7.size
            rw [HD.out.2.1] at F0 F1 F2 F3 F4 hs7
            have fp := (hW7.bel.cell (p := ⟨wo.heap.size, 1, none⟩) (by rw [HD.out.2.1]; show wo.heap.size < _; omega)).trans HD.out.2.2
            have g2 := (hb7.cell (p := ⟨w.heap.size + 1, 0, none⟩) (by show w.heap.size + 1 < _; omega)).trans v2
            have g3 := (hb7.cell (p := ⟨w.heap.size + 1 + 1, 0, none⟩) (by show w.heap.size + 1 + 1 < _; omega)).trans v3
            have g4 := (hb7.frozen (p := ⟨w.heap.size + 1 + 1, 0, none⟩) (by show w.heap.size + 1 + 1 < _; omega)).trans v4
            have hbel7 : Below w.heap.size w W7 := hbw.trans (hb7.mono (by omega))
            have hl8 : w.heap.size + 1 + 1 < W7.heap.size := by omega
            clear hW7 HD
            have HF := Lib.hid (And.intro F0 (And.intro F1 (And.intro F2 (And.intro F3 F4)))); clear F0 F1 F2 F3 F4
            go_wp2_with fail
            refine (wpIn_wide (n := 9)).1 ?_
            refine wpIn_rangeFunc_ownG (α := Pr ws (Rd.his ws) k (Rd.mrk M k)) (F := Fence.wide) rfl (by omega) (gf := 48) (lb := #[.pointer (some ⟨wo.heap.size + 1, 0, none⟩), .pointer (some ⟨wo.heap.size + 1 + 1, 0, none⟩), .pointer (some ⟨wo.heap.size + 1 + 1 + 1, 0, none⟩), .pointer (some ⟨wo.heap.size + 1 + 1 + 1 + 1, 0, none⟩)]) rfl trivial (enters_of Try.func48 (by kernel_rfl) rfl)
              (from_stops 8 n (by omega) (wo.heap.size + 1) (wo.heap.size + 5) (w.heap.size + 1 + 1) sa cap ws (Rd.his ws) k (Rd.mrk M k) 46 #[.pointer (some ⟨wo.heap.size, 0, none⟩)] w.heap.size (by omega) (by omega) (by omega) ch.ch (by omega) hmr.2 (his_bd ch.ch) W7 (by omega) (ch.wy.below hbel7) (enters_of Try.func46 (by kernel_rfl) rfl)
                (fun i h0 hl W' hW => most1 w.heap.size wo.heap.size sa cap ws ch.ch.len W' i h0 hl ((ch.wy.below hbel7).stay hW (by omega) (by omega)) ((hW.cell (by omega) (by omega)).trans fp)) HF.out.1 HF.out.2.1 HF.out.2.2.1 HF.out.2.2.2.1 HF.out.2.2.2.2)
              (fun h k => h.trans k) (fun W l o o' hl ho _ _ => ⟨by simp, fun q hq _ => World.putObj_heap_other (by omega)⟩) (Below.refl _ _) (fun _ => rfl)
              (fun (pre : List (Pr ws (Rd.his ws) k (Rd.mrk M k))) W => Below W7.heap.size W7 W ∧ ∀ q ∈ pre, 0 ≤ Rd.mrk M (Rd.way ws q.1.1).to ∧ Rd.mrk M (Rd.way ws q.1.1).to ≤ q.1.2)
              (fun c _ W => c = .ret ∧ W7.grownBy W (some (w.heap.size + 1 + 1)) ∧ W.cell? ⟨w.heap.size + 1 + 1, 0, none⟩ = some (.int .i64 37) ∧ ¬ Rd.Shows ws n pk a M)
              (fun s A B row hs hg hr => ⟨hs.1.grown hg hs.1.size (fun q e => (hr q e).1), hs.2⟩)
              (fun c s A B row hs hg hr => ⟨hs.1, ⟨hg.os.trans hs.2.1.os, hg.tape.trans hs.2.1.tape, hg.output.trans hs.2.1.output, Nat.le_trans hs.2.1.size hg.size, fun q hq hne => (hg.block q (Nat.lt_of_lt_of_le hq hs.2.1.size) (fun e => by have := (hr q e.symm).1; omega)).trans (hs.2.1.block q hq hne)⟩,
                 (World.cell?_of_block (w := A) (a := ⟨w.heap.size + 1 + 1, 0, none⟩) (hg.block (w.heap.size + 1 + 1) (Nat.lt_of_lt_of_le hl8 hs.2.1.size) (fun e => by have := (hr _ e.symm).1; omega))).trans hs.2.2.1, hs.2.2.2⟩)
              ⟨Below.refl _ _, fun q hq => by cases hq⟩
              (fun y => { tmps := #[cv n sa ws.length cap, .int .i64 (pk : Int), .int .i64 a, .slice (some ⟨mb, mo, none⟩) n mcap, .pointer (some ⟨w.heap.size, 0, none⟩), undef, undef, .pointer (some ⟨w.heap.size + 1, 0, none⟩), .pointer (some ⟨w.heap.size + 1 + 1, 0, none⟩), .int .i64 0, .int .i64 (k : Nat), .int .i64 (Rd.mrk M k), .int .i64 y.1.1, .int .i64 y.1.2, (u 14), .agg #[.int .i64 n, .slice sa ws.length cap], .int .i64 a, .int .i64 (pk : Int), .slice (some ⟨w.heap.size + 1 + 1 + 1, 0, none⟩) 1 1, .int .i64 0, .int .i64 0, .bool false, undef, .slice (some ⟨mb, mo, none⟩) n mcap, .int .i64 n, .pointer (some ⟨w.heap.size, 0, none⟩), .int .i64 n, .bool false, .bool false, .slice (some ⟨mb, mo, none⟩) n mcap, .bool false, .bool false, .bool false, .slice (some ⟨mb, mo, none⟩) n mcap, .int .i64 (pk : Int), .pointer (some ⟨mb, mo + pk, none⟩), .int .i64 (Rd.mrk M pk), .int .i64 a, .bool true, .bool false, .bool false, .slice (some ⟨mb, mo, none⟩) n mcap, .int .i64 n, .int .i64 (k : Nat), .bool true, .int .i64 (k : Nat), .pointer (some ⟨mb, mo + k, none⟩), .int .i64 (Rd.mrk M k), .int .i64 (Rd.mrk M k), .bool false, .agg #[.int .i64 n, .slice sa ws.length cap], .int .i64 (k : Nat), .int .i64 (Rd.mrk M k), .agg #[.int .i64 n, .slice sa ws.length cap], .func (.func 46) #[] #[.pointer (some ⟨wo.heap.size, 0, none⟩)], .func (.func 48) #[] #[.pointer (some ⟨wo.heap.size + 1, 0, none⟩), .pointer (some ⟨wo.heap.size + 1 + 1, 0, none⟩), .pointer (some ⟨wo.heap.size + 1 + 1 + 1, 0, none⟩), .pointer (some ⟨wo.heap.size + 1 + 1 + 1 + 1, 0, none⟩)], .int .i64 y.1.1, .int .i64 y.1.2, (u 58), (u 59), (u 60), (u 61), (u 62), (u 63), (u 64), (u 65), (u 66), (u 67), (u 68), (u 69), (u 70), (u 71), (u 72), (u 73), (u 74)], defers := [] }) ?assign ?body ?done ?stop
            case assign =>
              intro l y W K hK
              gi_wp2
              exact hK
            case body =>
              rintro l pre y W ⟨hbelW, hok⟩ hlen
              obtain ⟨⟨yi, ye⟩, hy⟩ := y
              dsimp only
              obtain ⟨q0, q1, q2, q3, q4, q5⟩ := Rd.mem_outs.1 hy
              dsimp only at q0 q1 q2 q3 q4 q5
              have wk := ch.ch.ways yi q0 q1
              have hl40 := ch.ch.len
              have hsW := hbelW.size
              have hye1 : 0 ≤ ye := by have := Rd.lvm_ge (Rd.way ws yi) (Rd.mrk M k); have := his_bd ch.ch yi q0 q1; omega
              have hye2 : ye ≤ 1439 := by omega
              obtain ⟨yn, rfl⟩ := Int.eq_ofNat_of_zero_le q0
              have hyn : yn < ws.length := by omega
              have hbelWw : Below w.heap.size w W := hbel7.trans (hbelW.mono (by omega))
              obtain ⟨sb, so, rfl, hsb, h7⟩ := (ch.wy.below hbelWw).at hyn
              have h7c := h7.c1
              clear h7
              obtain ⟨tn, htn⟩ := Int.eq_ofNat_of_zero_le wk.t0
              have htn2 : tn < n := by have := wk.t1; omega
              rw [htn] at h7c
              have i1 := (hbelW.cell (p := ⟨w.heap.size, 1, none⟩) (by show w.heap.size < _; omega)).trans g1
              have i2 := (hbelW.cell (p := ⟨w.heap.size + 1, 0, none⟩) (by show w.heap.size + 1 < _; omega)).trans g2
              have i3 := (hbelW.cell (p := ⟨w.heap.size + 1 + 1, 0, none⟩) hl8).trans g3
              have i4 := (hbelW.frozen (p := ⟨w.heap.size + 1 + 1, 0, none⟩) hl8).trans g4
              have i5 := (hbelWw.cell (p := ⟨mb, mo + tn, none⟩) hmb).trans (hmc tn (by omega))
              by_cases hg1 : 0 ≤ Rd.mrk M tn
              · by_cases hg2 : Rd.mrk M tn ≤ ye
                · gi_wp2_with fail
                  refine region_quiet_rd (by kernel_rfl) (by kernel_rfl) (by kernel_rfl) ?_
                  repeat (gi_big_quiet_step (fail))
                  refine wpQuietIn_nil ?_
                  rintro _ ⟨nq, rfl⟩
                  gi_wp2_with fail
                  have hb' : Below W.heap.size W (W.drewN nq) := below_drewN (Below.refl _ _) _
                  refine ⟨KeepsFrom.of_grownBy (grownBy_of_below hb') (fun j e => by cases e), Stay.of_below hb' (by omega), hbelW.trans (hb'.mono hsW), fun q hq => ?_⟩
                  rcases List.mem_append.1 hq with hq | hq
                  · exact hok q hq
                  · obtain rfl : q = ⟨((yn : Int), ye), hy⟩ := by simpa using hq
                    dsimp only
                    rw [htn]
                    exact ⟨hg1, hg2⟩
                · gi_wp2_with fail
                  refine region_quiet_rd (by kernel_rfl) (by kernel_rfl) (by kernel_rfl) ?_
                  repeat (gi_big_quiet_step (fail))
                  refine wpQuietIn_nil ?_
                  rintro _ ⟨nq, rfl⟩
                  gi_wp2_with fail
                  have hgW : W.grownBy ((W.drewN nq).setCell ⟨w.heap.size + 1 + 1, 0, none⟩ (.int .i64 37)) (some (w.heap.size + 1 + 1)) := ⟨rfl, rfl, rfl, by simp [World.setCell], fun q hq hne => Below.heap_setCell _ _ _ _ (fun e => hne (by rw [e]))⟩
                  refine ⟨KeepsFrom.of_grownBy hgW (fun j e => by cases e; omega), rfl, ⟨hgW.os.trans hbelW.os, hgW.tape.trans hbelW.tape, hgW.output.trans hbelW.output, Nat.le_trans hbelW.size hgW.size, fun q hq hne => (hgW.block q (by omega) hne).trans (hbelW.block q hq)⟩, World.cell?_setCell_same _ _ _ (show (W.drewN nq).cell? _ = _ from i3), fun h => ?_⟩
                  have hb9 := h.cls k (by omega) (by omega) (by omega) _ hy
                  dsimp only at hb9
                  rw [htn] at hb9
                  omega
              · gi_wp2_with fail
                refine region_quiet_rd (by kernel_rfl) (by kernel_rfl) (by kernel_rfl) ?_
                repeat (gi_big_quiet_step (fail))
                refine wpQuietIn_nil ?_
                rintro _ ⟨nq, rfl⟩
                gi_wp2_with fail
                have hgW : W.grownBy ((W.drewN nq).setCell ⟨w.heap.size + 1 + 1, 0, none⟩ (.int .i64 37)) (some (w.heap.size + 1 + 1)) := ⟨rfl, rfl, rfl, by simp [World.setCell], fun q hq hne => Below.heap_setCell _ _ _ _ (fun e => hne (by rw [e]))⟩
                refine ⟨KeepsFrom.of_grownBy hgW (fun j e => by cases e; omega), rfl, ⟨hgW.os.trans hbelW.os, hgW.tape.trans hbelW.tape, hgW.output.trans hbelW.output, Nat.le_trans hbelW.size hgW.size, fun q hq hne => (hgW.block q (by omega) hne).trans (hbelW.block q hq)⟩, World.cell?_setCell_same _ _ _ (show (W.drewN nq).cell? _ = _ from i3), fun h => ?_⟩
                have hb9 := h.cls k (by omega) (by omega) (by omega) _ hy
                dsimp only at hb9
                rw [htn] at hb9
                omega
            case done =>
              rintro D xs W hD hS ⟨hbelW, hok⟩ hK2
              have HX := Lib.hid (And.intro hD (And.intro hS (And.intro hbelW (And.intro hok hK2)))); clear hD hS hbelW hok hK2
              have hsW := HX.out.2.2.1.size
              go_wp2_with fail
              refine Handed.intro (gk - 1) (by omega) (hJ _ _ _ (RK.intro (k := k + 1) (hbo.trans ((hb7.trans (HX.out.2.2.1.mono (by omega))).mono (by omega))) (by omega) (fun i hi => ?_) (HMK.out.cons (B := wo.heap.size) (fun q h1 h2 => (HX.out.2.2.1.block q (by omega)).trans (hb7.block q h2)) (Nat.le_refl _) (by have := HX.out.1; omega) (by have := HX.out.1; omega) HX.out.2.2.2.2) (fun q => List.getD [cv n sa ws.length cap, .int .i64 (pk : Int), .int .i64 a, .slice (some ⟨mb, mo, none⟩) n mcap, .pointer (some ⟨w.heap.size, 0, none⟩), undef, undef, .pointer (some ⟨w.heap.size + 1, 0, none⟩), .pointer (some ⟨w.heap.size + 1 + 1, 0, none⟩), .int .i64 0, .int .i64 (k : Nat), .int .i64 (Rd.mrk M k), (u 12), (u 13), (u 14), .agg #[.int .i64 n, .slice sa ws.length cap], .int .i64 a, .int .i64 (pk : Int), .slice (some ⟨w.heap.size + 1 + 1 + 1, 0, none⟩) 1 1, .int .i64 0, .int .i64 0, .bool false, undef, .slice (some ⟨mb, mo, none⟩) n mcap, .int .i64 n, .pointer (some ⟨w.heap.size, 0, none⟩), .int .i64 n, .bool false, .bool false, .slice (some ⟨mb, mo, none⟩) n mcap, .bool false, .bool false, .bool false, .slice (some ⟨mb, mo, none⟩) n mcap, .int .i64 (pk : Int), .pointer (some ⟨mb, mo + pk, none⟩), .int .i64 (Rd.mrk M pk), .int .i64 a, .bool true, .bool false, .bool false, .slice (some ⟨mb, mo, none⟩) n mcap, .int .i64 n, .int .i64 (k + 1), .bool true, .int .i64 (k : Nat), .pointer (some ⟨mb, mo + k, none⟩), .int .i64 (Rd.mrk M k), .int .i64 (Rd.mrk M k), .bool false, .agg #[.int .i64 n, .slice sa ws.length cap], .int .i64 (k : Nat), .int .i64 (Rd.mrk M k), .agg #[.int .i64 n, .slice sa ws.length cap], .func (.func 46) #[] #[.pointer (some ⟨wo.heap.size, 0, none⟩)], .func (.func 48) #[] #[.pointer (some ⟨wo.heap.size + 1, 0, none⟩), .pointer (some ⟨wo.heap.size + 1 + 1, 0, none⟩), .pointer (some ⟨wo.heap.size + 1 + 1 + 1, 0, none⟩), .pointer (some ⟨wo.heap.size + 1 + 1 + 1 + 1, 0, none⟩)], (u 56), (u 57), (u 58), (u 59), (u 60), (u 61), (u 62), (u 63), (u 64), (u 65), (u 66), (u 67), (u 68), (u 69), (u 70), (u 71), (u 72), (u 73), .int .i64 (k + 1)] q undef) rfl))
              by_cases e : i = k
              · subst e
                intro _ q hq
                have hS' : List.map (fun q : Pr ws (Rd.his ws) i (Rd.mrk M i) => q.val) xs = Rd.outs ws (Rd.his ws) i (Rd.mrk M i) ws.length := HX.out.2.1
                rw [← hS'] at hq
                obtain ⟨y, hy, rfl⟩ := List.mem_map.1 hq
                exact HX.out.2.2.2.1 y hy
              · exact HCL.out i (by omega)
            case stop =>
              rintro D c pre W hD _ ⟨rfl, hgW, hcW, hno⟩ hK2
              have HX := Lib.hid (And.intro hD (And.intro hgW (And.intro hcW (And.intro hno hK2)))); clear hD hgW hcW hno hK2
              gi_wp2_with fail
              have hsz := HX.out.2.1.size
              have hbW : Below w.heap.size w W := ⟨HX.out.2.1.os.trans hbel7.os, HX.out.2.1.tape.trans hbel7.tape, HX.out.2.1.output.trans hbel7.output, Nat.le_trans hbel7.size hsz, fun q hq => (HX.out.2.1.block q (by omega) (by simp; omega)).trans (hbel7.block q hq)⟩
              refine fin7 37 _ _ w3.heap.size (w.heap.size + 1 + 1) _ hlt2' (by omega) rfl HX.out.2.2.1 hbW (HMK.out.cons (B := wo.heap.size) (fun q h1 h2 => (HX.out.2.1.block q (by omega) (by simp; omega)).trans (hb7.block q h2)) (Nat.le_refl _) (by have := HX.out.1; omega) (by have := HX.out.1; omega) HX.out.2.2.2.2) ⟨fun h => absurd h (by decide), fun h => absurd h HX.out.2.2.2.1⟩
        · go_wp2_with fail
          have hkn2 : k = n := by omega
          refine fin7 0 _ _ w3.heap.size (w.heap.size + 1 + 1) ds hlt2' (by omega) rfl (World.cell?_setCell_same _ _ _ v3) (hbw.setCell (p := ⟨w.heap.size + 1 + 1, 0, none⟩) (by show _ ≤ w.heap.size + 1 + 1; omega) _) ?_ ⟨fun _ => ⟨hM, ?_, HBG.out, ?_⟩, fun _ => rfl⟩
          · obtain ⟨rs, h1, h2, h3⟩ := HMK.out
            refine ⟨rs, h1, h2, fun r hr => ⟨(h3 r hr).1, (Below.heap_setCell _ _ _ _ ?_).trans (h3 r hr).2⟩⟩
            have := (h3 r hr).1
            show r ≠ w.heap.size + 1 + 1
            omega
          · exact marks_rng hM HB.out
          · intro i h0 h1
            obtain ⟨j, rfl⟩ := Int.eq_ofNat_of_zero_le h0
            exact HCL.out j (by omega)
    · have HBG := Lib.hid hbeg
      rw [decide_eq_false hbeg]
      clear hbeg
      go_wp2_with fail
      refine fin7 37 _ _ w3.heap.size (w.heap.size + 1 + 1) [] hlt2' (by omega) rfl (World.cell?_setCell_same _ _ _ z0) (hb4.setCell (p := ⟨w.heap.size + 1 + 1, 0, none⟩) (by show _ ≤ w.heap.size + 1 + 1; omega) _) (Marks.nil _ _) ⟨fun h => absurd h (by decide), fun h => absurd h.beg HBG.out⟩
end Go.Proofs.Ytdmmjlhcjmdajaa
