/-
  Maps that read as tables.
  Its conditions stand in each theorem.
-/
import Derived.Maps.OwnIn
import Derived.Maps.OwnSet
import Derived.Test.YtdmmjlhcjmdajaaWd
namespace Go.Proofs.Ytdmmjlhcjmdajaa
open Go.RowKit Go.Shelf Go.Maps
set_option linter.unusedVariables false

/-- how an element of the maps reads -/
def rdR (v : Value) : Option (DataW Unit × List MemPlace) :=
  match v with
  | .agg ⟨[.int .i64 a, .int .i64 b]⟩ => some (.agg [.lit (.int .i64 a), .lit (.int .i64 b)], [])
  | _ => none
def rd2 (x : Int × Int) : DataW Unit := .agg [.lit (.int .i64 x.1), .lit (.int .i64 x.2)]
theorem rdR_mk (a b : Int) : rdR (.agg #[.int .i64 a, .int .i64 b]) = some (rd2 (a, b), []) := rfl
theorem rdR_inv {v : Value} {x : Int × Int} {ps} (h : rdR v = some (rd2 x, ps)) : v = .agg #[.int .i64 x.1, .int .i64 x.2] := by
  unfold rdR at h
  split at h
  · rename_i a b
    unfold rd2 at h
    simp at h
    obtain ⟨⟨rfl, rfl⟩, _⟩ := h
    rfl
  · cases h

theorem key3 : Keyed Try.prog 3 := int_keyed Try.underlying3
theorem zero78 (w : World) : (zeroValue 78).run Try.prog w = .ok (.agg #[.int .i64 0, .int .i64 0]) w := by kernel_rfl
theorem keyAt {k : Int} (h0 : -9223372036854775808 ≤ k) (h1 : k ≤ 9223372036854775807) : keyOf Try.prog 3 (.int .i64 k) = some (.int .i64 k) :=
  keyOf_int_mk Try.underlying3 (WalkArith.wf_i64 (by omega))

/-- block b of W is a map that reads as the table L -/
def MapIs (W : World) (b N : Nat) (L : Rd.Tab) : Prop :=
  ∃ n D, n ≤ N ∧ W.ownsMap Try.prog 3 rdR b n D ∧ ∀ k : Int, D.atKey (.int .i64 k) (rd2 (0, 0)) = rd2 ((Rd.gt L k).getD (0, 0)) ∧ Maps.has D (.int .i64 k) = (Rd.gt L k).isSome

theorem MapIs.look {W : World} {b N : Nat} {L : Rd.Tab} (h : MapIs W b N L) (k : Int) (h0 : -1000 ≤ k) (h1 : k ≤ 1000) :
    (Instr.lookup 68 (.map (some b)) (.int .i64 k) false).run Try.prog W = .ok (.agg #[.int .i64 ((Rd.gt L k).getD (0, 0)).1, .int .i64 ((Rd.gt L k).getD (0, 0)).2]) W := by
  obtain ⟨n, D, hn, ho, hk⟩ := h
  obtain ⟨v, ps, hrun, hv⟩ := ho.lookup key3 Try.underlying68 (zero78 W) (rdR_mk 0 0) (keyAt (k := k) (by omega) (by omega))
  rw [(hk k).1] at hv
  rw [hrun, rdR_inv hv]
theorem MapIs.look_ok {W : World} {b N : Nat} {L : Rd.Tab} (h : MapIs W b N L) (k : Int) (h0 : -1000 ≤ k) (h1 : k ≤ 1000) :
    (Instr.lookup 68 (.map (some b)) (.int .i64 k) true).run Try.prog W = .ok (.tuple #[.agg #[.int .i64 ((Rd.gt L k).getD (0, 0)).1, .int .i64 ((Rd.gt L k).getD (0, 0)).2], .bool (Rd.gt L k).isSome]) W := by
  obtain ⟨n, D, hn, ho, hk⟩ := h
  obtain ⟨v, ps, hrun, hv⟩ := ho.look_ok key3 Try.underlying68 (zero78 W) (rdR_mk 0 0) (keyAt (k := k) (by omega) (by omega))
  rw [(hk k).1] at hv
  rw [hrun, rdR_inv hv, (hk k).2]
theorem MapIs.kept {W W' : World} {row : Option Nat} {b N : Nat} {L : Rd.Tab} (h : MapIs W b N L) (hg : W.grownBy W' row) (hne : some b ≠ row) : MapIs W' b N L := by
  obtain ⟨n, D, hn, ho, hk⟩ := h
  exact ⟨n, D, hn, ho.kept hg hne, hk⟩
theorem MapIs.lt {W : World} {b N : Nat} {L : Rd.Tab} (h : MapIs W b N L) : b < W.heap.size := by obtain ⟨n, D, hn, ho, hk⟩ := h; exact ho.lt
theorem MapIs.obj {W : World} {b N : Nat} {L : Rd.Tab} (h : MapIs W b N L) : ∃ es c, W.heap[b]? = some (.map es c) := by
  obtain ⟨n, D, hn, ⟨es, c, hb, _⟩, hk⟩ := h; exact ⟨es, c, hb⟩
theorem MapIs.same {W W' : World} {b N : Nat} {L : Rd.Tab} (h : MapIs W b N L) (hs : W'.heap[b]? = W.heap[b]?) : MapIs W' b N L := by
  obtain ⟨n, D, hn, ⟨es, c, hb, r⟩, hk⟩ := h
  exact ⟨n, D, hn, ⟨es, c, hs.trans hb, r⟩, hk⟩
theorem MapIs.mono {W : World} {b N N' : Nat} {L : Rd.Tab} (h : MapIs W b N L) (hn : N ≤ N') : MapIs W b N' L := by
  obtain ⟨n, D, hn', r⟩ := h; exact ⟨n, D, by omega, r⟩
theorem MapIs.made (w : World) (len : Nat) : MapIs (w.alloc (.map #[] 0)) w.heap.size 0 (List.replicate len none) := by
  refine ⟨0, .map [], Nat.le_refl _, World.ownsMap_made w Try.prog 3 rdR, fun k => ?_⟩
  have : Rd.gt (List.replicate len none) k = none := by
    unfold Rd.gt; split
    · rw [List.getElem?_replicate]; split <;> rfl
    · rfl
  rw [this]
  exact ⟨rfl, rfl⟩

theorem lit_ne {j k : Int} (h : j ≠ k) : (Lit.int .i64 j) ≠ Lit.int .i64 k := fun e => h (by injection e)

theorem mapIs_put {W' : World} {b n N : Nat} {D : DataW Unit} {L : Rd.Tab} {k : Int} {x : Int × Int} (h : ∀ k : Int, D.atKey (.int .i64 k) (rd2 (0, 0)) = rd2 ((Rd.gt L k).getD (0, 0)) ∧ Maps.has D (.int .i64 k) = (Rd.gt L k).isSome)
    (hD : IsMap D) (hn : n ≤ N) (ho : W'.ownsMap Try.prog 3 rdR b (n + 1) (D.put (.int .i64 k) (rd2 x))) (h0 : 0 ≤ k) (h1 : k < L.length) : MapIs W' b (N + 1) (Rd.put L k (some x)) := by
  refine ⟨n + 1, _, by omega, ho, fun j => ?_⟩
  rw [Rd.gt_put _ _ _ _ h0 h1]
  by_cases e : j = k
  · subst e
    rw [if_pos rfl, atKey_put_same hD (by trivial), has_put_same hD (by trivial)]
    exact ⟨rfl, rfl⟩
  · rw [if_neg e, atKey_put_other (lit_ne e), has_put_other (lit_ne e)]
    exact h j
theorem mapIs_del {W' : World} {b n N : Nat} {D : DataW Unit} {L : Rd.Tab} {k : Int} (h : ∀ k : Int, D.atKey (.int .i64 k) (rd2 (0, 0)) = rd2 ((Rd.gt L k).getD (0, 0)) ∧ Maps.has D (.int .i64 k) = (Rd.gt L k).isSome)
    (hn : n ≤ N) (ho : W'.ownsMap Try.prog 3 rdR b n (D.del (.int .i64 k))) (h0 : 0 ≤ k) (h1 : k < L.length) : MapIs W' b N (Rd.put L k none) := by
  refine ⟨n, _, hn, ho, fun j => ?_⟩
  rw [Rd.gt_put _ _ _ _ h0 h1]
  by_cases e : j = k
  · subst e
    rw [if_pos rfl, atKey_del_same, has_del_same]
    exact ⟨rfl, rfl⟩
  · rw [if_neg e, atKey_del_other (lit_ne e), has_del_other (lit_ne e)]
    exact h j

section
variable {F : Fence} {nF : Nat} (w : World) {ops : Array Oper} {rest : List Oper} {o : Oper} {a : Act} {Q : Exit → Act → World → Prop}
/-- a store -/
theorem wpIn_put (hg : o.guard = none) (m x v : Operand) (hop : o.op = Op.mapUpdate 68 m x v)
    (b N : Nat) (L : Rd.Tab) (hm : a.eval m = .map (some b)) (h : MapIs w b N L) (hN : N ≤ 1000000) (k : Int) (y : Int × Int) (hx : a.eval x = .int .i64 k) (hv : a.eval v = .agg #[.int .i64 y.1, .int .i64 y.2]) (h0 : 0 ≤ k) (h1 : k < L.length) (h2 : L.length ≤ 1000)
    (hK : ∀ w', MapIs w' b (N + 1) (Rd.put L k (some y)) → w.mapTurned w' b → wpListIn F nF Try.prog ops Q rest (a.put o.dst undef) w') :
    wpListIn F nF Try.prog ops Q (o :: rest) a w := by
  obtain ⟨n, D, hn, ho, hk⟩ := h
  refine wpListIn_plain hg fun K' hK' => ?_
  obtain ⟨w', hrun, r1, r2⟩ := ho.store key3 Try.underlying68 (by unfold maxLen; omega) (keyAt (k := k) (by omega) (by omega)) (rdR_mk y.1 y.2)
  unfold Oper.wpIn
  refine ⟨by simp [Oper.about, hop], ?_⟩
  rw [Oper.semAt_plain F _ _ (by rw [hop]; intro c hc'; cases hc')]
  simp [execOp, hop, hm, hx, hv, hrun, Result.andThen]
  exact hK' _ _ (hK w' (mapIs_put hk ho.isMap hn r1 h0 h1) r2)
theorem wpIn_insert (hg : o.guard = none) (m x v : Operand) (hop : o.op = Op.insert 68 m x v)
    (b N : Nat) (L : Rd.Tab) (hm : a.eval m = .map (some b)) (h : MapIs w b N L) (hN : N ≤ 1000000) (k : Int) (y : Int × Int) (hx : a.eval x = .int .i64 k) (hv : a.eval v = .agg #[.int .i64 y.1, .int .i64 y.2]) (h0 : 0 ≤ k) (h1 : k < L.length) (h2 : L.length ≤ 1000)
    (hK : ∀ w', MapIs w' b (N + 1) (Rd.put L k (some y)) → w.mapTurned w' b → wpListIn F nF Try.prog ops Q rest (a.put o.dst undef) w') :
    wpListIn F nF Try.prog ops Q (o :: rest) a w := by
  obtain ⟨n, D, hn, ho, hk⟩ := h
  refine wpListIn_plain hg fun K' hK' => ?_
  obtain ⟨w', hrun, r1, r2⟩ := ho.store key3 Try.underlying68 (by unfold maxLen; omega) (keyAt (k := k) (by omega) (by omega)) (rdR_mk y.1 y.2)
  unfold Oper.wpIn
  refine ⟨by simp [Oper.about, hop], ?_⟩
  rw [Oper.semAt_plain F _ _ (by rw [hop]; intro c hc'; cases hc')]
  simp [execOp, hop, hm, hx, hv, hrun, Result.andThen]
  exact hK' _ _ (hK w' (mapIs_put hk ho.isMap hn r1 h0 h1) r2)
theorem wpIn_del (hg : o.guard = none) (m x : Operand) (hop : o.op = Op.call { callee := Callee.builtin Builtin.delete, args := #[m, x], argTypes := #[68, 3] })
    (b N : Nat) (L : Rd.Tab) (hm : a.eval m = .map (some b)) (h : MapIs w b N L) (k : Int) (hx : a.eval x = .int .i64 k) (h0 : 0 ≤ k) (h1 : k < L.length) (h2 : L.length ≤ 1000)
    (hK : ∀ w', MapIs w' b N (Rd.put L k none) → w.mapTurned w' b → wpListIn F nF Try.prog ops Q rest (a.put o.dst (.tuple #[])) w') :
    wpListIn F nF Try.prog ops Q (o :: rest) a w := by
  obtain ⟨n, D, hn, ho, hk⟩ := h
  exact wpListIn_delete_own w hg m x 68 3 hop 78 key3 Try.underlying68 rdR b n D hm ho _ _ hx (keyAt (by omega) (by omega)) (fun w' r1 r2 => hK w' (mapIs_del hk hn r1 h0 h1) r2)
end

section
variable (w : World) {ops : Array Oper} {rest : List Oper} {o : Oper} {a : Act} {Q : Exit → Act → World → Prop}
theorem wp_put (hg : o.guard = none) (m x v : Operand) (hop : o.op = Op.mapUpdate 68 m x v)
    (b N : Nat) (L : Rd.Tab) (hm : a.eval m = .map (some b)) (h : MapIs w b N L) (hN : N ≤ 1000000) (k : Int) (y : Int × Int) (hx : a.eval x = .int .i64 k) (hv : a.eval v = .agg #[.int .i64 y.1, .int .i64 y.2]) (h0 : 0 ≤ k) (h1 : k < L.length) (h2 : L.length ≤ 1000)
    (hK : ∀ w', MapIs w' b (N + 1) (Rd.put L k (some y)) → w.mapTurned w' b → wpList Try.prog ops Q rest (a.put o.dst undef) w') :
    wpList Try.prog ops Q (o :: rest) a w := by
  obtain ⟨n, D, hn, ho, hk⟩ := h
  refine wpList_plain hg fun K' hK' => ?_
  obtain ⟨w', hrun, r1, r2⟩ := ho.store key3 Try.underlying68 (by unfold maxLen; omega) (keyAt (k := k) (by omega) (by omega)) (rdR_mk y.1 y.2)
  unfold Oper.wp
  simp [execOp, hop, hm, hx, hv, hrun, Result.andThen]
  exact hK' _ _ (hK w' (mapIs_put hk ho.isMap hn r1 h0 h1) r2)
theorem wp_insert (hg : o.guard = none) (m x v : Operand) (hop : o.op = Op.insert 68 m x v)
    (b N : Nat) (L : Rd.Tab) (hm : a.eval m = .map (some b)) (h : MapIs w b N L) (hN : N ≤ 1000000) (k : Int) (y : Int × Int) (hx : a.eval x = .int .i64 k) (hv : a.eval v = .agg #[.int .i64 y.1, .int .i64 y.2]) (h0 : 0 ≤ k) (h1 : k < L.length) (h2 : L.length ≤ 1000)
    (hK : ∀ w', MapIs w' b (N + 1) (Rd.put L k (some y)) → w.mapTurned w' b → wpList Try.prog ops Q rest (a.put o.dst undef) w') :
    wpList Try.prog ops Q (o :: rest) a w := by
  obtain ⟨n, D, hn, ho, hk⟩ := h
  refine wpList_plain hg fun K' hK' => ?_
  obtain ⟨w', hrun, r1, r2⟩ := ho.store key3 Try.underlying68 (by unfold maxLen; omega) (keyAt (k := k) (by omega) (by omega)) (rdR_mk y.1 y.2)
  unfold Oper.wp
  simp [execOp, hop, hm, hx, hv, hrun, Result.andThen]
  exact hK' _ _ (hK w' (mapIs_put hk ho.isMap hn r1 h0 h1) r2)
theorem wp_del (hg : o.guard = none) (m x : Operand) (hop : o.op = Op.call { callee := Callee.builtin Builtin.delete, args := #[m, x], argTypes := #[68, 3] })
    (b N : Nat) (L : Rd.Tab) (hm : a.eval m = .map (some b)) (h : MapIs w b N L) (k : Int) (hx : a.eval x = .int .i64 k) (h0 : 0 ≤ k) (h1 : k < L.length) (h2 : L.length ≤ 1000)
    (hK : ∀ w', MapIs w' b N (Rd.put L k none) → w.mapTurned w' b → wpList Try.prog ops Q rest (a.put o.dst (.tuple #[])) w') :
    wpList Try.prog ops Q (o :: rest) a w := by
  obtain ⟨n, D, hn, ho, hk⟩ := h
  exact wpList_delete_own w hg m x 68 3 hop 78 key3 Try.underlying68 rdR b n D hm ho _ _ hx (keyAt (by omega) (by omega)) (fun w' r1 r2 => hK w' (mapIs_del hk hn r1 h0 h1) r2)
end

theorem MapIs.store {W : World} {b N : Nat} {L : Rd.Tab} (h : MapIs W b N L) (k : Int) (y : Int × Int) (hN : N ≤ 1000000) (h0 : 0 ≤ k) (h1 : k < L.length) (h2 : L.length ≤ 1000) :
    ∃ w', (Instr.mapUpdate 68 (.map (some b)) (.int .i64 k) (.agg #[.int .i64 y.1, .int .i64 y.2])).run Try.prog W = .ok () w' ∧ MapIs w' b (N + 1) (Rd.put L k (some y)) ∧ W.mapTurned w' b := by
  obtain ⟨n, D, hn, ho, hk⟩ := h
  obtain ⟨w', hrun, r1, r2⟩ := ho.store key3 Try.underlying68 (by unfold maxLen; omega) (keyAt (k := k) (by omega) (by omega)) (rdR_mk y.1 y.2)
  exact ⟨w', hrun, mapIs_put hk ho.isMap hn r1 h0 h1, r2⟩
theorem MapIs.drop {W : World} {b N : Nat} {L : Rd.Tab} (h : MapIs W b N L) (k : Int) (h0 : 0 ≤ k) (h1 : k < L.length) (h2 : L.length ≤ 1000) (ty : TypeId) :
    ∃ w', (Builtin.delete_ #[68, 3] ty #[.map (some b), .int .i64 k]).run Try.prog W = .ok (.tuple #[]) w' ∧ MapIs w' b N (Rd.put L k none) ∧ W.mapTurned w' b := by
  obtain ⟨n, D, hn, ho, hk⟩ := h
  obtain ⟨w', hrun, r1, r2⟩ := ho.drop key3 Try.underlying68 (keyAt (k := k) (by omega) (by omega)) ty
  exact ⟨w', hrun, mapIs_del hk hn r1 h0 h1, r2⟩
theorem turned_size {W W' : World} {b : Nat} (h : W.mapTurned W' b) : W'.heap.size = W.heap.size := by
  obtain ⟨es, c, es', c', hb, rfl⟩ := h
  simp [ChangeMaps.setBlock]
theorem turned_cell {W W' : World} {b : Nat} (h : W.mapTurned W' b) (a : Addr) : W'.cell? a = W.cell? a := by
  obtain ⟨es, c, es', c', hb, rfl⟩ := h
  unfold World.cell?
  by_cases e : a.block = b
  · rw [e, ChangeMaps.heap_setBlock_same hb, hb]
  · rw [ChangeMaps.heap_setBlock_other hb _ e]
theorem turned_frozen {W W' : World} {b : Nat} (h : W.mapTurned W' b) (a : Addr) : W'.frozen? a = W.frozen? a := h.frozen a
theorem MapIs.turned {W W' : World} {b c N : Nat} {L : Rd.Tab} (h : MapIs W c N L) (ht : W.mapTurned W' b) (hne : c ≠ b) : MapIs W' c N L :=
  h.kept ht.grown (by simpa using hne)
theorem below_turned {n b : Nat} {A W W' : World} (h : Below n A W) (ht : W.mapTurned W' b) (hn : n ≤ b) : Below n A W' := by
  have := (ht.grown)
  refine h.trans ⟨this.os, this.tape, this.output, this.size, fun k hk => ?_⟩
  obtain ⟨es, c, es', c', hb, rfl⟩ := ht
  exact ChangeMaps.heap_setBlock_other hb _ (by omega)
end Go.Proofs.Ytdmmjlhcjmdajaa
