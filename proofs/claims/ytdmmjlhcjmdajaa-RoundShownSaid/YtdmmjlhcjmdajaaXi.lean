/-
  THE STATEMENT ROUNDSHOWN: for every input gasolierlaw03.RoundShown returns true, and each argument reads afterwards as it read before.
  No condition: for all arguments that the types let in.
-/
import Derived.Test.YtdmmjlhcjmdajaaXh
import Derived.Test.YtdmmjlhcjmdajaaRows
import Derived.Lib.SmallJoins
import Derived.Carry
import Derived.WalkKit
import Derived.ProofKit
import Derived.OpenShut
namespace Go.Proofs.Ytdmmjlhcjmdajaa
open Go.ChangeShapes Go.WideShapes Go.ChangeAt Go.RowKit Go.Deep

theorem own3 : ownKnob Try.prog.godebug = none := by kernel_rfl
theorem laidOut3 : laidOutB Try.prog = true := by kernel_rfl
theorem cells_3 : Try.prog.cellsOf 3 = 1 := by kernel_rfl
theorem cells_22 : Try.prog.cellsOf 22 = 1 := by kernel_rfl
theorem cells_23 : Try.prog.cellsOf 23 = 2 := by kernel_rfl
theorem cells_24 : Try.prog.cellsOf 24 = 1 := by kernel_rfl
theorem cells_26 : Try.prog.cellsOf 26 = 5 := by kernel_rfl
theorem cells_65 : Try.prog.cellsOf 65 = 4 := by kernel_rfl
theorem cells_62 : Try.prog.cellsOf 62 = 7 := by kernel_rfl

theorem cell_lt {W : World} {b o : Nat} {v : Value} (h : W.cell? ⟨b, o, none⟩ = some v) : b < W.heap.size := by
  rcases Nat.lt_or_ge b W.heap.size with hb | hb
  · exact hb
  · unfold World.cell? at h
    rw [show W.heap[(⟨b, o, none⟩ : Addr).block]? = none from Array.getElem?_eq_none hb] at h
    cases h

section
variable {H : Type} {enc : TypeId × Value → H} {W : World}

/-- a slice of ints that comes in -/
theorem open_arr {t : TypeId} {v : Value} {fuel : Nat} {x : DataW H × List MemPlace} (ht : Try.prog.underlying t = some (.slice 3))
    (h : DataW.trod enc Try.prog W 0 (fun _ => true) true fuel t [v] = some x) : ∃ a l c f, v = .slice a l c ∧ ArrIn W.heap.size W a l f := by
  rcases open_ints ht Try.underlying3 cells_3 h with ⟨hcs, _⟩ | ⟨a, len, cap, zs, hcs, -, hl, -, hz, -, hcell, hwz⟩
  · simp only [List.cons.injEq, and_true] at hcs
    exact ⟨none, 0, 0, fun _ => 0, hcs, .inl rfl, fun _ => by omega⟩
  · simp only [List.cons.injEq, and_true] at hcs
    simp only [if_true] at hz
    refine ⟨some a, len, cap, fun t => zs[t]?.getD 0, hcs, ?_, fun t => range_i64 hwz t⟩
    by_cases hl0 : len = 0
    · exact .inl hl0
    · obtain ⟨b, o, spot⟩ := a
      have hspot : spot = none := by simpa [Addr.add] using World.cell?_spot (hcell 0 (by omega))
      subst hspot
      have key : ∀ t, t < len → W.cell? ⟨b, o + t, none⟩ = some (.int .i64 (zs[t]?.getD 0)) := fun t htl => by
        have := hcell t (by omega)
        rw [List.getD_eq_getElem?_getD] at this
        have e : (⟨b, o, none⟩ : Addr).add t = ⟨b, o + t, none⟩ := by unfold Addr.add; split <;> simp_all
        rwa [e] at this
      exact .inr ⟨b, o, rfl, cell_lt (key 0 (by omega)), key⟩

/-- a slice of arrays of ints that comes in -/
theorem open_tab {t e : TypeId} {k : Nat} {v : Value} {fuel : Nat} {x : DataW H × List MemPlace} (ht : Try.prog.underlying t = some (.slice e)) (he : Try.prog.underlying e = some (.array k 3)) (hk : Try.prog.cellsOf e = k) (hk0 : 0 < k)
    (h : DataW.trod enc Try.prog W 0 (fun _ => true) true fuel t [v] = some x) : ∃ a l c, ∃ f : Nat → Int, v = .slice a l c ∧ (l = 0 ∨ ∃ b o, a = some ⟨b, o, none⟩ ∧ b < W.heap.size ∧ ∀ t, t < l * k → W.cell? ⟨b, o + t, none⟩ = some (.int .i64 (f t))) ∧ ∀ t, -9223372036854775808 ≤ f t ∧ f t ≤ 9223372036854775807 := by
  rcases open_slice ht h with ⟨hcs, _⟩ | ⟨a, len, cap, m, n, D, Pl, hcs, -, hl, -, hm, -, hx⟩
  · simp only [List.cons.injEq, and_true] at hcs
    exact ⟨none, 0, 0, fun _ => 0, hcs, .inl rfl, fun _ => by dsimp only; omega⟩
  · simp only [List.cons.injEq, and_true] at hcs
    simp only [if_true] at hm
    rw [hk] at hx
    by_cases hl0 : len = 0
    · exact ⟨some a, len, cap, fun _ => 0, hcs, .inl hl0, fun _ => by dsimp only; omega⟩
    have one : ∀ i j, i < len → j < k → ∃ z : Int, W.cell? ((a.add (i * k)).add j) = some (.int .i64 z) ∧ (Lit.int .i64 z).wf = true := by
      intro i j hi hj
      obtain ⟨cs', h1, h2⟩ := hx i (by omega)
      obtain ⟨-, hlen, hc⟩ := World.cells?_some h1
      obtain ⟨xs, m', -, -, -, hxl, hxs⟩ := DataW.trod_array he h2
      have h3 := hxs j hj
      rw [cells_3, Nat.mul_one, List.getElem?_eq_getElem (by omega)] at h3
      obtain ⟨z, hz, -, hw⟩ := DataW.trod_int Try.underlying3 h3
      refine ⟨z, ?_, hw⟩
      rw [hc j hj]
      have h4 : ((cs'.drop j).take 1)[0]? = some (.int .i64 z) := by rw [hz]; rfl
      rw [List.getElem?_take_of_lt (by omega), List.getElem?_drop] at h4
      exact h4
    obtain ⟨b, o, spot⟩ := a
    obtain ⟨z0, hz0, -⟩ := one 0 0 (by omega) hk0
    have hspot : spot = none := by simpa [Addr.add] using World.cell?_spot hz0
    subst hspot
    have all : ∀ t, t < len * k → ∃ z : Int, W.cell? ⟨b, o + t, none⟩ = some (.int .i64 z) ∧ (Lit.int .i64 z).wf = true := by
      intro t htl
      obtain ⟨z, hz, hw⟩ := one (t / k) (t % k) (by rw [Nat.div_lt_iff_lt_mul hk0]; exact htl) (Nat.mod_lt _ hk0)
      refine ⟨z, ?_, hw⟩
      have e : ((⟨b, o, none⟩ : Addr).add (t / k * k)).add (t % k) = ⟨b, o + t, none⟩ := by
        have ht' : t / k * k + t % k = t := by rw [Nat.mul_comm]; exact Nat.div_add_mod t k
        rw [add_add, ht']
        unfold Addr.add
        split <;> simp_all
      rwa [e] at hz
    obtain ⟨f, hf⟩ := choose_lt (α := Int) (p := fun t z => W.cell? ⟨b, o + t, none⟩ = some (.int .i64 z) ∧ (Lit.int .i64 z).wf = true) all
    refine ⟨_, len, cap, fun t => if t < len * k then f t else 0, hcs, .inr ⟨b, o, rfl, cell_lt (hf 0 (Nat.mul_pos (by omega) hk0)).1, fun t htl => ?_⟩, fun t => ?_⟩
    · dsimp only
      rw [if_pos htl]; exact (hf t htl).1
    · dsimp only
      split
      · next htl => exact bounds_i64 (hf t htl).2
      · omega
end

theorem array5 {α : Type} {cs : Array α} (h : cs.size = 5) : ∃ c0 c1 c2 c3 c4, cs = #[c0, c1, c2, c3, c4] := by
  obtain ⟨l⟩ := cs
  match l, h with
  | [c0, c1, c2, c3, c4], _ => exact ⟨c0, c1, c2, c3, c4, rfl⟩

set_option maxRecDepth 100000 in
/-- the numbers that come in -/
theorem open_raw {H : Type} {enc : TypeId × Value → H} {W : World} {r : Reach} {b0 : Nat} {v : Value} {d : DataW H} {p : List MemPlace} (hv : Value.okWide Try.prog W r b0 26 v)
    (h : DataW.Trod enc Try.prog W 0 (fun _ => true) true 26 v d p) :
    ∃ pl r0 r1 ya yl yc yf za zl zc zf, v = .agg #[.int .i64 pl, .slice ya yl yc, .int .i64 r0, .int .i64 r1, .slice za zl zc] ∧ RawIn W.heap.size W ya yl yf za zl zf ∧
      (-9223372036854775808 ≤ pl ∧ pl ≤ 9223372036854775807) ∧ (-9223372036854775808 ≤ r0 ∧ r0 ≤ 9223372036854775807) ∧ (-9223372036854775808 ≤ r1 ∧ r1 ≤ 9223372036854775807) := by
  obtain ⟨cs, rfl, hsz⟩ := okWide_struct Try.underlying26 hv
  obtain ⟨c0, c1, c2, c3, c4, rfl⟩ := array5 (hsz.trans cells_26)
  obtain ⟨fuel, hf⟩ := h
  obtain ⟨y0, y1, y2, y3, n, -, -, h0, h1, h2, h3⟩ := _root_.Go.Joins.trod_struct4 Try.underlying26 hf
  dsimp only at h0 h1 h2 h3
  rw [cells_3] at h0; rw [cells_22] at h1; rw [cells_23] at h2; rw [cells_24] at h3
  simp only [Value.cells, List.drop_zero, List.drop_succ_cons, List.take_succ_cons, List.take_zero] at h0 h1 h2 h3
  obtain ⟨pl, e0, -, w0⟩ := DataW.trod_int Try.underlying3 h0
  obtain ⟨ya, yl, yc, yf, e1, hy, hyr⟩ := open_tab (k := 7) Try.underlying22 Try.underlying62 cells_62 (by decide) h1
  obtain ⟨xs, m, -, -, -, hxl, hxs⟩ := DataW.trod_array Try.underlying23 h2
  have g0 := hxs 0 (by decide)
  have g1 := hxs 1 (by decide)
  simp only [cells_3, Nat.mul_one, List.drop_zero, List.drop_succ_cons, List.take_succ_cons, List.take_zero] at g0 g1
  rw [List.getElem?_eq_getElem (by omega)] at g0 g1
  obtain ⟨r0, e2, -, w2⟩ := DataW.trod_int Try.underlying3 g0
  obtain ⟨r1, e3, -, w3⟩ := DataW.trod_int Try.underlying3 g1
  obtain ⟨za, zl, zc, zf, e4, hz, hzr⟩ := open_tab (k := 4) Try.underlying24 Try.underlying65 cells_65 (by decide) h3
  simp only [List.cons.injEq, and_true] at e0 e2 e3
  subst e0 e1 e2 e3 e4
  exact ⟨pl, r0, r1, ya, yl, yc, yf, za, zl, zc, zf, rfl, ⟨hy, hyr, hz, hzr⟩, bounds_i64 w0, bounds_i64 w2, bounds_i64 w3⟩

set_option maxRecDepth 100000 in
/-- what the walk gives, for every argument -/
theorem contract3 (H : Type) (enc : TypeId × Value → H) (W : World) (base : Nat) (args : Array Value) (ds gs : List (DataW H)) (before : List MemPlace)
    (hval : ∀ (j : Nat) t v, Try.f3.params[j]? = some t → args[j]? = some v → Value.okWide Try.prog W .any base t v)
    (hW : DataW.Whole enc Try.prog Try.f3.params.toList Rows.roundShownSpec.vars false W args.toList ds gs before) :
    Calls Try.prog 3 args W fun e W' => ∃ v, e = .returned v ∧ Rows.roundShownSpec.post enc Try.prog Try.f3 false true false false W args v W' := by
  have hW' := hW
  obtain ⟨p, q, hA0, hV, rfl, -, -⟩ := hW
  have hA : DataW.TrodAll enc Try.prog W 0 (fun _ => true) true Try.f3.params.toList args.toList ds p := hA0
  rw [Try.params3] at hA hval
  obtain ⟨v0, vs0, d0, ds0, p0, q0, hargs, rfl, rfl, h0, r0⟩ := trodAll_cons hA
  obtain ⟨v1, vs1, d1, ds1, p1, q1, rfl, rfl, rfl, h1, r1⟩ := trodAll_cons r0
  obtain ⟨v2, vs2, d2, ds2, p2, q2, rfl, rfl, rfl, h2, r2⟩ := trodAll_cons r1
  obtain ⟨rfl, rfl, rfl⟩ := trodAll_nil r2
  obtain rfl : args = #[v0, v1, v2] := by cases args; simp_all
  obtain ⟨rfl, rfl⟩ := trodVars_none hV
  clear hA0 hA hargs r0 r1 r2
  simp only [List.append_nil] at hW'
  have hlt : ∀ x ∈ p0 ++ (p1 ++ p2), x.block < W.heap.size := fun x hx => by simpa using hW'.lt x hx
  have k0 : ∀ W', Below W.heap.size W W' → DataW.Trod enc Try.prog W' 0 (fun b => decide (b < W.heap.size)) true 26 v0 d0 p0 := fun W' hn =>
    Below.trod laidOut3 (by kernel_rfl) (of_decide_eq_true (by kernel_rfl)) h0 hn (fun x hx => hlt x (List.mem_append.2 (.inl hx)))
  have k1 : ∀ W', Below W.heap.size W W' → DataW.Trod enc Try.prog W' 0 (fun b => decide (b < W.heap.size)) true 27 v1 d1 p1 := fun W' hn =>
    Below.trod laidOut3 (by kernel_rfl) (of_decide_eq_true (by kernel_rfl)) h1 hn (fun x hx => hlt x (List.mem_append.2 (.inr (List.mem_append.2 (.inl hx)))))
  have k2 : ∀ W', Below W.heap.size W W' → DataW.Trod enc Try.prog W' 0 (fun b => decide (b < W.heap.size)) true 27 v2 d2 p2 := fun W' hn =>
    Below.trod laidOut3 (by kernel_rfl) (of_decide_eq_true (by kernel_rfl)) h2 hn (fun x hx => hlt x (List.mem_append.2 (.inr (List.mem_append.2 (.inr hx)))))
  obtain ⟨pl, a0, a1, ya, yl, yc, yf, za, zl, zc, zf, hv0, hraw, b0, b1, b2⟩ := open_raw (hval 0 26 v0 rfl rfl) h0
  obtain ⟨u1, l1, c1, hv1⟩ := okWide_slice Try.underlying27 (hval 1 27 v1 rfl rfl)
  obtain ⟨u2, l2, c2, hv2⟩ := okWide_slice Try.underlying27 (hval 2 27 v2 rfl rfl)
  obtain ⟨n1, f1⟩ := h1
  obtain ⟨n2, f2⟩ := h2
  subst hv1 hv2
  simp only [Value.cells] at f1 f2
  obtain ⟨wa, wl, wc, wf, e1, hw⟩ := open_arr Try.underlying27 f1
  obtain ⟨la, ll, lc, lf, e2, hl⟩ := open_arr Try.underlying27 f2
  injection e1 with e3 e4 e5
  injection e2 with e6 e7 e8
  subst hv0 e3 e4 e5 e6 e7 e8
  refine (round3 pl a0 a1 ya yl yc yf za zl zc zf _ _ _ wf _ _ _ lf W hraw hw hl b0 b1 b2).mono ?_
  rintro e W' ⟨rfl, hb⟩
  refine ⟨_, rfl, _, _, _, [], p0 ++ (p1 ++ p2), [], hW', ?_, ?_, rfl, hb.frame _, fun h => by cases h⟩
  · exact trodAll_mk1 (shut_bool Try.underlying4 _)
  · exact trodAll_cons_mk (k0 W' hb) (by simpa using trodAll_cons_mk (k1 W' hb) (by simpa using trodAll_cons_mk (k2 W' hb) trodAll_mk0))

set_option maxRecDepth 100000 in
theorem lifted3 (os : Os) (started : os.Started) (H : Type) (enc : TypeId × Value → H) :
    ReturnsInHanded {} Try.checked os 3 .any (Rows.roundShownSpec.pre6 enc Try.prog Try.f3 Rows.roundShownRow.domain false) (Rows.roundShownSpec.post enc Try.prog Try.f3 false true false false) := by
  refine returnsInHanded_of_change (C := Try.checked) own3 started (by kernel_rfl) Try.func3
    (ChangeSpec.witness6 (enc := enc) (C := Try.checked) false ⟨#[], #[.agg #[.int .i64 0, .slice none 0 0, .int .i64 0, .int .i64 0, .slice none 0 0], .slice none 0 0, .slice none 0 0], []⟩ 8 (by kernel_rfl) (by kernel_rfl) (by kernel_rfl) (by kernel_rfl)) ?_
  intro W base args ds gs before hval hW _ _
  exact contract3 H enc W base args ds gs before hval hW

theorem roundShown_holds : Rows.RoundShownSaid :=
  OpenClaim.holds_of_wide 3 Try.f3 rfl rfl rfl rfl rfl rfl rfl ⟨rfl, rfl, rfl, rfl, rfl⟩ rfl rfl rfl rfl rfl (by kernel_rfl) Try.func3 (by kernel_rfl)
    (of_decide_eq_true (by kernel_rfl)) (by unfold Func.isWrapper; first | (rw [if_pos (by decide +kernel)]; kernel_rfl) | (rw [if_neg (by decide +kernel)]; exact ⟨rfl, rfl⟩))
    (fun os started H enc _ => lifted3 os started H enc)
#print axioms roundShown_holds
end Go.Proofs.Ytdmmjlhcjmdajaa
