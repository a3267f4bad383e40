/-
  The contract of Path.
  Its conditions stand in each theorem.
-/
import Derived.Test.YtdmmjlhcjmdajaaWk
import Derived.Deep.RegionWith
import Derived.Deep.RegionHeld3
import Derived.Maps.AppendAt
namespace Go.Proofs.Ytdmmjlhcjmdajaa
open Go.RowKit Go.Shelf Go.Maps
set_option linter.unusedVariables false

theorem chain_len (ws : List Rd.Wy) (O : Rd.Tab) : ∀ (d : Nat) (x : Int × Int), (Rd.chain ws O d x).length ≤ d := by
  intro d
  induction d with
  | zero => intro x; simp [Rd.chain]
  | succ d ih => intro x; unfold Rd.chain; split <;> simp [ih]

/-- what the loop of Path keeps -/
structure PL (ws : List Rd.Wy) (O : Rd.Tab) (C : List Int) (x : Int × Int) (l : List Int) : Prop where
  h : ∃ d k, Rd.gt O k = some x ∧ x.1 < (d : Nat) ∧ d + l.length ≤ 1440 ∧ C = Rd.chain ws O d x ++ l.reverse
theorem PL.len {ws O C x l} (h : PL ws O C x l) : l.length ≤ 1440 := by obtain ⟨d, k, _, _, h, _⟩ := h.h; omega
theorem PL.done {ws O C x l} (h : PL ws O C x l) (hx : ¬ 0 ≤ x.2) : C = l.reverse := by
  obtain ⟨d, k, _, _, _, h⟩ := h.h
  rw [h]
  cases d with
  | zero => simp [Rd.chain]
  | succ d => unfold Rd.chain; rw [if_neg hx]; simp
theorem PL.step {ws n p a O C x l} (hr : Rd.Reached ws (Rd.his ws) n p a O) (h : PL ws O C x l) (hx : 0 ≤ x.2) : ∃ y, Rd.gt O (Rd.way ws x.2).frm = some y ∧ y.1 < x.1 ∧ 0 ≤ y.1 ∧ x.2 < ws.length ∧ PL ws O C y (l ++ [x.2]) := by
  obtain ⟨d, k, h1, h2, h3, h4⟩ := h.h
  rcases hr.via k x h1 with ⟨_, rfl, _⟩ | ⟨a0, a1, a2, y, hy, hlt, b1, b2, b3⟩
  · omega
  · have h0 := (hr.rng _ _ hy).1
    refine ⟨y, hy, hlt, h0, a1, ⟨?_⟩⟩
    cases d with
    | zero => have := (hr.rng _ _ h1).1; omega
    | succ d =>
      refine ⟨d, _, hy, by omega, by simp; omega, ?_⟩
      rw [h4]
      conv => lhs; unfold Rd.chain
      rw [if_pos hx, hy, Option.getD_some]
      simp

def PathPost (ws : List Rd.Wy) (O : Rd.Tab) (to : Int) (w : World) (e : Ending) (w' : World) : Prop :=
  ∃ sb cap path c, e = .returned (.tuple #[.slice sb (List.length path) cap, .int .i64 c]) ∧ Ints w'.heap.size w' sb path ∧ Below w.heap.size w w' ∧
    (match Rd.gt O to with | none => c = 35 ∧ path = [] | some x => c = 0 ∧ path = Rd.chain ws O 1440 x)

set_option maxRecDepth 100000 in
set_option maxHeartbeats 4000000 in
theorem path_any (n : Nat) (sa : Option Addr) (cap : Nat) (ws : List Rd.Wy) (p to a : Int) (w : World) (ch : IsChart w.heap.size w sa ws n)
   (hp0 : 0 ≤ p) (hp1 : p < n) (ht0 : 0 ≤ to) (ht1 : to < n) (ha0 : 0 ≤ a) (ha1 : a ≤ 1439) :
   Calls Try.prog 9 #[cv n sa ws.length cap, .agg #[.int .i64 p, .int .i64 to, .int .i64 a]] w (PathPost ws (Rd.reach n ws (Rd.his ws) p a) to w) := by
  have hb0 : Below w.heap.size w (((w.alloc (Obj.cells #[Value.int IntKind.i64 ↑n, Value.slice sa ws.length cap] 31)).alloc (Obj.cells #[Value.int .i64 p, .int .i64 to, .int .i64 a] 43)).alloc (Obj.cells #[Value.int .i64 p, .int .i64 to] 3)) := (((Below.refl _ _).alloc (Nat.le_refl _) _).alloc (by simp) _).alloc (by simp; omega) _
  have hp' : ∀ j : Nat, j < [p, to].length → 0 ≤ Rd.mrk [p, to] j ∧ Rd.mrk [p, to] j < n := fun j hj => by
    have : j = 0 ∨ j = 1 := by simp at hj; omega
    rcases this with rfl | rfl
    · exact ⟨hp0, hp1⟩
    · exact ⟨ht0, ht1⟩
  have HP := Lib.hid hp'; clear hp'
  have HR := Lib.hid (Rd.reach_spec ch.ch.his hp0 hp1 ha0 ha1)
  have hlen := ch.ch.len
  have hn2 := ch.ch.n2
  go_enter Try.func9, Try.ntmps9
  go_wp2_with fail
  refine (placeOf_ok n sa cap ws a (some ⟨w.heap.size + 1 + 1, 0, none⟩) 2 [p, to] _ ((ch.below hb0).mono (by simp; omega)) ha0 ha1 (by simp) (ints_two (by rw [World.cell?_alloc_at _ _ _ _ (by simp)]; rfl) (by rw [World.cell?_alloc_at _ _ _ _ (by simp)]; rfl) (by simp)) HP.out).mono ?_
  rintro e w1 ⟨rfl, hb1⟩
  have hb2 : Below w.heap.size w w1 := hb0.trans (hb1.mono (by simp; omega))
  have hs1 := hb1.size
  simp only [World.size_alloc] at hs1
  have c0 : w1.cell? ⟨w.heap.size, 0, none⟩ = some (.int .i64 n) := by rw [hb1.cell (p := ⟨w.heap.size, 0, none⟩) (by simp; omega)]; rw [World.cell?_alloc_past _ _ _ (by simp <;> omega), World.cell?_alloc_past _ _ _ (by simp <;> omega)]; simp
  have c1 : w1.cell? ⟨w.heap.size, 1, none⟩ = some (.slice sa ws.length cap) := by rw [hb1.cell (p := ⟨w.heap.size, 1, none⟩) (by simp; omega)]; rw [World.cell?_alloc_past _ _ _ (by simp <;> omega), World.cell?_alloc_past _ _ _ (by simp <;> omega)]; simp
  have d0 : w1.cell? ⟨w.heap.size + 1, 0, none⟩ = some (.int .i64 p) := by rw [hb1.cell (p := ⟨w.heap.size + 1, 0, none⟩) (by simp)]; rw [World.cell?_alloc_past _ _ _ (by simp <;> omega)]; rw [World.cell?_alloc_at _ _ _ _ (by simp)]; rfl
  have d1 : w1.cell? ⟨w.heap.size + 1, 1, none⟩ = some (.int .i64 to) := by rw [hb1.cell (p := ⟨w.heap.size + 1, 1, none⟩) (by simp)]; rw [World.cell?_alloc_past _ _ _ (by simp <;> omega)]; rw [World.cell?_alloc_at _ _ _ _ (by simp)]; rfl
  have d2 : w1.cell? ⟨w.heap.size + 1, 2, none⟩ = some (.int .i64 a) := by rw [hb1.cell (p := ⟨w.heap.size + 1, 2, none⟩) (by simp)]; rw [World.cell?_alloc_past _ _ _ (by simp <;> omega)]; rw [World.cell?_alloc_at _ _ _ _ (by simp)]; rfl
  have ch1 : IsChart w1.heap.size w1 sa ws n := (ch.below hb2).mono (by omega)
  clear hb1 hb0
  have hlt : w.heap.size < w1.heap.size := by omega
  have hlt1 : w.heap.size + 1 < w1.heap.size := by omega
  go_wp2_with fail
  have hbD : Below w1.heap.size w1 (w1.alloc (Obj.cells #[Value.int IntKind.i64 ↑n, Value.slice sa ws.length cap] 31)).drew := ((Below.refl _ _).alloc (Nat.le_refl _) _).drew
  have hsD : (w1.alloc (Obj.cells #[Value.int IntKind.i64 ↑n, Value.slice sa ws.length cap] 31)).drew.heap.size = w1.heap.size + 1 := by show (w1.alloc _).heap.size = _; simp
  have hcD : IsChart (w1.alloc (Obj.cells #[Value.int IntKind.i64 ↑n, Value.slice sa ws.length cap] 31)).drew.heap.size (w1.alloc (Obj.cells #[Value.int IntKind.i64 ↑n, Value.slice sa ws.length cap] 31)).drew sa ws n := (ch1.below hbD).mono (by rw [hsD]; omega)
  have hxD : (w1.alloc (Obj.cells #[Value.int IntKind.i64 ↑n, Value.slice sa ws.length cap] 31)).drew.cell? ⟨w1.heap.size, 1, none⟩ = some (.slice sa ws.length cap) := by show (w1.alloc _).cell? _ = _; simp
  have HD := Lib.hid (And.intro hbD (And.intro hsD (And.intro hcD hxD))); clear hbD hsD hcD hxD
  go_region_held3 (fun w' => w'.cell? ⟨w.heap.size, 0, none⟩ = some (.int .i64 n) ∧ w'.cell? ⟨w.heap.size, 1, none⟩ = some (.slice sa ws.length cap) ∧ w'.cell? ⟨w.heap.size + 1, 0, none⟩ = some (.int .i64 p) ∧ w'.cell? ⟨w.heap.size + 1, 2, none⟩ = some (.int .i64 a)) (first | exact ⟨c0, c1, d0, d2⟩ | exact ⟨c03, c13, d03, d23⟩ | go_keep)
   (first
    | (go_at_call 22; refine (most_any _ _ _ _ _).mono ?_; rintro e w2 ⟨rfl, rfl⟩)
    | (go_at_call 21; refine (reach_hi n w1.heap.size sa cap ws p a _ HD.out.2.2.1 hp0 hp1 ha0 ha1 HD.out.2.2.2 (by rw [HD.out.2.1]; omega)).mono ?_; rintro e w3 ⟨b, rfl, hm, hb3⟩; have hs3 := hb3.size; rw [HD.out.2.1] at hs3; have hb13 : Below w1.heap.size w1 w3 := HD.out.1.trans (hb3.mono (by rw [HD.out.2.1]; omega)); have c03 := (hb13.cell (p := ⟨w.heap.size, 0, none⟩) hlt).trans c0; have c13 := (hb13.cell (p := ⟨w.heap.size, 1, none⟩) hlt).trans c1; have d03 := (hb13.cell (p := ⟨w.heap.size + 1, 0, none⟩) hlt1).trans d0; have d13 := (hb13.cell (p := ⟨w.heap.size + 1, 1, none⟩) hlt1).trans d1; have d23 := (hb13.cell (p := ⟨w.heap.size + 1, 2, none⟩) hlt1).trans d2))
  have hfin : Below w.heap.size w w3 := hb2.trans (hb13.mono (by omega))
  clear hb3 hs3 HD
  have hs3 := hb13.size
  clear hb13 c0 c1 d0 d1 d2
  have e1 := hm.look_ok to (by omega) (by omega)
  generalize Rd.reach n ws (Rd.his ws) p a = O at *
  have HM := Lib.hid hm; clear hm
  have hlt3 : w.heap.size < w3.heap.size := by omega
  have hlt13 : w.heap.size + 1 < w3.heap.size := by omega
  cases hg : Rd.gt O to with
  | none =>
    rw [hg] at e1
    dsimp only [Option.getD_none, Option.isSome_none] at e1
    have HG := Lib.hid hg; clear hg
    go_wp2_with fail
    go_ret2
    exact ⟨none, 0, [], 35, rfl, .inl rfl, hfin.alloc (by omega) _, by rw [HG.out]; exact ⟨rfl, rfl⟩⟩
  | some x =>
    rw [hg] at e1
    dsimp only [Option.getD_some, Option.isSome_some] at e1
    have HG := Lib.hid hg; clear hg
    go_wp2_with fail
    have hpl : PL ws O (Rd.chain ws O 1440 x) x [] := ⟨1440, to, HG.out, by have := (HR.out.rng _ _ HG.out).2.1; omega, by simp, by simp⟩
    have hX : PL ws O (Rd.chain ws O 1440 x) x [] := hpl
    obtain ⟨C, hC⟩ : ∃ C, C = Rd.chain ws O 1440 x := ⟨_, rfl⟩
    rw [← hC] at hpl
    have HC := Lib.hid hC; clear hC hX
    have HPL := Lib.hid hpl; clear hpl
    have hch3 : IsChart w3.heap.size w3 sa ws n := (ch.below hfin).mono (by omega)
    have HCH := Lib.hid hch3; clear hch3
    obtain ⟨i0, hi, hz0, hz1, hz2⟩ := info_parts info3
    have HI := Lib.hid (And.intro hi (And.intro hz0 (And.intro hz1 hz2))); clear hi hz0 hz1 hz2
    go_loopw [10] (fun v wr => ∃ (y : Int × Int) (l : List Int), Hid (PL ws O C y l) ∧ Hid (wr.ownsRow (w3.heap.size + 1) 3 1 v l.length (l.map (Value.int .i64))) ∧ wr.cell? ⟨w3.heap.size, 0, none⟩ = some (.int .i64 y.1) ∧ wr.cell? ⟨w3.heap.size, 1, none⟩ = some (.int .i64 y.2)
       ∧ wr.frozen? ⟨w3.heap.size, 0, none⟩ = false ∧ wr.frozen? ⟨w3.heap.size, 1, none⟩ = false ∧ Below w3.heap.size w3 wr ∧ w3.heap.size < wr.heap.size) (fun _ wr => (intOf ((wr.cell? ⟨w3.heap.size, 0, none⟩).getD (.int .i64 0))).toNat)
    case atStart => exact ⟨x, [], HPL, World.ownsRow_nil _ _ _ _, by simp, by simp, by simp, by simp, (Below.refl _ _).alloc (Nat.le_refl _) _, by simp⟩
    case round =>
      obtain ⟨y, l, hP, hO, e0, e1', f0, f1, hb, hsz⟩ := hrel
      have x0 := (hb.cell (p := ⟨w.heap.size, 0, none⟩) hlt3).trans c03
      have x1 := (hb.cell (p := ⟨w.heap.size, 1, none⟩) hlt3).trans c13
      clear e1
      by_cases hy : 0 ≤ y.2
      · obtain ⟨z, hz, hzlt, hz0, hy2, hP'⟩ := hP.out.step HR.out hy
        obtain ⟨k, hk⟩ : ∃ k : Nat, y.2 = k := ⟨y.2.toNat, by omega⟩
        rw [hk] at e1' hz hy2 hP'
        have HP' := Lib.hid hP'; clear hP'
        have hl1440 := hP.out.len
        have HY := Lib.hid hk; clear hk hy hP
        go_wp2_with (at_builtin; refine wpList_append_own _ rfl _ _ 27 rfl (w3.heap.size + 1) 3 i0 (.int .i64 0) 1 8 Try.underlying27 HI.out.1 HI.out.2.1 HI.out.2.2.1 HI.out.2.2.2 rfl (by decide) _ _ _ rfl (hO.out.alloc _) ⟨wr.heap.size, 0, none⟩ 1 1 [.int .i64 k] rfl rfl (cell_one_new _ _ _) (by intro u hu; simp at hu; subst hu; rfl) (by unfold maxLen; omega) (by omega) (by simp; omega) ?_)
        intro v' w4 hown' hgrow _
        have hob : ∀ q, u10.ownBlock = some q → w3.heap.size + 1 ≤ q := fun q hq => (hO.out.lt q hq).1
        have hob' : ∀ q, v'.ownBlock = some q → w3.heap.size + 1 ≤ q := fun q hq => (hown'.lt q hq).1
        have hb4 : Below w3.heap.size w3 w4 := (hb.alloc (by omega) _).grown hgrow (by simp; omega) (fun q hq => by have := hob q hq; omega)
        have hs4 : w3.heap.size < w4.heap.size := by have := hgrow.size; simp at this; omega
        have hbox : w4.heap[w3.heap.size]? = wr.heap[w3.heap.size]? := (hgrow.block w3.heap.size (by simp; omega) (fun e => by have := hob _ e.symm; omega)).trans (Below.heap_alloc _ _ _ hsz)
        have g1 : w4.cell? ⟨w3.heap.size, 1, none⟩ = some (.int .i64 k) := (World.cell?_of_block (w := wr) (a := ⟨w3.heap.size, 1, none⟩) hbox).trans e1'
        have g0 : w4.cell? ⟨w3.heap.size, 0, none⟩ = some (.int .i64 y.1) := (World.cell?_of_block (w := wr) (a := ⟨w3.heap.size, 0, none⟩) hbox).trans e0
        have g2 : w4.frozen? ⟨w3.heap.size, 0, none⟩ = false := (World.frozen?_of_block (w := wr) (a := ⟨w3.heap.size, 0, none⟩) hbox).trans f0
        have g3 : w4.frozen? ⟨w3.heap.size, 1, none⟩ = false := (World.frozen?_of_block (w := wr) (a := ⟨w3.heap.size, 1, none⟩) hbox).trans f1
        have y1 := (hb4.cell (p := ⟨w.heap.size, 1, none⟩) hlt3).trans c13
        obtain ⟨sb, so, rfl, hsb, h7⟩ := (HCH.out.wy.below hb4).at (k := k) (by omega)
        have z0 := h7.c0
        have hwk := HCH.out.ch.ways k (by omega) hy2
        have l1 := (HM.out.same (hb4.block b HM.out.lt)).look (Rd.way ws k).frm (by have := hwk.f0; omega) (by have := hwk.f1; omega)
        rw [hz] at l1
        dsimp only [Option.getD_some] at l1
        have HW := Lib.hid hown'; clear hown'
        have E0 := Lib.hid e0
        clear h7 hwk hgrow x0 x1 e0 e1' f0 f1 hob c03 c13
        have HZ := Lib.hid hz; clear hz
        go_wp2_with fail
        have hrows : ((w4.setCell ⟨w3.heap.size, 0, none⟩ (Value.int IntKind.i64 z.fst)).setCell ⟨w3.heap.size, 1, none⟩ (Value.int IntKind.i64 z.snd)).heap.size = w4.heap.size := by simp [World.setCell]
        have hg2 : w4.grownBy ((w4.setCell ⟨w3.heap.size, 0, none⟩ (Value.int IntKind.i64 z.fst)).setCell ⟨w3.heap.size, 1, none⟩ (Value.int IntKind.i64 z.snd)) (some w3.heap.size) :=
          ⟨rfl, rfl, rfl, by rw [hrows]; exact Nat.le_refl _, fun q hq hne => by
            have hne : q ≠ w3.heap.size := fun e => hne (by rw [e])
            rw [Below.heap_setCell _ _ _ _ hne, Below.heap_setCell _ _ _ _ hne]⟩
        have hw5 := HW.out.kept hg2 (.inr (fun e => by have := hob' _ e; omega))
        have hb5 : Below w3.heap.size w3 ((w4.setCell ⟨w3.heap.size, 0, none⟩ (Value.int IntKind.i64 z.fst)).setCell ⟨w3.heap.size, 1, none⟩ (Value.int IntKind.i64 z.snd)) := (hb4.setCell (p := ⟨w3.heap.size, 0, none⟩) (Nat.le_refl _) _).setCell (p := ⟨w3.heap.size, 1, none⟩) (Nat.le_refl _) _
        have q1 : (w4.setCell ⟨w3.heap.size, 0, none⟩ (Value.int IntKind.i64 z.fst)).cell? ⟨w3.heap.size, 1, none⟩ = some (.int .i64 k) := by rw [World.cell?_setCell_other _ _ _ _ (fun h => by injection h with h1 h2 h3; omega)]; exact g1
        have q0 : ((w4.setCell ⟨w3.heap.size, 0, none⟩ (Value.int IntKind.i64 z.fst)).setCell ⟨w3.heap.size, 1, none⟩ (Value.int IntKind.i64 z.snd)).cell? ⟨w3.heap.size, 0, none⟩ = some (.int .i64 z.1) := by
          rw [World.cell?_setCell_other _ _ _ _ (fun h => by injection h with h1 h2 h3; omega)]; exact World.cell?_setCell_same _ _ _ g0
        refine ⟨⟨z, l ++ [(k : Int)], HP', ?_, q0, World.cell?_setCell_same _ _ _ q1, by simpa using g2, by simpa using g3, hb5, by rw [hrows]; exact hs4⟩, ?_⟩
        · rw [List.length_append, List.map_append]; exact hw5
        · rw [q0, E0.out]; simp only [Option.getD_some, intOf]; omega
      · have hCl := hP.out.done hy
        have hl1440 := hP.out.len
        have hbw : Below w.heap.size w wr := hfin.trans (hb.mono (by omega))
        have HB := Lib.hid hbw; clear hbw
        rcases hO.out with ⟨hl1, ⟨rfl, hl0⟩ | ⟨g, cp, cur, rfl, hg, hcur, hcap, -, hcs, htake⟩⟩
        · obtain rfl : l = [] := List.length_eq_zero_iff.1 hl0
          have HF := Lib.hid hCl; clear hCl hl1 hl0 hO hP
          go_wp2_with fail
          refine (reverse_nil w.heap.size _).mono ?_
          rintro e w5 ⟨rfl, hb5⟩
          go_wp2_with fail
          go_ret2
          exact ⟨none, 0, [], 0, rfl, .inl rfl, HB.out.trans hb5, by rw [HG.out]; exact ⟨rfl, by rw [← HC.out, HF.out]; rfl⟩⟩
        · have hcr : CRow wr g l := ⟨cur, hcur, by simp at hl1; omega, fun t ht => by
            have h1 : (cur.toList.take (l.length * 1))[t]? = (l.map (Value.int .i64))[t]? := by rw [htake]
            rw [List.getElem?_take_of_lt (by omega)] at h1
            simp [Rd.mrk, List.getD_eq_getElem?_getD, ht] at h1 ⊢
            exact h1⟩
          have HF := Lib.hid hCl; clear hCl hl1 hO hP hcur htake
          go_wp2_with fail
          refine (reverse_any g cp l w.heap.size (by omega) wr hcr (by omega)).mono ?_
          rintro e w5 ⟨rfl, hr5, hb5⟩
          go_wp2_with fail
          go_ret2
          exact ⟨some ⟨g, 0, none⟩, cp, l.reverse, 0, by rw [List.length_reverse]; rfl, hr5.ints hr5.lt, HB.out.trans hb5, by rw [HG.out]; exact ⟨rfl, by rw [← HC.out, HF.out]⟩⟩
end Go.Proofs.Ytdmmjlhcjmdajaa
