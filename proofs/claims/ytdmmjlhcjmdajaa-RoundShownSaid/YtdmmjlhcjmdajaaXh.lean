/-
  RoundShown answers true, whatever lies in its arguments; and the laws that say why.
  Its conditions stand in each theorem.
-/
import Derived.Test.YtdmmjlhcjmdajaaXg
import Derived.Deep.AppendLies
import Derived.Deep.CutRange
import Derived.Deep.CutBlock
import Derived.BigQuiet
import Derived.Deep.QuietTactic
import Derived.BigRegion
namespace Go.Proofs.Ytdmmjlhcjmdajaa
open Go.RowKit Go.Shelf Go.Maps
set_option linter.unusedVariables false

theorem wrap_mid (n : Int) (h0 : -9223372036854775808 ≤ n) (h1 : n ≤ 9223372036854775807) : IntKind.i64.wrap n = n := by rw [IntKind.wrap_i64]; omega

/-- a region that draws its order, walked once: its worlds are those of a class -/
theorem region_quiet_I {P : Program} {I : Type} {Wf : I → World} {id : Nat} {Q : Exit → Act → World → Prop} {a : Act} {w : World} {l : List Oper} (hm : P.follows .mixedOrders = true) (hB : Region.lexB .any l.toArray = true)
    (hC : ∃ i, w.drew = Wf i) (h : wpQuiet P l.toArray (fun w' => ∃ i, w' = Wf i) (fun a' => ∀ w', (∃ i, w' = Wf i) → Q .normal a' w') l a) : (Code.region id l.toArray true).wp P Q a w :=
  wp_region_quiet (C := fun w' => ∃ i, w' = Wf i) hm hB hC (by simpa using h)

/-- what no path can do -/
theorem law_far {ws : List Rd.Wy} {n : Nat} {p a : Int} {O : Rd.Tab} (hr : Rd.Reached ws (Rd.his ws) n p a O) {k : Int} (hk : Rd.gt O k = none) (path : List Int) (b : Int) : cpCode ws path p a k b ≠ 0 := by
  unfold cpCode
  split
  · decide
  · next x hx =>
    split
    · next e =>
      obtain ⟨k', e'⟩ := x
      dsimp only at e
      subst e
      obtain ⟨x, hx, _⟩ := Rd.path_late hr path p a _ _ _ hr.beg (Int.le_refl _) hx
      rw [hk] at hx; cases hx
    · decide
theorem law_late {ws : List Rd.Wy} {n : Nat} {p a : Int} {O : Rd.Tab} (hr : Rd.Reached ws (Rd.his ws) n p a O) {k : Int} {x : Int × Int} (hk : Rd.gt O k = some x) (path : List Int) : cpCode ws path p a k (x.1 - 1) ≠ 0 := by
  unfold cpCode
  split
  · decide
  · next y hy =>
    split
    · next e =>
      obtain ⟨k', e'⟩ := y
      dsimp only at e
      subst e
      obtain ⟨z, hz, hle⟩ := Rd.path_late hr path p a _ _ _ hr.beg (Int.le_refl _) hy
      rw [hk] at hz
      injection hz with hz
      subst hz
      rw [if_pos (by dsimp only; omega)]
      decide
    · decide
theorem law_chain {ws : List Rd.Wy} {n : Nat} {p a : Int} {O : Rd.Tab} (hr : Rd.Reached ws (Rd.his ws) n p a O) {k : Int} {x : Int × Int} (hk : Rd.gt O k = some x) :
    cpCode ws (Rd.chain ws O 1440 x) p a k x.1 = 0 ∧ cpCode ws (Rd.chain ws O 1440 x) p a k (x.1 - 1) = 36 := by
  have h := Rd.chain_goes hr 1440 k x hk (by have := (hr.rng _ _ hk).2.1; omega)
  unfold cpCode
  rw [h]
  dsimp only
  rw [if_pos rfl, if_pos rfl, if_neg (by omega), if_pos (by omega)]
  exact ⟨rfl, rfl⟩
theorem law_mark {ws : List Rd.Wy} {n : Nat} {p a : Int} {O : Rd.Tab} {M : List Int} (hr : Rd.Reached ws (Rd.his ws) n p a O) (hm : Rd.Shows ws n p a M) {k : Int} {x : Int × Int} (hk : Rd.gt O k = some x) : Rd.mrk M k ≤ x.1 :=
  (Rd.marks_low hr hm x.1.toNat k x hk (by have := (hr.rng _ _ hk).1; omega)).2

/-- an argument: a row of ints -/
structure ArrIn (n0 : Nat) (W : World) (sa : Option Addr) (l : Nat) (f : Nat → Int) : Prop where
  m : l = 0 ∨ ∃ b o, sa = some ⟨b, o, none⟩ ∧ b < n0 ∧ ∀ t, t < l → W.cell? ⟨b, o + t, none⟩ = some (.int .i64 (f t))
  r : ∀ t, -9223372036854775808 ≤ f t ∧ f t ≤ 9223372036854775807
theorem ArrIn.below {n0 W W' sa l f} (h : ArrIn n0 W sa l f) (hb : Below n0 W W') : ArrIn n0 W' sa l f := by
  refine ⟨?_, h.r⟩
  rcases h.m with h | ⟨b, o, rfl, hl, h⟩
  · exact .inl h
  · exact .inr ⟨b, o, rfl, hl, fun t ht => (hb.cell (p := ⟨b, _, none⟩) hl).trans (h t ht)⟩

theorem owns_crow {W : World} {base g cap : Nat} {L : List Int} (h : W.ownsRow base 3 1 (.slice (some ⟨g, 0, none⟩) L.length cap) L.length (L.map (Value.int .i64))) (hl : 0 < L.length) : CRow W g L ∧ base ≤ g := by
  rcases h with ⟨hl1, ⟨hx, hl0⟩ | ⟨g', cp, cur, hv, hg, hcur, hcap, -, hcs, htake⟩⟩
  · omega
  · injection hv with h1 h2 h3
    injection h1 with h1
    injection h1 with h1
    subst h1
    refine ⟨⟨cur, hcur, by omega, fun t ht => ?_⟩, hg⟩
    have h1 : (cur.toList.take (L.length * 1))[t]? = (L.map (Value.int .i64))[t]? := by rw [htake]
    rw [List.getElem?_take_of_lt (by omega)] at h1
    simp [Rd.mrk, List.getD_eq_getElem?_getD, ht] at h1 ⊢
    exact h1
theorem owns_zero (W : World) : (W.alloc (.cells #[] 3)).ownsRow W.heap.size 3 1 (.slice (some ⟨W.heap.size, 0, none⟩) 0 0) 0 [] :=
  ⟨rfl, .inr ⟨W.heap.size, 0, #[], rfl, Nat.le_refl _, World.alloc_heap_new _ _, Nat.le_refl _, by unfold maxLen; omega, rfl, rfl⟩⟩

theorem RawIn.up {W W' : World} {ya yl yf za zl zf} (h : RawIn W.heap.size W ya yl yf za zl zf) (hb : Below W.heap.size W W') : RawIn W'.heap.size W' ya yl yf za zl zf := by
  refine ⟨?_, h.yr, ?_, h.zr⟩
  · rcases h.ym with h | ⟨b, o, rfl, hl, h⟩
    · exact .inl h
    · exact .inr ⟨b, o, rfl, Nat.lt_of_lt_of_le hl hb.size, fun t ht => (hb.cell (p := ⟨b, _, none⟩) hl).trans (h t ht)⟩
  · rcases h.zm with h | ⟨b, o, rfl, hl, h⟩
    · exact .inl h
    · exact .inr ⟨b, o, rfl, Nat.lt_of_lt_of_le hl hb.size, fun t ht => (hb.cell (p := ⟨b, _, none⟩) hl).trans (h t ht)⟩

theorem owns_ints {W : World} {base : Nat} {v : Value} {L : List Int} (h : W.ownsRow base 3 1 v L.length (L.map (Value.int .i64))) : ∃ pa pcap, v = .slice pa L.length pcap ∧ Ints W.heap.size W pa L ∧ (∀ q, v.ownBlock = some q → base ≤ q) := by
  have hob := fun q hq => (h.lt q hq).1
  rcases h with ⟨hl1, ⟨rfl, hl0⟩ | ⟨g, cp, cur, rfl, hg, hcur, hcap, -, hcs, htake⟩⟩
  · obtain rfl : L = [] := List.length_eq_zero_iff.1 hl0
    exact ⟨none, 0, rfl, .inl rfl, hob⟩
  · refine ⟨some ⟨g, 0, none⟩, cp, rfl, .inr ⟨g, 0, rfl, (Array.getElem?_eq_some_iff.1 hcur).1, fun t ht => ?_⟩, hob⟩
    have h1 : (cur.toList.take (L.length * 1))[t]? = (L.map (Value.int .i64))[t]? := by rw [htake]
    rw [List.getElem?_take_of_lt (by omega)] at h1
    unfold World.cell?
    rw [show W.heap[(⟨g, 0 + t, none⟩ : Addr).block]? = _ from hcur]
    simp [Rd.mrk, List.getD_eq_getElem?_getD, ht] at h1 ⊢
    exact h1

/-- what RoundShown keeps: the chart's and the round's variables, and the minutes -/
structure RS (n0 : Nat) (w X : World) (t8 t9 : Nat) (n : Nat) (sa : Option Addr) (cap : Nat) (ws : List Rd.Wy) (p a : Int) (s : Nat) : Prop where
  b : Below n0 w X
  l8 : t8 < X.heap.size
  l9 : t9 < X.heap.size
  c0 : X.cell? ⟨t8, 0, none⟩ = some (.int .i64 n)
  c1 : X.cell? ⟨t8, 1, none⟩ = some (.slice sa ws.length cap)
  d0 : X.cell? ⟨t9, 0, none⟩ = some (.int .i64 p)
  d1 : X.cell? ⟨t9, 1, none⟩ = some (.int .i64 a)
  ch : IsChart X.heap.size X sa ws n
  row : IRow X s (Rd.mins (Rd.reach n ws (Rd.his ws) p a))
theorem RS.up {n0 w X Y t8 t9 n sa cap ws p a s} (h : RS n0 w X t8 t9 n sa cap ws p a s) (hb : Below X.heap.size X Y) (hn : n0 ≤ X.heap.size) : RS n0 w Y t8 t9 n sa cap ws p a s :=
  ⟨h.b.trans (hb.mono hn), Nat.lt_of_lt_of_le h.l8 hb.size, Nat.lt_of_lt_of_le h.l9 hb.size, (hb.cell (p := ⟨t8, 0, none⟩) h.l8).trans h.c0, (hb.cell (p := ⟨t8, 1, none⟩) h.l8).trans h.c1,
    (hb.cell (p := ⟨t9, 0, none⟩) h.l9).trans h.d0, (hb.cell (p := ⟨t9, 1, none⟩) h.l9).trans h.d1, (h.ch.below hb).mono hb.size, h.row.up hb⟩

structure FN (n0 : Nat) (w X : World) (t8 t9 : Nat) (n : Nat) (sa : Option Addr) (cap : Nat) (ws : List Rd.Wy) (p a : Int) (s : Nat) (pa : Option Addr) (L : List Int) (g : Nat) (M : List Int) : Prop where
  k : RS n0 w X t8 t9 n sa cap ws p a s
  path : Ints X.heap.size X pa L
  row : CRow X g M
theorem FN.up {n0 w X Y t8 t9 n sa cap ws p a s pa L g M} (h : FN n0 w X t8 t9 n sa cap ws p a s pa L g M) (hb : Below X.heap.size X Y) (hn : n0 ≤ X.heap.size) : FN n0 w Y t8 t9 n sa cap ws p a s pa L g M :=
  ⟨h.k.up hb hn, (h.path.below hb).mono hb.size, h.row.same (hb.block g h.row.lt)⟩

set_option maxRecDepth 100000 in
set_option maxHeartbeats 4000000 in
theorem round3 (pl r0 r1 : Int) (ya : Option Addr) (yl ycap : Nat) (yf : Nat → Int) (za : Option Addr) (zl zcap : Nat) (zf : Nat → Int) (wa : Option Addr) (wl wcap : Nat) (wf : Nat → Int) (la : Option Addr) (ll lcap : Nat) (lf : Nat → Int) (w : World)
   (h : RawIn w.heap.size w ya yl yf za zl zf) (hw : ArrIn w.heap.size w wa wl wf) (hl : ArrIn w.heap.size w la ll lf)
   (hp : -9223372036854775808 ≤ pl ∧ pl ≤ 9223372036854775807) (hr0 : -9223372036854775808 ≤ r0 ∧ r0 ≤ 9223372036854775807) (hr1 : -9223372036854775808 ≤ r1 ∧ r1 ≤ 9223372036854775807) :
   Calls Try.prog 3 #[.agg #[.int .i64 pl, .slice ya yl ycap, .int .i64 r0, .int .i64 r1, .slice za zl zcap], .slice wa wl wcap, .slice la ll lcap] w (YesPost w) := by
  have HW := Lib.hid hw; have HL := Lib.hid hl; clear hw hl
  have HP := Lib.hid (And.intro hp (And.intro hr0 hr1)); clear hp hr0 hr1
  have hb0 := below_new w (Obj.cells #[.int .i64 pl, .slice ya yl ycap, .int .i64 r0, .int .i64 r1, .slice za zl zcap] 26)
  go_enter Try.func3, Try.ntmps3
  go_wp2_with fail
  refine (sane4 _).mono ?_
  rintro e w1 ⟨rfl, hb1⟩
  have hb2 := hb0.trans (hb1.mono (by simp))
  have y0 : w1.cell? ⟨w.heap.size, 0, none⟩ = some (.int .i64 pl) := by rw [hb1.cell (p := ⟨w.heap.size, 0, none⟩) (by simp)]; go_simp
  have y1 : w1.cell? ⟨w.heap.size, 1, none⟩ = some (.slice ya yl ycap) := by rw [hb1.cell (p := ⟨w.heap.size, 1, none⟩) (by simp)]; go_simp
  have y2 : w1.cell? ⟨w.heap.size, 2, none⟩ = some (.int .i64 r0) := by rw [hb1.cell (p := ⟨w.heap.size, 2, none⟩) (by simp)]; go_simp
  have y3 : w1.cell? ⟨w.heap.size, 3, none⟩ = some (.int .i64 r1) := by rw [hb1.cell (p := ⟨w.heap.size, 3, none⟩) (by simp)]; go_simp
  have y4 : w1.cell? ⟨w.heap.size, 4, none⟩ = some (.slice za zl zcap) := by rw [hb1.cell (p := ⟨w.heap.size, 4, none⟩) (by simp)]; go_simp
  have h1 := h.up hb2
  clear hb0 hb1 h
  go_wp2_with fail
  refine (made_any pl r0 r1 ya yl ycap yf za zl zcap zf w1 h1 HP.out.1 HP.out.2.1 HP.out.2.2).mono ?_
  rintro e w2 ⟨n, sa, cap, ws, p, a, qa, ql, qc, rfl, ch, hp0, hp1, ha0, ha1, hb3⟩
  have hb4 := hb2.trans (hb3.mono hb2.size)
  clear y0 y1 y2 y3 y4 h1 hb2 hb3 HP
  go_upto_region 3 with fail
  obtain ⟨A, hA⟩ : ∃ A, A = ((w2.alloc (Obj.cells #[Value.int IntKind.i64 ↑n, Value.slice sa ws.length cap] 31)).alloc (Obj.cells #[Value.int IntKind.i64 p, Value.int IntKind.i64 a, Value.slice qa ql qc] 34)) := ⟨_, rfl⟩
  rw [← hA]
  have hbA : Below w2.heap.size w2 A := by rw [hA]; exact ((Below.refl _ _).alloc (Nat.le_refl _) _).alloc (by simp) _
  have hsA : A.heap.size = w2.heap.size + 2 := by rw [hA]; simp
  have c0 : A.cell? ⟨w2.heap.size, 0, none⟩ = some (.int .i64 n) := by rw [hA]; go_simp
  have c1 : A.cell? ⟨w2.heap.size, 1, none⟩ = some (.slice sa ws.length cap) := by rw [hA]; go_simp
  have d0 : A.cell? ⟨w2.heap.size + 1, 0, none⟩ = some (.int .i64 p) := by rw [hA]; go_simp
  have d1 : A.cell? ⟨w2.heap.size + 1, 1, none⟩ = some (.int .i64 a) := by rw [hA]; go_simp
  have hb5 : Below w.heap.size w A := hb4.trans (hbA.mono hb4.size)
  have l8 : w2.heap.size < A.heap.size := by omega
  have l9 : w2.heap.size + 1 < A.heap.size := by omega
  have chA : IsChart A.heap.size A sa ws n := (ch.below hbA).mono (by omega)
  clear hA hbA hsA ch hb4
  generalize w2.heap.size = t8 at *
  generalize t8 + 1 = t9 at *
  have hr : Rd.Reached ws (Rd.his ws) n p a (Rd.reach n ws (Rd.his ws) p a) := Rd.reach_spec chA.ch.his hp0 hp1 ha0 ha1
  have q := sure_any n sa cap ws p a A chA hp0 hp1 ha0 ha1
  go_wp2_with fail
  refine q.mono ?_
  rintro e W3 ⟨s, rfl, -, F, hb⟩
  have K : RS w.heap.size w W3 t8 t9 n sa cap ws p a s := ⟨hb5.trans (hb.mono hb5.size), Nat.lt_of_lt_of_le l8 hb.size, Nat.lt_of_lt_of_le l9 hb.size, (hb.cell (p := ⟨t8, 0, none⟩) l8).trans c0, (hb.cell (p := ⟨t8, 1, none⟩) l8).trans c1, (hb.cell (p := ⟨t9, 0, none⟩) l9).trans d0, (hb.cell (p := ⟨t9, 1, none⟩) l9).trans d1, (chA.below hb).mono hb.size, F⟩
  have hn : w.heap.size ≤ W3.heap.size := K.b.size
  have hlen : (Rd.mins (Rd.reach n ws (Rd.his ws) p a)).length = n := by rw [Rd.mins_len, hr.len]
  have hrange : n ≤ 12 ∧ 1 ≤ n := ⟨chA.ch.n2, chA.ch.n1⟩
  have HR := Lib.hid hr
  clear q F hb c0 c1 d0 d1 chA l8 l9 hb5 hr
  have k0 := K.c0; have k1 := K.c1; have k2 := K.d0; have k3 := K.d1
  have q := checkMarks_any n sa cap ws p a (some ⟨s, 0, none⟩) n _ W3 K.ch hlen K.row.inew hp0 hp1 ha0 ha1
  go_wp2_with fail
  refine q.mono ?_
  rintro e W4 ⟨c, rfl, hc, hb⟩
  obtain rfl : c = 0 := hc.2 (Rd.mins_show hp0 hp1 HR.out)
  have K := K.up hb hn
  have hn := Nat.le_trans hn hb.size
  clear k0 k1 k2 k3 q hc hb
  go_wp2_with fail
  obtain ⟨i3, hi3, hz30, hz31, hz32⟩ := info_parts info3
  have HI := Lib.hid (And.intro hi3 (And.intro hz30 (And.intro hz31 hz32))); clear hi3 hz30 hz31 hz32
  go_loopw [12, 13] (fun v c wr => ∃ (k : Nat) (L : List Int), k ≤ 6 ∧ c = .int .i64 k ∧ L.length = k ∧ Hid (wr.ownsRow W4.heap.size 3 1 v k (L.map (Value.int .i64))) ∧ Below W4.heap.size W4 wr) (fun _ c _ => 6 - (intOf c).toNat)
  case atStart => exact ⟨0, [], by omega, rfl, rfl, Lib.hid (World.ownsRow_nil _ _ _ _), Below.refl _ _⟩
  case round =>
    obtain ⟨k, L, hk, rfl, hL, hO, hb⟩ := hrel
    have KX := K.up hb hn
    have k1 := KX.c1
    go_upto_region 8 with fail
    go_cut [72] from 59 to 72 (fun s wx => s = .bool (decide (k < wl ∧ k < 6 ∧ 0 < ws.length)) ∧ wx = wr)
    case first =>
      by_cases h1 : k < wl
      · by_cases h2 : k < 6
        · by_cases h3 : 0 < ws.length
          · go_wp2_with fail
            go_meet
            exact ⟨by simp [h1, h2, h3], rfl⟩
          · go_wp2_with fail
            go_meet
            exact ⟨by simp [h1, h2, h3], rfl⟩
        · go_wp2_with fail
          go_meet
          exact ⟨by simp [h1, h2], rfl⟩
      · go_wp2_with fail
        go_meet
        exact ⟨by simp [h1], rfl⟩
    case rest =>
    obtain ⟨rfl, rfl⟩ := hcut
    by_cases hc : k < wl ∧ k < 6 ∧ 0 < ws.length
    · rw [decide_eq_true hc]
      obtain ⟨hc1, hc2, hc3⟩ := hc
      obtain ⟨b, o, hwa, hbl, hcell⟩ := HW.out.m.resolve_left (by omega)
      subst hwa
      have hbK := KX.b
      have hq : ∀ X, Below W4.heap.size W4 X → X.cell? ⟨b, o + k, none⟩ = some (.int .i64 (wf k)) ∧ X.cell? ⟨t8, 1, none⟩ = some (.slice sa ws.length cap) := fun X hX =>
        ⟨((K.up hX hn).b.cell (p := ⟨b, o + k, none⟩) hbl).trans (hcell k hc1), (K.up hX hn).c1⟩
      have q1 := (hq wc hb).1
      have HQ := Lib.hid hq; clear hq hcell
      have n1 : (0 : Int) ≤ (k : Int) := by omega
      have n2 : (k : Int) < (wl : Int) := by omega
      have n3 : (k : Int) < 6 := by omega
      have n4 : (0 : Int) < (ws.length : Int) := by omega
      have hwl := K.ch.ch.len
      have hsw := hb.size
      obtain ⟨md, hmd, md0, md1⟩ := mod_name (wf k) ws.length n4
      have hob : ∀ q, u12.ownBlock = some q → W4.heap.size ≤ q := fun q hq => (hO.out.lt q hq).1
      have hOA := owns_below hO.out ((Below.refl wc.heap.size wc).drew.alloc (Nat.le_refl _) (Obj.cells #[Value.int IntKind.i64 md] 3))
      have hsA : wc.heap.size ≤ (wc.drew.alloc (Obj.cells #[Value.int IntKind.i64 md] 3)).heap.size := ((Below.refl wc.heap.size wc).drew.alloc (Nat.le_refl _) _).size
      have hbX : Below W4.heap.size W4 (wc.drew.alloc (Obj.cells #[Value.int IntKind.i64 md] 3)) := hb.drew.alloc hsw _
      have HOA := Lib.hid (And.intro hOA (And.intro hbX (And.intro hob hsA))); clear hOA hbX hob hsA KX hbK
      go_upto_region 10 with fail
      go_region_held3 (fun w' => w'.cell? ⟨b, o + k, none⟩ = some (.int .i64 (wf k)) ∧ w'.cell? ⟨t8, 1, none⟩ = some (.slice sa ws.length cap)) (first | exact HQ.out _ hB9 | exact HQ.out _ hb.drew | exact HQ.out _ HOA.out.2.1 | go_keep)
       (first
        | (go_at_call 8; refine (mod_is (wf k) _ md _ hmd.out (HW.out.r k) ⟨n4, by omega⟩).mono ?_; rintro e w' ⟨rfl, rfl⟩)
        | (refine step_append_lies _ rfl _ _ _ rfl W4.heap.size 3 i3 (.int .i64 0) 1 8 Try.underlying27 HI.out.1 HI.out.2.1 HI.out.2.2.1 HI.out.2.2.2 rfl (by decide) _ _ _ rfl HOA.out.1 ⟨wc.heap.size, 0, none⟩ 1 1 [.int .i64 md] rfl rfl (cells_new _ _ _) (by intro u hu; simp at hu; subst hu; rfl) (by decide) (by unfold maxLen; omega) (by omega) (Nat.le_trans hsw HOA.out.2.2.2) _ rfl ?_; intro g cap9 w9 hown9 hgrow hat hlt9; have hB9 := HOA.out.2.1.grown hgrow (Nat.le_trans hsw HOA.out.2.2.2) HOA.out.2.2.1))
      go_wp2_with fail
      exact ⟨⟨k + 1, L ++ [md], by omega, by go_num, by simp [hL], Lib.hid (by rw [List.map_append]; exact hown9), hB9⟩, by simp [intOf]; omega⟩
    · rw [decide_eq_false hc]
      clear hc
      have hZ := owns_zero wc
      have hrow := (KX.up (below_new wc (Obj.cells #[] 3)) (Nat.le_trans hn hb.size)).row
      have hnews := World.news_of_block (cs := ((Rd.mins (Rd.reach n ws (Rd.his ws) p a)).map (Value.int .i64)).toArray) hrow
      obtain ⟨MS, hMS⟩ : ∃ MS, MS = Rd.mins (Rd.reach n ws (Rd.his ws) p a) := ⟨_, rfl⟩
      rw [← hMS] at hlen hnews
      have HZ := Lib.hid (And.intro hZ hnews); clear hZ hnews hrow
      have HM := Lib.hid (And.intro hMS hlen); clear hMS
      go_wp2_with (at_builtin; refine wpList_append_lies _ rfl _ _ _ rfl wc.heap.size 3 i3 (.int .i64 0) 1 8 Try.underlying27 HI.out.1 HI.out.2.1 HI.out.2.2.1 HI.out.2.2.2 rfl (by decide) _ _ _ rfl HZ.out.1 ⟨s, 0, none⟩ n n (MS.map (Value.int .i64)) rfl (by simp [hlen]) HZ.out.2 (by intro u hu; obtain ⟨x, -, rfl⟩ := List.mem_map.1 hu; rfl) (by omega) (by unfold maxLen; omega) (by omega) (by simp) _ rfl ?_)
      intro g gcap w5 hown hgrow hat hlt5
      have hwc := hb.size
      have hn5 : w.heap.size ≤ wc.heap.size := Nat.le_trans hn hwc
      have hb5 : Below wc.heap.size wc w5 := (below_new wc (Obj.cells #[] 3)).grown hgrow (by simp) (fun q hq => by
        have : q = wc.heap.size := by simpa [Value.ownBlock, Act.eval] using hq.symm
        omega)
      have hown2 : w5.ownsRow wc.heap.size 3 1 (.slice (some ⟨g, 0, none⟩) MS.length gcap) MS.length (MS.map (Value.int .i64)) := by rw [hlen]; exact hown
      obtain ⟨hcr, hgb⟩ := owns_crow hown2 (by omega)
      subst hL
      obtain ⟨pa, pcap, rfl, hpath, -⟩ := owns_ints hO.out
      have HC := Lib.hid hcr; clear hcr hown hown2 hgrow hat HZ hO
      have hn12 := hrange
      have HK := Lib.hid (And.intro KX hpath); clear KX hpath K hn hb k1
      go_wp2_with fail
      obtain ⟨wm, rfl⟩ : ∃ wm, wm = wc := ⟨_, rfl⟩
      go_loopw [15] (fun c wx => ∃ (j : Nat) (M : List Int), j ≤ n ∧ c = .int .i64 j ∧ M.length = n ∧ Hid (CRow wx g M) ∧ Below wm.heap.size wm wx) (fun c _ => n - (intOf c).toNat)
      case atStart => exact ⟨0, MS, by omega, rfl, HM.out.2, HC, hb5⟩
      case round =>
        clear hb5 HC
        obtain ⟨j, M, hj, rfl, hM, hC, hb⟩ := hrel
        go_upto_region 13 with fail
        go_cut [97] from 89 to 97 (fun s wx => s = .bool (decide (j < n ∧ 0 < ll)) ∧ wx = wr)
        case first =>
          by_cases h1 : j < n
          · by_cases h2 : 0 < ll
            · go_wp2_with fail
              go_meet
              exact ⟨by simp [h1, h2], rfl⟩
            · go_wp2_with fail
              go_meet
              exact ⟨by simp [h1, h2], rfl⟩
          · go_wp2_with fail
            go_meet
            exact ⟨by simp [h1], rfl⟩
        case rest =>
        obtain ⟨rfl, rfl⟩ := hcut
        by_cases hc : j < n ∧ 0 < ll
        · rw [decide_eq_true hc]
          obtain ⟨hc1, hc2⟩ := hc
          have n1 : (0 : Int) ≤ (j : Int) := by omega
          have n2 : (j : Int) < (n : Int) := by omega
          have v1 := hC.out.cell (j := j) (by omega)
          have v2 := hC.out.frozen j
          by_cases hm0 : 0 ≤ Rd.mrk M j
          · obtain ⟨b, o, hla, hbl, hcell⟩ := HL.out.m.resolve_left (by omega)
            subst hla
            obtain ⟨jr, hjr, hjl⟩ : ∃ jr : Nat, j % ll = jr ∧ jr < ll := ⟨_, rfl, Nat.mod_lt _ hc2⟩
            have v3 : wc.cell? ⟨b, o + jr, none⟩ = some (.int .i64 (lf jr)) := (((HK.out.1.b).trans (hb.mono hn5)).cell (p := ⟨b, o + jr, none⟩) hbl).trans (hcell jr hjl)
            have m1 : (j : Int).tmod (ll : Int) = (jr : Int) := by
              rw [Int.tmod_eq_emod_of_nonneg n1]
              omega
            have m2 : (ll : Int) ≠ 0 := by omega
            have m3 : (0 : Int) ≤ (jr : Int) := by omega
            have m4 : (jr : Int) < (ll : Int) := by omega
            obtain ⟨md, hmd, md0, md1⟩ := mod_name (lf jr) 17 (by decide)
            have hlr := HL.out.r jr
            clear hcell hbl hjr
            generalize hmv : Rd.mrk M j = mv at *
            go_upto_region 16 with fail
            go_region_with (first | (go_at_call 8; refine (mod_is (lf jr) 17 md _ hmd.out hlr ⟨by decide, by decide⟩).mono ?_; rintro e w' ⟨rfl, rfl⟩))
            all_goals (go_wp2_with fail; exact ⟨⟨j + 1, M.set j _, by omega, by go_num, by simp [hM], Lib.hid (hC.out.set (by omega) _), (hb.setCell (p := ⟨g, j, none⟩) hgb _).drew⟩, by simp [intOf]; omega⟩)
          · go_wp2_with fail
            exact ⟨⟨j + 1, M, by omega, by go_num, hM, hC, hb⟩, by simp [intOf]; omega⟩
        · rw [decide_eq_false hc]
          clear hc
          have hn6 : w.heap.size ≤ wc.heap.size := Nat.le_trans hn5 hb.size
          have FX : FN w.heap.size w wc t8 t9 n sa cap ws p a s pa L g M := ⟨HK.out.1.up hb hn5, (HK.out.2.below hb).mono hb.size, hC.out⟩
          clear hb hC hgb HK hwc hlt5 hj hn5
          have k0 := FX.k.c0; have k1 := FX.k.c1; have k2 := FX.k.d0; have k3 := FX.k.d1
          have q := checkMarks_any n sa cap ws p a (some ⟨g, 0, none⟩) gcap M wc FX.k.ch hM (FX.row.ints FX.row.lt) hp0 hp1 ha0 ha1
          go_wp2_with fail
          refine q.mono ?_
          rintro e w6 ⟨c, rfl, hcM, hb6⟩
          have FX := FX.up hb6 hn6
          have hn6 := Nat.le_trans hn6 hb6.size
          have HCM := Lib.hid hcM
          clear q hcM k0 k1 k2 k3 hb6
          go_wp2_with fail
          obtain ⟨sh, hsh⟩ : ∃ sh : Bool, (c == 0) = sh := ⟨_, rfl⟩
          rw [hsh]
          have hshow : sh = true → Rd.Shows ws n p a M := fun h => HCM.out.1 (by rw [h] at hsh; simpa using hsh)
          have HSH := Lib.hid hshow
          clear hsh hshow HCM
          have hML := hM
          clear hM
          go_loopw [17] (fun c wx => ∃ k : Nat, k ≤ n ∧ c = .int .i64 k ∧ Hid (FN w.heap.size w wx t8 t9 n sa cap ws p a s pa L g M) ∧ w.heap.size ≤ wx.heap.size) (fun c _ => n - (intOf c).toNat)
          case atStart => exact ⟨0, by omega, rfl, Lib.hid FX, hn6⟩
          case round =>
            clear FX hn6
            obtain ⟨k, hk, rfl, hF, hn6⟩ := hrel
            have k0 := hF.out.k.c0; have k1 := hF.out.k.c1; have k2 := hF.out.k.d0; have k3 := hF.out.k.d1
            by_cases hkn : k < n
            · have hl9 := hF.out.k.l9
              have hl8 := hF.out.k.l8
              have FA := hF.out.up (below_new wr (Obj.cells #[Value.int IntKind.i64 p, Value.int IntKind.i64 k, Value.int IntKind.i64 a] 43)) hn6
              have q := path_any n sa cap ws p k a _ FA.k.ch hp0 hp1 (by omega) (by omega) ha0 ha1
              have HQ := Lib.hid q; clear q FA
              go_wp2_with fail
              refine HQ.out.mono ?_
              rintro e w7 ⟨sb, pcp, pth, c2, rfl, hI, hb7, hmatch⟩
              have hbw : Below wr.heap.size wr w7 := (below_new wr _).trans (hb7.mono (by simp))
              have e0 : w7.cell? ⟨wr.heap.size, 0, none⟩ = some (.int .i64 p) := by rw [hb7.cell (p := ⟨wr.heap.size, 0, none⟩) (by simp)]; go_simp
              have e1 : w7.cell? ⟨wr.heap.size, 1, none⟩ = some (.int .i64 k) := by rw [hb7.cell (p := ⟨wr.heap.size, 1, none⟩) (by simp)]; go_simp
              have e2 : w7.cell? ⟨wr.heap.size, 2, none⟩ = some (.int .i64 a) := by rw [hb7.cell (p := ⟨wr.heap.size, 2, none⟩) (by simp)]; go_simp
              have FB := hF.out.up hbw hn6
              have hn7 := Nat.le_trans hn6 hbw.size
              have hrl : wr.heap.size < w7.heap.size := by have := hb7.size; simp at this; omega
              have hmm := Rd.mrk_mins (Rd.reach n ws (Rd.his ws) p a) k (by omega) (by rw [HR.out.len]; omega)
              have n1 : (0 : Int) ≤ (k : Int) := by omega
              have n2 : (k : Int) < (n : Int) := by omega
              clear HQ hb7 hbw hF k0 k1 k2 k3 hl9 hl8
              cases hg : Rd.gt (Rd.reach n ws (Rd.his ws) p a) k with
              | none =>
                rw [hg] at hmatch hmm
                dsimp only at hmatch hmm
                obtain ⟨rfl, rfl⟩ := hmatch
                have f1 := FB.k.row.cell (j := k) (by rw [← HM.out.1, HM.out.2]; exact hkn)
                rw [hmm] at f1
                have q := checkPath_any n sa cap ws p k a 1439 pa pcap L w7 FB.k.ch FB.path (by omega) hp0 hp1 (by omega) (by omega) ha0 ha1
                have hcc := law_far HR.out hg L 1439
                generalize cpCode ws L p a k 1439 = cc at *
                have k0 := FB.k.c0; have k1 := FB.k.c1
                have HF := Lib.hid (And.intro FB q); clear FB q hmm hI hg
                go_wp2_with fail
                refine HF.out.2.mono ?_
                rintro e w8 ⟨rfl, hb8⟩
                have FC := HF.out.1.up hb8 hn7
                have hn8 := Nat.le_trans hn7 hb8.size
                have HFC := Lib.hid FC
                clear FC hb8 HF k0 k1 f1 e0 e1 e2
                go_wp2_with fail
                exact ⟨⟨k + 1, by omega, by go_num, HFC, hn8⟩, by simp [intOf]; omega⟩
              | some x =>
                rw [hg] at hmatch hmm
                dsimp only at hmatch hmm
                obtain ⟨rfl, hpth⟩ := hmatch
                have hlc := law_chain HR.out hg
                have hll := law_late HR.out hg L
                have hrg := HR.out.rng _ _ hg
                have hlm : sh = true → Rd.mrk M k ≤ x.1 := fun h => law_mark HR.out (HSH.out h) hg
                have hplen : pth.length ≤ 1440 := by rw [hpth]; exact chain_len _ _ _ _
                rw [← hpth] at hlc
                have f1 := FB.k.row.cell (j := k) (by rw [← HM.out.1, HM.out.2]; exact hkn)
                have f2 := FB.row.cell (j := k) (by omega)
                rw [hmm] at f1
                obtain ⟨y, hy⟩ : ∃ y, x.1 = y := ⟨_, rfl⟩
                rw [hy] at f1 hlc hll hlm hrg
                obtain ⟨z, hz⟩ : ∃ z, y - 1 = z := ⟨_, rfl⟩
                rw [hz] at hlc hll
                have hzy : z ≠ y := by omega
                have hwz : IntKind.i64.wrap (y - 1) = z := by rw [wrap_mid (y - 1) (by omega) (by omega)]; exact hz
                have hy0 : 0 ≤ y := hrg.1
                generalize hmk : Rd.mrk M k = mk at *
                have FX0 := FB
                have hL2 := hI
                have HS : Hid (∀ X, Below w7.heap.size w7 X → FN w.heap.size w X t8 t9 n sa cap ws p a s pa L g M ∧ Ints X.heap.size X sb pth ∧ (X.cell? ⟨t8, 0, none⟩ = some (.int .i64 n) ∧ X.cell? ⟨t8, 1, none⟩ = some (.slice sa ws.length cap) ∧ X.cell? ⟨wr.heap.size, 0, none⟩ = some (.int .i64 p) ∧ X.cell? ⟨wr.heap.size, 1, none⟩ = some (.int .i64 k) ∧ X.cell? ⟨wr.heap.size, 2, none⟩ = some (.int .i64 a) ∧ X.cell? ⟨s, k, none⟩ = some (.int .i64 y) ∧ X.cell? ⟨g, k, none⟩ = some (.int .i64 mk))) :=
                  Lib.hid fun X hX => ⟨FX0.up hX hn7, (hL2.below hX).mono hX.size, (FX0.up hX hn7).k.c0, (FX0.up hX hn7).k.c1, (hX.cell (p := ⟨wr.heap.size, 0, none⟩) hrl).trans e0, (hX.cell (p := ⟨wr.heap.size, 1, none⟩) hrl).trans e1, (hX.cell (p := ⟨wr.heap.size, 2, none⟩) hrl).trans e2, (hX.cell (p := ⟨s, k, none⟩) FX0.k.row.lt).trans f1, (hX.cell (p := ⟨g, k, none⟩) FX0.row.lt).trans f2⟩
                have KEY : Hid (∀ (X : World) (b' : Int), Below w7.heap.size w7 X → (b' = y ∨ b' = z) → Calls Try.prog 10 #[.agg #[.int .i64 n, .slice sa ws.length cap], .agg #[.int .i64 p, .int .i64 k, .int .i64 a], .slice sb pth.length pcp, .int .i64 b'] X (ErrPost (if b' = y then 0 else 36) X.heap.size X)) := Lib.hid fun X b' hX hb' => by
                  have h := checkPath_any n sa cap ws p k a b' sb pcp pth X (HS.out X hX).1.k.ch (HS.out X hX).2.1 (by omega) hp0 hp1 (by omega) (by omega) ha0 ha1
                  rcases hb' with rfl | rfl
                  · rw [hlc.1] at h; rw [if_pos rfl]; exact h
                  · rw [hlc.2] at h; rw [if_neg hzy]; exact h
                have KEY2 : Hid (∀ (X : World), Below w7.heap.size w7 X → Calls Try.prog 10 #[.agg #[.int .i64 n, .slice sa ws.length cap], .agg #[.int .i64 p, .int .i64 k, .int .i64 a], .slice pa L.length pcap, .int .i64 z] X (ErrPost (cpCode ws L p a k z) X.heap.size X)) := Lib.hid fun X hX =>
                  checkPath_any n sa cap ws p k a z pa pcap L X (HS.out X hX).1.k.ch (HS.out X hX).1.path (by omega) hp0 hp1 (by omega) (by omega) ha0 ha1
                generalize cpCode ws L p a k z = cc at *
                have HLM := Lib.hid hlm
                clear FX0 FB hL2 hI hlc hlm hrg hmm hg hpth hplen e0 e1 e2 f2 hz hmk
                go_upto_region 26 with fail
                go_cut [187] from 163 to 187 (fun v wx => v = .bool false ∧ Below w7.heap.size w7 wx)
                case first =>
                  have hB : Below w7.heap.size w7 w7.drew := (Below.refl _ _).drew
                  go_region_held3 (fun X => X.cell? ⟨t8, 0, none⟩ = some (.int .i64 n) ∧ X.cell? ⟨t8, 1, none⟩ = some (.slice sa ws.length cap) ∧ X.cell? ⟨wr.heap.size, 0, none⟩ = some (.int .i64 p) ∧ X.cell? ⟨wr.heap.size, 1, none⟩ = some (.int .i64 k) ∧ X.cell? ⟨wr.heap.size, 2, none⟩ = some (.int .i64 a) ∧ X.cell? ⟨s, k, none⟩ = some (.int .i64 y) ∧ X.cell? ⟨g, k, none⟩ = some (.int .i64 mk)) (first | exact (HS.out _ hB).2.2 | go_keep)
                   (first
                    | (go_at_call 10; refine (KEY.out _ _ hB ?_).mono ?_; (first | exact .inl rfl | exact .inr rfl); rintro e wA ⟨rfl, hb⟩; (first | rw [if_pos rfl] | rw [if_neg hzy]); have hB := hB.trans (hb.mono hB.size); clear hb))
                  all_goals (go_wp2_with fail; go_meet; exact ⟨by simp, hB⟩)
                case rest =>
                obtain ⟨rfl, hB⟩ := hcut
                obtain ⟨j0, j1, j2, j3, j4, j5, j6⟩ := (HS.out _ hB).2.2
                generalize hwc : wc = w8 at *
                clear hwc f1 KEY
                have hw8 := hB.size
                have KEY3 : Hid (∀ (X : World), Below w8.heap.size w8 X → Calls Try.prog 10 #[.agg #[.int .i64 n, .slice sa ws.length cap], .agg #[.int .i64 p, .int .i64 k, .int .i64 a], .slice pa L.length pcap, .int .i64 z] X (ErrPost cc X.heap.size X)) := Lib.hid fun X hX => KEY2.out X (hB.trans (hX.mono hw8))
                have HS3 : Hid (∀ X, Below w8.heap.size w8 X → FN w.heap.size w X t8 t9 n sa cap ws p a s pa L g M ∧ (X.cell? ⟨t8, 0, none⟩ = some (.int .i64 n) ∧ X.cell? ⟨t8, 1, none⟩ = some (.slice sa ws.length cap) ∧ X.cell? ⟨wr.heap.size, 0, none⟩ = some (.int .i64 p) ∧ X.cell? ⟨wr.heap.size, 1, none⟩ = some (.int .i64 k) ∧ X.cell? ⟨wr.heap.size, 2, none⟩ = some (.int .i64 a) ∧ X.cell? ⟨s, k, none⟩ = some (.int .i64 y) ∧ X.cell? ⟨g, k, none⟩ = some (.int .i64 mk))) :=
                  Lib.hid fun X hX => ⟨(HS.out X (hB.trans (hX.mono hw8))).1, (HS.out X (hB.trans (hX.mono hw8))).2.2⟩
                have hn8 := Nat.le_trans hn7 hw8
                clear KEY2 HS hB hw8 hn7
                go_upto_region 28 with fail
                go_cut [211] from 188 to 211 (fun v wx => v = .bool false ∧ Below w8.heap.size w8 wx)
                case first =>
                  have hll0 : (cc == 0) = false := by simpa using hll
                  obtain ⟨I, Wf, hI, hI2⟩ : ∃ (I : Type) (Wf : I → World), (∀ i, Below w8.heap.size w8 (Wf i)) ∧ (∀ X, Below w8.heap.size w8 X → ∃ i, X = Wf i) := ⟨{X : World // Below w8.heap.size w8 X}, Subtype.val, fun i => i.2, fun X h => ⟨⟨X, h⟩, rfl⟩⟩
                  have g0 : ∀ i, (Wf i).cell? ⟨t8, 0, none⟩ = some (.int .i64 n) := fun i => (HS3.out _ (hI i)).2.1
                  have g1 : ∀ i, (Wf i).cell? ⟨t8, 1, none⟩ = some (.slice sa ws.length cap) := fun i => (HS3.out _ (hI i)).2.2.1
                  have g2 : ∀ i, (Wf i).cell? ⟨wr.heap.size, 0, none⟩ = some (.int .i64 p) := fun i => (HS3.out _ (hI i)).2.2.2.1
                  have g3 : ∀ i, (Wf i).cell? ⟨wr.heap.size, 1, none⟩ = some (.int .i64 k) := fun i => (HS3.out _ (hI i)).2.2.2.2.1
                  have g4 : ∀ i, (Wf i).cell? ⟨wr.heap.size, 2, none⟩ = some (.int .i64 a) := fun i => (HS3.out _ (hI i)).2.2.2.2.2.1
                  have g5 : ∀ i, (Wf i).cell? ⟨s, k, none⟩ = some (.int .i64 y) := fun i => (HS3.out _ (hI i)).2.2.2.2.2.2.1
                  have g6 : ∀ i, (Wf i).cell? ⟨g, k, none⟩ = some (.int .i64 mk) := fun i => (HS3.out _ (hI i)).2.2.2.2.2.2.2
                  have KI : Hid (∀ i, Calls Try.prog 10 #[.agg #[.int .i64 n, .slice sa ws.length cap], .agg #[.int .i64 p, .int .i64 k, .int .i64 a], .slice pa L.length pcap, .int .i64 z] (Wf i) fun e w' => e = .returned (.int .i64 cc) ∧ ∃ j, w' = Wf j) := Lib.hid fun i =>
                    (KEY3.out _ (hI i)).mono fun e w' hh => ⟨hh.1, hI2 _ ((hI i).trans (hh.2.mono (hI i).size))⟩
                  have hI0 := Lib.hid (hI2 _ (Below.refl w8.heap.size w8).drew)
                  haveI : Nonempty I := ⟨hI0.out.choose⟩
                  have HI1 := Lib.hid hI; clear hI hI2
                  cases sh
                  · refine region_quiet_I (Wf := Wf) (by kernel_rfl) (by kernel_rfl) hI0.out ?_
                    repeat (go_big_quiet_step (exact KI.out _))
                    refine wpQuiet_nil ?_
                    rintro _ ⟨i, rfl⟩
                    go_wp2_with fail
                    go_meet
                    exact ⟨by simp, HI1.out i⟩
                  · have hlm := HLM.out rfl
                    have hlm2 : ¬ y < mk := by omega
                    have hlm3 : decide (y < mk) = false := decide_eq_false hlm2
                    refine region_quiet_I (Wf := Wf) (by kernel_rfl) (by kernel_rfl) hI0.out ?_
                    repeat (go_big_quiet_step (exact KI.out _))
                    refine wpQuiet_nil ?_
                    rintro _ ⟨i, rfl⟩
                    go_wp2_with fail
                    go_meet
                    exact ⟨by simp, HI1.out i⟩
                case rest =>
                obtain ⟨rfl, hB⟩ := hcut
                have FC := (HS3.out _ hB).1
                have hn9 := Nat.le_trans hn8 hB.size
                have HFC := Lib.hid FC
                clear FC HS3 KEY3 hB HLM j0 j1 j2 j3 j4 j5 j6
                go_wp2_with fail
                exact ⟨⟨k + 1, by omega, by go_num, HFC, hn9⟩, by simp [intOf]; omega⟩
            · have HFX := hF
              clear hF k1 k2 k3
              go_wp2_with fail
              go_ret
              exact ⟨rfl, HFX.out.k.b⟩
end Go.Proofs.Ytdmmjlhcjmdajaa
