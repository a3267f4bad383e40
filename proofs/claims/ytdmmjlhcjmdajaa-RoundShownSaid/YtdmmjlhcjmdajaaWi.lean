/-
  The contracts of Sure, Soonest and Walked.
  Its conditions stand in each theorem.
-/
import Derived.Test.YtdmmjlhcjmdajaaWh
import Derived.Deep.RegionWith
import Derived.Deep.RegionHeld3
namespace Go.Proofs.Ytdmmjlhcjmdajaa
open Go.RowKit Go.Shelf Go.Maps
set_option linter.unusedVariables false

theorem takes_most {s p : Nat} {sa : Option Addr} {cap : Nat} {ws : List Rd.Wy} {w : World} (hs : s ≤ w.heap.size) (hlen : ws.length ≤ 40) (hw : Wys s w sa ws) (hp : w.cell? ⟨p, 1, none⟩ = some (.slice sa ws.length cap)) (hpl : p < w.heap.size) :
    TakesS 46 #[.pointer (some ⟨p, 0, none⟩)] (Rd.his ws) ws.length w := fun i h0 hl W' hW =>
  most1 s p sa cap ws hlen W' i h0 hl (hw.stay hW (by omega) (by omega)) ((hW.cell hpl (by omega)).trans hp)
theorem takes_least {s p : Nat} {sa : Option Addr} {cap : Nat} {ws : List Rd.Wy} {w : World} (hs : s ≤ w.heap.size) (hlen : ws.length ≤ 40) (hw : Wys s w sa ws) (hp : w.cell? ⟨p, 1, none⟩ = some (.slice sa ws.length cap)) (hpl : p < w.heap.size) :
    TakesS 49 #[.pointer (some ⟨p, 0, none⟩)] (Rd.los ws) ws.length w := fun i h0 hl W' hW =>
  least1 s p sa cap ws hlen W' i h0 hl (hw.stay hW (by omega) (by omega)) ((hW.cell hpl (by omega)).trans hp)

theorem his_bd {ws n} (h : Rd.Chart ws n) : ∀ i : Int, 0 ≤ i → i < ws.length → 1 ≤ Rd.tkn (Rd.his ws) i ∧ Rd.tkn (Rd.his ws) i ≤ 600 := fun i h0 h1 => by
  rw [Rd.tkn_his ws i h0 h1]; have := h.ways i h0 h1; have := this.a0; have := (h.ways i h0 h1).a1; have := (h.ways i h0 h1).a2; omega
theorem los_bd {ws n} (h : Rd.Chart ws n) : ∀ i : Int, 0 ≤ i → i < ws.length → 1 ≤ Rd.tkn (Rd.los ws) i ∧ Rd.tkn (Rd.los ws) i ≤ 600 := fun i h0 h1 => by
  rw [Rd.tkn_los ws i h0 h1]; have := h.ways i h0 h1; have := this.a0; have := (h.ways i h0 h1).a1; have := (h.ways i h0 h1).a2; omega

/-- reach by the greatest minutes, off the closure's box p -/
theorem reach_hi (n p0 : Nat) (sa : Option Addr) (cap : Nat) (ws : List Rd.Wy) (p a : Int) (w : World) (ch : IsChart w.heap.size w sa ws n) (hp0 : 0 ≤ p) (hp1 : p < n) (ha0 : 0 ≤ a) (ha1 : a ≤ 1439)
   (hp : w.cell? ⟨p0, 1, none⟩ = some (.slice sa ws.length cap)) (hpl : p0 < w.heap.size) :
   Calls Try.prog 21 #[cv n sa ws.length cap, .int .i64 p, .int .i64 a, .func (.func 46) #[] #[.pointer (some ⟨p0, 0, none⟩)]] w fun e w' => ∃ b, e = .returned (.map (some b)) ∧ MapIs w' b 100000 (Rd.reach n ws (Rd.his ws) p a) ∧ Below w.heap.size w w' :=
  reach_in n sa cap ws (Rd.his ws) p a 46 _ w ch ch.ch.his (his_bd ch.ch) hp0 hp1 ha0 ha1 (enters_of Try.func46 (by kernel_rfl) rfl) (takes_most (Nat.le_refl _) ch.ch.len ch.wy hp hpl)
theorem reach_lo (n p0 : Nat) (sa : Option Addr) (cap : Nat) (ws : List Rd.Wy) (p a : Int) (w : World) (ch : IsChart w.heap.size w sa ws n) (hp0 : 0 ≤ p) (hp1 : p < n) (ha0 : 0 ≤ a) (ha1 : a ≤ 1439)
   (hp : w.cell? ⟨p0, 1, none⟩ = some (.slice sa ws.length cap)) (hpl : p0 < w.heap.size) :
   Calls Try.prog 21 #[cv n sa ws.length cap, .int .i64 p, .int .i64 a, .func (.func 49) #[] #[.pointer (some ⟨p0, 0, none⟩)]] w fun e w' => ∃ b, e = .returned (.map (some b)) ∧ MapIs w' b 100000 (Rd.reach n ws (Rd.los ws) p a) ∧ Below w.heap.size w w' :=
  reach_in n sa cap ws (Rd.los ws) p a 49 _ w ch ch.ch.los (los_bd ch.ch) hp0 hp1 ha0 ha1 (enters_of Try.func49 (by kernel_rfl) rfl) (takes_least (Nat.le_refl _) ch.ch.len ch.wy hp hpl)

theorem ints_one {n0 b : Nat} {W : World} {p : Int} (h : W.cell? ⟨b, 0, none⟩ = some (.int .i64 p)) (hn : b < n0) : Ints n0 W (some ⟨b, 0, none⟩) [p] :=
  .inr ⟨b, 0, rfl, hn, fun j hj => by
    have : j = 0 := by simpa using hj
    subst this
    exact h⟩

def SurePost (n : Nat) (M : List Int) (w : World) (e : Ending) (w' : World) : Prop :=
  ∃ sb, e = .returned (.tuple #[.slice (some ⟨sb, 0, none⟩) n n, .int .i64 0]) ∧ sb < w'.heap.size ∧ IRow w' sb M ∧ Below w.heap.size w w'

set_option maxHeartbeats 2000000 in
theorem sure_any (n : Nat) (sa : Option Addr) (cap : Nat) (ws : List Rd.Wy) (p a : Int) (w : World) (ch : IsChart w.heap.size w sa ws n) (hp0 : 0 ≤ p) (hp1 : p < n) (ha0 : 0 ≤ a) (ha1 : a ≤ 1439) :
   Calls Try.prog 6 #[cv n sa ws.length cap, .int .i64 p, .int .i64 a] w (SurePost n (Rd.mins (Rd.reach n ws (Rd.his ws) p a)) w) := by
  go_enter Try.func6, Try.ntmps6
  have hb0 : Below w.heap.size w ((w.alloc (Obj.cells #[Value.int IntKind.i64 ↑n, Value.slice sa ws.length cap] 31)).alloc (Obj.cells #[Value.int IntKind.i64 p] 3)) := ((Below.refl _ _).alloc (Nat.le_refl _) _).alloc (by simp) _
  have hp' : ∀ j : Nat, j < [p].length → 0 ≤ Rd.mrk [p] j ∧ Rd.mrk [p] j < n := fun j hj => by
    have : j = 0 := by simpa using hj
    subst this
    exact ⟨hp0, hp1⟩
  have HP := Lib.hid hp'; clear hp'
  go_wp2_with fail
  refine (placeOf_ok n sa cap ws a (some ⟨w.heap.size + 1, 0, none⟩) 1 [p] _ ((ch.below hb0).mono (by simp; omega)) ha0 ha1 (by simp) (ints_one (by simp) (by simp)) HP.out).mono ?_
  rintro e w1 ⟨rfl, hb1⟩
  have hb2 : Below w.heap.size w w1 := hb0.trans (hb1.mono (by simp; omega))
  have hs1 := hb1.size
  simp only [World.size_alloc] at hs1
  have c0 : w1.cell? ⟨w.heap.size, 0, none⟩ = some (.int .i64 n) := by rw [hb1.cell (p := ⟨w.heap.size, 0, none⟩) (by simp; omega)]; simp
  have c1 : w1.cell? ⟨w.heap.size, 1, none⟩ = some (.slice sa ws.length cap) := by rw [hb1.cell (p := ⟨w.heap.size, 1, none⟩) (by simp; omega)]; simp
  have ch1 : IsChart w1.heap.size w1 sa ws n := (ch.below hb2).mono (by omega)
  clear hb1 hb0
  have hlt : w.heap.size < w1.heap.size := by omega
  go_wp2_with fail
  have hbD : Below w1.heap.size w1 (w1.alloc (Obj.cells #[Value.int IntKind.i64 ↑n, Value.slice sa ws.length cap] 31)).drew := ((Below.refl _ _).alloc (Nat.le_refl _) _).drew
  have hsD : (w1.alloc (Obj.cells #[Value.int IntKind.i64 ↑n, Value.slice sa ws.length cap] 31)).drew.heap.size = w1.heap.size + 1 := by show (w1.alloc _).heap.size = _; simp
  have hcD : IsChart (w1.alloc (Obj.cells #[Value.int IntKind.i64 ↑n, Value.slice sa ws.length cap] 31)).drew.heap.size (w1.alloc (Obj.cells #[Value.int IntKind.i64 ↑n, Value.slice sa ws.length cap] 31)).drew sa ws n := (ch1.below hbD).mono (by rw [hsD]; omega)
  have hxD : (w1.alloc (Obj.cells #[Value.int IntKind.i64 ↑n, Value.slice sa ws.length cap] 31)).drew.cell? ⟨w1.heap.size, 1, none⟩ = some (.slice sa ws.length cap) := by show (w1.alloc _).cell? _ = _; simp
  have hy0 : (w1.alloc (Obj.cells #[Value.int IntKind.i64 ↑n, Value.slice sa ws.length cap] 31)).drew.cell? ⟨w.heap.size, 0, none⟩ = some (.int .i64 n) := by show (w1.alloc _).cell? _ = _; rw [World.cell?_alloc_past _ _ _ hlt]; exact c0
  have hy1 : (w1.alloc (Obj.cells #[Value.int IntKind.i64 ↑n, Value.slice sa ws.length cap] 31)).drew.cell? ⟨w.heap.size, 1, none⟩ = some (.slice sa ws.length cap) := by show (w1.alloc _).cell? _ = _; rw [World.cell?_alloc_past _ _ _ hlt]; exact c1
  have HD := Lib.hid (And.intro hbD (And.intro hsD (And.intro hcD (And.intro hxD (And.intro hy0 hy1))))); clear hbD hsD hcD hxD hy0 hy1
  go_region_held3 (fun w' => w'.cell? ⟨w.heap.size, 0, none⟩ = some (.int .i64 n) ∧ w'.cell? ⟨w.heap.size, 1, none⟩ = some (.slice sa ws.length cap)) (first | exact ⟨c0, c1⟩ | exact ⟨c03, c13⟩ | exact ⟨c04, c14⟩ | go_keep)
   (first
    | (go_at_call 22; refine (most_any _ _ _ _ _).mono ?_; rintro e w2 ⟨rfl, rfl⟩)
    | (go_at_call 21; refine (reach_hi n w1.heap.size sa cap ws p a _ HD.out.2.2.1 hp0 hp1 ha0 ha1 HD.out.2.2.2.1 (by rw [HD.out.2.1]; omega)).mono ?_; rintro e w3 ⟨b, rfl, hm, hb3⟩; have hs3 := hb3.size; rw [HD.out.2.1] at hs3; have c03 := (hb3.cell (p := ⟨w.heap.size, 0, none⟩) (by rw [HD.out.2.1]; show w.heap.size < _; omega)).trans HD.out.2.2.2.2.1; have c13 := (hb3.cell (p := ⟨w.heap.size, 1, none⟩) (by rw [HD.out.2.1]; show w.heap.size < _; omega)).trans HD.out.2.2.2.2.2)
    | (go_at_call 20; refine (minutes_any n sa _ cap _ _ _ _ ch.ch.n2 (Rd.reach_spec ch.ch.his hp0 hp1 ha0 ha1).len hm hm.lt).mono ?_; rintro e w4 ⟨rfl, hr, hb4⟩; have c04 := (hb4.cell (p := ⟨w.heap.size, 0, none⟩) (by show w.heap.size < _; omega)).trans c03; have c14 := (hb4.cell (p := ⟨w.heap.size, 1, none⟩) (by show w.heap.size < _; omega)).trans c13))
  have hfin : Below w.heap.size w w4 := hb2.trans ((HD.out.1.mono (by omega)).trans ((hb3.mono (by rw [HD.out.2.1]; omega)).trans (hb4.mono (by omega))))
  go_wp2_with fail
  go_ret2
  exact ⟨_, rfl, hr.lt, hr, hfin⟩
set_option maxHeartbeats 2000000 in
theorem soonest_any (n : Nat) (sa : Option Addr) (cap : Nat) (ws : List Rd.Wy) (p a : Int) (w : World) (ch : IsChart w.heap.size w sa ws n) (hp0 : 0 ≤ p) (hp1 : p < n) (ha0 : 0 ≤ a) (ha1 : a ≤ 1439) :
   Calls Try.prog 12 #[cv n sa ws.length cap, .int .i64 p, .int .i64 a] w (SurePost n (Rd.mins (Rd.reach n ws (Rd.los ws) p a)) w) := by
  go_enter Try.func12, Try.ntmps12
  have hb0 : Below w.heap.size w ((w.alloc (Obj.cells #[Value.int IntKind.i64 ↑n, Value.slice sa ws.length cap] 31)).alloc (Obj.cells #[Value.int IntKind.i64 p] 3)) := ((Below.refl _ _).alloc (Nat.le_refl _) _).alloc (by simp) _
  have hp' : ∀ j : Nat, j < [p].length → 0 ≤ Rd.mrk [p] j ∧ Rd.mrk [p] j < n := fun j hj => by
    have : j = 0 := by simpa using hj
    subst this
    exact ⟨hp0, hp1⟩
  have HP := Lib.hid hp'; clear hp'
  go_wp2_with fail
  refine (placeOf_ok n sa cap ws a (some ⟨w.heap.size + 1, 0, none⟩) 1 [p] _ ((ch.below hb0).mono (by simp; omega)) ha0 ha1 (by simp) (ints_one (by simp) (by simp)) HP.out).mono ?_
  rintro e w1 ⟨rfl, hb1⟩
  have hb2 : Below w.heap.size w w1 := hb0.trans (hb1.mono (by simp; omega))
  have hs1 := hb1.size
  simp only [World.size_alloc] at hs1
  have c0 : w1.cell? ⟨w.heap.size, 0, none⟩ = some (.int .i64 n) := by rw [hb1.cell (p := ⟨w.heap.size, 0, none⟩) (by simp; omega)]; simp
  have c1 : w1.cell? ⟨w.heap.size, 1, none⟩ = some (.slice sa ws.length cap) := by rw [hb1.cell (p := ⟨w.heap.size, 1, none⟩) (by simp; omega)]; simp
  have ch1 : IsChart w1.heap.size w1 sa ws n := (ch.below hb2).mono (by omega)
  clear hb1 hb0
  have hlt : w.heap.size < w1.heap.size := by omega
  go_wp2_with fail
  have hbD : Below w1.heap.size w1 (w1.alloc (Obj.cells #[Value.int IntKind.i64 ↑n, Value.slice sa ws.length cap] 31)).drew := ((Below.refl _ _).alloc (Nat.le_refl _) _).drew
  have hsD : (w1.alloc (Obj.cells #[Value.int IntKind.i64 ↑n, Value.slice sa ws.length cap] 31)).drew.heap.size = w1.heap.size + 1 := by show (w1.alloc _).heap.size = _; simp
  have hcD : IsChart (w1.alloc (Obj.cells #[Value.int IntKind.i64 ↑n, Value.slice sa ws.length cap] 31)).drew.heap.size (w1.alloc (Obj.cells #[Value.int IntKind.i64 ↑n, Value.slice sa ws.length cap] 31)).drew sa ws n := (ch1.below hbD).mono (by rw [hsD]; omega)
  have hxD : (w1.alloc (Obj.cells #[Value.int IntKind.i64 ↑n, Value.slice sa ws.length cap] 31)).drew.cell? ⟨w1.heap.size, 1, none⟩ = some (.slice sa ws.length cap) := by show (w1.alloc _).cell? _ = _; simp
  have hy0 : (w1.alloc (Obj.cells #[Value.int IntKind.i64 ↑n, Value.slice sa ws.length cap] 31)).drew.cell? ⟨w.heap.size, 0, none⟩ = some (.int .i64 n) := by show (w1.alloc _).cell? _ = _; rw [World.cell?_alloc_past _ _ _ hlt]; exact c0
  have hy1 : (w1.alloc (Obj.cells #[Value.int IntKind.i64 ↑n, Value.slice sa ws.length cap] 31)).drew.cell? ⟨w.heap.size, 1, none⟩ = some (.slice sa ws.length cap) := by show (w1.alloc _).cell? _ = _; rw [World.cell?_alloc_past _ _ _ hlt]; exact c1
  have HD := Lib.hid (And.intro hbD (And.intro hsD (And.intro hcD (And.intro hxD (And.intro hy0 hy1))))); clear hbD hsD hcD hxD hy0 hy1
  go_region_held3 (fun w' => w'.cell? ⟨w.heap.size, 0, none⟩ = some (.int .i64 n) ∧ w'.cell? ⟨w.heap.size, 1, none⟩ = some (.slice sa ws.length cap)) (first | exact ⟨c0, c1⟩ | exact ⟨c03, c13⟩ | exact ⟨c04, c14⟩ | go_keep)
   (first
    | (go_at_call 29; refine (least_any _ _ _ _ _).mono ?_; rintro e w2 ⟨rfl, rfl⟩)
    | (go_at_call 21; refine (reach_lo n w1.heap.size sa cap ws p a _ HD.out.2.2.1 hp0 hp1 ha0 ha1 HD.out.2.2.2.1 (by rw [HD.out.2.1]; omega)).mono ?_; rintro e w3 ⟨b, rfl, hm, hb3⟩; have hs3 := hb3.size; rw [HD.out.2.1] at hs3; have c03 := (hb3.cell (p := ⟨w.heap.size, 0, none⟩) (by rw [HD.out.2.1]; show w.heap.size < _; omega)).trans HD.out.2.2.2.2.1; have c13 := (hb3.cell (p := ⟨w.heap.size, 1, none⟩) (by rw [HD.out.2.1]; show w.heap.size < _; omega)).trans HD.out.2.2.2.2.2)
    | (go_at_call 20; refine (minutes_any n sa _ cap _ _ _ _ ch.ch.n2 (Rd.reach_spec ch.ch.los hp0 hp1 ha0 ha1).len hm hm.lt).mono ?_; rintro e w4 ⟨rfl, hr, hb4⟩; have c04 := (hb4.cell (p := ⟨w.heap.size, 0, none⟩) (by show w.heap.size < _; omega)).trans c03; have c14 := (hb4.cell (p := ⟨w.heap.size, 1, none⟩) (by show w.heap.size < _; omega)).trans c13))
  have hfin : Below w.heap.size w w4 := hb2.trans ((HD.out.1.mono (by omega)).trans ((hb3.mono (by rw [HD.out.2.1]; omega)).trans (hb4.mono (by omega))))
  go_wp2_with fail
  go_ret2
  exact ⟨_, rfl, hr.lt, hr, hfin⟩

theorem reach_took (n p0 : Nat) (sa : Option Addr) (cap : Nat) (ws : List Rd.Wy) (ta : Option Addr) (tcap : Nat) (tk : List Int) (p a : Int) (w : World) (ch : IsChart w.heap.size w sa ws n) (hk : tk.length = ws.length) (htk : ∀ i : Int, 0 ≤ i → i < ws.length → 1 ≤ Rd.tkn tk i ∧ Rd.tkn tk i ≤ 600) (hi : Ints w.heap.size w ta tk) (hp0 : 0 ≤ p) (hp1 : p < n) (ha0 : 0 ≤ a) (ha1 : a ≤ 1439)
   (hp : w.cell? ⟨p0, 0, none⟩ = some (.slice ta tk.length tcap)) (hpl : p0 < w.heap.size) :
   Calls Try.prog 21 #[cv n sa ws.length cap, .int .i64 p, .int .i64 a, .func (.func 50) #[] #[.pointer (some ⟨p0, 0, none⟩)]] w fun e w' => ∃ b, e = .returned (.map (some b)) ∧ MapIs w' b 100000 (Rd.reach n ws tk p a) ∧ Below w.heap.size w w' := by
  have hl := ch.ch.len
  refine reach_in n sa cap ws tk p a 50 _ w ch ⟨ch.ch.ways, fun i h0 h1 => (htk i h0 h1).1⟩ htk hp0 hp1 ha0 ha1 (enters_of Try.func50 (by kernel_rfl) rfl) (fun i h0 hl' W' hW => ?_)
  refine truly1 w.heap.size p0 ta tcap tk (by omega) W' i h0 (by omega) ?_ ((hW.cell hpl (by omega)).trans hp)
  rcases hi with h | ⟨sb, so, rfl, hb, h⟩
  · exact .inl h
  · exact .inr ⟨sb, so, rfl, hb, fun j hj => (hW.cell hb (by omega)).trans (h j hj)⟩

set_option maxHeartbeats 1000000 in
theorem areTook_yes (n : Nat) (sa : Option Addr) (cap : Nat) (ws : List Rd.Wy) (ta : Option Addr) (tcap : Nat) (tk : List Int) (w : World) (ch : IsChart w.heap.size w sa ws n) (hi : Ints w.heap.size w ta tk) (hk : tk.length = ws.length)
   (htk : ∀ i : Nat, i < ws.length → (Rd.way ws i).tlo ≤ Rd.mrk tk i ∧ Rd.mrk tk i ≤ (Rd.way ws i).thi) :
   Calls Try.prog 30 #[cv n sa ws.length cap, .slice ta tk.length tcap] w fun e w' => e = .returned (.bool true) ∧ Below w.heap.size w w' := by
  have hlen := ch.ch.len
  have hlt : tk.length = ws.length := hk
  obtain ⟨len, hL⟩ : ∃ len, len = ws.length := ⟨_, rfl⟩
  rw [hk, ← hL]
  rw [← hL] at hlen
  have HL := Lib.hid hL; clear hL hlt
  have HK := Lib.hid hk; clear hk
  have HT := Lib.hid htk; clear htk
  go_enter Try.func30, Try.ntmps30
  go_wp2_with fail
  go_loopw [16] (fun i wr => ∃ k : Nat, k ≤ len ∧ i = .int .i64 k ∧ Below (w.heap.size + 1) (w.alloc (.cells #[.int .i64 n, .slice sa len cap] 31)) wr) (fun i _ => len - (intOf i).toNat)
  case atStart => exact ⟨0, Nat.zero_le _, rfl, Below.refl _ _⟩
  case round =>
    obtain ⟨k, hk, rfl, hb⟩ := hrel
    have hb0 : Below w.heap.size w wr := ((Below.refl _ w).alloc (Nat.le_refl _) _).trans (hb.mono (by omega))
    have hsz := hb.size
    simp only [World.size_alloc] at hsz
    have c0 : wr.cell? ⟨w.heap.size, 0, none⟩ = some (.int .i64 n) := by rw [cell_at_new _ _ _ _ hb]; rfl
    have c1 : wr.cell? ⟨w.heap.size, 1, none⟩ = some (.slice sa len cap) := by rw [cell_at_new _ _ _ _ hb]; rfl
    by_cases hlt : k < len
    · obtain ⟨sb, so, rfl, hsb, h7⟩ := (ch.wy.below hb0).at (k := k) (by rw [← HL.out]; exact hlt)
      obtain ⟨tb, to, rfl, htb, hc⟩ := (hi.below hb0).at (k := k) (by rw [HK.out, ← HL.out]; exact hlt)
      have d2 := h7.c2; have d3 := h7.c3
      have hr := HT.out k (by rw [← HL.out]; exact hlt)
      clear h7
      go_wp2_with (go_at_call 25; refine (within_yes _ _ _ _ hr.1 hr.2).mono ?_; rintro e w' ⟨rfl, rfl⟩)
      go_roundw
      case rel => exact ⟨k + 1, by omega, by go_num, hb.trans ((Below.refl _ _).alloc (by omega) _)⟩
      case measure => simp [intOf]; omega
    · go_wp2_with fail
      go_ret
      exact ⟨rfl, hb0⟩

theorem Ints.same {n0 : Nat} {A B : World} {sa l} (h : Ints n0 A sa l) (hs : ∀ k, k < n0 → B.heap[k]? = A.heap[k]?) : Ints n0 B sa l := by
  rcases h with h | ⟨sb, so, rfl, hn, h⟩
  · exact .inl h
  · exact .inr ⟨sb, so, rfl, hn, fun j hj => (World.cell?_of_block (w := A) (a := ⟨sb, _, none⟩) (hs sb hn)).trans (h j hj)⟩

set_option maxHeartbeats 2000000 in
theorem walked_any (n : Nat) (sa : Option Addr) (cap : Nat) (ws : List Rd.Wy) (ta : Option Addr) (tcap : Nat) (tk : List Int) (p a : Int) (w : World) (ch : IsChart w.heap.size w sa ws n) (hi : Ints w.heap.size w ta tk) (hk : tk.length = ws.length)
   (htk : ∀ i : Nat, i < ws.length → (Rd.way ws i).tlo ≤ Rd.mrk tk i ∧ Rd.mrk tk i ≤ (Rd.way ws i).thi) (hp0 : 0 ≤ p) (hp1 : p < n) (ha0 : 0 ≤ a) (ha1 : a ≤ 1439) :
   Calls Try.prog 13 #[cv n sa ws.length cap, .slice ta tk.length tcap, .int .i64 p, .int .i64 a] w (SurePost n (Rd.mins (Rd.reach n ws tk p a)) w) := by
  have hbd : ∀ i : Int, 0 ≤ i → i < ws.length → 1 ≤ Rd.tkn tk i ∧ Rd.tkn tk i ≤ 600 := fun i h0 h1 => by
    obtain ⟨k, rfl⟩ := Int.eq_ofNat_of_zero_le h0
    have h2 := htk k (by omega)
    have h3 := ch.ch.ways k h0 h1
    have := h3.a0; have := h3.a2
    show 1 ≤ Rd.mrk tk k ∧ Rd.mrk tk k ≤ 600
    omega
  have HBD := Lib.hid hbd; clear hbd
  have HTK := Lib.hid htk; clear htk
  have HKL := Lib.hid hk; clear hk
  have hb0 : Below w.heap.size w ((w.alloc (Obj.cells #[Value.int IntKind.i64 ↑n, Value.slice sa ws.length cap] 31)).alloc (Obj.cells #[Value.int IntKind.i64 p] 3)) := ((Below.refl _ _).alloc (Nat.le_refl _) _).alloc (by simp) _
  have hp' : ∀ j : Nat, j < [p].length → 0 ≤ Rd.mrk [p] j ∧ Rd.mrk [p] j < n := fun j hj => by
    have : j = 0 := by simpa using hj
    subst this
    exact ⟨hp0, hp1⟩
  have HP := Lib.hid hp'; clear hp'
  go_enter Try.func13, Try.ntmps13
  go_wp2_with fail
  refine (placeOf_ok n sa cap ws a (some ⟨w.heap.size + 1, 0, none⟩) 1 [p] _ ((ch.below hb0).mono (by simp; omega)) ha0 ha1 (by simp) (ints_one (by simp) (by simp)) HP.out).mono ?_
  rintro e w0 ⟨rfl, hb1⟩
  have hb2 : Below w.heap.size w w0 := hb0.trans (hb1.mono (by simp; omega))
  have hs1 := hb1.size
  simp only [World.size_alloc] at hs1
  have c0' : w0.cell? ⟨w.heap.size, 0, none⟩ = some (.int .i64 n) := by rw [hb1.cell (p := ⟨w.heap.size, 0, none⟩) (by simp; omega)]; simp
  have c1' : w0.cell? ⟨w.heap.size, 1, none⟩ = some (.slice sa ws.length cap) := by rw [hb1.cell (p := ⟨w.heap.size, 1, none⟩) (by simp; omega)]; simp
  have ch0 : IsChart w0.heap.size w0 sa ws n := (ch.below hb2).mono (by omega)
  have hi0 : Ints w0.heap.size w0 ta tk := (hi.below hb2).mono (by omega)
  clear hb1 hb0
  have hlt0 : w.heap.size < w0.heap.size := by omega
  go_wp2_with fail
  refine (areTook_yes n sa cap ws ta tcap tk _ ch0 hi0 HKL.out HTK.out).mono ?_
  rintro e w1 ⟨rfl, hb3⟩
  have hs2 := hb3.size
  have c0 : w1.cell? ⟨w.heap.size, 0, none⟩ = some (.int .i64 n) := (hb3.cell (p := ⟨w.heap.size, 0, none⟩) hlt0).trans c0'
  have c1 : w1.cell? ⟨w.heap.size, 1, none⟩ = some (.slice sa ws.length cap) := (hb3.cell (p := ⟨w.heap.size, 1, none⟩) hlt0).trans c1'
  have ch1 : IsChart w1.heap.size w1 sa ws n := (ch0.below hb3).mono (by omega)
  have hi1 : Ints w1.heap.size w1 ta tk := (hi0.below hb3).mono (by omega)
  have hb4 : Below w.heap.size w w1 := hb2.trans (hb3.mono (by omega))
  clear hb3 c0' c1' ch0 hi0 hb2
  have hlt : w.heap.size < w1.heap.size := by omega
  go_wp2_with fail
  have hbD : Below w1.heap.size w1 (w1.alloc (Obj.cells #[Value.slice ta tk.length tcap] 27)).drew := ((Below.refl _ _).alloc (Nat.le_refl _) _).drew
  have hsD : (w1.alloc (Obj.cells #[Value.slice ta tk.length tcap] 27)).drew.heap.size = w1.heap.size + 1 := by show (w1.alloc _).heap.size = _; simp
  have hcD : IsChart (w1.alloc (Obj.cells #[Value.slice ta tk.length tcap] 27)).drew.heap.size (w1.alloc (Obj.cells #[Value.slice ta tk.length tcap] 27)).drew sa ws n := (ch1.below hbD).mono (by rw [hsD]; omega)
  have hiD : Ints (w1.alloc (Obj.cells #[Value.slice ta tk.length tcap] 27)).drew.heap.size (w1.alloc (Obj.cells #[Value.slice ta tk.length tcap] 27)).drew ta tk := (hi1.below hbD).mono (by rw [hsD]; omega)
  have hxD : (w1.alloc (Obj.cells #[Value.slice ta tk.length tcap] 27)).drew.cell? ⟨w1.heap.size, 0, none⟩ = some (.slice ta tk.length tcap) := by show (w1.alloc _).cell? _ = _; simp
  have hy0 : (w1.alloc (Obj.cells #[Value.slice ta tk.length tcap] 27)).drew.cell? ⟨w.heap.size, 0, none⟩ = some (.int .i64 n) := by show (w1.alloc _).cell? _ = _; rw [World.cell?_alloc_past _ _ _ hlt]; exact c0
  have hy1 : (w1.alloc (Obj.cells #[Value.slice ta tk.length tcap] 27)).drew.cell? ⟨w.heap.size, 1, none⟩ = some (.slice sa ws.length cap) := by show (w1.alloc _).cell? _ = _; rw [World.cell?_alloc_past _ _ _ hlt]; exact c1
  have HD := Lib.hid (And.intro hbD (And.intro hsD (And.intro hcD (And.intro hxD (And.intro hy0 (And.intro hy1 hiD)))))); clear hbD hsD hcD hxD hy0 hy1 hiD
  go_region_held3 (fun w' => w'.cell? ⟨w.heap.size, 0, none⟩ = some (.int .i64 n) ∧ w'.cell? ⟨w.heap.size, 1, none⟩ = some (.slice sa ws.length cap)) (first | exact ⟨c0, c1⟩ | exact ⟨c03, c13⟩ | exact ⟨c04, c14⟩ | go_keep)
   (first
    | (go_at_call 31; refine (truly_any _ _ _ _).mono ?_; rintro e w2 ⟨rfl, rfl⟩)
    | (go_at_call 21; refine (reach_took n w1.heap.size sa cap ws ta tcap tk p a _ HD.out.2.2.1 HKL.out HBD.out HD.out.2.2.2.2.2.2 hp0 hp1 ha0 ha1 HD.out.2.2.2.1 (by rw [HD.out.2.1]; omega)).mono ?_; rintro e w3 ⟨b, rfl, hm, hb3⟩; have hs3 := hb3.size; rw [HD.out.2.1] at hs3; have c03 := (hb3.cell (p := ⟨w.heap.size, 0, none⟩) (by rw [HD.out.2.1]; show w.heap.size < _; omega)).trans HD.out.2.2.2.2.1; have c13 := (hb3.cell (p := ⟨w.heap.size, 1, none⟩) (by rw [HD.out.2.1]; show w.heap.size < _; omega)).trans HD.out.2.2.2.2.2.1)
    | (go_at_call 20; refine (minutes_any n sa _ cap _ _ _ _ ch.ch.n2 (Rd.reach_spec ⟨ch.ch.ways, fun i h0 h1 => (HBD.out i h0 h1).1⟩ hp0 hp1 ha0 ha1).len hm hm.lt).mono ?_; rintro e w4 ⟨rfl, hr, hb4'⟩; have c04 := (hb4'.cell (p := ⟨w.heap.size, 0, none⟩) (by show w.heap.size < _; omega)).trans c03; have c14 := (hb4'.cell (p := ⟨w.heap.size, 1, none⟩) (by show w.heap.size < _; omega)).trans c13))
  have hfin : Below w.heap.size w w4 := hb4.trans ((HD.out.1.mono (by omega)).trans ((hb3.mono (by rw [HD.out.2.1]; omega)).trans (hb4'.mono (by omega))))
  go_wp2_with fail
  go_ret2
  exact ⟨_, rfl, hr.lt, hr, hfin⟩
end Go.Proofs.Ytdmmjlhcjmdajaa
