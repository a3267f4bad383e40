/-
  The contract of Matrix at the example: it answers ErrFar.
  Its conditions stand in each theorem.
-/
import Derived.Test.YtdmmjlhcjmdajaaXe
import Derived.Deep.RegionHeld3
import Derived.Deep.AppendLies
import Derived.Deep.RegionWith
namespace Go.Proofs.Ytdmmjlhcjmdajaa
open Go.RowKit Go.Shelf Go.Maps
set_option linter.unusedVariables false

theorem info97 : (Try.prog.info? 97).map (fun i => (i.zero, i.size, i.bytes)) = some (some (.slice none 0 0), 1, 24) := by kernel_rfl
theorem info49 : (Try.prog.info? 49).map (fun i => (i.zero, i.size, i.bytes)) = some (some (.agg #[.int .i64 0, .int .i64 0]), 2, 16) := by kernel_rfl
theorem owns_below {W W' : World} {base : Nat} {e : TypeId} {n : Nat} {v : Value} {len : Nat} {L : List Value} (h : W.ownsRow base e n v len L) (hb : Below W.heap.size W W') : W'.ownsRow base e n v len L := by
  refine ⟨h.1, h.2.imp id ?_⟩
  rintro ⟨g, cap, cur, rfl, hg, hh, hr⟩
  exact ⟨g, cap, cur, rfl, hg, (hb.block g (Array.getElem?_eq_some_iff.1 hh).1).trans hh, hr⟩
def FarPost (w : World) (e : Ending) (w' : World) : Prop := e = .returned (.tuple #[.slice none 0 0, .int .i64 35]) ∧ Below w.heap.size w w'

theorem TB.low {k n0 W d gs} (h : TB k n0 W d gs) : TB k 0 W d gs := ⟨Nat.zero_le _, h.dr, h.gl, h.inj, h.row⟩
theorem sums_use (g : Nat) (lb : Array Value) (sa : Option Addr) (cap : Nat) (w : World) (ch : IsChart w.heap.size w sa exw 4)
   (eg : ∀ args w, (callFunc g args).run Try.prog w = .ok (.enter g args) w) (hT : ∃ tk, TakesS g lb tk 5 w) :
   Calls Try.prog 43 #[cv 4 sa 5 cap, .func (.func g) #[] lb] w (fun e w' => ∃ d gs, e = .returned (.slice (some ⟨d, 0, none⟩) 4 4) ∧ TB 4 0 w' d gs ∧ Below w.heap.size w w') := by
  obtain ⟨tk, hT⟩ := hT
  refine (sums43 g lb tk sa cap w ch eg hT).mono ?_
  rintro e w' ⟨d, gs, rfl, h1, h2⟩
  exact ⟨d, gs, rfl, h1.low, h2⟩
theorem least_use (sa : Option Addr) (cap : Nat) (w : World) (ch : IsChart w.heap.size w sa exw 4) :
   Calls Try.prog 29 #[cv 4 sa 5 cap] w (fun e w' => ∃ p, e = .returned (.func (.func 49) #[] #[.pointer (some ⟨p, 0, none⟩)]) ∧ (∃ tk, TakesS 49 #[.pointer (some ⟨p, 0, none⟩)] tk 5 w') ∧ Below w.heap.size w w') := by
  refine (least_any 4 sa 5 cap w).mono ?_
  rintro e w' ⟨rfl, rfl⟩
  have hb : Below w.heap.size w (w.alloc (.cells #[.int .i64 4, .slice sa 5 cap] 31)) := (Below.refl _ _).alloc (Nat.le_refl _) _
  exact ⟨_, rfl, ⟨_, least_takes (cap := cap) ((ch.below hb).mono (by simp)) (by show (w.alloc _).cell? _ = _; simp; rfl) (by simp)⟩, hb⟩
theorem most_use (sa : Option Addr) (cap : Nat) (w : World) (ch : IsChart w.heap.size w sa exw 4) :
   Calls Try.prog 22 #[cv 4 sa 5 cap] w (fun e w' => ∃ p, e = .returned (.func (.func 46) #[] #[.pointer (some ⟨p, 0, none⟩)]) ∧ (∃ tk, TakesS 46 #[.pointer (some ⟨p, 0, none⟩)] tk 5 w') ∧ Below w.heap.size w w') := by
  refine (most_any 4 sa 5 cap w).mono ?_
  rintro e w' ⟨rfl, rfl⟩
  have hb : Below w.heap.size w (w.alloc (.cells #[.int .i64 4, .slice sa 5 cap] 31)) := (Below.refl _ _).alloc (Nat.le_refl _) _
  exact ⟨_, rfl, ⟨_, most_takes (cap := cap) ((ch.below hb).mono (by simp)) (by show (w.alloc _).cell? _ = _; simp; rfl) (by simp)⟩, hb⟩
theorem takes_below {g lb} {w W : World} (h : ∃ tk, TakesS g lb tk 5 w) (hb : Below w.heap.size w W) : ∃ tk, TakesS g lb tk 5 W := by
  obtain ⟨tk, h⟩ := h; exact ⟨tk, h.below hb⟩

set_option maxRecDepth 100000 in
set_option maxHeartbeats 4000000 in
theorem matrix17 (sa : Option Addr) (cap : Nat) (w : World) (ch : IsChart w.heap.size w sa exw 4) :
   Calls Try.prog 17 #[cv 4 sa 5 cap] w (FarPost w) := by
  have hb0 : Below w.heap.size w (w.alloc (Obj.cells #[Value.int IntKind.i64 4, Value.slice sa 5 cap] 31)) := (Below.refl _ _).alloc (Nat.le_refl _) _
  go_enter Try.func17, Try.ntmps17
  go_wp2_with fail
  refine (check_ok 4 sa cap exw _ ((ch.below hb0).mono (by simp))).mono ?_
  rintro e w1 ⟨rfl, hb1⟩
  have hb2 : Below w.heap.size w w1 := hb0.trans (hb1.mono (by simp))
  have hs1 := hb1.size
  simp only [World.size_alloc] at hs1
  have c0 : w1.cell? ⟨w.heap.size, 0, none⟩ = some (.int .i64 4) := by rw [hb1.cell (p := ⟨w.heap.size, 0, none⟩) (by simp)]; go_simp
  have c1 : w1.cell? ⟨w.heap.size, 1, none⟩ = some (.slice sa 5 cap) := by rw [hb1.cell (p := ⟨w.heap.size, 1, none⟩) (by simp)]; go_simp
  clear hb1 hb0
  have hlt : w.heap.size < w1.heap.size := by omega
  have hS : ∀ X, Below w1.heap.size w1 X → (X.cell? ⟨w.heap.size, 0, none⟩ = some (.int .i64 4) ∧ X.cell? ⟨w.heap.size, 1, none⟩ = some (.slice sa 5 cap)) ∧ IsChart X.heap.size X sa exw 4 := fun X hX =>
    ⟨⟨(hX.cell (p := ⟨w.heap.size, 0, none⟩) hlt).trans c0, (hX.cell (p := ⟨w.heap.size, 1, none⟩) hlt).trans c1⟩, (ch.below (hb2.trans (hX.mono (by omega)))).mono (by have := hX.size; omega)⟩
  have HS := Lib.hid hS; clear hS ch
  go_upto_region 4 with fail
  go_cut [5, 6] from 16 to 23 (fun s t wx => (∃ d gs d' gs', s = .slice (some ⟨d, 0, none⟩) 4 4 ∧ t = .slice (some ⟨d', 0, none⟩) 4 4 ∧ TB 4 0 wx d gs ∧ TB 4 0 wx d' gs') ∧ Below w1.heap.size w1 wx)
  case first =>
    have hB : Below w1.heap.size w1 w1.drew := (Below.refl _ _).drew
    go_region_held3 (fun w' => w'.cell? ⟨w.heap.size, 0, none⟩ = some (.int .i64 4) ∧ w'.cell? ⟨w.heap.size, 1, none⟩ = some (.slice sa 5 cap)) (first | exact (HS.out _ hB).1 | go_keep)
     (first
      | (go_at_call 29; refine (least_use _ _ _ (HS.out _ hB).2).mono ?_; rintro e wA ⟨p, rfl, h49, hb⟩; (try have h46 := takes_below h46 hb); (try have ht := TB.below ht hb); have hB := hB.trans (hb.mono hB.size); clear hb)
      | (go_at_call 22; refine (most_use _ _ _ (HS.out _ hB).2).mono ?_; rintro e wA ⟨p, rfl, h46, hb⟩; (try have h49 := takes_below h49 hb); (try have ht := TB.below ht hb); have hB := hB.trans (hb.mono hB.size); clear hb)
      | (go_at_call 43; refine (sums_use _ _ _ _ _ (HS.out _ hB).2 ?_ ?_).mono ?_; (first | exact enters_of Try.func49 (by kernel_rfl) rfl | exact enters_of Try.func46 (by kernel_rfl) rfl); (first | exact h49 | exact h46); rintro e wA ⟨d, gs, rfl, ht', hb⟩; (try have h46 := takes_below h46 hb); (try have h49 := takes_below h49 hb); (try have hto := TB.below ht hb); have ht := ht'; clear ht'; have hB := hB.trans (hb.mono hB.size); clear hb))
    all_goals (go_wp2_with fail; go_meet; exact ⟨⟨_, _, _, _, rfl, rfl, by assumption, by assumption⟩, hB⟩)
  case rest =>
  obtain ⟨⟨da, ga, db, gb, rfl, rfl, hA, hD⟩, hB⟩ := hcut
  have x0 := (HS.out _ hB).1.1
  have hlc : w.heap.size < wc.heap.size := by have := hB.size; omega
  have hbc : Below w.heap.size w wc := hb2.trans (hB.mono (by omega))
  have HA := Lib.hid hA; have HD := Lib.hid hD; clear hA hD HS c0 c1 hs1 hb2 hB
  obtain ⟨i7, hi7, hz70, hz71, hz72⟩ := info_parts info97
  have HI7 := Lib.hid (And.intro hi7 (And.intro hz70 (And.intro hz71 hz72))); clear hi7 hz70 hz71 hz72
  obtain ⟨i4, hi4, hz40, hz41, hz42⟩ := info_parts info49
  have HI4 := Lib.hid (And.intro hi4 (And.intro hz40 (And.intro hz41 hz42))); clear hi4 hz40 hz41 hz42
  go_wp2_with fail
  go_loopw [26, 7] (fun v o wr => ∃ (i : Nat) (L : List Value), i ≤ 3 ∧ v = .int .i64 i ∧ Hid (wr.ownsRow wc.heap.size 97 1 o i L) ∧ Below wc.heap.size wc wr) (fun v _ _ => 4 - (intOf v).toNat)
  case atStart => exact ⟨0, [], by omega, rfl, Lib.hid (World.ownsRow_nil _ _ _ _), Below.refl _ _⟩
  case round =>
    obtain ⟨i, L, hi, rfl, hO, hb⟩ := hrel
    have y0 := (hb.cell (p := ⟨w.heap.size, 0, none⟩) hlc).trans x0
    have hi4 : (i : Int) < 4 := by omega
    go_wp2_with fail
    clear y0
    obtain ⟨wo, rfl⟩ : ∃ wo, wo = wr := ⟨_, rfl⟩
    go_loopw [31, 9] (fun v o wx => ∃ (j : Nat) (L : List Value), j ≤ 4 ∧ (i = 3 → j = 0) ∧ v = .int .i64 j ∧ Hid (wx.ownsRow wo.heap.size 49 2 o j L) ∧ Below wo.heap.size wo wx) (fun v _ _ => 4 - (intOf v).toNat)
    case atStart => exact ⟨0, [], by omega, fun _ => rfl, rfl, Lib.hid (World.ownsRow_nil _ _ _ _), Below.refl _ _⟩
    case round =>
      obtain ⟨j, L2, hj, hi3, rfl, hO2, hb2⟩ := hrel
      have hso := hb.size
      have hbA : Below wc.heap.size wc wr := hb.trans (hb2.mono hso)
      by_cases hj4 : j < 4
      · obtain ⟨va, a1, -, -⟩ := HA.out.val (i := i) (j := j) (by omega) hj4
        obtain ⟨vb, b1, -, be⟩ := HD.out.val (i := i) (j := j) (by omega) hj4
        have a2 := HA.out.cell (i := i) (by omega)
        have b2 := HD.out.cell (i := i) (by omega)
        have hq : ∀ X, Below wc.heap.size wc X → X.cell? ⟨da, i, none⟩ = some (.slice (some ⟨ga i, 0, none⟩) 4 4) ∧ X.cell? ⟨ga i, j, none⟩ = some (.int .i64 va) ∧ X.cell? ⟨db, i, none⟩ = some (.slice (some ⟨gb i, 0, none⟩) 4 4) ∧ X.cell? ⟨gb i, j, none⟩ = some (.int .i64 vb) := fun X hX =>
          ⟨(hX.cell (p := ⟨da, i, none⟩) HA.out.dl).trans a2, (hX.cell (p := ⟨ga i, j, none⟩) (HA.out.glt (by omega))).trans a1, (hX.cell (p := ⟨db, i, none⟩) HD.out.dl).trans b2, (hX.cell (p := ⟨gb i, j, none⟩) (HD.out.glt (by omega))).trans b1⟩
        obtain ⟨q1, q2, q3, q4⟩ := hq wr hbA
        have HQ := Lib.hid hq; clear hq a1 a2 b1 b2
        have n1 : (0 : Int) ≤ (i : Int) := by omega
        have n3 : (0 : Int) ≤ (j : Int) := by omega
        have n4 : (j : Int) < 4 := by omega
        by_cases hv0 : vb < 0
        · go_wp2_with fail
          go_ret2
          exact ⟨rfl, hbc.trans (hbA.mono (by omega))⟩
        · by_cases hv6 : 600 < vb
          · go_wp2_with fail
            go_ret2
            exact ⟨rfl, hbc.trans (hbA.mono (by omega))⟩
          · have hi3' : i ≠ 3 := fun e => by
              have h1 := be e
              rw [hi3 e] at h1
              simp at h1
              omega
            have hsw := hb2.size
            have hsA : wr.heap.size ≤ (wr.drew.alloc (Obj.cells #[Value.int IntKind.i64 va, Value.int IntKind.i64 vb] 49)).heap.size := ((Below.refl wr.heap.size wr).drew.alloc (Nat.le_refl _) _).size
            have hOA := owns_below hO2.out ((Below.refl wr.heap.size wr).drew.alloc (Nat.le_refl _) (Obj.cells #[Value.int IntKind.i64 va, Value.int IntKind.i64 vb] 49))
            have hbX : Below wo.heap.size wo (wr.drew.alloc (Obj.cells #[Value.int IntKind.i64 va, Value.int IntKind.i64 vb] 49)) := hb2.drew.alloc hsw _
            have hob : ∀ q, u9.ownBlock = some q → wo.heap.size ≤ q := fun q hq => (hO2.out.lt q hq).1
            have HOA := Lib.hid (And.intro hOA (And.intro hbX (And.intro hob hsA))); clear hOA hbX hob hsA
            go_upto_region 15 with fail
            go_region_held3 (fun w' => w'.cell? ⟨da, i, none⟩ = some (.slice (some ⟨ga i, 0, none⟩) 4 4) ∧ w'.cell? ⟨ga i, j, none⟩ = some (.int .i64 va) ∧ w'.cell? ⟨db, i, none⟩ = some (.slice (some ⟨gb i, 0, none⟩) 4 4) ∧ w'.cell? ⟨gb i, j, none⟩ = some (.int .i64 vb)) (first | exact HQ.out _ (hb.trans (hB9.mono hso)) | exact HQ.out _ hbA.drew | exact HQ.out _ (hb.trans (HOA.out.2.1.mono hso)) | go_keep)
             (first
              | (refine step_append_lies _ rfl _ _ _ rfl wo.heap.size 49 i4 (.agg #[.int .i64 0, .int .i64 0]) 2 16 Try.underlying97 HI4.out.1 HI4.out.2.1 HI4.out.2.2.1 HI4.out.2.2.2 rfl (by decide) _ _ _ rfl HOA.out.1 ⟨wr.heap.size, 0, none⟩ 1 1 [.int .i64 va, .int .i64 vb] rfl rfl (cells_new _ _ _) (by intro u hu; simp at hu; rcases hu with rfl | rfl <;> rfl) (by decide) (by unfold maxLen; omega) (by omega) (Nat.le_trans hsw HOA.out.2.2.2) _ rfl ?_; intro g cap9 w9 hown9 hgrow hat hlt9; have hB9 := HOA.out.2.1.grown hgrow (Nat.le_trans hsw HOA.out.2.2.2) HOA.out.2.2.1))
            go_wp2_with fail
            exact ⟨⟨j + 1, _, by omega, fun e => absurd e hi3', by go_num, Lib.hid hown9, hB9⟩, by simp [intOf]; omega⟩
      · obtain rfl : j = 4 := by omega
        have hi3' : i ≠ 3 := fun e => by have := hi3 e; omega
        obtain ⟨g2, cap2, rfl, hg2, hl2⟩ := hO2.out.form (by omega)
        have hO3 := owns_below hO.out hb2
        have HO3 := Lib.hid hO3; clear hO3
        have hwr := hbA.size
        have hob : ∀ q, u7.ownBlock = some q → wc.heap.size ≤ q := fun q hq => (hO.out.lt q hq).1
        have HOB := Lib.hid hob; clear hob
        go_wp2_with (at_builtin; refine wpList_append_lies _ rfl _ _ _ rfl wc.heap.size 97 i7 (.slice none 0 0) 1 24 Try.underlying58 HI7.out.1 HI7.out.2.1 HI7.out.2.2.1 HI7.out.2.2.2 rfl (by decide) _ _ _ rfl (HO3.out.alloc _) ⟨wr.heap.size, 0, none⟩ 1 1 [.slice (some ⟨g2, 0, none⟩) 4 cap2] rfl rfl (cell_one_new _ _ _) (by intro u hu; simp at hu; subst hu; rfl) (by decide) (by unfold maxLen; omega) (by omega) (by simp; omega) _ rfl ?_)
        intro g9 cap9 w9 hown9 hgrow hat hlt9
        have hB9 : Below wc.heap.size wc w9 := (hbA.alloc hwr _).grown hgrow (by simp; omega) HOB.out
        go_wp2_with fail
        exact ⟨⟨i + 1, _, by omega, by go_num, Lib.hid hown9, hB9⟩, by simp [intOf]; omega⟩
end Go.Proofs.Ytdmmjlhcjmdajaa
