/-
  The contract of reach.
  Its conditions stand in each theorem.
-/
import Derived.Test.YtdmmjlhcjmdajaaWf
namespace Go.Proofs.Ytdmmjlhcjmdajaa
open Go.RowKit Go.Shelf Go.Maps
set_option linter.unusedVariables false
attribute [local go_sem] Oper.semAt_some

set_option maxRecDepth 100000 in
set_option maxHeartbeats 4000000 in
theorem reach_in (n : Nat) (sa : Option Addr) (cap : Nat) (ws : List Rd.Wy) (tk : List Int) (p a : Int) (g : Nat) (lb : Array Value) (w : World) (ch : IsChart w.heap.size w sa ws n) (ok : Rd.Okay ws tk n)
   (htk : ∀ i : Int, 0 ≤ i → i < ws.length → 1 ≤ Rd.tkn tk i ∧ Rd.tkn tk i ≤ 600) (hp0 : 0 ≤ p) (hp1 : p < n) (ha0 : 0 ≤ a) (ha1 : a ≤ 1439) (eg : ∀ args w, (callFunc g args).run Try.prog w = .ok (.enter g args) w) (hT : TakesS g lb tk ws.length w) :
   Calls Try.prog 21 #[cv n sa ws.length cap, .int .i64 p, .int .i64 a, .func (.func g) #[] lb] w fun e w' => ∃ b, e = .returned (.map (some b)) ∧ MapIs w' b 100000 (Rd.reach n ws tk p a) ∧ Below w.heap.size w w' := by
  have hn2 := ch.ch.n2
  refine callsIn_wide (n := 9) |>.1 ?_
  refine callsIn_of_wp_marks Try.func21 rfl trivial ?_ rfl
  simp only [Try.ntmps21, List.size_toArray, List.length_cons, List.length_nil, Nat.reduceAdd, Nat.reduceSub, Array.replicate_succ, Array.replicate_zero, List.push_toArray, List.append_toArray, List.nil_append, List.cons_append]
  have hmm := @run_makeMap Try.prog
  have HT := Lib.hid hT; clear hT
  have EG := Lib.hid eg; clear eg
  refine wpIn_wide.2 ?_
  go_wp2
  go_step3
  obtain ⟨W1, hW1⟩ : ∃ W1, W1 = w.alloc (Obj.cells #[Value.int IntKind.i64 ↑n, Value.slice sa ws.length cap] 31) := ⟨_, rfl⟩
  have hb1 : Below w.heap.size w W1 := by rw [hW1]; exact (Below.refl _ _).alloc (Nat.le_refl _) _
  have hs1 : W1.heap.size = w.heap.size + 1 := by rw [hW1]; simp
  have mO := MapIs.made W1 n
  have mP := MapIs.made ((W1.alloc (Obj.map #[] 0)).alloc (Obj.cells #[Value.map (some (w.heap.size + 1))] 68)) n
  rw [hs1] at mO
  have e3 : ((W1.alloc (Obj.map #[] 0)).alloc (Obj.cells #[Value.map (some (w.heap.size + 1))] 68)).heap.size = w.heap.size + 1 + 1 + 1 := by simp [hs1]
  rw [e3] at mP
  obtain ⟨W5, hrun, m5, t5⟩ := mP.store p (a, -1) (by omega) hp0 (by simpa using hp1) (by simp; omega)
  have hs5 : W5.heap.size = w.heap.size + 1 + 1 + 1 + 1 := by rw [turned_size t5]; simp [hs1]
  have hc5 := turned_cell t5
  have mO5 := (((mO.kept (World.grownBy_alloc _ (Obj.cells #[Value.map (some (w.heap.size + 1))] 68) none) (by simp)).kept (World.grownBy_alloc _ (Obj.map #[] 0) none) (by simp)).turned t5 (by omega)).kept (World.grownBy_alloc _ (Obj.cells #[Value.map (some (w.heap.size + 1 + 1 + 1))] 68) none) (by simp)
  have m5' := m5.kept (World.grownBy_alloc _ (Obj.cells #[Value.map (some (w.heap.size + 1 + 1 + 1))] 68) none) (by simp)
  have hb5 : Below w.heap.size w (W5.alloc (Obj.cells #[Value.map (some (w.heap.size + 1 + 1 + 1))] 68)) :=
    (below_turned ((((hb1.alloc (by omega) _).alloc (by simp [hs1]; omega) _)).alloc (by simp [hs1]; omega) _) t5 (by omega)).alloc (by omega) _
  subst hW1
  have hrel : ReachRel w n sa cap ws tk p a n (W5.alloc (Obj.cells #[Value.map (some (w.heap.size + 1 + 1 + 1))] 68)) 0 (0 + 1) (Rd.start n p a).1 (Rd.start n p a).2 := by
    refine ⟨hb5, by simp [hs5], ?_, ?_, ?_, ?_, by omega, by omega, rfl, Rd.inv_start hp0 hp1 ha0 ha1, ?_, (mO5.mono (by omega)), m5'⟩
    · rw [World.cell?_alloc_past _ _ _ (by omega), hc5, World.cell?_alloc_past _ _ _ (by simp; omega), World.cell?_alloc_past _ _ _ (by simp; omega), World.cell?_alloc_past _ _ _ (by simp)]; simp
    · rw [World.cell?_alloc_past _ _ _ (by omega), hc5, World.cell?_alloc_past _ _ _ (by simp; omega), World.cell?_alloc_past _ _ _ (by simp; omega), World.cell?_alloc_past _ _ _ (by simp)]; simp
    · rw [World.cell?_alloc_past _ _ _ (by omega), hc5, World.cell?_alloc_past _ _ _ (by simp)]; exact World.cell?_alloc_at _ _ _ _ (by simp)
    · rw [show (w.heap.size + 1 + 1 + 1 + 1) = W5.heap.size from hs5.symm]; simp
    · have : Rd.left (Rd.start n p a).1 ≤ (Rd.start n p a).1.length := List.countP_le_length
      simpa [Rd.start] using this
  clear mO mP e3 hs1 hb1 mO5 m5' hb5 m5
  have HREL := Lib.hid hrel; clear hrel
  go_wp2_with fail
  go_step3
  go_wp2_with fail
  clear hrun t5 hs5 hc5
  refine wp_loop_ghost_k (RI w n sa cap ws tk p a g lb) n ?_ ?_
  · exact RI.intro HREL.out (Marks.nil _ _) (fun _ => undef) rfl
  · clear HREL
    rintro gk _ wo ⟨u, ds, r, N, O, P, ⟨hrel, hmk⟩, rfl⟩ J K hJ hK
    have HMK := Lib.hid hmk; clear hmk
    have c0 := hrel.c0; have c1 := hrel.c1; have c2 := hrel.c2; have c4 := hrel.c4; have hbig := hrel.big
    have HR := Lib.hid hrel; clear hrel
    go_wp2_with fail
    have HHM := Lib.hid hmm; clear hmm
    go_loopw [11, 31] (fun nx i w2 => ∃ k : Nat, k ≤ n ∧ i = .int .i64 k ∧ nx = .int .i64 (Rd.scan P k) ∧ Below wo.heap.size wo w2) (fun _ i _ => n - (intOf i).toNat)
    case atStart => exact ⟨0, Nat.zero_le _, rfl, rfl, Below.refl _ _⟩
    case round =>
      obtain ⟨k, hk, rfl, rfl, hb2⟩ := hrel
      by_cases hlt : k < n
      · have hmP : MapIs wr (w.heap.size + 1 + 1 + 1) N P := HR.out.mp.same (hb2.block _ (by omega))
        have hsz := hb2.size
        have e1 := hmP.look_ok k (by omega) (by omega)
        have e4 := (hb2.cell (p := ⟨w.heap.size + 1 + 1 + 1 + 1, 0, none⟩) (by show w.heap.size + 1 + 1 + 1 + 1 < _; omega)).trans c4
        have hbig4 : w.heap.size + 1 + 1 + 1 + 1 < wr.heap.size := by omega
        cases hg : Rd.gt P k with
        | none =>
          rw [hg] at e1
          have hsc : Rd.scan P (k + 1) = Rd.scan P k := by show (match Rd.gt P k with | some x => _ | none => _) = _; rw [hg]
          have HSC := Lib.hid hsc; clear hsc hg
          dsimp only [Option.getD_none, Option.isSome_none] at e1
          go_wp2_with fail
          go_roundw
          case rel => exact ⟨k + 1, by omega, by go_num, by rw [HSC.out], hb2.trans ((Below.refl _ _).alloc (Nat.le_refl _) _ |>.mono hsz)⟩
          case measure => simp [intOf]; omega
        | some x =>
          rw [hg] at e1
          dsimp only [Option.getD_some, Option.isSome_some] at e1
          have hss := Rd.scan_spec P k
          have hsc : Rd.scan P (k + 1) = if Rd.scan P k < 0 ∨ x.1 < ((Rd.gt P (Rd.scan P k)).getD (0, 0)).1 then (k : Int) else Rd.scan P k := by show (match Rd.gt P k with | some x => _ | none => _) = _; rw [hg]
          generalize hsn : Rd.scan P k = nx at *
          have HSN := Lib.hid hsn; clear hsn
          have HSC := Lib.hid hsc; clear hsc hg
          by_cases hn0 : nx < 0
          · go_wp2_with fail
            go_roundw
            case rel => exact ⟨k + 1, by omega, by go_num, by rw [HSC.out, if_pos (Or.inl hn0)], hb2.trans ((Below.refl _ _).alloc (Nat.le_refl _) _ |>.mono hsz)⟩
            case measure => simp [intOf]; omega
          · have hnk : nx < k := (hss.2.1 (by omega)).1
            clear hss
            have hfd : ∀ (a b : Value) (w : World), (Instr.field 78 (.agg #[a, b]) 0).run Try.prog w = .ok a w := fun _ _ _ => by kernel_rfl
            have e2 := (hmP.kept (World.grownBy_alloc wr (Obj.cells #[Value.int IntKind.i64 x.1, Value.int IntKind.i64 x.2] 78) none) (by simp)).look nx (by omega) (by omega)
            generalize hy : (Rd.gt P nx).getD (0, 0) = y at *
            have HY := Lib.hid hy; clear hy
            by_cases hxy : x.1 < y.1
            · go_wp2_with fail
              go_roundw
              case rel => exact ⟨k + 1, by omega, by go_num, by rw [HSC.out, if_pos (Or.inr hxy)], hb2.trans ((Below.refl _ _).alloc (Nat.le_refl _) _ |>.mono hsz)⟩
              case measure => simp [intOf]; omega
            · go_wp2_with fail
              go_roundw
              case rel => exact ⟨k + 1, by omega, by go_num, by rw [HSC.out, if_neg (by omega)], hb2.trans ((Below.refl _ _).alloc (Nat.le_refl _) _ |>.mono hsz)⟩
              case measure => simp [intOf]; omega
      · obtain rfl : k = n := by omega
        have hss := Rd.scan_spec P k
        have hlP : P.length = k := HR.out.inv.lp
        have hlO : O.length = k := HR.out.inv.lo
        generalize hsn : Rd.scan P k = nx at *
        have HSN := Lib.hid hsn; clear hsn
        have hsz := hb2.size
        have d0 := (hb2.cell (p := ⟨w.heap.size, 0, none⟩) (by show w.heap.size < _; omega)).trans c0
        have d1 := (hb2.cell (p := ⟨w.heap.size, 1, none⟩) (by show w.heap.size < _; omega)).trans c1
        have d2 := (hb2.cell (p := ⟨w.heap.size + 1 + 1, 0, none⟩) (by show w.heap.size + 1 + 1 < _; omega)).trans c2
        have d4 := (hb2.cell (p := ⟨w.heap.size + 1 + 1 + 1 + 1, 0, none⟩) (by show w.heap.size + 1 + 1 + 1 + 1 < _; omega)).trans c4
        by_cases hn0 : nx < 0
        · go_wp2_with fail
          obtain ⟨rs, rfl, hnd, hrs⟩ := HMK.out
          rw [Exit.noGoto_ret]
          refine leaves_marks (w.heap.size + 5) (fun W => results_tmp rfl _ _ _) rs wr hnd (fun q hq => ⟨(hrs q hq).1, (hb2.block q (Array.getElem?_eq_some_iff.1 (hrs q hq).2).1).trans (hrs q hq).2⟩) (fun W' hp => ?_)
          refine ⟨w.heap.size + 1, rfl, ?_, below_putMarks (HR.out.bel.trans (hb2.mono (by omega))) (n0 := w.heap.size) ⟨hp.os, hp.tape, hp.output, hp.size, fun k o hk hc => hp.block k o hk (hc.imp (fun h => by omega) id)⟩⟩
          have hmo : MapIs wr (w.heap.size + 1) N O := HR.out.mo.same (hb2.block _ (by omega))
          obtain ⟨es, ck, hes⟩ := hmo.obj
          have e : Rd.reach k ws tk p a = O := by
            have h1 := HR.out.st
            have h2 := HR.out.rd
            rw [show k + 1 - r = gk + 1 from by omega] at h1
            unfold Rd.reach
            rw [h1]
            unfold Rd.rounds
            rw [if_pos (by rw [hlP, HSN.out]; exact hn0)]
          rw [e]
          have h3 := HR.out.hN
          have h4 := HR.out.rd
          exact (hmo.same ((hp.block _ _ hes (.inr (fun l h => by cases h))).trans hes.symm)).mono (by omega)
        · have hnx := hss.2.1 (by omega)
          have hlt : nx < k := hnx.1
          obtain ⟨hnk, x, hx, _⟩ := hnx
          have hmP : MapIs wr (w.heap.size + 1 + 1 + 1) N P := HR.out.mp.same (hb2.block _ (by omega))
          have hmO : MapIs wr (w.heap.size + 1) N O := HR.out.mo.same (hb2.block _ (by omega))
          have hN1 := HR.out.hN
          have hN2 := HR.out.rd
          have e1 := hmP.look nx (by omega) (by omega)
          rw [hx] at e1
          dsimp only [Option.getD_some] at e1
          obtain ⟨W3, hr3, m3, t3⟩ := (hmP.kept (World.grownBy_alloc wr (Obj.cells #[Value.int IntKind.i64 x.1, Value.int IntKind.i64 x.2] 78) none) (by simp)).drop nx (by omega) (by omega) (by omega) 0
          obtain ⟨W4, hr4, m4, t4⟩ := ((hmO.kept (World.grownBy_alloc wr (Obj.cells #[Value.int IntKind.i64 x.1, Value.int IntKind.i64 x.2] 78) none) (by simp)).turned t3 (by omega)).store nx x (by omega) (by omega) (by omega) (by omega)
          have hs3 : W3.heap.size = wr.heap.size + 1 := by rw [turned_size t3]; simp
          have hs4 : W4.heap.size = wr.heap.size + 1 := by rw [turned_size t4, hs3]
          have hc3 := turned_cell t3
          have hc4 := turned_cell t4
          have hbig2 : w.heap.size + 1 + 1 < wr.heap.size := by omega
          have hbig4 : w.heap.size + 1 + 1 + 1 + 1 < wr.heap.size := by omega
          have hbig0 : w.heap.size < wr.heap.size := by omega
          have T3 := Lib.hid t3; have T4 := Lib.hid t4; clear t3 t4
          have hxr := HR.out.inv.rng nx x (.inr hx)
          have X0 : 0 ≤ x.1 := hxr.1
          have X1 : x.1 ≤ 1439 := hxr.2.1
          clear hxr
          have HX := Lib.hid hx; clear hx hss
          go_wp2_with fail
          refine (from_any2 k sa ws.length cap nx x.1 g lb W4).mono ?_
          rintro e W7 ⟨rfl, hW7⟩
          clear e1 hr3 hr4
          have g1 : W7.cell? ⟨w.heap.size, 1, none⟩ = some (.slice sa ws.length cap) := by rw [hW7.bel.cell (p := ⟨w.heap.size, 1, none⟩) (by show w.heap.size < _; omega), hc4, hc3, World.cell?_alloc_past _ _ _ hbig0]; exact d1
          have g0 : W7.cell? ⟨w.heap.size, 0, none⟩ = some (.int .i64 k) := by rw [hW7.bel.cell (p := ⟨w.heap.size, 0, none⟩) (by show w.heap.size < _; omega), hc4, hc3, World.cell?_alloc_past _ _ _ hbig0]; exact d0
          have g2 : W7.cell? ⟨w.heap.size + 1 + 1, 0, none⟩ = some (.map (some (w.heap.size + 1))) := by rw [hW7.bel.cell (p := ⟨w.heap.size + 1 + 1, 0, none⟩) (by show w.heap.size + 1 + 1 < _; omega), hc4, hc3, World.cell?_alloc_past _ _ _ hbig2]; exact d2
          have g4 : W7.cell? ⟨w.heap.size + 1 + 1 + 1 + 1, 0, none⟩ = some (.map (some (w.heap.size + 1 + 1 + 1))) := by rw [hW7.bel.cell (p := ⟨w.heap.size + 1 + 1 + 1 + 1, 0, none⟩) (by show w.heap.size + 1 + 1 + 1 + 1 < _; omega), hc4, hc3, World.cell?_alloc_past _ _ _ hbig4]; exact d4
          have hs7 : W7.heap.size = wr.heap.size + 5 := by rw [hW7.size, hs4]
          have hmO7 : MapIs W7 (w.heap.size + 1) (N + 1) (Rd.put O nx (some x)) := m4.same (hW7.bel.block _ (by omega))
          have hmP7 : MapIs W7 (w.heap.size + 1 + 1 + 1) N (Rd.put P nx none) := (m3.turned T4.out (by omega)).same (hW7.bel.block _ (by omega))
          have hbel7 : Below w.heap.size w W7 := ((below_turned (below_turned ((HR.out.bel.trans (hb2.mono (by omega))).alloc (by omega) _) T3.out (by omega)) T4.out (by omega))).trans (hW7.bel.mono (by omega))
          have hmk7 : ∀ q, w.heap.size + 5 ≤ q → q < wr.heap.size → W7.heap[q]? = wr.heap[q]? := by
            intro q hq1 hq2
            rw [hW7.bel.block q (by omega), T4.out.grown.block q (by omega) (by simp; omega), T3.out.grown.block q (by simp; omega) (by simp; omega)]
            exact Below.heap_alloc _ _ _ hq2
          have F0 := hW7.f0; have F1 := hW7.f1; have F2 := hW7.f2; have F3 := hW7.f3; have F4 := hW7.f4
          clear hW7
          rw [hs4] at F0 F1 F2 F3 F4
          have HF := Lib.hid (And.intro F0 (And.intro F1 (And.intro F2 (And.intro F3 F4)))); clear F0 F1 F2 F3 F4
          go_wp2_with fail
          refine (wpIn_wide (n := 9)).1 ?_
          refine wpIn_rangeFunc_ownG (α := Pr ws tk nx x.1) (F := Fence.wide) rfl (by omega) (gf := 48) (lb := #[.pointer (some ⟨wr.heap.size + 1, 0, none⟩), .pointer (some ⟨wr.heap.size + 1 + 1, 0, none⟩), .pointer (some ⟨wr.heap.size + 1 + 1 + 1, 0, none⟩), .pointer (some ⟨wr.heap.size + 1 + 1 + 1 + 1, 0, none⟩)]) rfl trivial (enters_of Try.func48 (by kernel_rfl) rfl)
            (from_stops 8 k (by omega) (wr.heap.size + 1) (wr.heap.size + 5) (w.heap.size + 1 + 1 + 1) sa cap ws tk nx x.1 g lb w.heap.size (by omega) (by omega) (by omega) ch.ch X0 X1 htk W7 (by omega) (ch.wy.below hbel7) EG.out (HT.out.takes hbel7 (by omega) (by omega)) HF.out.1 HF.out.2.1 HF.out.2.2.1 HF.out.2.2.2.1 HF.out.2.2.2.2)
            (fun h k => h.trans k) (fun W l o o' hl ho _ _ => ⟨by simp, fun q hq _ => World.putObj_heap_other (by omega)⟩) (Below.refl _ _) (fun _ => rfl)
            (fun (pre : List (Pr ws tk nx x.1)) W => Stay W7.heap.size (w.heap.size + 1 + 1 + 1) W7 W ∧ Below w.heap.size w W ∧ MapIs W (w.heap.size + 1 + 1 + 1) (N + pre.length) (Rd.relax ws (Rd.put O nx (some x)) (List.map (fun q : Pr ws tk nx x.1 => q.val) pre) (Rd.put P nx none)))
            (fun _ _ _ => False)
            (fun s A B row hs hg hr => ⟨hs.1.trans ⟨hg.size, fun q hq _ => hg.block q (by have := hs.1.size; omega) (fun e => by have := (hr q e.symm).1; omega)⟩, hs.2.1.grown hg (Nat.le_trans (by omega) hs.1.size) (fun q e => by have := (hr q e).1; omega), hs.2.2.kept hg (fun e => by have := (hr _ e.symm).1; omega)⟩)
            (fun _ _ _ _ _ hs _ _ => hs)
            ⟨Stay.refl _ _ _, hbel7, hmP7⟩
            (fun y => { tmps := #[cv k sa ws.length cap, .int .i64 p, .int .i64 a, .func (.func g) #[] lb, .pointer (some ⟨w.heap.size, 0, none⟩), undef, undef, undef, .map none, .pointer (some ⟨w.heap.size + 1 + 1, 0, none⟩), .pointer (some ⟨w.heap.size + 1 + 1 + 1 + 1, 0, none⟩), .int .i64 nx, u12, u13, u14, .pointer (some ⟨wr.heap.size, 0, none⟩), .int .i64 y.1.1, .int .i64 y.1.2, (u 18), (u 19), (u 20), (u 21), (u 22), .map (some (w.heap.size + 1)), .map (some (w.heap.size + 1 + 1 + 1)), .int .i64 p, .int .i64 a, .agg #[.int .i64 a, .int .i64 (-1)], .map (some (w.heap.size + 1 + 1 + 1)), .pointer (some ⟨w.heap.size, 0, none⟩), .int .i64 k, .int .i64 k, .bool false, u33, u34, u35, u36, u37, u38, u39, u40, u41, u42, u43, u44, u45, u46, u47, u48, u49, u50, u51, u52, u53, u54, u55, .int .i64 nx, .bool false, .map (some (w.heap.size + 1 + 1 + 1)), .int .i64 nx, .agg #[.int .i64 x.1, .int .i64 x.2], .map (some (w.heap.size + 1 + 1 + 1)), .int .i64 nx, .map (some (w.heap.size + 1)), .int .i64 nx, .agg #[.int .i64 x.1, .int .i64 x.2], .agg #[.int .i64 k, .slice sa ws.length cap], .int .i64 nx, .pointer (some ⟨wr.heap.size, 0, none⟩), .int .i64 x.1, .func (.func g) #[] lb, .func (.func 48) #[] #[.pointer (some ⟨wr.heap.size + 1, 0, none⟩), .pointer (some ⟨wr.heap.size + 1 + 1, 0, none⟩), .pointer (some ⟨wr.heap.size + 1 + 1 + 1, 0, none⟩), .pointer (some ⟨wr.heap.size + 1 + 1 + 1 + 1, 0, none⟩)], .int .i64 y.1.1, .int .i64 y.1.2, (u 74), (u 75), (u 76), (u 77), (u 78), (u 79), (u 80), (u 81), (u 82), (u 83), (u 84), (u 85), (u 86), (u 87), (u 88), (u 89), (u 90), (u 91), (u 92), (u 93), (u 94), (u 95), (u 96), (u 97), (u 98), (u 99), (u 100), (u 101), (u 102), (u 103), (u 104), (u 105), (u 106), (u 107), (u 108), undef], defers := [] }) ?assign ?body ?done ?stop
          case assign =>
            intro l y W K hK
            gi_wp2
            exact hK
          case body =>
            rintro l pre y W ⟨hst, hbel, hmp⟩ hlen
            obtain ⟨⟨yi, ye⟩, hy⟩ := y
            dsimp only
            obtain ⟨q0, q1, q2, q3, q4, q5⟩ := Rd.mem_outs.1 hy
            dsimp only at q0 q1 q2 q3 q4 q5
            have wk := ch.ch.ways yi q0 q1
            have hl40 := ch.ch.len
            have hsW := hst.size
            have htk1 := htk yi q0 q1
            have hye1 : 0 ≤ ye := by have := Rd.lvm_ge (Rd.way ws yi) x.1; omega
            have hye2 : ye ≤ 1439 := by omega
            obtain ⟨yn, rfl⟩ := Int.eq_ofNat_of_zero_le q0
            have hyn : yn < ws.length := by omega
            obtain ⟨sb, so, rfl, hsb, h7⟩ := (ch.wy.below hbel).at hyn
            have h7c := h7.c1
            clear h7
            have i1 := (hst.cell (b := w.heap.size) (o := 1) (by omega) (by omega)).trans g1
            have i2 := (hst.cell (b := w.heap.size + 1 + 1) (o := 0) (by omega) (by omega)).trans g2
            have i4 := (hst.cell (b := w.heap.size + 1 + 1 + 1 + 1) (o := 0) (by omega) (by omega)).trans g4
            have hW0 : w.heap.size < W.heap.size := by omega
            have hW2 : w.heap.size + 1 + 1 < W.heap.size := by omega
            have hW4 : w.heap.size + 1 + 1 + 1 + 1 < W.heap.size := by omega
            have hW4' : w.heap.size + 1 + 1 + 1 + 1 < W.heap.size + 1 := by omega
            have t0 := wk.t0
            have t1 := wk.t1
            have hmo : MapIs W (w.heap.size + 1) (N + 1) (Rd.put O nx (some x)) := hmO7.same (hst.block _ (by omega) (by omega))
            have hpre : List.map (fun q : Pr ws tk nx x.1 => q.val) (pre ++ [⟨((yn : Int), ye), hy⟩]) = List.map (fun q : Pr ws tk nx x.1 => q.val) pre ++ [((yn : Int), ye)] := by simp
            have hrx : Rd.relax ws (Rd.put O nx (some x)) (List.map (fun q : Pr ws tk nx x.1 => q.val) (pre ++ [⟨((yn : Int), ye), hy⟩])) (Rd.put P nx none) = Rd.relax1 ws (Rd.put O nx (some x)) (Rd.relax ws (Rd.put O nx (some x)) (List.map (fun q : Pr ws tk nx x.1 => q.val) pre) (Rd.put P nx none)) ((yn : Int), ye) := by
              rw [hpre]; unfold Rd.relax; rw [List.foldl_append]; rfl
            have hplen : (Rd.relax ws (Rd.put O nx (some x)) (List.map (fun q : Pr ws tk nx x.1 => q.val) pre) (Rd.put P nx none)).length = k := by
              have h1 : ∀ (l : List (Int × Int)) (op : Rd.Tab), (Rd.relax ws (Rd.put O nx (some x)) l op).length = op.length := by
                intro l
                induction l with
                | nil => intro op; rfl
                | cons q l ih =>
                  intro op
                  show (Rd.relax ws _ l (Rd.relax1 ws _ op q)).length = _
                  rw [ih]
                  unfold Rd.relax1
                  split
                  · exact Rd.put_len _ _ _
                  · rfl
              rw [h1, Rd.put_len, hlP]
            generalize Rd.relax ws (Rd.put O nx (some x)) (List.map (fun q : Pr ws tk nx x.1 => q.val) pre) (Rd.put P nx none) = PP at *
            generalize Rd.put O nx (some x) = OO at *
            have HRX := Lib.hid hrx; clear hrx hpre
            generalize hto : (Rd.way ws (yn : Int)).to = to at *
            have HTO := Lib.hid hto; clear hto q2 q3 q4 q5
            have e1 := hmo.look_ok to (by omega) (by omega)
            have hstA : ∀ {A B : World}, Below W7.heap.size A B → Stay W7.heap.size (w.heap.size + 1 + 1 + 1) A B := fun h => Stay.of_below h (Nat.le_refl _)
            have rs1 : ∀ z, Rd.gt OO to = some z → Rd.relax1 ws OO PP ((yn : Int), ye) = PP := fun z h => by unfold Rd.relax1; rw [HTO.out, h]; simp
            have rs2 : ∀ z, Rd.gt PP to = some z → ¬ ye < z.1 → Rd.relax1 ws OO PP ((yn : Int), ye) = PP := fun z h h' => by unfold Rd.relax1; rw [HTO.out, h]; simp [h']
            have rs3 : Rd.gt OO to = none → (Rd.gt PP to = none ∨ ye < ((Rd.gt PP to).getD (0, 0)).1) → Rd.relax1 ws OO PP ((yn : Int), ye) = Rd.put PP to (some (ye, (yn : Int))) := fun h h' => by unfold Rd.relax1; rw [HTO.out, if_pos ⟨h, h'⟩]
            have RS := Lib.hid (And.intro rs1 (And.intro rs2 rs3)); clear rs1 rs2 rs3
            have fin : ∀ (A : Act) (c1 c2 : Obj) (PP' : Rd.Tab), PP' = PP → Rd.relax ws OO (List.map (fun q : Pr ws tk nx x.1 => q.val) (pre ++ [⟨((yn : Int), ye), hy⟩])) (Rd.put P nx none) = PP' →
                ownPostG (wr.heap.size + 5) (Stay (wr.heap.size + 5) (w.heap.size + 1 + 1 + 1)) (fun (pre : List (Pr ws tk nx x.1)) W => Stay (wr.heap.size + 5) (w.heap.size + 1 + 1 + 1) W7 W ∧ Below w.heap.size w W ∧ MapIs W (w.heap.size + 1 + 1 + 1) (N + pre.length) (Rd.relax ws OO (List.map (fun q : Pr ws tk nx x.1 => q.val) pre) (Rd.put P nx none))) (fun _ _ _ => False)
                  (pre ++ [⟨((yn : Int), ye), hy⟩]) W Exit.normal A ((W.alloc c1).alloc c2) := by
              intro A c1 c2 PP' h1 h2
              have hb' : Below W.heap.size W ((W.alloc c1).alloc c2) := ((Below.refl _ _).alloc (Nat.le_refl _) _).alloc (by simp) _
              refine ⟨((KeepsOthers.alloc _ _).trans (KeepsOthers.alloc _ _)).from _, Stay.of_below hb' (by omega), (hs7 ▸ hst : Stay (wr.heap.size + 5) (w.heap.size + 1 + 1 + 1) W7 W).trans (Stay.of_below hb' (by omega)), hbel.trans (hb'.mono (by omega)), ?_⟩
              rw [h2, h1]
              exact (((hmp.kept (World.grownBy_alloc _ _ none) (by simp)).kept (World.grownBy_alloc _ _ none) (by simp))).mono (by simp <;> omega)
            have FIN := Lib.hid fin; clear fin
            have fin2 : ∀ (A : Act) (c1 c2 : Obj) (W9 : World), ((W.alloc c1).alloc c2).mapTurned W9 (w.heap.size + 1 + 1 + 1) → MapIs W9 (w.heap.size + 1 + 1 + 1) (N + pre.length + 1) (Rd.put PP to (some (ye, (yn : Int)))) → Rd.relax ws OO (List.map (fun q : Pr ws tk nx x.1 => q.val) (pre ++ [⟨((yn : Int), ye), hy⟩])) (Rd.put P nx none) = Rd.put PP to (some (ye, (yn : Int))) →
                ownPostG (wr.heap.size + 5) (Stay (wr.heap.size + 5) (w.heap.size + 1 + 1 + 1)) (fun (pre : List (Pr ws tk nx x.1)) W => Stay (wr.heap.size + 5) (w.heap.size + 1 + 1 + 1) W7 W ∧ Below w.heap.size w W ∧ MapIs W (w.heap.size + 1 + 1 + 1) (N + pre.length) (Rd.relax ws OO (List.map (fun q : Pr ws tk nx x.1 => q.val) pre) (Rd.put P nx none))) (fun _ _ _ => False)
                  (pre ++ [⟨((yn : Int), ye), hy⟩]) W Exit.normal A W9 := by
              intro A c1 c2 W9 ht hm h2
              have hb' : Below W.heap.size W ((W.alloc c1).alloc c2) := ((Below.refl _ _).alloc (Nat.le_refl _) _).alloc (by simp) _
              have hg := ht.grown
              have hs9 : ∀ m, m ≤ W.heap.size → Stay m (w.heap.size + 1 + 1 + 1) W W9 := fun m hm => (Stay.of_below hb' hm).trans ⟨hg.size, fun q hq hn => hg.block q (by simp; omega) (by simpa using hn)⟩
              refine ⟨(((KeepsOthers.alloc _ _).trans (KeepsOthers.alloc _ _)).from _).trans (KeepsFrom.of_grownBy hg (fun j e => by cases e; omega)), hs9 _ (by omega), (hs7 ▸ hst : Stay (wr.heap.size + 5) (w.heap.size + 1 + 1 + 1) W7 W).trans (hs9 _ (by omega)), below_turned (hbel.trans (hb'.mono (by omega))) ht (by omega), ?_⟩
              rw [h2]
              exact hm.mono (by simp; omega)
            have FIN2 := Lib.hid fin2; clear fin2
            cases hgo : Rd.gt OO to with
            | some z =>
              rw [hgo] at e1
              dsimp only [Option.getD_some, Option.isSome_some] at e1
              have e2 := (hmp.kept (World.grownBy_alloc W (Obj.cells #[Value.int IntKind.i64 z.1, Value.int IntKind.i64 z.2] 78) none) (by simp)).look_ok to (by omega) (by omega)
              have HE := Lib.hid ((RS.out.1 z hgo)); clear hgo
              gi_wp2
              exact FIN.out _ _ _ _ rfl (HRX.out.trans HE.out)
            | none =>
              rw [hgo] at e1
              dsimp only [Option.getD_none, Option.isSome_none] at e1
              have m2 := (hmp.kept (World.grownBy_alloc W (Obj.cells #[Value.int IntKind.i64 0, Value.int IntKind.i64 0] 78) none) (by simp))
              have e2 := m2.look_ok to (by omega) (by omega)
              have HGO := Lib.hid hgo; clear hgo
              cases hgp : Rd.gt PP to with
              | none =>
                rw [hgp] at e2
                dsimp only [Option.getD_none, Option.isSome_none] at e2
                obtain ⟨W9, hr9, m9, t9⟩ := (m2.kept (World.grownBy_alloc _ (Obj.cells #[Value.int IntKind.i64 0, Value.int IntKind.i64 0] 78) none) (by simp)).store to (ye, (yn : Int)) (by omega) t0 (by omega) (by omega)
                have HE := Lib.hid (RS.out.2.2 HGO.out (Or.inl hgp)); clear hgp
                have T9 := Lib.hid t9; clear t9
                gi_wp2
                exact FIN2.out _ _ _ _ T9.out m9 (HRX.out.trans HE.out)
              | some z =>
                rw [hgp] at e2
                dsimp only [Option.getD_some, Option.isSome_some] at e2
                by_cases hlt9 : ye < z.1
                · obtain ⟨W9, hr9, m9, t9⟩ := (m2.kept (World.grownBy_alloc _ (Obj.cells #[Value.int IntKind.i64 z.1, Value.int IntKind.i64 z.2] 78) none) (by simp)).store to (ye, (yn : Int)) (by omega) t0 (by omega) (by omega)
                  have HE := Lib.hid (RS.out.2.2 HGO.out (Or.inr (by rw [hgp]; exact hlt9))); clear hgp
                  have T9 := Lib.hid t9; clear t9
                  gi_wp2
                  exact FIN2.out _ _ _ _ T9.out m9 (HRX.out.trans HE.out)
                · have HE := Lib.hid (RS.out.2.1 z hgp hlt9); clear hgp
                  gi_wp2
                  exact FIN.out _ _ _ _ rfl (HRX.out.trans HE.out)
          case done =>
            rintro D xs W hD hS ⟨hst, hbel, hmp⟩ hK2
            have hlx : xs.length ≤ ws.length := by
              have h1 : (xs.map (·.1)).length = (Rd.outs ws tk nx x.1 ws.length).length := by rw [hS]
              rw [List.length_map] at h1
              have := outs_len ws tk nx x.1 ws.length
              omega
            have hl40 := ch.ch.len
            have hsW := hst.size
            have hi := HR.out.inv
            have hsc : Rd.scan P P.length = nx := by rw [hlP]; exact HSN.out
            have hrd := Rd.inv_round ok hi (by rw [hsc]; omega)
            rw [hsc] at hrd
            have hr1 : Rd.round1 ws tk (O, P) = (Rd.put O nx (some x), Rd.relax ws (Rd.put O nx (some x)) (Rd.outs ws tk nx x.1 ws.length) (Rd.put P nx none)) := by
              unfold Rd.round1; dsimp only; rw [hsc, HX.out]; rfl
            have hlf := Rd.left_put (x := x) (show 0 ≤ nx by omega) (by rw [hlO]; exact hlt) hrd.2
            have hlf2 := HR.out.lf
            have hgk : gk - 1 < gk := by omega
            have hst2 : Rd.rounds ws tk (k + 1) (Rd.start k p a) = Rd.rounds ws tk (k + 1 - (r + 1)) (Rd.put O nx (some x), Rd.relax ws (Rd.put O nx (some x)) (Rd.outs ws tk nx x.1 ws.length) (Rd.put P nx none)) := by
              have h1 := HR.out.st
              rw [show k + 1 - r = (k + 1 - (r + 1)) + 1 from by omega] at h1
              rw [h1, ← hr1]
              conv => lhs; unfold Rd.rounds
              rw [if_neg (by rw [hsc]; omega)]
            have hinv := hrd.1
            rw [hr1] at hinv
            have hmp' : MapIs W (w.heap.size + 1 + 1 + 1) (N + 41) (Rd.relax ws (Rd.put O nx (some x)) (Rd.outs ws tk nx x.1 ws.length) (Rd.put P nx none)) := by
              have hS' : List.map (fun q : Pr ws tk nx x.1 => q.val) xs = Rd.outs ws tk nx x.1 ws.length := hS
              rw [hS'] at hmp
              exact hmp.mono (by omega)
            have hmo' : MapIs W (w.heap.size + 1) (N + 41) (Rd.put O nx (some x)) := (hmO7.same (hst.block _ (by omega) (by omega))).mono (by omega)
            have hRel : ReachRel w k sa cap ws tk p a (gk - 1) W (r + 1) (N + 41) (Rd.put O nx (some x)) (Rd.relax ws (Rd.put O nx (some x)) (Rd.outs ws tk nx x.1 ws.length) (Rd.put P nx none)) :=
              ⟨hbel, by omega, (hst.cell (by omega) (by omega)).trans g0, (hst.cell (by omega) (by omega)).trans g1, (hst.cell (by omega) (by omega)).trans g2, (hst.cell (by omega) (by omega)).trans g4, by omega, by omega, hst2, hinv, by omega, hmo', hmp'⟩
            have hMk : Marks (w.heap.size + 5) W (mk D :: ds) := HMK.out.cons (B := wo.heap.size) (fun q h1 h2 => (hst.block q (by omega) (by omega)).trans ((hmk7 q h1 (by omega)).trans (hb2.block q h2))) (Nat.le_refl _) (by omega) (by omega) hK2
            have HREL := Lib.hid (And.intro hRel hMk)
            clear hRel hMk hmo' hmp' hinv hst2 hlf hr1 hrd hsc hi hS hst hbel hmp hK2
            go_wp2_with fail
            exact Handed.intro (gk - 1) hgk (hJ _ _ _ (RI.intro HREL.out.1 HREL.out.2 (fun q => List.getD [cv k sa ws.length cap, .int .i64 p, .int .i64 a, .func (.func g) #[] lb, .pointer (some ⟨w.heap.size, 0, none⟩), undef, undef, undef, .map none, .pointer (some ⟨w.heap.size + 1 + 1, 0, none⟩), .pointer (some ⟨w.heap.size + 1 + 1 + 1 + 1, 0, none⟩), .int .i64 nx, u12, u13, u14, .pointer (some ⟨wr.heap.size, 0, none⟩), (u 16), (u 17), (u 18), (u 19), (u 20), (u 21), (u 22), .map (some (w.heap.size + 1)), .map (some (w.heap.size + 1 + 1 + 1)), .int .i64 p, .int .i64 a, .agg #[.int .i64 a, .int .i64 (-1)], .map (some (w.heap.size + 1 + 1 + 1)), .pointer (some ⟨w.heap.size, 0, none⟩), .int .i64 k, .int .i64 k, .bool false, u33, u34, u35, u36, u37, u38, u39, u40, u41, u42, u43, u44, u45, u46, u47, u48, u49, u50, u51, u52, u53, u54, u55, .int .i64 nx, .bool false, .map (some (w.heap.size + 1 + 1 + 1)), .int .i64 nx, .agg #[.int .i64 x.1, .int .i64 x.2], .map (some (w.heap.size + 1 + 1 + 1)), .int .i64 nx, .map (some (w.heap.size + 1)), .int .i64 nx, .agg #[.int .i64 x.1, .int .i64 x.2], .agg #[.int .i64 k, .slice sa ws.length cap], .int .i64 nx, .pointer (some ⟨wr.heap.size, 0, none⟩), .int .i64 x.1, .func (.func g) #[] lb, .func (.func 48) #[] #[.pointer (some ⟨wr.heap.size + 1, 0, none⟩), .pointer (some ⟨wr.heap.size + 1 + 1, 0, none⟩), .pointer (some ⟨wr.heap.size + 1 + 1 + 1, 0, none⟩), .pointer (some ⟨wr.heap.size + 1 + 1 + 1 + 1, 0, none⟩)], (u 72), (u 73), (u 74), (u 75), (u 76), (u 77), (u 78), (u 79), (u 80), (u 81), (u 82), (u 83), (u 84), (u 85), (u 86), (u 87), (u 88), (u 89), (u 90), (u 91), (u 92), (u 93), (u 94), (u 95), (u 96), (u 97), (u 98), (u 99), (u 100), (u 101), (u 102), (u 103), (u 104), (u 105), (u 106), (u 107), (u 108), undef] q undef) rfl))
          case stop =>
            rintro D c pre W _ _ h _
            exact h.elim
end Go.Proofs.Ytdmmjlhcjmdajaa
