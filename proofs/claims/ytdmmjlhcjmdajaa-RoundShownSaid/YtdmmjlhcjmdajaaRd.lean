/-
  Plain mathematics of the proof of RoundShownSaid: reach as rounds over a table, the minutes, paths and marks.
  Its conditions stand in each theorem.
-/
namespace Rd

structure Wy where
  frm : Int
  to : Int
  tlo : Int
  thi : Int
  olo : Int
  ohi : Int
  every : Int
deriving DecidableEq, Inhabited

/-- the minute at which a way is begun -/
def lvm (w : Wy) (a : Int) : Int :=
  if 0 < w.every then w.olo + (max a w.olo - w.olo + w.every - 1) / w.every * w.every else max a w.olo

structure Wy.ok (n : Int) (w : Wy) : Prop where
  f0 : 0 ≤ w.frm
  f1 : w.frm < n
  t0 : 0 ≤ w.to
  t1 : w.to < n
  ne : w.frm ≠ w.to
  a0 : 1 ≤ w.tlo
  a1 : w.tlo ≤ w.thi
  a2 : w.thi ≤ 600
  o0 : 0 ≤ w.olo
  o1 : w.olo ≤ w.ohi
  o2 : w.ohi ≤ 1439
  e0 : 0 ≤ w.every
  e1 : w.every ≤ 600

theorem lvm_ge (w : Wy) (a : Int) : a ≤ lvm w a := by
  unfold lvm
  split
  · rename_i he
    have h1 : max a w.olo - w.olo + w.every - 1 - (w.every - 1) ≤ (max a w.olo - w.olo + w.every - 1) / w.every * w.every := by
      have := Int.emod_add_mul_ediv (max a w.olo - w.olo + w.every - 1) w.every
      have h2 := Int.emod_lt_of_pos (max a w.olo - w.olo + w.every - 1) he
      rw [Int.mul_comm] at this
      omega
    omega
  · omega

theorem lvm_mono (w : Wy) {a b : Int} (h : a ≤ b) : lvm w a ≤ lvm w b := by
  unfold lvm
  split
  · rename_i he
    have : (max a w.olo - w.olo + w.every - 1) / w.every ≤ (max b w.olo - w.olo + w.every - 1) / w.every := Int.ediv_le_ediv he (by omega)
    have := Int.mul_le_mul_of_nonneg_right this (by omega : 0 ≤ w.every)
    omega
  · omega

/-- list lookups -/
def gt (L : List (Option (Int × Int))) (k : Int) : Option (Int × Int) := if 0 ≤ k then (L[k.toNat]?).join else none
def put (L : List (Option (Int × Int))) (k : Int) (v : Option (Int × Int)) : List (Option (Int × Int)) := L.set k.toNat v

theorem put_len (L k v) : (put L k v).length = L.length := by simp [put]
theorem gt_put (L : List (Option (Int × Int))) (k j : Int) (v : Option (Int × Int)) (h0 : 0 ≤ k) (h1 : k < L.length) :
    gt (put L k v) j = if j = k then v else gt L j := by
  unfold gt put
  by_cases hj : 0 ≤ j
  · simp only [hj, if_true]
    rw [List.getElem?_set]
    by_cases e : j = k
    · subst e
      simp
      split
      · rfl
      · omega
    · have : ¬ k.toNat = j.toNat := by omega
      simp [e, this]
  · have : j ≠ k := by omega
    simp [hj, this]
theorem gt_lt {L : List (Option (Int × Int))} {k : Int} {x} (h : gt L k = some x) : 0 ≤ k ∧ k < L.length := by
  unfold gt at h
  split at h
  · refine ⟨by assumption, ?_⟩
    rcases Nat.lt_or_ge k.toNat L.length with g | g
    · omega
    · simp [List.getElem?_eq_none g] at h
  · cases h

def way (ws : List Wy) (i : Int) : Wy := ws.getD i.toNat default
def tkn (tk : List Int) (i : Int) : Int := tk.getD i.toNat 0

/-- the ways from a place that are begun, with their ends -/
def outs (ws : List Wy) (tk : List Int) (p a : Int) : Nat → List (Int × Int)
  | 0 => []
  | k + 1 => outs ws tk p a k ++
    (if (way ws k).frm = p ∧ lvm (way ws k) a ≤ (way ws k).ohi ∧ lvm (way ws k) a + tkn tk k ≤ 1439 then [((k : Int), lvm (way ws k) a + tkn tk k)] else [])

theorem mem_outs {ws tk p a} {q : Int × Int} : ∀ {n : Nat}, q ∈ outs ws tk p a n ↔
    0 ≤ q.1 ∧ q.1 < n ∧ (way ws q.1).frm = p ∧ lvm (way ws q.1) a ≤ (way ws q.1).ohi ∧ lvm (way ws q.1) a + tkn tk q.1 ≤ 1439 ∧ q.2 = lvm (way ws q.1) a + tkn tk q.1
  | 0 => by simp [outs]; omega
  | k + 1 => by
    have ih := @mem_outs ws tk p a q k
    unfold outs
    rw [List.mem_append, ih]
    constructor
    · rintro (h | h)
      · exact ⟨h.1, by omega, h.2.2⟩
      · split at h
        · rename_i hc
          simp only [List.mem_singleton] at h
          subst h
          exact ⟨by simp, by simp; omega, hc.1, hc.2.1, hc.2.2, rfl⟩
        · simp at h
    · rintro ⟨h0, h1, h2⟩
      by_cases e : q.1 = (k : Int)
      · right
        rw [e] at h2
        rw [if_pos ⟨h2.1, h2.2.1, h2.2.2.1⟩]
        simp only [List.mem_singleton]
        exact Prod.ext e h2.2.2.2
      · left
        exact ⟨h0, by omega, h2⟩

/-- which open place is the earliest, among the first k -/
def scan (op : List (Option (Int × Int))) : Nat → Int
  | 0 => -1
  | k + 1 => match gt op k with
    | some x => if scan op k < 0 ∨ x.1 < ((gt op (scan op k)).getD (0, 0)).1 then (k : Int) else scan op k
    | none => scan op k

def relax1 (ws : List Wy) (ou op : List (Option (Int × Int))) (q : Int × Int) : List (Option (Int × Int)) :=
  if gt ou (way ws q.1).to = none ∧ (gt op (way ws q.1).to = none ∨ q.2 < ((gt op (way ws q.1).to).getD (0, 0)).1) then put op (way ws q.1).to (some (q.2, q.1)) else op

def relax (ws : List Wy) (ou : List (Option (Int × Int))) (l : List (Int × Int)) (op : List (Option (Int × Int))) : List (Option (Int × Int)) :=
  l.foldl (relax1 ws ou) op

/-- one round: what is reached then, and open then -/
def round1 (ws : List Wy) (tk : List Int) (s : List (Option (Int × Int)) × List (Option (Int × Int))) : List (Option (Int × Int)) × List (Option (Int × Int)) :=
  let nx := scan s.2 s.2.length
  let x := (gt s.2 nx).getD (0, 0)
  let ou := put s.1 nx (some x)
  (ou, relax ws ou (outs ws tk nx x.1 ws.length) (put s.2 nx none))

def rounds (ws : List Wy) (tk : List Int) : Nat → List (Option (Int × Int)) × List (Option (Int × Int)) → List (Option (Int × Int)) × List (Option (Int × Int))
  | 0, s => s
  | k + 1, s => if scan s.2 s.2.length < 0 then s else rounds ws tk k (round1 ws tk s)

def start (n : Nat) (p a : Int) : List (Option (Int × Int)) × List (Option (Int × Int)) := (List.replicate n none, put (List.replicate n none) p (some (a, -1)))

def reach (n : Nat) (ws : List Wy) (tk : List Int) (p a : Int) : List (Option (Int × Int)) := (rounds ws tk (n + 1) (start n p a)).1

def mins (ou : List (Option (Int × Int))) : List Int := ou.map fun x => match x with | some x => x.1 | none => -1

example : mins (reach 4 [⟨0,1,5,8,0,1439,0⟩,⟨1,0,5,8,0,1439,0⟩,⟨1,2,3,4,300,320,0⟩,⟨1,2,10,10,0,600,15⟩,⟨2,3,2,20,0,1439,0⟩] [8,8,4,10,20] 0 300) = [300, 308, 312, 332] := by decide

/-! the scan finds the earliest -/
theorem scan_spec (op : List (Option (Int × Int))) : ∀ k : Nat, 
    (scan op k < 0 → ∀ j : Int, 0 ≤ j → j < k → gt op j = none) ∧
    (0 ≤ scan op k → scan op k < k ∧ ∃ x, gt op (scan op k) = some x ∧ ∀ (j : Int) (y : Int × Int), j < k → gt op j = some y → x.1 ≤ y.1) ∧ -1 ≤ scan op k
  | 0 => ⟨by intro _ j h0 h1; omega, by simp [scan], by simp [scan]⟩
  | k + 1 => by
    obtain ⟨h1, h2, h3⟩ := scan_spec op k
    unfold scan
    cases hk : gt op k with
    | none =>
      dsimp only
      refine ⟨fun hs j h0 hj => ?_, fun hs => ?_, h3⟩
      · by_cases e : j = k
        · rw [e]; exact hk
        · exact h1 hs j h0 (by omega)
      · obtain ⟨a, x, hx, b⟩ := h2 hs
        refine ⟨by omega, x, hx, fun j y hj hy => ?_⟩
        by_cases e : j = k
        · rw [e, hk] at hy; cases hy
        · exact b j y (by omega) hy
    | some x =>
      dsimp only
      split
      · rename_i hc
        refine ⟨fun hs => by omega, fun _ => ⟨by omega, x, hk, fun j y hj hy => ?_⟩, by omega⟩
        by_cases e : j = k
        · rw [e, hk] at hy; cases hy; omega
        · rcases hc with hc | hc
          · have := (gt_lt hy).1
            rw [h1 hc j this (by omega)] at hy; cases hy
          · by_cases hn : scan op k < 0
            · have := (gt_lt hy).1
              rw [h1 hn j this (by omega)] at hy; cases hy
            · obtain ⟨_, z, hz, b⟩ := h2 (by omega)
              have := b j y (by omega) hy
              rw [hz] at hc
              simp at hc
              omega
      · rename_i hc
        have hn : 0 ≤ scan op k := by omega
        obtain ⟨a, z, hz, b⟩ := h2 hn
        refine ⟨fun hs => by omega, fun _ => ⟨by omega, z, hz, fun j y hj hy => ?_⟩, h3⟩
        by_cases e : j = k
        · rw [e, hk] at hy; cases hy
          rw [hz] at hc
          simp at hc
          omega
        · exact b j y (by omega) hy

/-! the invariant -/
abbrev Tab := List (Option (Int × Int))

/-- the way a place was reached -/
def Via (ws : List Wy) (tk : List Int) (p a : Int) (O : Tab) (k : Int) (x : Int × Int) : Prop :=
  (x.2 = -1 ∧ k = p ∧ x.1 = a) ∨
  (0 ≤ x.2 ∧ x.2 < ws.length ∧ (way ws x.2).to = k ∧ ∃ y, gt O (way ws x.2).frm = some y ∧ y.1 < x.1 ∧
    lvm (way ws x.2) y.1 ≤ (way ws x.2).ohi ∧ x.1 = lvm (way ws x.2) y.1 + tkn tk x.2 ∧ x.1 ≤ 1439)

def Known (T : Tab) (k e : Int) : Prop := ∃ x, gt T k = some x ∧ x.1 ≤ e

structure Inv (ws : List Wy) (tk : List Int) (n : Nat) (p a : Int) (O P : Tab) : Prop where
  lo : O.length = n
  lp : P.length = n
  dis : ∀ k x, gt O k = some x → gt P k = none
  via : ∀ k x, gt O k = some x ∨ gt P k = some x → Via ws tk p a O k x
  cls : ∀ k y, gt O k = some y → ∀ q ∈ outs ws tk k y.1 ws.length, Known O (way ws q.1).to q.2 ∨ Known P (way ws q.1).to q.2
  ord : ∀ k y j x, gt O k = some y → gt P j = some x → y.1 ≤ x.1
  beg : gt O p = some (a, -1) ∨ ((∀ k, gt O k = none) ∧ gt P p = some (a, -1) ∧ ∀ k x, gt P k = some x → k = p)
  rng : ∀ k x, gt O k = some x ∨ gt P k = some x → 0 ≤ x.1 ∧ x.1 ≤ 1439 ∧ -1 ≤ x.2 ∧ x.2 < ws.length

structure Okay (ws : List Wy) (tk : List Int) (n : Nat) : Prop where
  ways : ∀ i : Int, 0 ≤ i → i < ws.length → (way ws i).ok n
  tks : ∀ i : Int, 0 ≤ i → i < ws.length → 1 ≤ tkn tk i

theorem Via.put {ws tk p a} {O : Tab} {k x} (h : Via ws tk p a O k x) {nx : Int} {v} (h0 : 0 ≤ nx) (h1 : nx < O.length) (hn : gt O nx = none) : Via ws tk p a (put O nx (some v)) k x := by
  rcases h with h | ⟨a1, a2, a3, y, hy, r⟩
  · exact .inl h
  · refine .inr ⟨a1, a2, a3, y, ?_, r⟩
    rw [gt_put _ _ _ _ h0 h1]
    split
    · rename_i e; rw [e, hn] at hy; cases hy
    · exact hy

theorem inv_start {ws tk} {n : Nat} {p a : Int} (hp0 : 0 ≤ p) (hp1 : p < n) (ha0 : 0 ≤ a) (ha1 : a ≤ 1439) : Inv ws tk n p a (start n p a).1 (start n p a).2 := by
  have hn : ∀ k, gt (List.replicate n none) k = none := by
    intro k; unfold gt; split
    · rw [List.getElem?_replicate]; split <;> rfl
    · rfl
  have hp : ∀ k, gt (start n p a).2 k = if k = p then some (a, -1) else none := by
    intro k
    show gt (put _ _ _) k = _
    rw [gt_put _ _ _ _ hp0 (by simpa using hp1), hn]
  have ho : ∀ k, gt (start n p a).1 k = none := hn
  constructor
  · simp [start]
  · simp [start, put_len]
  · intro k x h; rw [ho] at h; cases h
  · rintro k x (h | h)
    · rw [ho] at h; cases h
    · rw [hp] at h
      split at h
      · cases h; exact .inl ⟨rfl, by assumption, rfl⟩
      · cases h
  · intro k y h; rw [ho] at h; cases h
  · intro k y j x h; rw [ho] at h; cases h
  · refine .inr ⟨ho, by rw [hp, if_pos rfl], fun k x h => ?_⟩
    rw [hp] at h
    split at h
    · assumption
    · cases h
  · rintro k x (h | h)
    · rw [ho] at h; cases h
    · rw [hp] at h
      split at h
      · cases h; simp; omega
      · cases h

/-- one pair relaxed -/
theorem relax1_spec {ws : List Wy} {O P : Tab} {q : Int × Int} (h0 : 0 ≤ (way ws q.1).to) (h1 : (way ws q.1).to < P.length) :
    ∀ j, gt (relax1 ws O P q) j = if j = (way ws q.1).to ∧ gt O (way ws q.1).to = none ∧ (gt P (way ws q.1).to = none ∨ q.2 < ((gt P (way ws q.1).to).getD (0, 0)).1) then some (q.2, q.1) else gt P j := by
  intro j
  unfold relax1
  split
  · rename_i hc
    rw [gt_put _ _ _ _ h0 h1]
    by_cases e : j = (way ws q.1).to
    · rw [if_pos e, if_pos ⟨e, hc⟩]
    · rw [if_neg e, if_neg (fun h => e h.1)]
  · rename_i hc
    rw [if_neg (fun h => hc h.2)]

structure Mid (ws : List Wy) (tk : List Int) (n : Nat) (p a nx : Int) (x : Int × Int) (O P : Tab) (pre : List (Int × Int)) : Prop where
  lo : O.length = n
  lp : P.length = n
  dis : ∀ k x, gt O k = some x → gt P k = none
  via : ∀ k x, gt O k = some x ∨ gt P k = some x → Via ws tk p a O k x
  cls : ∀ k y, k ≠ nx → gt O k = some y → ∀ q ∈ outs ws tk k y.1 ws.length, Known O (way ws q.1).to q.2 ∨ Known P (way ws q.1).to q.2
  cln : ∀ q ∈ pre, Known O (way ws q.1).to q.2 ∨ Known P (way ws q.1).to q.2
  top : ∀ k y, gt O k = some y → y.1 ≤ x.1
  bot : ∀ k y, gt P k = some y → x.1 ≤ y.1
  own : gt O nx = some x
  beg : gt O p = some (a, -1)
  rng : ∀ k x, gt O k = some x ∨ gt P k = some x → 0 ≤ x.1 ∧ x.1 ≤ 1439 ∧ -1 ≤ x.2 ∧ x.2 < ws.length

theorem mid_step {ws tk} {n : Nat} {p a nx : Int} {x : Int × Int} {O P : Tab} {pre : List (Int × Int)} (ok : Okay ws tk n) (h : Mid ws tk n p a nx x O P pre) {q : Int × Int}
    (hq : q ∈ outs ws tk nx x.1 ws.length) : Mid ws tk n p a nx x O (relax1 ws O P q) (pre ++ [q]) := by
  obtain ⟨q0, q1, q2, q3, q4, q5⟩ := mem_outs.1 hq
  have wk := ok.ways q.1 q0 q1
  have tkk := ok.tks q.1 q0 q1
  have hlt : x.1 < q.2 := by have := lvm_ge (way ws q.1) x.1; omega
  have sp := relax1_spec (ws := ws) (O := O) (P := P) (q := q) wk.t0 (by rw [h.lp]; exact wk.t1)
  have hr := h.rng nx x (.inl h.own)
  have kn : ∀ k e, Known P k e → Known (relax1 ws O P q) k e := by
    rintro k e ⟨y, hy, hle⟩
    unfold Known
    rw [sp]
    split
    · rename_i hc
      refine ⟨_, rfl, ?_⟩
      obtain ⟨rfl, _, hc⟩ := hc
      rw [hy] at hc
      simp at hc
      dsimp only
      omega
    · exact ⟨y, hy, hle⟩
  constructor
  · exact h.lo
  · unfold relax1; split
    · rw [put_len]; exact h.lp
    · exact h.lp
  · intro k y hk
    rw [sp]
    split
    · rename_i hc; rw [hc.1, hc.2.1] at hk; cases hk
    · exact h.dis k y hk
  · rintro k y (hk | hk)
    · exact h.via k y (.inl hk)
    · rw [sp] at hk
      split at hk
      · rename_i hc
        cases hk
        refine .inr ⟨q0, q1, hc.1.symm, x, by rw [q2]; exact h.own, hlt, q3, q5, by dsimp only; omega⟩
      · exact h.via k y (.inr hk)
  · intro k y hne hk r hr
    exact (h.cls k y hne hk r hr).imp id (kn _ _)
  · intro r hr
    rcases List.mem_append.1 hr with hr | hr
    · exact (h.cln r hr).imp id (kn _ _)
    · simp only [List.mem_singleton] at hr
      subst hr
      cases ho : gt O (way ws r.1).to with
      | some y => exact .inl ⟨y, ho, by have := h.top _ _ ho; omega⟩
      | none =>
        right
        unfold Known
        rw [sp]
        by_cases hc : gt P (way ws r.1).to = none ∨ r.2 < ((gt P (way ws r.1).to).getD (0, 0)).1
        · rw [if_pos ⟨rfl, ho, hc⟩]; exact ⟨_, rfl, Int.le_refl _⟩
        · rw [if_neg (fun hh => hc hh.2.2)]
          cases hp : gt P (way ws r.1).to with
          | none => exact absurd (.inl hp) hc
          | some y => rw [hp] at hc; simp at hc; exact ⟨y, rfl, hc⟩
  · exact h.top
  · intro k y hk
    rw [sp] at hk
    split at hk
    · cases hk; dsimp only; omega
    · exact h.bot k y hk
  · exact h.own
  · exact h.beg
  · rintro k y (hk | hk)
    · exact h.rng k y (.inl hk)
    · rw [sp] at hk
      split at hk
      · cases hk; dsimp only; omega
      · exact h.rng k y (.inr hk)

theorem mid_all {ws tk} {n : Nat} {p a nx : Int} {x : Int × Int} {O : Tab} (ok : Okay ws tk n) : ∀ (l pre : List (Int × Int)) (P : Tab), Mid ws tk n p a nx x O P pre →
    (∀ q ∈ l, q ∈ outs ws tk nx x.1 ws.length) → Mid ws tk n p a nx x O (relax ws O l P) (pre ++ l)
  | [], pre, P, h, _ => by simpa [relax] using h
  | q :: l, pre, P, h, hl => by
    have := mid_all ok l (pre ++ [q]) _ (mid_step ok h (hl q (by simp))) (fun r hr => hl r (by simp [hr]))
    simpa [relax] using this

theorem inv_round {ws tk} {n : Nat} {p a : Int} {O P : Tab} (ok : Okay ws tk n) (h : Inv ws tk n p a O P) (hs : 0 ≤ scan P P.length) :
    Inv ws tk n p a (round1 ws tk (O, P)).1 (round1 ws tk (O, P)).2 ∧ gt O (scan P P.length) = none := by
  obtain ⟨_, h2, _⟩ := scan_spec P P.length
  obtain ⟨hlt, x, hx, hmin⟩ := h2 hs
  unfold round1
  generalize hnx : scan P P.length = nx at *
  dsimp only
  rw [hx]
  dsimp only [Option.getD_some]
  have hO : gt O nx = none := by
    cases e : gt O nx with
    | none => rfl
    | some y => rw [h.dis _ _ e] at hx; cases hx
  have hlO : nx < (O.length : Int) := by rw [h.lo, ← h.lp]; exact hlt
  have gO : ∀ j, gt (put O nx (some x)) j = if j = nx then some x else gt O j := fun j => gt_put _ _ _ _ hs hlO
  have gP : ∀ j, gt (put P nx none) j = if j = nx then none else gt P j := fun j => gt_put _ _ _ _ hs hlt
  have minx : ∀ j y, gt P j = some y → x.1 ≤ y.1 := fun j y hy => hmin j y (gt_lt hy).2 hy
  have mid : Mid ws tk n p a nx x (put O nx (some x)) (put P nx none) [] := by
    constructor
    · rw [put_len]; exact h.lo
    · rw [put_len]; exact h.lp
    · intro k y hk
      rw [gO] at hk; rw [gP]
      split at hk
      · rename_i e; rw [if_pos e]
      · rename_i e; rw [if_neg e]; exact h.dis k y hk
    · rintro k y (hk | hk)
      · rw [gO] at hk
        split at hk
        · rename_i e; cases hk; rw [e]; exact (h.via nx x (.inr hx)).put hs hlO hO
        · exact (h.via k y (.inl hk)).put hs hlO hO
      · rw [gP] at hk
        split at hk
        · cases hk
        · exact (h.via k y (.inr hk)).put hs hlO hO
    · intro k y hne hk q hq
      rw [gO, if_neg hne] at hk
      rcases h.cls k y hk q hq with ⟨z, hz, hle⟩ | ⟨z, hz, hle⟩
      · left
        refine ⟨z, ?_, hle⟩
        rw [gO]
        split
        · rename_i e; rw [e, hO] at hz; cases hz
        · exact hz
      · by_cases e : (way ws q.1).to = nx
        · left; rw [e, hx] at hz; cases hz; exact ⟨_, by rw [gO, if_pos e], hle⟩
        · right; exact ⟨z, by rw [gP, if_neg e]; exact hz, hle⟩
    · intro q hq; cases hq
    · intro k y hk
      rw [gO] at hk
      split at hk
      · cases hk; exact Int.le_refl _
      · exact h.ord k y nx x hk hx
    · intro k y hk
      rw [gP] at hk
      split at hk
      · cases hk
      · exact minx k y hk
    · rw [gO, if_pos rfl]
    · rcases h.beg with hb | ⟨hb1, hb2, hb3⟩
      · rw [gO]; split
        · rename_i e; rw [e, hO] at hb; cases hb
        · exact hb
      · have e := hb3 nx x hx
        subst e
        rw [hx] at hb2
        rw [gO, if_pos rfl, hb2]
    · rintro k y (hk | hk)
      · rw [gO] at hk
        split at hk
        · cases hk; exact h.rng nx _ (.inr hx)
        · exact h.rng k y (.inl hk)
      · rw [gP] at hk
        split at hk
        · cases hk
        · exact h.rng k y (.inr hk)
  have fin := mid_all ok (outs ws tk nx x.1 ws.length) [] _ mid (fun q hq => hq)
  refine ⟨?_, hO⟩
  constructor
  · exact fin.lo
  · exact fin.lp
  · exact fin.dis
  · exact fin.via
  · intro k y hk q hq
    by_cases e : k = nx
    · subst e
      rw [fin.own] at hk; cases hk
      exact fin.cln q (by simpa using hq)
    · exact fin.cls k y e hk q hq
  · intro k y j z hk hj
    have := fin.top k y hk
    have := fin.bot j z hj
    omega
  · exact .inl fin.beg
  · exact fin.rng

/-- how many places are not reached yet -/
def left (O : Tab) : Nat := O.countP (fun x => x.isNone)

theorem left_put {O : Tab} {k : Int} {x} (h0 : 0 ≤ k) (h1 : k < O.length) (h : gt O k = none) : left (put O k (some x)) + 1 = left O := by
  unfold left put
  have hl : k.toNat < O.length := by omega
  have e : O[k.toNat] = none := by
    unfold gt at h
    rw [if_pos h0, List.getElem?_eq_getElem hl] at h
    simpa using h
  rw [List.countP_set hl]
  simp [e]
  have : 0 < O.countP (fun x => x.isNone) := List.countP_pos_iff.2 ⟨O[k.toNat], List.getElem_mem hl, by rw [e]; rfl⟩
  omega

theorem inv_rounds {ws tk} {n : Nat} {p a : Int} (ok : Okay ws tk n) : ∀ (k : Nat) (O P : Tab), Inv ws tk n p a O P → left O < k →
    Inv ws tk n p a (rounds ws tk k (O, P)).1 (rounds ws tk k (O, P)).2 ∧ scan (rounds ws tk k (O, P)).2 (rounds ws tk k (O, P)).2.length < 0
  | 0, _, _, _, h => by omega
  | k + 1, O, P, h, hl => by
    unfold rounds
    by_cases hs : scan P P.length < 0
    · rw [if_pos hs]; exact ⟨h, hs⟩
    · rw [if_neg hs]
      obtain ⟨hr, hO⟩ := inv_round ok h (by omega)
      have hlt := ((scan_spec P P.length).2.1 (by omega)).1
      have hll := left_put (O := O) (k := scan P P.length) (x := (gt P (scan P P.length)).getD (0, 0)) (by omega) (by rw [h.lo, ← h.lp]; exact hlt) hO
      have e2 : left (round1 ws tk (O, P)).1 = left (put O (scan P P.length) (some ((gt P (scan P P.length)).getD (0, 0)))) := rfl
      have e3 : left (round1 ws tk (O, P)).1 < k := by rw [e2]; omega
      exact inv_rounds ok k _ _ hr e3

/-- WHAT reach GIVES -/
structure Reached (ws : List Wy) (tk : List Int) (n : Nat) (p a : Int) (O : Tab) : Prop where
  len : O.length = n
  beg : gt O p = some (a, -1)
  via : ∀ k x, gt O k = some x → Via ws tk p a O k x
  cls : ∀ k y, gt O k = some y → ∀ q ∈ outs ws tk k y.1 ws.length, Known O (way ws q.1).to q.2
  rng : ∀ k x, gt O k = some x → 0 ≤ x.1 ∧ x.1 ≤ 1439 ∧ -1 ≤ x.2 ∧ x.2 < ws.length

theorem reach_spec {ws tk} {n : Nat} {p a : Int} (ok : Okay ws tk n) (hp0 : 0 ≤ p) (hp1 : p < n) (ha0 : 0 ≤ a) (ha1 : a ≤ 1439) : Reached ws tk n p a (reach n ws tk p a) := by
  have h0 := inv_start (ws := ws) (tk := tk) hp0 hp1 ha0 ha1
  obtain ⟨h, hs⟩ := inv_rounds ok (n + 1) _ _ h0 (by
    have : left (start n p a).1 ≤ (start n p a).1.length := List.countP_le_length
    have e : (start n p a).1.length = n := by simp [start]
    omega)
  have e : (start n p a) = ((start n p a).1, (start n p a).2) := rfl
  rw [← e] at h hs
  have hn : ∀ k, gt (rounds ws tk (n + 1) (start n p a)).2 k = none := by
    intro k
    cases e : gt (rounds ws tk (n + 1) (start n p a)).2 k with
    | none => rfl
    | some y =>
      have := gt_lt e
      rw [(scan_spec _ _).1 hs k this.1 this.2] at e; cases e
  constructor
  · exact h.lo
  · rcases h.beg with hb | ⟨_, hb, _⟩
    · exact hb
    · rw [hn] at hb; cases hb
  · exact fun k x hk => h.via k x (.inl hk)
  · intro k y hk q hq
    rcases h.cls k y hk q hq with hh | ⟨z, hz, _⟩
    · exact hh
    · rw [hn] at hz; cases hz
  · exact fun k x hk => h.rng k x (.inl hk)


/-! paths and marks -/
def his (ws : List Wy) : List Int := ws.map (·.thi)
def los (ws : List Wy) : List Int := ws.map (·.tlo)

theorem tkn_his (ws : List Wy) (i : Int) (h0 : 0 ≤ i) (h1 : i < ws.length) : tkn (his ws) i = (way ws i).thi := by
  have : i.toNat < ws.length := by omega
  simp [tkn, his, way, List.getD_eq_getElem?_getD, List.getElem?_map, List.getElem?_eq_getElem this]
theorem tkn_los (ws : List Wy) (i : Int) (h0 : 0 ≤ i) (h1 : i < ws.length) : tkn (los ws) i = (way ws i).tlo := by
  have : i.toNat < ws.length := by omega
  simp [tkn, los, way, List.getD_eq_getElem?_getD, List.getElem?_map, List.getElem?_eq_getElem this]

structure Chart (ws : List Wy) (n : Nat) : Prop where
  n1 : 1 ≤ n
  n2 : n ≤ 12
  len : ws.length ≤ 40
  ways : ∀ i : Int, 0 ≤ i → i < ws.length → (way ws i).ok n

theorem Chart.his {ws n} (h : Chart ws n) : Okay ws (his ws) n :=
  ⟨h.ways, fun i h0 h1 => by rw [tkn_his ws i h0 h1]; have := h.ways i h0 h1; have := this.a0; have := (h.ways i h0 h1).a1; omega⟩
theorem Chart.los {ws n} (h : Chart ws n) : Okay ws (los ws) n :=
  ⟨h.ways, fun i h0 h1 => by rw [tkn_los ws i h0 h1]; exact (h.ways i h0 h1).a0⟩

/-- where a path leads, and when -/
def goPath (ws : List Wy) : List Int → Int → Int → Option (Int × Int)
  | [], p, a => some (p, a)
  | w :: r, p, a => if 0 ≤ w ∧ w < ws.length ∧ (way ws w).frm = p ∧ lvm (way ws w) a ≤ (way ws w).ohi ∧ lvm (way ws w) a + (way ws w).thi ≤ 1439
      then goPath ws r (way ws w).to (lvm (way ws w) a + (way ws w).thi) else none

theorem goPath_append (ws : List Wy) : ∀ (l r : List Int) (p a : Int), goPath ws (l ++ r) p a = (goPath ws l p a).bind fun x => goPath ws r x.1 x.2
  | [], r, p, a => rfl
  | w :: l, r, p, a => by
    simp only [List.cons_append, goPath]
    split
    · exact goPath_append ws l r _ _
    · rfl

/-- no path ends ahead of the minutes -/
theorem path_late {ws : List Wy} {n : Nat} {p a : Int} {O : Tab} (h : Reached ws (his ws) n p a O) : ∀ (l : List Int) (j b : Int) (y : Int × Int) (k e : Int),
    gt O j = some y → y.1 ≤ b → goPath ws l j b = some (k, e) → ∃ x, gt O k = some x ∧ x.1 ≤ e
  | [], j, b, y, k, e, hy, hb, hg => by
    simp [goPath] at hg
    obtain ⟨rfl, rfl⟩ := hg
    exact ⟨y, hy, hb⟩
  | w :: l, j, b, y, k, e, hy, hb, hg => by
    simp only [goPath] at hg
    split at hg
    · rename_i hc
      obtain ⟨c0, c1, c2, c3, c4⟩ := hc
      have hm := lvm_mono (way ws w) hb
      have ht := tkn_his ws w c0 c1
      obtain ⟨x, hx, hle⟩ := h.cls j y hy (w, lvm (way ws w) y.1 + tkn (his ws) w) (mem_outs.2 ⟨c0, c1, c2, by dsimp only; omega, by dsimp only; omega, rfl⟩)
      dsimp only at hx hle
      exact path_late h l _ _ x k e hx (by omega) hg
    · cases hg

def mrk (M : List Int) (i : Int) : Int := M.getD i.toNat 0

/-- what CheckMarks asks -/
structure Shows (ws : List Wy) (n : Nat) (p a : Int) (M : List Int) : Prop where
  len : M.length = n
  rng : ∀ m ∈ M, -1 ≤ m ∧ m ≤ 1439
  beg : 0 ≤ mrk M p ∧ mrk M p ≤ a
  cls : ∀ i : Int, 0 ≤ i → i < n → 0 ≤ mrk M i → ∀ q ∈ outs ws (his ws) i (mrk M i) ws.length, 0 ≤ mrk M (way ws q.1).to ∧ mrk M (way ws q.1).to ≤ q.2

theorem marks_low {ws : List Wy} {n : Nat} {p a : Int} {O : Tab} {M : List Int} (hr : Reached ws (his ws) n p a O) (hm : Shows ws n p a M) : ∀ (d : Nat) (k : Int) (x : Int × Int),
    gt O k = some x → x.1 ≤ d → 0 ≤ mrk M k ∧ mrk M k ≤ x.1 := by
  intro d
  induction d with
  | zero =>
    intro k x hx hd
    rcases hr.via k x hx with ⟨_, rfl, h⟩ | ⟨a0, a1, a2, y, hy, hlt, _⟩
    · have := hm.beg; omega
    · have := (hr.rng _ _ hy).1; omega
  | succ d ih =>
    intro k x hx hd
    rcases hr.via k x hx with ⟨_, rfl, h⟩ | ⟨a0, a1, a2, y, hy, hlt, b1, b2, b3⟩
    · have := hm.beg; omega
    · have hi := ih _ y hy (by omega)
      have hg := gt_lt hy
      have hmono := lvm_mono (way ws x.2) hi.2
      have := hm.cls _ hg.1 (by rw [← hr.len]; exact hg.2) hi.1 (x.2, lvm (way ws x.2) (mrk M (way ws x.2).frm) + tkn (his ws) x.2) (mem_outs.2 ⟨a0, a1, rfl, by dsimp only; omega, by dsimp only; omega, rfl⟩)
      dsimp only at this
      rw [a2] at this
      omega

/-- the minutes themselves show -/
theorem mins_len (O : Tab) : (mins O).length = O.length := by simp [mins]
theorem mrk_mins (O : Tab) (k : Int) (h0 : 0 ≤ k) (h1 : k < O.length) : mrk (mins O) k = match gt O k with | some x => x.1 | none => -1 := by
  have hl : k.toNat < O.length := by omega
  unfold mrk gt mins
  rw [if_pos h0, List.getD_eq_getElem?_getD, List.getElem?_map, List.getElem?_eq_getElem hl]
  cases O[k.toNat] <;> simp

theorem mins_show {ws : List Wy} {n : Nat} {p a : Int} {O : Tab} (hp0 : 0 ≤ p) (hp1 : p < n) (hr : Reached ws (his ws) n p a O) : Shows ws n p a (mins O) := by
  constructor
  · rw [mins_len, hr.len]
  · intro m hm
    unfold mins at hm
    obtain ⟨x, hx, rfl⟩ := List.mem_map.1 hm
    obtain ⟨i, hi, e⟩ := List.mem_iff_getElem.1 hx
    cases x with
    | none => simp
    | some x =>
      have : gt O i = some x := by
        unfold gt; simp [List.getElem?_eq_getElem hi, e]
      have := hr.rng _ _ this
      dsimp only
      omega
  · have := mrk_mins O p hp0 (by rw [hr.len]; exact hp1)
    rw [hr.beg] at this
    dsimp only at this
    have hb := hr.rng _ _ hr.beg
    dsimp only at hb
    omega
  · intro i h0 h1 hm q hq
    have e := mrk_mins O i h0 (by rw [hr.len]; exact h1)
    cases hg : gt O i with
    | none => rw [hg] at e; dsimp only at e; omega
    | some y =>
      rw [hg] at e; dsimp only at e
      rw [e] at hq
      obtain ⟨x, hx, hle⟩ := hr.cls i y hg q hq
      have hl := gt_lt hx
      rw [mrk_mins O _ hl.1 hl.2, hx]
      have := (hr.rng _ _ hx).1
      exact ⟨this, hle⟩

/-- the ways that led to a place -/
def chain (ws : List Wy) (O : Tab) : Nat → Int × Int → List Int
  | 0, _ => []
  | d + 1, x => if 0 ≤ x.2 then chain ws O d ((gt O (way ws x.2).frm).getD (0, 0)) ++ [x.2] else []

theorem chain_goes {ws : List Wy} {n : Nat} {p a : Int} {O : Tab} (hr : Reached ws (his ws) n p a O) : ∀ (d : Nat) (k : Int) (x : Int × Int),
    gt O k = some x → x.1 < d → goPath ws (chain ws O d x) p a = some (k, x.1) := by
  intro d
  induction d with
  | zero => intro k x hx hd; have := (hr.rng _ _ hx).1; omega
  | succ d ih =>
    intro k x hx hd
    unfold chain
    rcases hr.via k x hx with ⟨h1, rfl, h⟩ | ⟨a0, a1, a2, y, hy, hlt, b1, b2, b3⟩
    · rw [if_neg (by omega)]
      simp [goPath, h]
    · rw [if_pos a0, hy, Option.getD_some, goPath_append, ih _ y hy (by omega)]
      have ht := tkn_his ws x.2 a0 a1
      simp only [Option.bind_some, goPath]
      rw [if_pos ⟨a0, a1, trivial, b1, by omega⟩, a2, ← ht, ← b2]

end Rd
