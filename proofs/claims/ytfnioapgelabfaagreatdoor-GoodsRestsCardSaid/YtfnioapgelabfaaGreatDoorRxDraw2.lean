/-
A part of the proof: lemmas on the machine that the printed functions run on, or contracts of functions.
-/
import Derived.Test.YtfnioapgelabfaaGreatDoorRxDraw
set_option linter.unusedVariables false
set_option linter.unusedSimpArgs false
namespace Go.Rx
variable {P : Program} {X : Ctx} {T : Tm} {a : Act} {w : World} {o : Oper} {call : CallF} {v : V} {m' : Mem}
def cntP (p : Nat → Bool) : Nat → Nat
  | 0 => 0
  | n + 1 => (if p n then 1 else 0) + cntP p n
theorem cntP_mono {p q : Nat → Bool} : ∀ {n : Nat}, (∀ i, i < n → p i = true → q i = true) → cntP p n ≤ cntP q n
  | 0, _ => Nat.le_refl _
  | n + 1, h => by
    have ih := cntP_mono (p := p) (q := q) (n := n) fun i hi => h i (by omega)
    have h0 := h n (by omega)
    simp only [cntP]
    cases hp : p n
    · simp; omega
    · rw [h0 hp]; omega
theorem cntP_congr {p q : Nat → Bool} {n : Nat} (h : ∀ i, i < n → p i = q i) : cntP p n = cntP q n :=
  Nat.le_antisymm (cntP_mono fun i hi hp => by rw [← h i hi]; exact hp) (cntP_mono fun i hi hp => by rw [h i hi]; exact hp)
theorem cntP_cut {p : Nat → Bool} {j : Nat} : ∀ {n : Nat}, j ≤ n → (∀ i, j ≤ i → i < n → p i = false) → cntP p n = cntP p j
  | 0, h, _ => by have : j = 0 := by omega
                  subst this; rfl
  | n + 1, h, hp => by
    rcases Nat.eq_or_lt_of_le h with h | h
    · rw [h]
    · simp only [cntP, hp n (by omega) (by omega)]
      rw [cntP_cut (by omega) fun i h1 h2 => hp i h1 (by omega)]
      simp
theorem cntP_add {p q : Nat → Bool} {j : Nat} (hs : ∀ i, i ≠ j → q i = p i) (hp : p j = false) : ∀ {n : Nat}, j < n → cntP q n = cntP p n + (if q j then 1 else 0)
  | 0, h => by omega
  | n + 1, h => by
    simp only [cntP]
    by_cases e : n = j
    · subst e
      rw [hp, cntP_congr (p := q) (q := p) fun i hi => hs i (by omega)]
      split <;> simp <;> omega
    · rw [cntP_add hs hp (by omega), hs n e]; omega
theorem cntP_pos {p : Nat → Bool} : ∀ {n j : Nat}, j < n → p j = true → 0 < cntP p n
  | 0, j, h, _ => by omega
  | n + 1, j, h, hp => by
    simp only [cntP]
    by_cases e : j = n
    · subst e; rw [hp]; simp only [if_true]; omega
    · have := cntP_pos (p := p) (n := n) (j := j) (by omega) hp
      omega
def effAt (rs : List RO) (i : Nat) : Bool := match rs[i]? with | some r => r.op.effect | none => false
def dstAt (rs : List RO) (i : Nat) : Option Nat := (rs[i]?).bind (·.dst)
theorem nE_succ : ∀ (rs : List RO) (i : Nat), nE rs (i + 1) = nE rs i + (if effAt rs i then 1 else 0)
  | [], 0 => by simp [nE, effAt]
  | [], i + 1 => by simp [nE, effAt]
  | r :: l, 0 => by simp [nE, effAt]
  | r :: l, i + 1 => by
    have := nE_succ l i
    have e : effAt (r :: l) (i + 1) = effAt l i := by simp [effAt]
    rw [e, nE, this, nE]; omega
theorem nE_cnt (rs : List RO) : ∀ i, nE rs i = cntP (effAt rs) i
  | 0 => by cases rs <;> rfl
  | i + 1 => by rw [nE_succ, nE_cnt rs i, cntP]; omega
def TD (dst : Nat → Option Nat) (vs : Nat → V) (T0 : Tm) (D : Nat → Bool) : Nat → Tm
  | 0 => T0
  | n + 1 => if D n then updO (TD dst vs T0 D n) (dst n) (vs n) else TD dst vs T0 D n
section
variable {dst : Nat → Option Nat} {vs : Nat → V} {T0 : Tm} {D D' : Nat → Bool} {Ts : Nat → Tm}
theorem updO_ne {T : Tm} {d : Option Nat} {v : V} {t : Nat} (h : d ≠ some t) : updO T d v t = T t := by
  cases d with
  | none => rfl
  | some d => simp only [updO, upd]; rw [if_neg]; exact fun e => h (by rw [e])
theorem updO_at {T : Tm} {v : V} {t : Nat} : updO T (some t) v t = v := by simp [updO, upd]
theorem updO_comm {T : Tm} {d e : Option Nat} {v u : V} (h : ∀ t, d = some t → e ≠ some t) : updO (updO T d v) e u = updO (updO T e u) d v := by
  funext t
  by_cases h1 : d = some t
  · subst h1; rw [updO_ne (h t rfl), updO_at, updO_at]
  · rw [updO_ne (d := d) h1]
    by_cases h2 : e = some t
    · subst h2; rw [updO_at, updO_at]
    · rw [updO_ne h2, updO_ne h2, updO_ne h1]
theorem TD_ext : ∀ {n : Nat}, (∀ i, i < n → D' i = D i) → TD dst vs T0 D' n = TD dst vs T0 D n
  | 0, _ => rfl
  | n + 1, h => by
    have ih := TD_ext (n := n) fun i hi => h i (Nat.lt_succ_of_lt hi)
    simp only [TD, h n (by omega), ih]
theorem TD_add {j : Nat} (hs : ∀ i, i ≠ j → D' i = D i) (hj : D j = false) (hj' : D' j = true) : ∀ {n : Nat}, j < n → (∀ i, j < i → i < n → D i = true → ∀ t, dst j = some t → dst i ≠ some t) →
    TD dst vs T0 D' n = updO (TD dst vs T0 D n) (dst j) (vs j)
  | 0, h, _ => by omega
  | n + 1, h, hd => by
    simp only [TD]
    by_cases e : n = j
    · subst e
      rw [hj, hj', TD_ext fun i hi => hs i (by omega)]
      simp
    · rw [hs n e, TD_add hs hj hj' (by omega) fun i h1 h2 => hd i h1 (by omega)]
      split
      · rename_i hn; exact updO_comm (hd n (by omega) (by omega) hn)
      · rfl
theorem TD_at {t : Nat} (h0 : Ts 0 = T0) {j : Nat} (hn : ∀ i, i < j → Ts (i + 1) = updO (Ts i) (dst i) (vs i)) (hd : ∀ i, i < j → dst i = some t → D i = true) :
    ∀ {n : Nat}, j ≤ n → (∀ i, j ≤ i → i < n → D i = true → dst i ≠ some t) → TD dst vs T0 D n t = Ts j t := by
  have low : ∀ k, k ≤ j → TD dst vs T0 D k t = Ts k t := by
    intro k
    induction k with
    | zero => intro _; rw [h0]; rfl
    | succ k ih =>
      intro hk
      rw [hn k (by omega)]
      simp only [TD]
      by_cases e : dst k = some t
      · rw [hd k (by omega) e, e]; simp [updO_at]
      · rw [updO_ne e, ← ih (by omega)]
        split
        · exact updO_ne e
        · rfl
  intro n
  induction n with
  | zero => intro h _; have : j = 0 := by omega
            subst this; exact low 0 (Nat.le_refl _)
  | succ n ih =>
    intro h hw
    rcases Nat.eq_or_lt_of_le h with h | h
    · subst h; exact low _ (Nat.le_refl _)
    · simp only [TD]
      rw [← ih (by omega) fun i h1 h2 => hw i h1 (by omega)]
      split
      · rename_i hDn; exact updO_ne (hw n (by omega) (by omega) hDn)
      · rfl
theorem TD_all {n : Nat} (h0 : Ts 0 = T0) (hn : ∀ i, i < n → Ts (i + 1) = updO (Ts i) (dst i) (vs i)) (hd : ∀ i, i < n → D i = true) : TD dst vs T0 D n = Ts n := by
  funext t
  exact TD_at h0 hn (fun i hi _ => hd i hi) (Nat.le_refl _) fun i h1 h2 => by omega
end
def pendOf (rs : List RO) (bs : Nat → Bool) (i : Nat) : Option (Nat × Nat) :=
  match rs[i]? with
  | some r => (match r.op, r.dst with | .pend sz, some t => if bs i then some (t, sz) else none | _, _ => none)
  | none => none
def PD (rs : List RO) (bs : Nat → Bool) (D : Nat → Bool) (n : Nat) : Pend :=
  (List.range n).filterMap fun i => match pendOf rs bs i with
    | some (t, sz) => if D i = true ∧ ∀ i' ∈ List.range n, i < i' → D i' = true → dstAt rs i' ≠ some t then some (t, sz) else none
    | none => none
theorem mem_PD {rs : List RO} {bs D : Nat → Bool} {n t sz : Nat} : (t, sz) ∈ PD rs bs D n ↔ ∃ i, i < n ∧ pendOf rs bs i = some (t, sz) ∧ D i = true ∧ ∀ i', i' < n → i < i' → D i' = true → dstAt rs i' ≠ some t := by
  unfold PD
  rw [List.mem_filterMap]
  constructor
  · rintro ⟨i, hi, h⟩
    rw [List.mem_range] at hi
    split at h
    · rename_i t' sz' hp
      split at h
      · rename_i hc
        simp only [Option.some.injEq, Prod.mk.injEq] at h
        obtain ⟨rfl, rfl⟩ := h
        exact ⟨i, hi, hp, hc.1, fun i' h1 => hc.2 i' (List.mem_range.2 h1)⟩
      · cases h
    · cases h
  · rintro ⟨i, hi, hp, hD, hl⟩
    refine ⟨i, List.mem_range.2 hi, ?_⟩
    rw [hp]
    simp only
    rw [if_pos ⟨hD, fun i' h1 => hl i' (List.mem_range.1 h1)⟩]
theorem pendOf_dst {rs : List RO} {bs : Nat → Bool} {i t sz : Nat} (h : pendOf rs bs i = some (t, sz)) : dstAt rs i = some t ∧ ∃ r, rs[i]? = some r ∧ r.op = .pend sz ∧ r.dst = some t ∧ bs i = true := by
  unfold pendOf at h
  split at h
  · rename_i r hr
    split at h
    · rename_i sz' t' h1 h2
      split at h
      · rename_i hb
        simp only [Option.some.injEq, Prod.mk.injEq] at h
        obtain ⟨rfl, rfl⟩ := h
        exact ⟨by simp [dstAt, hr, h2], r, hr, h1, h2, hb⟩
      · cases h
    · cases h
  · cases h
theorem pendOf_of {rs : List RO} {bs : Nat → Bool} {i t sz : Nat} {r : RO} (h : rs[i]? = some r) (h1 : r.op = .pend sz) (h2 : r.dst = some t) (hb : bs i = true) : pendOf rs bs i = some (t, sz) := by
  unfold pendOf
  simp [h, h1, h2, hb]
def gslots (g : Option (Nat × Bool)) : List Nat := match g with | some (g, _) => [g] | none => []
def RO.looks (r : RO) : List Nat := gslots r.guard ++ r.op.slots
def edgeMask (A : List Nat) (j : Nat) : List Edge → Nat
  | [] => 0
  | e :: es => if Region.binds .any e then (if e.on < j then A.getD e.on 0 else 0) ||| (1 <<< e.on) ||| edgeMask A j es else edgeMask A j es
def ancGo : List Oper → Nat → List Nat → List Nat
  | [], _, A => A
  | o :: os, j, A => ancGo os (j + 1) (A ++ [edgeMask A j o.after.toList])
def ancB (A : List Nat) (j i : Nat) : Bool := (A.getD j 0).testBit i
def chkAnc (A : List Nat) : Nat → List Oper → Bool
  | _, [] => true
  | j, o :: os => A.getD j 0 == edgeMask A j o.after.toList && o.after.toList.all (fun e => !Region.binds .any e || decide (e.on < j)) && chkAnc A (j + 1) os
def clash (ri rj : RO) : Bool :=
  (ri.op.effect && rj.op.effect) ||
  (match ri.dst with | some t => rj.dst == some t || rj.looks.contains t | none => false) ||
  (match rj.dst with | some t => ri.looks.contains t | none => false)
def chkPair (A : List Nat) (j : Nat) (rj : RO) : Nat → List RO → Bool
  | _, [] => true
  | i, ri :: rs => (decide (j ≤ i) || !clash ri rj || ancB A j i) && chkPair A j rj (i + 1) rs
def chkReads (A : List Nat) (rs : List RO) (j : Nat) (r : RO) : Bool :=
  !r.op.reads || (decide (r.lo ≤ cntP (fun i => effAt rs i && ancB A j i) rs.length) && decide (cntP (fun i => effAt rs i && !ancB A i j) rs.length ≤ r.hi))
def chkRows (A : List Nat) (rs : List RO) : Nat → List RO → Bool
  | _, [] => true
  | j, r :: l => chkPair A j r 0 rs && chkReads A rs j r && chkRows A rs (j + 1) l
def chkDraw (rs : List RO) (ops : List Oper) : Bool :=
  let A := ancGo ops 0 []
  chkAnc A 0 ops && chkRows A rs 0 rs
theorem edgeMask_spec {A : List Nat} {j i : Nat} : ∀ {es : List Edge}, (edgeMask A j es).testBit i = true → ∃ e ∈ es, Region.binds .any e = true ∧ (e.on = i ∨ (e.on < j ∧ ancB A e.on i = true))
  | [], h => by simp [edgeMask] at h
  | e :: es, h => by
    simp only [edgeMask] at h
    split at h
    · rename_i hb
      simp only [Nat.testBit_or, Bool.or_eq_true] at h
      rcases h with (h | h) | h
      · split at h
        · rename_i hlt; exact ⟨e, List.mem_cons_self .., hb, .inr ⟨hlt, h⟩⟩
        · simp at h
      · rw [Nat.one_shiftLeft, Nat.testBit_two_pow] at h
        exact ⟨e, List.mem_cons_self .., hb, .inl (by simpa using h)⟩
      · obtain ⟨e', h1, h2⟩ := edgeMask_spec h
        exact ⟨e', List.mem_cons_of_mem _ h1, h2⟩
    · obtain ⟨e', h1, h2⟩ := edgeMask_spec h
      exact ⟨e', List.mem_cons_of_mem _ h1, h2⟩
theorem chkAnc_spec {A : List Nat} : ∀ {os : List Oper} {k : Nat}, chkAnc A k os = true → ∀ j o, os[j]? = some o → A.getD (k + j) 0 = edgeMask A (k + j) o.after.toList ∧ ∀ e ∈ o.after.toList, Region.binds .any e = true → e.on < k + j
  | [], k, _, j, o, h => by simp at h
  | o' :: os, k, hc, j, o, h => by
    simp only [chkAnc, Bool.and_eq_true, beq_iff_eq, List.all_eq_true, Bool.or_eq_true, Bool.not_eq_true', decide_eq_true_eq] at hc
    obtain ⟨⟨h1, h2⟩, h3⟩ := hc
    cases j with
    | zero =>
      simp only [List.getElem?_cons_zero, Option.some.injEq] at h
      subst h
      exact ⟨h1, fun e he hb => (h2 e he).resolve_left (by simp [hb])⟩
    | succ j =>
      have := chkAnc_spec h3 j o (by simpa using h)
      rw [show k + 1 + j = k + (j + 1) by omega] at this
      exact this
theorem chkPair_spec {A : List Nat} {j : Nat} {rj : RO} : ∀ {rs : List RO} {k : Nat}, chkPair A j rj k rs = true → ∀ i ri, rs[i]? = some ri → k + i < j → clash ri rj = true → ancB A j (k + i) = true
  | [], k, _, i, ri, h, _, _ => by simp at h
  | r' :: rs, k, hc, i, ri, h, hlt, hcl => by
    simp only [chkPair, Bool.and_eq_true, Bool.or_eq_true, decide_eq_true_eq, Bool.not_eq_true'] at hc
    obtain ⟨h1, h2⟩ := hc
    cases i with
    | zero =>
      simp only [List.getElem?_cons_zero, Option.some.injEq] at h
      subst h
      rcases h1 with (h1 | h1) | h1
      · omega
      · rw [hcl] at h1; cases h1
      · exact h1
    | succ i =>
      have := chkPair_spec h2 i ri (by simpa using h) (by omega) hcl
      rw [show k + 1 + i = k + (i + 1) by omega] at this
      exact this
theorem chkRows_spec {A : List Nat} {rs : List RO} : ∀ {l : List RO} {k : Nat}, chkRows A rs k l = true → ∀ j r, l[j]? = some r → chkPair A (k + j) r 0 rs = true ∧ chkReads A rs (k + j) r = true
  | [], k, _, j, r, h => by simp at h
  | r' :: l, k, hc, j, r, h => by
    simp only [chkRows, Bool.and_eq_true] at hc
    obtain ⟨⟨h1, h2⟩, h3⟩ := hc
    cases j with
    | zero =>
      simp only [List.getElem?_cons_zero, Option.some.injEq] at h
      subst h
      exact ⟨h1, h2⟩
    | succ j =>
      have := chkRows_spec h3 j r (by simpa using h)
      rw [show k + 1 + j = k + (j + 1) by omega] at this
      exact this
end Go.Rx
