/-
A part of the proof: lemmas on the machine that the printed functions run on, or contracts of functions.
-/
import Derived.Test.YtfnioapgelabfaaGreatDoorRxBeq
set_option linter.unusedVariables false
set_option linter.unusedSimpArgs false
namespace Go.Rx
variable {P : Program} {X : Ctx} {T : Tm} {a : Act} {w : World} {o : Oper} {call : CallF} {v : V} {m' : Mem}
theorem step_noeff {m : Mem} {op : ROp} (he : op.effect = false) (h : stepOp call T m op = some (v, m')) : m' = m := by
  cases op <;> simp only [ROp.effect, Bool.not_eq_eq_eq_not, Bool.not_false, Bool.true_eq_false] at he
  all_goals simp only [stepOp] at h
  all_goals try subst he
  all_goals try simp only [if_true] at h
  all_goals repeat' first
    | (split at h)
    | (rw [Option.bind_eq_some_iff] at h; obtain ⟨_, _, h⟩ := h)
  all_goals first
    | (cases h; done)
    | (simp only [Option.some.injEq, Prod.mk.injEq] at h; exact h.2.symm)
theorem step_nomem {m m2 : Mem} {op : ROp} (he : op.effect = false) (hr : op.reads = false) (h : stepOp call T m op = some (v, m)) : stepOp call T m2 op = some (v, m2) := by
  cases op <;> simp only [ROp.effect, ROp.reads, Bool.not_eq_eq_eq_not, Bool.not_false, Bool.true_eq_false] at he hr
  all_goals simp only [stepOp] at h ⊢
  all_goals try subst he
  all_goals try simp only [if_true] at h ⊢
  case mksl s b z l c =>
    generalize Opd.get T l = L at *
    generalize Opd.get T c = C at *
    cases L <;> cases C <;> simp only at h ⊢ <;> (try cases h)
    split at h
    · rename_i hh
      rw [if_pos hh]
      simp only [Option.some.injEq, Prod.mk.injEq] at h ⊢
      exact ⟨h.1, trivial⟩
    · cases h
  case carry s x y c =>
    split at h
    · split at h
      · rename_i hh
        rw [if_pos hh]
        simp only [Option.some.injEq, Prod.mk.injEq] at h ⊢
        exact ⟨h.1, trivial⟩
      · cases h
    · cases h
  all_goals repeat' first
    | (split at h)
    | (rw [Option.bind_eq_some_iff] at h; obtain ⟨_, _, h⟩ := h)
  all_goals first
    | (cases h; done)
    | (simp only [Option.some.injEq, Prod.mk.injEq] at h; simp_all; done)
def nE : List RO → Nat → Nat
  | _, 0 => 0
  | [], _ + 1 => 0
  | r :: l, i + 1 => (if r.op.effect then 1 else 0) + nE l i
structure Fact (call : CallF) (rs : List RO) (k : Nat) (pd : Pend) (Ts : Nat → Tm) (Ms : Nat → Mem) (bs : Nat → Bool) (vs : Nat → V) (i : Nat) (r : RO) : Prop where
  want : wantedG (Ts i) r.guard = some (bs i)
  next : Ts (i + 1) = updO (Ts i) r.dst (vs i)
  skip : bs i = false → vs i = .tup [] ∧ r.op.pending = false ∧ (r.op.effect = true → Ms (k + nE rs i + 1) = Ms (k + nE rs i))
  eff : bs i = true → r.op.effect = true → stepOp call (Ts i) (Ms (k + nE rs i)) r.op = some (vs i, Ms (k + nE rs i + 1))
  any : bs i = true → r.op.effect = false → ∀ q, (r.op.reads = true → r.lo ≤ q ∧ q ≤ r.hi) → q ≤ k + nE rs rs.length → stepOp call (Ts i) (Ms q) r.op = some (vs i, Ms q)
  pend : ∀ imm sz t x, bs i = true → r.op = .init imm sz t x → r.dst = some t ∧ ((t, sz) ∈ pd ∧ (∀ i' r', i' < i → rs[i']? = some r' → r'.dst ≠ some t) ∨
    ∃ i' r', i' < i ∧ rs[i']? = some r' ∧ bs i' = true ∧ r'.op = .pend sz ∧ r'.dst = some t ∧ ∀ i'' r'', i' < i'' → i'' < i → rs[i'']? = some r'' → r''.dst ≠ some t)
  pdst : ∀ sz, bs i = true → r.op = .pend sz → r.dst.isSome = true
def later {α : Type} (x : α) (f : Nat → α) : Nat → α
  | 0 => x
  | i + 1 => f i
theorem alike_eq {m : Mem} {op : ROp} (h : alike call T op v m = true) : ∃ m'', stepOp call T m op = some (v, m'') := by
  unfold alike at h
  split at h
  · rename_i u m'' hs
    rw [← V.beq_eq u v h]
    exact ⟨m'', hs⟩
  · cases h
theorem pendStep_old {pd pd' : Pend} {d : Option Nat} {op : ROp} (h : pendStep pd d op = some pd') {t sz : Nat} (hm : (t, sz) ∈ pd') : ((t, sz) ∈ pd ∧ d ≠ some t) ∨ (op = .pend sz ∧ d = some t) := by
  unfold pendStep at h
  split at h
  · split at h
    · simp only [Option.some.injEq] at h
      subst h
      simp only [List.mem_cons, Prod.mk.injEq, List.mem_filter] at hm
      rcases hm with ⟨rfl, rfl⟩ | ⟨h1, h2⟩
      · exact .inr ⟨rfl, rfl⟩
      · exact .inl ⟨h1, fun e => by cases e; simp at h2⟩
    · cases h
  · split at h
    · rename_i hc
      simp only [Bool.and_eq_true, beq_iff_eq] at hc
      simp only [Option.some.injEq] at h
      subst h
      obtain ⟨h1, h2⟩ := List.mem_filter.1 hm
      exact .inl ⟨h1, fun e => by rw [hc.2] at e; cases e; simp at h2⟩
    · cases h
  · simp only [Option.some.injEq] at h
    subst h
    cases d with
    | none => exact .inl ⟨hm, fun e => by cases e⟩
    | some d =>
      obtain ⟨h1, h2⟩ := List.mem_filter.1 hm
      exact .inl ⟨h1, fun e => by cases e; simp at h2⟩
theorem pendStep_init {pd pd' : Pend} {d : Option Nat} {imm : Bool} {sz t : Nat} {x : Opd} (h : pendStep pd d (.init imm sz t x) = some pd') : (t, sz) ∈ pd ∧ d = some t := by
  simp only [pendStep] at h
  split at h
  · rename_i hc
    simp only [Bool.and_eq_true, beq_iff_eq] at hc
    exact ⟨by simpa using hc.1, hc.2⟩
  · cases h
theorem trace : ∀ {rs : List RO} {pd : Pend} {T : Tm} {m : Mem} {k : Nat} {past : List Mem} {due : List Due} {T' : Tm} {m' : Mem}, evDraw call rs pd T m k past due = some (T', m') →
    ∀ Pm : Nat → Mem, (∀ q, q < k → past[k - 1 - q]? = some (Pm q)) → (∀ d ∈ due, k ≤ d.hi → ∃ m'', stepOp call d.T m d.op = some (d.v, m'')) →
    ∃ (Ts : Nat → Tm) (Ms : Nat → Mem) (bs : Nat → Bool) (vs : Nat → V), (∀ q, q < k → Ms q = Pm q) ∧ Ms k = m ∧ Ts 0 = T ∧ Ts rs.length = T' ∧ Ms (k + nE rs rs.length) = m' ∧
      (∀ i r, rs[i]? = some r → Fact call rs k pd Ts Ms bs vs i r) ∧
      (∀ d ∈ due, ∀ q, k ≤ q → q ≤ d.hi → q ≤ k + nE rs rs.length → ∃ m'', stepOp call d.T (Ms q) d.op = some (d.v, m''))
  | [], pd, T, m, k, past, due, T', m', he, Pm, hpast, hdue => by
    simp only [evDraw, Option.some.injEq, Prod.mk.injEq] at he
    obtain ⟨rfl, rfl⟩ := he
    refine ⟨fun _ => T, fun q => if q < k then Pm q else m, fun _ => true, fun _ => .undef, fun q hq => by simp [hq], by simp, rfl, rfl, by simp [nE], fun i r h => by simp at h, fun d hd q h1 h2 h3 => ?_⟩
    simp only [List.length_nil, nE] at h3
    have : q = k := by omega
    subst this
    simp only [Nat.lt_irrefl, if_false]
    exact hdue d hd h2
  | r :: rs, pd, T, m, k, past, due, T', m', he, Pm, hpast, hdue => by
    simp only [evDraw] at he
    cases hb : wantedG T r.guard with
    | none => simp [hb] at he
    | some b =>
      rw [hb] at he
      simp only [Option.bind_some] at he
      have join : ∀ (v : V) (m1 : Mem) (pd1 : Pend) (past1 : List Mem) (due1 : List Due) (k1 : Nat), k1 = (if r.op.effect then k + 1 else k) → (r.op.effect = false → m1 = m) →
          evDraw call rs pd1 (updO T r.dst v) m1 k1 past1 due1 = some (T', m') → past1 = (if r.op.effect then m :: past else past) → (∀ d ∈ due, d ∈ due1) →
          (∀ d ∈ due1, k1 ≤ d.hi → ∃ m'', stepOp call d.T m1 d.op = some (d.v, m'')) →
          (∀ t sz, (t, sz) ∈ pd1 → ((t, sz) ∈ pd ∧ r.dst ≠ some t) ∨ (b = true ∧ r.op = .pend sz ∧ r.dst = some t)) →
          (b = false → v = .tup [] ∧ r.op.pending = false ∧ (r.op.effect = true → m1 = m)) →
          (b = true → r.op.effect = true → stepOp call T m r.op = some (v, m1)) →
          (b = true → r.op.effect = false → stepOp call T m r.op = some (v, m)) →
          (b = true → r.op.effect = false → r.op.reads = true → (⟨T, r.op, v, r.hi⟩ : Due) ∈ due1 ∧ ∀ q, q < k → r.lo ≤ q → ∃ m'', stepOp call T (Pm q) r.op = some (v, m'')) →
          (∀ imm sz t x, b = true → r.op = .init imm sz t x → (t, sz) ∈ pd ∧ r.dst = some t) →
          (∀ sz, b = true → r.op = .pend sz → r.dst.isSome = true) →
          ∃ (Ts : Nat → Tm) (Ms : Nat → Mem) (bs : Nat → Bool) (vs : Nat → V), (∀ q, q < k → Ms q = Pm q) ∧ Ms k = m ∧ Ts 0 = T ∧ Ts (r :: rs).length = T' ∧ Ms (k + nE (r :: rs) (r :: rs).length) = m' ∧
            (∀ i r', (r :: rs)[i]? = some r' → Fact call (r :: rs) k pd Ts Ms bs vs i r') ∧
            (∀ d ∈ due, ∀ q, k ≤ q → q ≤ d.hi → q ≤ k + nE (r :: rs) (r :: rs).length → ∃ m'', stepOp call d.T (Ms q) d.op = some (d.v, m'')) := by
        intro v m1 pd1 past1 due1 k1 hk1 hm1 he1 hpast1 hsub hdue1 hpd1 hskip heff hany hread hinit hpdst
        have hk : k ≤ k1 := by rw [hk1]; split <;> omega
        obtain ⟨Ts, Ms, bs, vs, t1, t2, t3, t4, t5, t6, t7⟩ := trace he1 (fun q => if q = k then m else Pm q) (fun q hq => by
          subst hpast1
          cases hef : r.op.effect with
          | true =>
            rw [hef] at hk1
            simp only [if_true] at hk1 ⊢
            subst hk1
            by_cases h : q = k
            · subst h; simp
            · rw [if_neg h]
              have : k + 1 - 1 - q = (k - 1 - q) + 1 := by omega
              rw [this, List.getElem?_cons_succ]
              exact hpast q (by omega)
          | false =>
            rw [hef] at hk1
            simp only [Bool.false_eq_true, if_false] at hk1 ⊢
            subst hk1
            rw [if_neg (by omega)]
            exact hpast q hq) hdue1
        have hMk : Ms k = m := by
          cases hef : r.op.effect with
          | true =>
            rw [hef] at hk1
            simp only [if_true] at hk1
            have := t1 k (by omega)
            simpa using this
          | false =>
            rw [hef] at hk1
            simp only [Bool.false_eq_true, if_false] at hk1
            rw [← hk1, t2, hm1 hef]
        have hMlt : ∀ q, q < k → Ms q = Pm q := fun q hq => by
          have := t1 q (by omega)
          rw [if_neg (by omega)] at this
          exact this
        have hn : ∀ i, k + nE (r :: rs) (i + 1) = k1 + nE rs i := fun i => by
          rw [hk1]
          simp only [nE]
          split <;> omega
        refine ⟨later T Ts, Ms, later b bs, later v vs, hMlt, hMk, rfl, t4, ?_, fun i r' hi => ?_, fun d hd q h1 h2 h3 => ?_⟩
        · rw [List.length_cons, hn]; exact t5
        · cases i with
          | zero =>
            simp only [List.getElem?_cons_zero, Option.some.injEq] at hi
            subst hi
            refine ⟨hb, by simp only [later]; exact t3, fun h => ?_, fun h1 h2 => ?_, fun h1 h2 q h3 h4 => ?_, fun imm sz t x h1 h2 => ?_, hpdst⟩
            · obtain ⟨e1, e2, e3⟩ := hskip h
              refine ⟨e1, e2, fun h => ?_⟩
              rw [h] at hk1
              simp only [if_true] at hk1
              simp only [nE, Nat.add_zero, hMk, ← hk1, t2, e3 h]
            · have := heff h1 h2
              rw [h2] at hk1
              simp only [if_true] at hk1
              simp only [later, nE, Nat.add_zero, hMk, ← hk1, t2]
              exact this
            · simp only [later]
              have hs := hany h1 h2
              rw [h2] at hk1
              simp only [Bool.false_eq_true, if_false] at hk1
              cases hrd : r.op.reads with
              | false => exact step_nomem h2 hrd hs
              | true =>
                obtain ⟨d1, d2⟩ := hread h1 h2 hrd
                obtain ⟨d3, d4⟩ := h3 hrd
                have hfin : ∃ m'', stepOp call T (Ms q) r.op = some (v, m'') := by
                  rcases Nat.lt_trichotomy q k with h | h | h
                  · rw [hMlt q h]; exact d2 q h d3
                  · subst h; rw [hMk]; exact ⟨_, hs⟩
                  · refine t7 _ d1 q (by omega) d4 ?_
                    rw [List.length_cons, hn] at h4
                    exact h4
                obtain ⟨m'', hm''⟩ := hfin
                rw [hm'', step_noeff h2 hm'']
            · obtain ⟨e1, e2⟩ := hinit imm sz t x h1 h2
              exact ⟨e2, .inl ⟨e1, fun i' r' h => by omega⟩⟩
          | succ i =>
            simp only [List.getElem?_cons_succ] at hi
            have hf := t6 i r' hi
            refine ⟨hf.want, hf.next, fun h => ?_, fun h1 h2 => ?_, fun h1 h2 q h3 h4 => hf.any h1 h2 q h3 (by rw [List.length_cons, hn] at h4; exact h4), fun imm sz t x h1 h2 => ?_, hf.pdst⟩
            · rw [hn]; exact hf.skip h
            · rw [hn]; exact hf.eff h1 h2
            · obtain ⟨e0, e⟩ := hf.pend imm sz t x h1 h2
              refine ⟨e0, ?_⟩
              rcases e with ⟨e1, e2⟩ | ⟨i', q, e1, e2, e3, e4, e5, e6⟩
              · rcases hpd1 t sz e1 with ⟨g1, g2⟩ | ⟨g1, g2, g3⟩
                · refine .inl ⟨g1, fun i' q hi' hq => ?_⟩
                  cases i' with
                  | zero => simp only [List.getElem?_cons_zero, Option.some.injEq] at hq; subst hq; exact g2
                  | succ i' => exact e2 i' q (by omega) (by simpa using hq)
                · refine .inr ⟨0, r, by omega, rfl, g1, g2, g3, fun i' q h0 hi' hq => ?_⟩
                  cases i' with
                  | zero => omega
                  | succ i' => exact e2 i' q (by omega) (by simpa using hq)
              · refine .inr ⟨i' + 1, q, by omega, by simpa using e2, e3, e4, e5, fun i'' q' h0 hi'' hq => ?_⟩
                cases i'' with
                | zero => omega
                | succ i'' => exact e6 i'' q' (by omega) (by omega) (by simpa using hq)
        · rw [List.length_cons, hn] at h3
          rcases Nat.eq_or_lt_of_le h1 with h | h
          · subst h
            rw [hMk]; exact hdue d hd h2
          · exact t7 d (hsub d hd) q (by rw [hk1]; split <;> omega) h2 h3
      cases b with
      | false =>
        simp only at he
        split at he
        · cases he
        rename_i hpn
        have hpn' : r.op.pending = false := by simpa using hpn
        refine join (.tup []) m _ _ due _ rfl (fun _ => rfl) he rfl (fun d hd => hd) (fun d hd h => hdue d hd (by split at h <;> omega)) (fun t sz h => ?_) (fun _ => ⟨rfl, hpn', fun _ => rfl⟩) (fun h => by cases h) (fun h => by cases h) (fun h => by cases h) (fun _ _ _ _ h => by cases h) (fun _ h => by cases h)
        obtain ⟨h1, h2⟩ := List.mem_filter.1 h
        exact .inl ⟨h1, fun e => by rw [e] at h2; simp at h2⟩
      | true =>
        simp only at he
        cases hps : pendStep pd r.dst r.op with
        | none => simp [hps] at he
        | some pd' =>
          cases hs : stepOp call T m r.op with
          | none => simp [hps, hs] at he
          | some vm =>
            obtain ⟨v, m1⟩ := vm
            simp only [hps, hs, Option.bind_some] at he
            have g1 : ∀ t sz, (t, sz) ∈ pd' → ((t, sz) ∈ pd ∧ r.dst ≠ some t) ∨ (true = true ∧ r.op = .pend sz ∧ r.dst = some t) := fun t sz h => by
              rcases pendStep_old hps h with h | h
              · exact .inl h
              · exact .inr ⟨rfl, h⟩
            have g2 : ∀ imm sz t x, true = true → r.op = .init imm sz t x → (t, sz) ∈ pd ∧ r.dst = some t := fun imm sz t x _ h => by
              rw [h] at hps; exact pendStep_init hps
            have g3 : ∀ sz, true = true → r.op = .pend sz → r.dst.isSome = true := fun sz _ h => by
              rw [h] at hps
              simp only [pendStep] at hps
              split at hps
              · rename_i h; rw [h]; rfl
              · cases hps
            split at he
            · rename_i hef
              split at he
              case isFalse => cases he
              rename_i hall
              refine join v m1 pd' (m :: past) due (k + 1) (by simp [hef]) (fun h => by rw [hef] at h; cases h) he (by simp [hef]) (fun d hd => hd) (fun d hd h => ?_) g1 (fun h => by cases h) (fun _ _ => hs) (fun _ h => by rw [hef] at h; cases h) (fun _ h => by rw [hef] at h; cases h) g2 g3
              rw [List.all_eq_true] at hall
              have := hall d hd
              simp only [Bool.or_eq_true, decide_eq_true_eq] at this
              rcases this with h' | h'
              · omega
              · exact alike_eq h'
            · rename_i hef
              have hef' : r.op.effect = false := by simpa using hef
              have hmm := step_noeff hef' hs
              subst hmm
              split at he
              · split at he
                case isFalse => cases he
                rename_i hrd hall
                obtain ⟨a1, a2, a3⟩ := hall
                refine join v m1 pd' past _ k (by simp [hef']) (fun _ => rfl) he (by simp [hef']) (fun d hd => List.mem_cons_of_mem _ hd) (fun d hd h => ?_) g1 (fun h => by cases h) (fun _ h => by rw [hef'] at h; cases h) (fun _ _ => hs) (fun _ _ _ => ⟨List.mem_cons_self .., fun q hq hlo => ?_⟩) g2 g3
                · rcases List.mem_cons.1 hd with rfl | hd
                  · exact ⟨_, hs⟩
                  · exact hdue d hd h
                · rw [List.all_eq_true] at a3
                  refine alike_eq (a3 _ (List.mem_of_getElem? (i := k - 1 - q) ?_))
                  rw [List.getElem?_take_of_lt (by omega)]
                  exact hpast q hq
              · rename_i hrd
                refine join v m1 pd' past due k (by simp [hef']) (fun _ => rfl) he (by simp [hef']) (fun d hd => hd) (fun d hd h => hdue d hd h) g1 (fun h => by cases h) (fun _ h => by rw [hef'] at h; cases h) (fun _ _ => hs) (fun _ _ h => absurd h hrd) g2 g3
end Go.Rx
