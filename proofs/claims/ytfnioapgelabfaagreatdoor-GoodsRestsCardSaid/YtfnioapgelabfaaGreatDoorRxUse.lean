/-
A part of the proof: lemmas on the machine that the printed functions run on, or contracts of functions.
-/
import Derived.Test.YtfnioapgelabfaaGreatDoorRxRules
import Derived.Test.YtfnioapgelabfaaGreatDoorRxBeq
import Derived.KernelRfl
set_option linter.unusedVariables false
set_option linter.unusedSimpArgs false
namespace Go.Rx
variable {prog : Nat → Option PF}
def noeff (rs : List RO) : Bool := rs.all fun o => !o.op.effect && o.lo == 0
theorem draw_noeff {call : CallF} : ∀ {rs : List RO} {pd : Pend} {T : Tm} {m : Mem} {due : List Due}, noeff rs = true → evDraw call rs pd T m 0 [] due = evOps call rs pd T m
  | [], _, _, _, _, _ => rfl
  | o :: rest, pd, T, m, due, h => by
    simp only [noeff, List.all_cons, Bool.and_eq_true, Bool.not_eq_true', beq_iff_eq] at h
    obtain ⟨⟨h1, h2⟩, h3⟩ := h
    have ih := fun pd T m due => draw_noeff (call := call) (rs := rest) (pd := pd) (T := T) (m := m) (due := due) h3
    simp only [evDraw, evOps, h1, h2]
    cases wantedG T o.guard with
    | none => rfl
    | some b =>
      simp only [Option.bind_some]
      cases b with
      | false => simp only [Bool.false_eq_true, if_false]; rw [ih]
      | true =>
        simp only
        cases pendStep pd o.dst o.op with
        | none => rfl
        | some pd' =>
          simp only [Option.bind_some]
          cases stepOp call T m o.op with
          | none => rfl
          | some q =>
            simp only [Option.bind_some, Bool.false_eq_true, if_false, Nat.zero_le, List.take_nil, List.all_nil, and_true, if_true, ih, ite_self]
theorem wpK_pure {rs : List RO} {T : Tm} {m : Mem} {ks : List Fr} {Q : Ex → St → Prop} (h : noeff rs = true) : wpK prog (.region true rs) T m ks Q = regK prog (opsK prog rs [] T m) ks Q := by
  rw [← wpK_text]
  unfold wpK
  simp only [wpE, if_true, Bool.false_eq_true, if_false]
  rw [draw_noeff h]
theorem noeff_nil : noeff [] = true := rfl
theorem noeff_cons {d : Option Nat} {op : ROp} {g : Option (Nat × Bool)} {lo hi : Nat} {rs : List RO} : noeff (⟨d, op, g, lo, hi⟩ :: rs) = (!op.effect && lo == 0 && noeff rs) := rfl
theorem eff_rules : (∀ x0, (ROp.mv x0).effect = false) ∧
  (∀ x0 x1 x2, (ROp.pick x0 x1 x2).effect = false) ∧
  (∀ x0 x1, (ROp.box x0 x1).effect = !x0) ∧
  (∀ x0 x1, (ROp.alloc x0 x1).effect = !x0) ∧
  (∀ x0 x1, (ROp.build x0 x1).effect = false) ∧
  (∀ x0 x1 x2 x3 x4, (ROp.bslice x0 x1 x2 x3 x4).effect = !x0) ∧
  (∀ x0 x1 x2, (ROp.load x0 x1 x2).effect = false) ∧
  (∀ x0 x1 x2, (ROp.store x0 x1 x2).effect = true) ∧
  (∀ x0, (ROp.pend x0).effect = false) ∧
  (∀ x0 x1 x2 x3, (ROp.init x0 x1 x2 x3).effect = !x0) ∧
  (∀ x0, (ROp.nilc x0).effect = false) ∧
  (∀ x0 x1 x2, (ROp.bin x0 x1 x2).effect = false) ∧
  (∀ x0 x1 x2 x3, (ROp.eqk x0 x1 x2 x3).effect = false) ∧
  (∀ x0 x1 x2 x3, (ROp.eqs x0 x1 x2 x3).effect = false) ∧
  (∀ x0 x1, (ROp.un x0 x1).effect = false) ∧
  (∀ x0 x1, (ROp.cvi x0 x1).effect = false) ∧
  (∀ x0, (ROp.cvs x0).effect = false) ∧
  (∀ x0, (ROp.s2b x0).effect = false) ∧
  (∀ x0, (ROp.b2s x0).effect = false) ∧
  (∀ x0 x1 x2, (ROp.mkfn x0 x1 x2).effect = false) ∧
  (∀ x0 x1 x2 x3 x4 x5, (ROp.mksl x0 x1 x2 x3 x4 x5).effect = !x0) ∧
  (∀ x0 x1 x2, (ROp.slstr x0 x1 x2).effect = false) ∧
  (∀ x0 x1 x2 x3 x4, (ROp.slice x0 x1 x2 x3 x4).effect = false) ∧
  (∀ x0 x1 x2 x3 x4 x5, (ROp.slarr x0 x1 x2 x3 x4 x5).effect = false) ∧
  (∀ x0 x1, (ROp.faddr x0 x1).effect = false) ∧
  (∀ x0 x1 x2 x3, (ROp.field x0 x1 x2 x3).effect = false) ∧
  (∀ x0 x1 x2, (ROp.ixsl x0 x1 x2).effect = false) ∧
  (∀ x0 x1 x2 x3, (ROp.ixarr x0 x1 x2 x3).effect = false) ∧
  (∀ x0 x1, (ROp.ixstr x0 x1).effect = false) ∧
  (∀ x0 x1 x2 x3 x4, (ROp.ixagg x0 x1 x2 x3 x4).effect = false) ∧
  (∀ x0 x1, (ROp.ext x0 x1).effect = false) ∧
  (∀ x0 x1, (ROp.call x0 x1).effect = true) ∧
  (∀ x0 x1, (ROp.callp x0 x1).effect = false) ∧
  (∀ x0 x1 x2 x3, (ROp.carry x0 x1 x2 x3).effect = false) ∧
  (∀ x0 x1, (ROp.callv x0 x1).effect = true) ∧
  (∀ x0, (ROp.len x0).effect = false) ∧
  (∀ x0, (ROp.lens x0).effect = false) ∧
  (∀ x0, (ROp.lenc x0).effect = false) ∧
  (∀ x0 x1 x2 x3 x4, (ROp.append x0 x1 x2 x3 x4).effect = true) ∧
  (∀ x0 x1 x2, (ROp.copy x0 x1 x2).effect = true) ∧
  (∀ x0 x1 x2, (ROp.clear x0 x1 x2).effect = true) ∧
  (∀ x0 x1, (ROp.minmax x0 x1).effect = false) ∧
  ROp.mkmap.effect = true ∧
  (∀ x0 x1 x2 x3 x4 x5, (ROp.lookup x0 x1 x2 x3 x4 x5).effect = false) ∧
  (∀ x0 x1 x2 x3, (ROp.mapupd x0 x1 x2 x3).effect = true) ∧
  (∀ x0, (ROp.maplen x0).effect = false) := by
  refine ⟨?_, ?_, ?_, ?_, ?_, ?_, ?_, ?_, ?_, ?_, ?_, ?_, ?_, ?_, ?_, ?_, ?_, ?_, ?_, ?_, ?_, ?_, ?_, ?_, ?_, ?_, ?_, ?_, ?_, ?_, ?_, ?_, ?_, ?_, ?_, ?_, ?_, ?_, ?_, ?_, ?_, ?_, ?_, ?_, ?_, ?_⟩ <;> intros <;> rfl
theorem allM_ind {f : V → Option V} (h : ∀ v u, f v = some u → f u = some u) : ∀ {l k : List V}, allM f l = some k → allM f k = some k
  | [], k, hk => by cases hk; rfl
  | x :: l, k, hk => by
    simp only [allM] at hk
    cases hx : f x with
    | none => simp [hx] at hk
    | some y =>
      cases hl : allM f l with
      | none => simp [hx, hl] at hk
      | some ys =>
        simp only [hx, hl, Option.bind_some, Option.some.injEq] at hk
        subst hk
        simp only [allM, h _ _ hx, allM_ind h hl, Option.bind_some]
theorem allM_ind2 {f : V → Option V} (h : ∀ v u, f v = some u → f u = some u) : ∀ {l k : List (List V)}, allM (allM f) l = some k → allM (allM f) k = some k
  | [], k, hk => by cases hk; rfl
  | x :: l, k, hk => by
    simp only [allM] at hk
    cases hx : allM f x with
    | none => simp [hx] at hk
    | some y =>
      cases hl : allM (allM f) l with
      | none => simp [hx, hl] at hk
      | some ys =>
        simp only [hx, hl, Option.bind_some, Option.some.injEq] at hk
        subst hk
        simp only [allM, allM_ind h hx, allM_ind2 h hl, Option.bind_some]
theorem norm_again : ∀ (n : Nat) (v u : V), norm n v = some u → norm n u = some u
  | 0, v, u, h => by cases h
  | n + 1, v, u, h => by
    have ih := norm_again n
    cases v <;> simp only [norm] at h
    case bool => cases h; rfl
    case int => cases h; rfl
    case str => cases h; rfl
    case nilp => cases h; rfl
    case nilf => cases h; rfl
    case undef => cases h
    case ptr => cases h
    case msl => cases h
    case mapr => cases h
    case iptr cs off =>
      cases hc : allM (norm n) cs with
      | none => simp [hc] at h
      | some ys => simp only [hc, Option.bind_some, Option.some.injEq] at h; subst h; simp only [norm, allM_ind ih hc, Option.bind_some]
    case sl f es =>
      cases hc : allM (allM (norm n)) es with
      | none => simp [hc] at h
      | some ys => simp only [hc, Option.bind_some, Option.some.injEq] at h; subst h; simp only [norm, allM_ind2 ih hc, Option.bind_some]
    case agg cs =>
      cases hc : allM (norm n) cs with
      | none => simp [hc] at h
      | some ys => simp only [hc, Option.bind_some, Option.some.injEq] at h; subst h; simp only [norm, allM_ind ih hc, Option.bind_some]
    case tup cs =>
      cases hc : allM (norm n) cs with
      | none => simp [hc] at h
      | some ys => simp only [hc, Option.bind_some, Option.some.injEq] at h; subst h; simp only [norm, allM_ind ih hc, Option.bind_some]
    case fn p a b =>
      cases ha : allM (norm n) a with
      | none => simp [ha] at h
      | some ys =>
        cases hb : allM (norm n) b with
        | none => simp [ha, hb] at h
        | some zs => simp only [ha, hb, Option.bind_some, Option.some.injEq] at h; subst h; simp only [norm, allM_ind ih ha, allM_ind ih hb, Option.bind_some]
theorem lim_norm {pid : Nat} {f : PF} {args as : List V} {m : Mem} (hp : prog pid = some f) (hr : f.raw = false) (hn : allM (norm depth) args = some as) : lim prog pid args m = lim prog pid as m := by
  have key : ∀ n, callN prog n pid args m = callN prog n pid as m := by
    intro n
    cases n with
    | zero => rfl
    | succ n =>
      simp only [callN, hp, Option.bind_some, callWith, hr, Bool.false_and, Bool.false_eq_true, if_false, hn, allM_ind (norm_again depth) hn]
  have : ∀ r, Run prog pid args m r ↔ Run prog pid as m r := fun r => by unfold Run; simp only [key]
  cases hl : lim prog pid args m with
  | some r => exact ((lim_run prog).2 ((this r).1 ((lim_run prog).1 hl))).symm
  | none =>
    cases hl' : lim prog pid as m with
    | none => rfl
    | some r => rw [(lim_run prog).2 ((this r).2 ((lim_run prog).1 hl'))] at hl; cases hl
def Raws (prog : Nat → Option PF) (raws : List Nat) : Prop := ∀ pid f, prog pid = some f → f.raw = true → raws.contains pid = true
noncomputable def callK (prog : Nat → Option PF) (raw : Bool) (pid : Nat) (o : Option (List V)) (args : List V) (m : Mem) : Option (V × Mem) :=
  match raw, o with
  | false, some as => lim prog pid as m
  | _, _ => lim prog pid args m
theorem callK_eq {raws : List Nat} (hr : Raws prog raws) (pid : Nat) (args : List V) (m : Mem) : lim prog pid args m = callK prog (raws.contains pid) pid (allM (norm depth) args) args m := by
  unfold callK
  cases hc : raws.contains pid with
  | true => rfl
  | false =>
    cases ho : allM (norm depth) args with
    | none => rfl
    | some as =>
      cases hp : prog pid with
      | none =>
        have : ∀ args, lim prog pid args m = none := fun args => by
          cases hl : lim prog pid args m with
          | none => rfl
          | some r =>
            obtain ⟨N, h⟩ := (lim_run prog).1 hl
            have := h (N + 1) (by omega)
            simp [callN, hp] at this
        rw [this]; exact (this as).symm
      | some f =>
        cases hf : f.raw with
        | true => rw [hr pid f hp hf] at hc; cases hc
        | false => exact lim_norm hp hf ho
theorem callK_none {q : Bool} {pid : Nat} {args : List V} {m : Mem} : callK prog q pid none args m = lim prog pid args m := by cases q <;> rfl
theorem ret_of {pid : Nat} {f : PF} {args : List V} {v : V} (hp : prog pid = some f) (hr : f.raw = false) (hs : f.split = false) (hn : allM (norm depth) args = some args)
    (h : Body prog f args m0 fun u m' => frz m' 0 depth u = some v) (m : Mem) : lim prog pid args m = some (v, m) := by
  obtain ⟨u, rfl, hu⟩ := Fn.of (R := fun u => u = v) hp hr hs hn (wpE_mono (fun e s' h => by
    cases e with
    | exit => exact h
    | normal =>
      simp only at h ⊢
      split at h
      · simp only [h]
      · exact h
    | ret =>
      simp only at h ⊢
      split at h
      · simp only [h]
      · exact h) h)
  exact hu m
theorem fitSz_map {α : Type} {f : α → List V} {sz : Nat} {l : List α} (h : ∀ a, (f a).length = sz) : fitSz sz (l.map f) = true := by
  simp [fitSz, List.all_map, h]
theorem allM_map {α β : Type} {g : β → Option β} {f : α → β} {l : List α} (h : ∀ a, g (f a) = some (f a)) : allM g (l.map f) = some (l.map f) := by
  induction l with
  | nil => rfl
  | cons a l ih => simp only [List.map_cons, allM, h, ih, Option.bind_some]
theorem norm_map {α : Type} {f : α → List V} {l : List α} {n : Nat} {fl : SF} (h : ∀ a, allM (norm n) (f a) = some (f a)) : norm (n + 1) (.sl fl (l.map f)) = some (.sl .any (l.map f)) := by
  simp only [norm, allM_map h, Option.bind_some]
theorem frz_map {α : Type} {f : α → List V} {l : List α} {n b : Nat} {m : Mem} {fl : SF} (h : ∀ a, allM (frz m b n) (f a) = some (f a)) : frz m b (n + 1) (.sl fl (l.map f)) = some (.sl .any (l.map f)) := by
  simp only [frz, allM_map h, Option.bind_some]
def nth {α : Type} [Inhabited α] (l : List α) (i : Int) : α := (l[i.toNat]?).getD default
theorem get_nth {α : Type} [Inhabited α] {l : List α} {i : Int} (h0 : 0 ≤ i) (h : i < l.length) : l[i.toNat]? = some (nth l i) := by
  unfold nth
  rw [List.getElem?_eq_getElem (by omega)]
  rfl
theorem get_nth_nat {α : Type} [Inhabited α] {l : List α} {i : Nat} (h : i < l.length) : l[i]? = some (nth l i) := by
  unfold nth
  rw [Int.toNat_natCast, List.getElem?_eq_getElem h]
  rfl
theorem nth_eq {α : Type} [Inhabited α] {l : List α} {i : Nat} {x : α} (h : l[i]? = some x) : nth l i = x := by
  unfold nth
  rw [Int.toNat_natCast, h]; rfl
theorem nth_mem {α : Type} [Inhabited α] {l : List α} {i : Int} (h0 : 0 ≤ i) (h : i < l.length) : nth l i ∈ l := List.mem_of_getElem? (get_nth h0 h)
theorem wpK_loop {b : PC} {T : Tm} {m : Mem} {ks : List Fr} {Q : Ex → St → Prop} (I : Nat → Tm → Mem → Prop) (k : Nat) (h0 : I k T m)
    (step : ∀ k T m, I k T m → wpK prog b T m [] fun e s' => match e with | .normal => ∃ k', k' < k ∧ I k' s'.1 s'.2 | e => popK prog e s' ks Q) : wpK prog (.loop b) T m ks Q := by
  unfold wpK
  show WP prog (.loop b) (T, m) _
  refine WP.loop (fun k s => I k s.1 s.2) k h0 fun k s hI => ?_
  obtain ⟨T1, m1⟩ := s
  have h := step k T1 m1 hI
  unfold wpK at h
  refine wpE_WP (wpE_mono (fun e s' h => ?_) h)
  obtain ⟨T2, m2⟩ := s'
  rw [popK_nil] at h
  cases e with
  | normal => exact h
  | exit id => exact h
  | ret => exact h
theorem wrap_i64 {n : Int} (h0 : -9223372036854775808 ≤ n) (h : n < 9223372036854775808) : IntKind.i64.wrap n = n := by
  have e : IntKind.i64.wrap n = if n % 18446744073709551616 ≥ 9223372036854775808 then n % 18446744073709551616 - 18446744073709551616 else n % 18446744073709551616 := by
    unfold IntKind.wrap
    have e1 : (2 ^ IntKind.i64.bits : Int) = 18446744073709551616 := rfl
    have e2 : (2 ^ (IntKind.i64.bits - 1) : Int) = 9223372036854775808 := rfl
    simp only [e1, e2, show IntKind.i64.signed = true from rfl, Bool.true_and, decide_eq_true_eq]
  rw [e]
  split <;> omega
def Holds : List (Nat × V) → Tm → Prop
  | [], _ => True
  | (a, v) :: S, T => T a = v ∧ Holds S T
theorem holds_nil {T : Tm} : Holds [] T = True := rfl
theorem holds_cons {a : Nat} {v : V} {S : List (Nat × V)} {T : Tm} : Holds ((a, v) :: S) T = (T a = v ∧ Holds S T) := rfl
theorem wpK_range {b0 b1 c k n d : Nat} {B : PC} {T : Tm} {m : Mem} {ks : List Fr} {Q : Ex → St → Prop} (N : Nat) (S : Nat → List (Nat × V)) (M : Nat → Mem) (P : Nat → Prop)
    (hN : N < 2 ^ 63) (hd : d ≠ n ∧ k ≠ n ∧ c ≠ n ∧ c ≠ k) (hn : T n = .int .i64 N) (hk : T k = .int .i64 0) (hS : Holds (S 0) T) (hm : m = M 0) (hP : P 0)
    (body : ∀ i, i < N → P i → ∀ T : Tm, Holds (S i) T → T n = .int .i64 N → T k = .int .i64 i →
      wpK prog B (upd T c (.bool true)) (M i) [.block b1] fun e s => match e with
        | .normal => s.1 n = .int .i64 N ∧ s.1 k = .int .i64 i ∧ Holds (S (i + 1)) (upd (upd s.1 d (.int .i64 ((i + 1 : Nat) : Int))) k (.int .i64 ((i + 1 : Nat) : Int))) ∧ s.2 = M (i + 1) ∧ P (i + 1)
        | e => popK prog e s (.block b0 :: ks) Q)
    (done : P N → ∀ T : Tm, Holds (S N) T → T n = .int .i64 N → T k = .int .i64 N → popK prog .normal (upd T c (.bool false), M N) ks Q) :
    wpK prog (.loop (.seq (.region false [⟨some c, .bin .lss (.t k) (.t n), none, 0, 0⟩]) (.seq (.cond (.t c) .skip (.exit b0)) (.seq (.block b1 B)
      (.region false [⟨some d, .bin .add (.t k) (.c (.int .i64 1)), none, 0, 0⟩, ⟨some k, .mv (.t d), none, 0, 0⟩]))))) T m (.block b0 :: ks) Q := by
  refine wpK_loop (fun q T m => ∃ i, q = N - i ∧ i ≤ N ∧ P i ∧ m = M i ∧ Holds (S i) T ∧ T n = .int .i64 N ∧ T k = .int .i64 i) N ⟨0, rfl, Nat.zero_le _, hP, hm, hS, hn, hk⟩ ?_
  rintro q T m ⟨i, rfl, hi, hP, rfl, hS, hn, hk⟩
  simp only [wpK_seq, wpK_text, opsK_cons (show (ROp.bin .lss (.t k) (.t n)).pending = false from rfl), stepOp, Opd.get, hn, hk, bin_rules, Option.bind_some, stepK_some, opsK_nil, updO_some, regK_some, popK_code, wpK_cond, upd_apply, if_true]
  refine condK_split (fun hc => ?_) (fun hc => ?_)
  · simp only [decide_eq_true_eq] at hc
    have hlt : i < N := by omega
    rw [wpK_skip, popK_code, wpK_seq, wpK_block]
    have hb := body i hlt hP T hS hn hk
    rw [show decide ((i : Int) < (N : Int)) = true from decide_eq_true (by omega)]
    unfold wpK at hb ⊢
    refine wpE_mono (fun e s h => ?_) hb
    obtain ⟨T2, m2⟩ := s
    cases e with
    | normal =>
      rw [popK_block, popK_nil] at h
      obtain ⟨g1, g2, g3, g4, g5⟩ := h
      dsimp only at g1 g2 g3 g4; subst g4
      have hw : IntKind.i64.wrap ((i : Int) + 1) = ((i + 1 : Nat) : Int) := by
        rw [wrap_i64 (by omega) (by omega)]; omega
      rw [popK_block, popK_code]
      simp only [wpK_text, opsK_cons (show (ROp.bin .add (.t k) (.c (.int .i64 1))).pending = false from rfl), opsK_cons (show (ROp.mv (.t d)).pending = false from rfl), stepOp, Opd.get, g2, bin_rules, hw, Option.bind_some, stepK_some, opsK_nil, updO_some, regK_some, popK_nil, upd_apply, if_true]
      refine ⟨N - (i + 1), by omega, i + 1, rfl, by omega, g5, rfl, g3, ?_, rfl⟩
      simp only [if_neg hd.1.symm, if_neg hd.2.1.symm]
      exact g1
    | exit id =>
      rw [popK_block_exit] at h ⊢
      by_cases hid : id = b1
      · rw [if_pos hid] at h ⊢
        rw [popK_nil] at h
        obtain ⟨g1, g2, g3, g4, g5⟩ := h
        dsimp only at g1 g2 g3 g4; subst g4
        have hw : IntKind.i64.wrap ((i : Int) + 1) = ((i + 1 : Nat) : Int) := by
          rw [wrap_i64 (by omega) (by omega)]; omega
        rw [popK_code]
        simp only [wpK_text, opsK_cons (show (ROp.bin .add (.t k) (.c (.int .i64 1))).pending = false from rfl), opsK_cons (show (ROp.mv (.t d)).pending = false from rfl), stepOp, Opd.get, g2, bin_rules, hw, Option.bind_some, stepK_some, opsK_nil, updO_some, regK_some, popK_nil, upd_apply, if_true]
        refine ⟨N - (i + 1), by omega, i + 1, rfl, by omega, g5, rfl, g3, ?_, rfl⟩
        simp only [if_neg hd.1.symm, if_neg hd.2.1.symm]
        exact g1
      · rw [if_neg hid] at h ⊢
        rw [popK_nil] at h
        rw [popK_exit, popK_nil]
        exact h
    | ret =>
      rw [popK_block_ret, popK_nil] at h
      rw [popK_block_ret, popK_ret, popK_nil]
      exact h
  · simp only [decide_eq_false_iff_not] at hc
    have : i = N := by omega
    subst this
    have hd' := done hP T hS hn hk
    rw [wpK_exit, popK_exit, popK_nil]
    simp only [popK_block_exit, if_true]
    rw [show decide ((i : Int) < (i : Int)) = false from decide_eq_false (by omega)]
    exact hd'
theorem wpK_rangeI {b0 b1 c k n d : Nat} {B : PC} {T : Tm} {m : Mem} {ks : List Fr} {Q : Ex → St → Prop} (N : Nat) (I : Nat → Tm → Mem → Prop)
    (hN : N < 2 ^ 63) (hd : d ≠ n ∧ k ≠ n ∧ c ≠ n ∧ c ≠ k) (hn : T n = .int .i64 N) (hk : T k = .int .i64 0) (h0 : I 0 T m)
    (body : ∀ i, i < N → ∀ (T : Tm) m, I i T m → T n = .int .i64 N → T k = .int .i64 i →
      wpK prog B (upd T c (.bool true)) m [.block b1] fun e s => match e with
        | .normal => s.1 n = .int .i64 N ∧ s.1 k = .int .i64 i ∧ I (i + 1) (upd (upd s.1 d (.int .i64 ((i + 1 : Nat) : Int))) k (.int .i64 ((i + 1 : Nat) : Int))) s.2
        | e => popK prog e s (.block b0 :: ks) Q)
    (done : ∀ (T : Tm) m, I N T m → T n = .int .i64 N → T k = .int .i64 N → popK prog .normal (upd T c (.bool false), m) ks Q) :
    wpK prog (.loop (.seq (.region false [⟨some c, .bin .lss (.t k) (.t n), none, 0, 0⟩]) (.seq (.cond (.t c) .skip (.exit b0)) (.seq (.block b1 B)
      (.region false [⟨some d, .bin .add (.t k) (.c (.int .i64 1)), none, 0, 0⟩, ⟨some k, .mv (.t d), none, 0, 0⟩]))))) T m (.block b0 :: ks) Q := by
  refine wpK_loop (fun q T m => ∃ i, q = N - i ∧ i ≤ N ∧ I i T m ∧ T n = .int .i64 N ∧ T k = .int .i64 i) N ⟨0, rfl, Nat.zero_le _, h0, hn, hk⟩ ?_
  rintro q T m ⟨i, rfl, hi, hI, hn, hk⟩
  simp only [wpK_seq, wpK_text, opsK_cons (show (ROp.bin .lss (.t k) (.t n)).pending = false from rfl), stepOp, Opd.get, hn, hk, bin_rules, Option.bind_some, stepK_some, opsK_nil, updO_some, regK_some, popK_code, wpK_cond, upd_apply, if_true]
  refine condK_split (fun hc => ?_) (fun hc => ?_)
  · simp only [decide_eq_true_eq] at hc
    have hlt : i < N := by omega
    rw [wpK_skip, popK_code, wpK_seq, wpK_block]
    have hb := body i hlt T m hI hn hk
    rw [show decide ((i : Int) < (N : Int)) = true from decide_eq_true (by omega)]
    unfold wpK at hb ⊢
    refine wpE_mono (fun e s h => ?_) hb
    obtain ⟨T2, m2⟩ := s
    cases e with
    | normal =>
      rw [popK_block, popK_nil] at h
      obtain ⟨g1, g2, g3⟩ := h
      dsimp only at g1 g2 g3
      have hw : IntKind.i64.wrap ((i : Int) + 1) = ((i + 1 : Nat) : Int) := by
        rw [wrap_i64 (by omega) (by omega)]; omega
      rw [popK_block, popK_code]
      simp only [wpK_text, opsK_cons (show (ROp.bin .add (.t k) (.c (.int .i64 1))).pending = false from rfl), opsK_cons (show (ROp.mv (.t d)).pending = false from rfl), stepOp, Opd.get, g2, bin_rules, hw, Option.bind_some, stepK_some, opsK_nil, updO_some, regK_some, popK_nil, upd_apply, if_true]
      refine ⟨N - (i + 1), by omega, i + 1, rfl, by omega, g3, ?_, rfl⟩
      simp only [if_neg hd.1.symm, if_neg hd.2.1.symm]
      exact g1
    | exit id =>
      rw [popK_block_exit] at h ⊢
      by_cases hid : id = b1
      · rw [if_pos hid] at h ⊢
        rw [popK_nil] at h
        obtain ⟨g1, g2, g3⟩ := h
        dsimp only at g1 g2 g3
        have hw : IntKind.i64.wrap ((i : Int) + 1) = ((i + 1 : Nat) : Int) := by
          rw [wrap_i64 (by omega) (by omega)]; omega
        rw [popK_code]
        simp only [wpK_text, opsK_cons (show (ROp.bin .add (.t k) (.c (.int .i64 1))).pending = false from rfl), opsK_cons (show (ROp.mv (.t d)).pending = false from rfl), stepOp, Opd.get, g2, bin_rules, hw, Option.bind_some, stepK_some, opsK_nil, updO_some, regK_some, popK_nil, upd_apply, if_true]
        refine ⟨N - (i + 1), by omega, i + 1, rfl, by omega, g3, ?_, rfl⟩
        simp only [if_neg hd.1.symm, if_neg hd.2.1.symm]
        exact g1
      · rw [if_neg hid] at h ⊢
        rw [popK_nil] at h
        rw [popK_exit, popK_nil]
        exact h
    | ret =>
      rw [popK_block_ret, popK_nil] at h
      rw [popK_block_ret, popK_ret, popK_nil]
      exact h
  · simp only [decide_eq_false_iff_not] at hc
    have : i = N := by omega
    subst this
    have hd' := done T m hI hn hk
    rw [wpK_exit, popK_exit, popK_nil]
    simp only [popK_block_exit, if_true]
    rw [show decide ((i : Int) < (i : Int)) = false from decide_eq_false (by omega)]
    exact hd'
noncomputable def drawK (prog : Nat → Option PF) (rs : List RO) (T : Tm) (m : Mem) (k : Nat) (past : List Mem) (due : List Due) : Option St := evDraw (lim prog) rs [] T m k past due
noncomputable def dueK (prog : Nat → Option PF) (due : List Due) (k : Nat) (m : Mem) : Bool := due.all fun d => decide (d.hi ≤ k) || alike (lim prog) d.T d.op d.v m
noncomputable def pastK (prog : Nat → Option PF) (past : List Mem) (T : Tm) (op : ROp) (v : V) : Bool := past.all fun p => alike (lim prog) T op v p
noncomputable def dstepK (prog : Nat → Option PF) (r : Option (V × Mem)) (ef rd : Bool) (d : Option Nat) (op : ROp) (lo hi : Nat) (rest : List RO) (T : Tm) (m : Mem) (k : Nat) (past : List Mem) (due : List Due) : Option St :=
  match r with
  | none => none
  | some (v, m') =>
    match ef, rd with
    | true, _ => if dueK prog due k m' = true then drawK prog rest (updO T d v) m' (k + 1) (m :: past) due else none
    | false, true => if lo ≤ k ∧ k ≤ hi ∧ pastK prog (past.take (k - lo)) T op v = true then drawK prog rest (updO T d v) m' k past (⟨T, op, v, hi⟩ :: due) else none
    | false, false => drawK prog rest (updO T d v) m' k past due
noncomputable def gdrawK (prog : Nat → Option PF) (g : V) (b : Bool) (d : Option Nat) (op : ROp) (lo hi : Nat) (rest : List RO) (T : Tm) (m : Mem) (k : Nat) (past : List Mem) (due : List Due) : Option St :=
  match wantedG (fun _ => g) (some (0, b)) with
  | none => none
  | some true => drawK prog (⟨d, op, none, lo, hi⟩ :: rest) T m k past due
  | some false => if op.pending then none else drawK prog rest (updO T d (.tup [])) m (if op.effect then k + 1 else k) (if op.effect then m :: past else past) due
section draws
variable {T : Tm} {m m' : Mem} {ks : List Fr} {Q : Ex → St → Prop} {rs rest : List RO} {d : Option Nat} {op : ROp} {lo hi k : Nat} {v : V} {past : List Mem} {due : List Due}
theorem wpK_draw (h : noeff rs = false) : wpK prog (.region true rs) T m ks Q = regK prog (drawK prog rs T m 0 [] []) ks Q := by
  unfold wpK regK drawK
  simp only [wpE, if_true]
  cases evDraw (lim prog) rs [] T m 0 [] [] <;> rfl
theorem drawK_nil : drawK prog [] T m k past due = some (T, m) := rfl
theorem pend_none (hp : op.pending = false) : pendStep [] d op = some [] := by cases op <;> first | (cases d <;> rfl) | cases hp
theorem drawK_cons (hp : op.pending = false) : drawK prog (⟨d, op, none, lo, hi⟩ :: rest) T m k past due = dstepK prog (stepOp (lim prog) T m op) op.effect op.reads d op lo hi rest T m k past due := by
  unfold dstepK
  simp only [drawK, evDraw, wantedG, Option.bind_some, pend_none hp, dueK, pastK]
  cases stepOp (lim prog) T m op with
  | none => rfl
  | some q =>
    obtain ⟨v, m'⟩ := q
    simp only [Option.bind_some]
    cases op.effect <;> cases op.reads <;> simp
theorem drawK_guard {g : Nat} {q : Bool} (hp : op.pending = false) : drawK prog (⟨d, op, some (g, q), lo, hi⟩ :: rest) T m k past due = gdrawK prog (T g) q d op lo hi rest T m k past due := by
  unfold gdrawK
  simp only [drawK, evDraw, wantedG]
  cases T g <;> simp only [Option.bind_none, Option.bind_some]
  case bool b => cases (b == q) <;> simp [hp]
  case tup => simp [hp]
theorem gdrawK_run : gdrawK prog (.bool true) true d op lo hi rest T m k past due = drawK prog (⟨d, op, none, lo, hi⟩ :: rest) T m k past due := rfl
theorem gdrawK_runf : gdrawK prog (.bool false) false d op lo hi rest T m k past due = drawK prog (⟨d, op, none, lo, hi⟩ :: rest) T m k past due := rfl
theorem gdrawK_skip (hp : op.pending = false) : gdrawK prog (.bool false) true d op lo hi rest T m k past due = drawK prog rest (updO T d (.tup [])) m (if op.effect then k + 1 else k) (if op.effect then m :: past else past) due := by
  simp [gdrawK, wantedG, hp]
theorem gdrawK_skipf (hp : op.pending = false) : gdrawK prog (.bool true) false d op lo hi rest T m k past due = drawK prog rest (updO T d (.tup [])) m (if op.effect then k + 1 else k) (if op.effect then m :: past else past) due := by
  simp [gdrawK, wantedG, hp]
theorem gdrawK_skipt {q : Bool} {l : List V} (hp : op.pending = false) : gdrawK prog (.tup l) q d op lo hi rest T m k past due = drawK prog rest (updO T d (.tup [])) m (if op.effect then k + 1 else k) (if op.effect then m :: past else past) due := by
  simp [gdrawK, wantedG, hp]
theorem gdrawK_split {b q : Bool} (h : b = true → regK prog (gdrawK prog (.bool true) q d op lo hi rest T m k past due) ks Q) (h' : b = false → regK prog (gdrawK prog (.bool false) q d op lo hi rest T m k past due) ks Q) : regK prog (gdrawK prog (.bool b) q d op lo hi rest T m k past due) ks Q := by
  cases b
  · exact h' rfl
  · exact h rfl
theorem dstepK_eff {rd : Bool} : dstepK prog (some (v, m')) true rd d op lo hi rest T m k past due = if dueK prog due k m' = true then drawK prog rest (updO T d v) m' (k + 1) (m :: past) due else none := by cases rd <;> rfl
theorem dstepK_read : dstepK prog (some (v, m')) false true d op lo hi rest T m k past due = if lo ≤ k ∧ k ≤ hi ∧ pastK prog (past.take (k - lo)) T op v = true then drawK prog rest (updO T d v) m' k past (⟨T, op, v, hi⟩ :: due) else none := rfl
theorem dstepK_pure : dstepK prog (some (v, m')) false false d op lo hi rest T m k past due = drawK prog rest (updO T d v) m' k past due := rfl
theorem dueK_nil : dueK prog [] k m = true := rfl
theorem dueK_cons {T' : Tm} {op' : ROp} {v' : V} {hi' : Nat} : dueK prog (⟨T', op', v', hi'⟩ :: due) k m = ((decide (hi' ≤ k) || alike (lim prog) T' op' v' m) && dueK prog due k m) := rfl
theorem pastK_nil : pastK prog [] T op v = true := rfl
theorem pastK_cons {p : Mem} : pastK prog (p :: past) T op v = (alike (lim prog) T op v p && pastK prog past T op v) := rfl
end draws
theorem cells_mk (bs : List (Option Blk)) (g id st : Nat) : Mem.cells ⟨bs, g⟩ id st = match bs[id]? with | some (some (.cells s cs)) => if s = st then some cs else none | _ => none := rfl
theorem read_more : (∀ x0 x1 x2 x3 x4 x5, (ROp.mksl x0 x1 x2 x3 x4 x5).reads = false) ∧ (∀ x0 x1, (ROp.alloc x0 x1).reads = false) ∧ (∀ x0 x1 x2, (ROp.store x0 x1 x2).reads = false) ∧ (∀ x0 x1 x2 x3 x4, (ROp.append x0 x1 x2 x3 x4).reads = false) ∧ (∀ x0 x1, (ROp.call x0 x1).reads = false) ∧ (∀ x0 x1, (ROp.callv x0 x1).reads = false) ∧ (∀ x0, (ROp.s2b x0).reads = false) ∧ (∀ x0, (ROp.cvs x0).reads = false) ∧ (∀ x0 x1 x2, (ROp.slstr x0 x1 x2).reads = false) ∧ (∀ x0 x1 x2 x3, (ROp.init x0 x1 x2 x3).reads = false) ∧ (∀ x0 x1 x2, (ROp.copy x0 x1 x2).reads = false) ∧ (∀ x0 x1 x2, (ROp.clear x0 x1 x2).reads = false) ∧ (∀ x0 x1 x2 x3, (ROp.mapupd x0 x1 x2 x3).reads = false) := by
  refine ⟨?_, ?_, ?_, ?_, ?_, ?_, ?_, ?_, ?_, ?_, ?_, ?_, ?_⟩ <;> intros <;> rfl
theorem m0_push (cs : List V) : m0.push cs = ⟨[some (.cells 0 cs)], 1⟩ := rfl
theorem push_mk (bs : List (Option Blk)) (g : Nat) (cs : List V) : Mem.push ⟨bs, g⟩ cs = ⟨bs ++ [some (.cells g cs)], g + 1⟩ := rfl
theorem put_mk (bs : List (Option Blk)) (g id st : Nat) (cs : List V) : Mem.put ⟨bs, g⟩ id st cs = ⟨bs.set id (some (.cells st cs)), g⟩ := rfl
theorem m0_bs : m0.bs = [] := rfl
theorem m0_gen : m0.gen = 0 := rfl
theorem read_rules : (∀ x0, (ROp.mv x0).reads = false) ∧
  (∀ x0 x1 x2, (ROp.pick x0 x1 x2).reads = false) ∧
  (∀ x0 x1, (ROp.build x0 x1).reads = false) ∧
  (∀ x0 x1 x2, (ROp.load x0 x1 x2).reads = true) ∧
  (∀ x0, (ROp.nilc x0).reads = false) ∧
  (∀ x0 x1 x2, (ROp.bin x0 x1 x2).reads = false) ∧
  (∀ x0 x1 x2 x3, (ROp.eqk x0 x1 x2 x3).reads = false) ∧
  (∀ x0 x1 x2 x3, (ROp.eqs x0 x1 x2 x3).reads = false) ∧
  (∀ x0 x1, (ROp.un x0 x1).reads = false) ∧
  (∀ x0 x1, (ROp.cvi x0 x1).reads = false) ∧
  (∀ x0 x1 x2, (ROp.mkfn x0 x1 x2).reads = false) ∧
  (∀ x0 x1, (ROp.faddr x0 x1).reads = false) ∧
  (∀ x0 x1 x2 x3, (ROp.field x0 x1 x2 x3).reads = false) ∧
  (∀ x0 x1 x2, (ROp.ixsl x0 x1 x2).reads = false) ∧
  (∀ x0 x1 x2 x3, (ROp.ixarr x0 x1 x2 x3).reads = false) ∧
  (∀ x0 x1, (ROp.ixstr x0 x1).reads = false) ∧
  (∀ x0 x1 x2 x3 x4, (ROp.ixagg x0 x1 x2 x3 x4).reads = false) ∧
  (∀ x0 x1, (ROp.ext x0 x1).reads = false) ∧
  (∀ x0 x1, (ROp.callp x0 x1).reads = false) ∧
  (∀ x0 x1 x2 x3, (ROp.carry x0 x1 x2 x3).reads = false) ∧
  (∀ x0, (ROp.len x0).reads = false) ∧
  (∀ x0, (ROp.lens x0).reads = false) ∧
  (∀ x0, (ROp.lenc x0).reads = false) ∧
  (∀ x0 x1, (ROp.minmax x0 x1).reads = false) ∧
  (∀ x0 x1, (ROp.box x0 x1).reads = false) ∧
  (∀ x0 x1 x2 x3 x4, (ROp.bslice x0 x1 x2 x3 x4).reads = false) := by
  refine ⟨?_, ?_, ?_, ?_, ?_, ?_, ?_, ?_, ?_, ?_, ?_, ?_, ?_, ?_, ?_, ?_, ?_, ?_, ?_, ?_, ?_, ?_, ?_, ?_, ?_, ?_⟩ <;> intros <;> rfl
def bytesOf (s : ByteArray) : List Int := s.data.toList.map fun b => (b.toNat : Int)
theorem bytesOf_len (s : ByteArray) : (bytesOf s).length = s.size := by unfold bytesOf; rw [List.length_map, Array.length_toList]; rfl
theorem byteCells_eq (s : ByteArray) : byteCells s = (bytesOf s).map fun n => [.int .u8 n] := by
  simp [byteCells, bytesOf, List.map_map, Function.comp_def]
theorem str_at {s : ByteArray} {i : Int} {m : Mem} (h0 : 0 ≤ i) (h : i < s.size) : ((s.data.toList[i.toNat]?).bind fun b => some (V.int .u8 (b.toNat : Int), m)) = some (.int .u8 (nth (bytesOf s) i), m) := by
  have hs : s.size = s.data.toList.length := by rw [Array.length_toList]; rfl
  have hlen : i.toNat < s.data.toList.length := by omega
  unfold nth bytesOf
  rw [List.getElem?_map, List.getElem?_eq_getElem hlen]; rfl
theorem str_at_nat {s : ByteArray} {i : Nat} {m : Mem} (h : i < s.size) : ((s.data.toList[i]?).bind fun b => some (V.int .u8 (b.toNat : Int), m)) = some (.int .u8 (nth (bytesOf s) i), m) := by
  have := str_at (s := s) (i := (i : Int)) (m := m) (by omega) (by omega)
  rwa [Int.toNat_natCast] at this
mutual
theorem V.beq_same : ∀ (a : V), a.beq a = true
  | .undef => rfl
  | .bool b => by simp only [V.beq, beq_self_eq_true]
  | .int k n => by simp only [V.beq, beq_self_eq_true, Bool.and_self]
  | .str s => by
    show (s.data == s.data) = true
    simp only [beq_self_eq_true]
  | .nilp => rfl
  | .ptr a b c => by simp only [V.beq, beq_self_eq_true, Bool.and_self]
  | .iptr a o => by simp only [V.beq, beqL_same a, beq_self_eq_true, Bool.and_self]
  | .sl x a => by simp only [V.beq, beqLL_same a, beq_self_eq_true, Bool.and_self]
  | .msl a b c d e f => by simp only [V.beq, beq_self_eq_true, Bool.and_self]
  | .nilf => rfl
  | .fn p a b => by simp only [V.beq, beqL_same a, beqL_same b, beq_self_eq_true, Bool.and_self]
  | .agg a => by simp only [V.beq, beqL_same a]
  | .tup a => by simp only [V.beq, beqL_same a]
  | .mapr a b => by simp only [V.beq, beq_self_eq_true, Bool.and_self]
theorem beqL_same : ∀ (a : List V), beqL a a = true
  | [] => rfl
  | x :: l => by simp only [beqL, V.beq_same x, beqL_same l, Bool.and_self]
theorem beqLL_same : ∀ (a : List (List V)), beqLL a a = true
  | [] => rfl
  | x :: l => by simp only [beqLL, beqL_same x, beqLL_same l, Bool.and_self]
end
def uand (a b : Int) : Int := IntKind.u64.wrap (BitVec.ofInt 64 a &&& BitVec.ofInt 64 b).toNat
def uor (a b : Int) : Int := IntKind.u64.wrap (BitVec.ofInt 64 a ||| BitVec.ofInt 64 b).toNat
def uxor (a b : Int) : Int := IntKind.u64.wrap (BitVec.ofInt 64 a ^^^ BitVec.ofInt 64 b).toNat
def uandn (a b : Int) : Int := IntKind.u64.wrap (BitVec.ofInt 64 a &&& ~~~(BitVec.ofInt 64 b)).toNat
theorem bin_r (k : IntKind) (a b : Int) :
    binOp .add (.int k a) (.int k b) = some (.int k (k.wrap (a + b))) ∧ binOp .sub (.int k a) (.int k b) = some (.int k (k.wrap (a - b))) ∧ binOp .mul (.int k a) (.int k b) = some (.int k (k.wrap (a * b))) ∧
    binOp .quo (.int k a) (.int k b) = (if b = 0 then none else some (.int k (k.wrap (a.tdiv b)))) ∧ binOp .rem (.int k a) (.int k b) = (if b = 0 then none else some (.int k (a.tmod b))) ∧
    binOp .eql (.int k a) (.int k b) = some (.bool (a == b)) ∧ binOp .neq (.int k a) (.int k b) = some (.bool (!(a == b))) ∧
    binOp .lss (.int k a) (.int k b) = some (.bool (decide (a < b))) ∧ binOp .leq (.int k a) (.int k b) = some (.bool (decide (a ≤ b))) ∧ binOp .gtr (.int k a) (.int k b) = some (.bool (decide (b < a))) ∧ binOp .geq (.int k a) (.int k b) = some (.bool (decide (b ≤ a))) := by
  refine ⟨?_, ?_, ?_, ?_, ?_, ?_, ?_, ?_, ?_, ?_, ?_⟩ <;> first | rfl | (simp [binOp, arith]; done) | (simp [binOp, arith]; rfl)
theorem bin64 (a b : Int) : binOp .and (.int .u64 a) (.int .u64 b) = some (.int .u64 (uand a b)) ∧ binOp .or (.int .u64 a) (.int .u64 b) = some (.int .u64 (uor a b)) ∧
    binOp .xor (.int .u64 a) (.int .u64 b) = some (.int .u64 (uxor a b)) ∧ binOp .andNot (.int .u64 a) (.int .u64 b) = some (.int .u64 (uandn a b)) := ⟨rfl, rfl, rfl, rfl⟩
theorem get_map {α : Type} [Inhabited α] {f : α → List V} {l : List α} {i : Int} (h0 : 0 ≤ i) (h : i < l.length) : (l.map f)[i.toNat]? = some (f (nth l i)) := by
  rw [List.getElem?_map, get_nth h0 h]; rfl
theorem get_map_nat {α : Type} [Inhabited α] {f : α → List V} {l : List α} {i : Nat} (h : i < l.length) : (l.map f)[i]? = some (f (nth l i)) := by
  rw [List.getElem?_map, get_nth_nat h]; rfl
theorem un_neg (k : IntKind) (n : Int) : unOp .neg (.int k n) = some (.int k (k.wrap (0 - n))) := rfl
theorem un_not (b : Bool) : unOp .not (.bool b) = some (.bool !b) := rfl
theorem if_exit {a b : Nat} {x y : Ex} : (if Ex.exit a = Ex.exit b then x else y) = if a = b then x else y := by simp only [Ex.exit.injEq]
theorem norm_r (n : Nat) : (∀ q, norm (n + 1) (.bool q) = some (.bool q)) ∧ (∀ k i, norm (n + 1) (.int k i) = some (.int k i)) ∧ (∀ s, norm (n + 1) (.str s) = some (.str s)) ∧ norm (n + 1) .nilp = some .nilp ∧ norm (n + 1) .nilf = some .nilf ∧
    (∀ a b c, norm (n + 1) (.ptr a b c) = none) ∧ (∀ a b c d e f, norm (n + 1) (.msl a b c d e f) = none) ∧ (∀ a b, norm (n + 1) (.mapr a b) = none) ∧
    (∀ cs off, norm (n + 1) (.iptr cs off) = (allM (norm n) cs).bind fun cs => some (.iptr cs off)) ∧ (∀ f, norm (n + 1) (.sl f []) = some (.sl .any [])) ∧ (∀ f e es, norm (n + 1) (.sl f (e :: es)) = (allM (allM (norm n)) (e :: es)).bind fun es => some (.sl .any es)) ∧
    (∀ p f c, norm (n + 1) (.fn p f c) = (allM (norm n) f).bind fun f => (allM (norm n) c).bind fun c => some (.fn p f c)) ∧ (∀ cs, norm (n + 1) (.agg cs) = (allM (norm n) cs).bind fun cs => some (.agg cs)) ∧ (∀ cs, norm (n + 1) (.tup cs) = (allM (norm n) cs).bind fun cs => some (.tup cs)) := by
  refine ⟨?_, ?_, ?_, ?_, ?_, ?_, ?_, ?_, ?_, ?_, ?_, ?_, ?_, ?_⟩ <;> intros <;> rfl
theorem frz_r (m : Mem) (b : Nat) (n : Nat) : (∀ q, frz m b (n + 1) (.bool q) = some (.bool q)) ∧ (∀ k i, frz m b (n + 1) (.int k i) = some (.int k i)) ∧ (∀ s, frz m b (n + 1) (.str s) = some (.str s)) ∧ frz m b (n + 1) .nilp = some .nilp ∧ frz m b (n + 1) .nilf = some .nilf ∧
    (∀ cs off, frz m b (n + 1) (.iptr cs off) = (allM (frz m b n) cs).bind fun cs => some (.iptr cs off)) ∧ (∀ f, frz m b (n + 1) (.sl f []) = some (.sl .any [])) ∧ (∀ f e es, frz m b (n + 1) (.sl f (e :: es)) = (allM (allM (frz m b n)) (e :: es)).bind fun es => some (.sl .any es)) ∧
    (∀ id st off, frz m b (n + 1) (.ptr id st off) = if id < b then some (.ptr id st off) else (m.cells id st).bind fun cs => (allM (frz m b n) cs).bind fun cs => some (.iptr cs off)) ∧
    (∀ p f c, frz m b (n + 1) (.fn p f c) = (allM (frz m b n) f).bind fun f => (allM (frz m b n) c).bind fun c => some (.fn p f c)) ∧ (∀ cs, frz m b (n + 1) (.agg cs) = (allM (frz m b n) cs).bind fun cs => some (.agg cs)) ∧ (∀ cs, frz m b (n + 1) (.tup cs) = (allM (frz m b n) cs).bind fun cs => some (.tup cs)) := by
  refine ⟨?_, ?_, ?_, ?_, ?_, ?_, ?_, ?_, ?_, ?_, ?_, ?_⟩ <;> intros <;> rfl
def accV (b g sz : Nat) (rows : List (List V)) : V := match rows with | [] => .sl .nil [] | _ :: _ => .msl b (g + rows.length - 1) sz 0 rows.length false
def accM (bs : List (Option Blk)) (g : Nat) (rows : List (List V)) : Mem := match rows with | [] => ⟨bs, g⟩ | _ :: _ => ⟨bs ++ [some (.cells (g + rows.length - 1) rows.flatten)], g + rows.length⟩
theorem flat_len {sz : Nat} : ∀ {rows : List (List V)}, (∀ r ∈ rows, r.length = sz) → rows.flatten.length = rows.length * sz
  | [], _ => by simp
  | r :: rows, h => by
    rw [List.flatten_cons, List.length_append, h r (List.mem_cons_self ..), flat_len fun r hr => h r (List.mem_cons_of_mem _ hr), List.length_cons, Nat.succ_mul, Nat.add_comm]
theorem chunks_flat {sz : Nat} : ∀ {rows : List (List V)}, (∀ r ∈ rows, r.length = sz) → chunks sz rows.length rows.flatten = rows
  | [], _ => rfl
  | r :: rows, h => by
    have hr := h r (List.mem_cons_self ..)
    rw [List.flatten_cons, List.length_cons, chunks, ← hr, List.take_left, List.drop_left, hr, chunks_flat fun r hr => h r (List.mem_cons_of_mem _ hr)]
theorem acc_append {bs : List (Option Blk)} {g sz bytes : Nat} {rows : List (List V)} {e : List V} (he : e.length = sz) (hr : ∀ r ∈ rows, r.length = sz) (hb : (rows.length + 1) * bytes ≤ wide) (h0 : 0 < bytes) :
    appendV (accM bs g rows) false sz bytes (accV bs.length g sz rows) (.sl .exnn [e]) = some (accV bs.length g sz (rows ++ [e]), accM bs g (rows ++ [e])) := by
  have hfit : fitSz sz [e] = true := by simp [fitSz, he]
  have hn0 : fitSz sz [] = true := rfl
  cases rows with
  | nil =>
    simp only [List.length_nil, Nat.zero_add] at hb
    simp only [appendV, elemsOf, Option.bind_some, hfit, if_true, accV, accM, List.nil_append, List.length_cons, List.length_nil, Nat.zero_add, if_false, SF.exact, hn0, Bool.false_eq_true,
      Mem.push, List.flatten_cons, List.flatten_nil, List.append_nil, h0, and_self, and_true, hb, Nat.add_sub_cancel, Nat.one_ne_zero]
  | cons r rows =>
    have hl := flat_len hr
    simp only [appendV, elemsOf, Option.bind_some, hfit, if_true, accV, accM, Mem.cells, List.getElem?_append_right (Nat.le_refl _), Nat.sub_self, List.getElem?_cons_zero, List.length_cons, List.length_nil, Nat.zero_add, Nat.one_ne_zero, if_false]
    simp only [List.length_cons] at hl hb
    rw [if_pos ⟨hb, h0⟩, if_pos ⟨trivial, hl.symm⟩]
    simp only [List.cons_append, List.length_cons, List.length_append, List.length_nil, Nat.zero_add, List.set_append_right _ _ (Nat.le_refl _), Nat.sub_self, List.set_cons_zero, List.flatten_cons, List.flatten_append, List.flatten_nil, List.append_nil, List.append_assoc]
    congr 1
theorem acc_map {α : Type} {f : α → List V} {bs : List (Option Blk)} {g sz bytes : Nat} {l : List α} (x : α) (hf : ∀ a, (f a).length = sz) (hb : (l.length + 1) * bytes ≤ wide) (h0 : 0 < bytes) :
    appendV (accM bs g (l.map f)) false sz bytes (accV bs.length g sz (l.map f)) (.sl .exnn [f x]) = some (accV bs.length g sz ((l ++ [x]).map f), accM bs g ((l ++ [x]).map f)) := by
  rw [acc_append (hf x) (fun r hr => by obtain ⟨a, _, rfl⟩ := List.mem_map.1 hr; exact hf a) (by rw [List.length_map]; exact hb) h0, List.map_append]
  rfl
theorem frz_acc {α : Type} {f : α → List V} {bs : List (Option Blk)} {g sz n b : Nat} {l : List α} (hf : ∀ a, (f a).length = sz) (hb : b ≤ bs.length) (hz : ∀ a, allM (frz (accM bs g (l.map f)) b n) (f a) = some (f a)) :
    frz (accM bs g (l.map f)) b (n + 1) (accV bs.length g sz (l.map f)) = some (.sl .any (l.map f)) := by
  cases l with
  | nil => rfl
  | cons a l =>
    have hr : ∀ r ∈ (a :: l).map f, r.length = sz := fun r hr => by obtain ⟨a, _, rfl⟩ := List.mem_map.1 hr; exact hf a
    have hl := flat_len hr
    have hm := allM_map (g := allM (frz (accM bs g ((a :: l).map f)) b n)) (f := f) (l := a :: l) hz
    simp only [accV, List.map_cons]
    simp only [frz]
    rw [if_neg (by omega)]
    have hc : Mem.cells (accM bs g (f a :: l.map f)) bs.length (g + (f a :: l.map f).length - 1) = some ((f a :: l.map f).flatten) := by
      simp only [accM, Mem.cells, List.getElem?_append_right (Nat.le_refl _), Nat.sub_self, List.getElem?_cons_zero, if_true]
    simp only [List.map_cons] at hl hm hr
    have hch := chunks_flat hr
    rw [hc]
    simp only [Option.bind_some, Nat.zero_add, hl, Nat.le_refl, if_true, List.drop_zero]
    rw [hch, hm]
    rfl
theorem accV_nil (b g sz : Nat) : accV b g sz [] = .sl .nil [] := rfl
theorem flat_at {sz : Nat} {rows : List (List V)} {i : Nat} {r : List V} (hr : ∀ r ∈ rows, r.length = sz) (h : rows[i]? = some r) : (rows.flatten.drop (i * sz)).take sz = r := by
  induction rows generalizing i with
  | nil => simp at h
  | cons a rows ih =>
    have ha := hr a (List.mem_cons_self ..)
    cases i with
    | zero => simp only [List.getElem?_cons_zero, Option.some.injEq] at h; subst h; rw [Nat.zero_mul, List.drop_zero, List.flatten_cons, ← ha, List.take_left]
    | succ i =>
      simp only [List.getElem?_cons_succ] at h
      rw [Nat.succ_mul, Nat.add_comm, List.flatten_cons, List.drop_append, ha, List.drop_eq_nil_of_le (by omega), List.nil_append, Nat.add_sub_cancel_left]
      exact ih (fun r h => hr r (List.mem_cons_of_mem _ h)) h
theorem flat_set {sz : Nat} {rows : List (List V)} {i : Nat} {r : List V} (hr : ∀ r ∈ rows, r.length = sz) (h : i < rows.length) (he : r.length = sz) : splice rows.flatten (i * sz) r = (rows.set i r).flatten := by
  induction rows generalizing i with
  | nil => simp at h
  | cons a rows ih =>
    have ha := hr a (List.mem_cons_self ..)
    cases i with
    | zero => simp only [splice, Nat.zero_mul, List.take_zero, List.nil_append, Nat.zero_add, List.flatten_cons, List.set_cons_zero, he, ← ha, List.drop_left]
    | succ i =>
      have := ih (i := i) (fun r h => hr r (List.mem_cons_of_mem _ h)) (by simp only [List.length_cons] at h; omega)
      simp only [splice, List.flatten_cons, List.set_cons_succ] at this ⊢
      rw [← this, Nat.succ_mul, Nat.add_comm (i * sz) sz, List.take_append, List.drop_append, ha, List.take_of_length_le (by omega), List.drop_eq_nil_of_le (by omega), Nat.add_sub_cancel_left, List.nil_append, List.append_assoc]
      congr 4
      omega
theorem eqK_rows {fl : SF} {es : List (List V)} (h : es ≠ []) : eqK .slice (.sl fl es) (.sl .nil []) = some false := by
  cases es with
  | nil => exact (h rfl).elim
  | cons e es => rfl
theorem append_rows {sz bytes : Nat} {es : List (List V)} {fl : SF} {m : Mem} (hf : fitSz sz es = true) (hne : es ≠ []) (hb : es.length * bytes ≤ wide) (h0 : 0 < bytes) :
    appendV m false sz bytes (.sl .exnn []) (.sl fl es) = some (.msl m.bs.length m.gen sz 0 es.length false, m.push es.flatten) := by
  have hl : es.length ≠ 0 := fun h => hne (List.length_eq_zero_iff.1 h)
  have h2 : fitSz sz [] = true := rfl
  simp only [appendV, elemsOf, Option.bind_some, hf, if_true, hl, if_false, SF.exact, h2, List.length_nil, Nat.zero_add, hb, h0, and_self, List.nil_append, Bool.false_eq_true]
theorem append_none {imm : Bool} {sz bytes : Nat} {fl gl : SF} {m : Mem} {es : List (List V)} : appendV m imm sz bytes (.sl gl es) (.sl fl []) = some (.sl gl es, m) := by
  simp [appendV, elemsOf, fitSz]
theorem frz_rows {α : Type} {f : α → List V} {l : List α} {m : Mem} {id st sz n b : Nat} {ex : Bool} (hc : m.cells id st = some (l.map f).flatten) (hb : b ≤ id) (hf : ∀ a, (f a).length = sz) (hz : ∀ a, allM (frz m b n) (f a) = some (f a)) :
    frz m b (n + 1) (.msl id st sz 0 l.length ex) = some (.sl .any (l.map f)) := by
  have hr : ∀ r ∈ l.map f, r.length = sz := fun r hr => by obtain ⟨a, _, rfl⟩ := List.mem_map.1 hr; exact hf a
  have hl := flat_len hr
  have hch := chunks_flat hr
  rw [List.length_map] at hl hch
  simp only [frz]
  rw [if_neg (by omega), hc]
  simp only [Option.bind_some, Nat.zero_add, hl, Nat.le_refl, if_true, List.drop_zero]
  rw [hch, allM_map hz]
  rfl
theorem eqk_r : (∀ a b : Bool, eqK .bool (.bool a) (.bool b) = some (a == b)) ∧ eqK .ptr .nilp .nilp = some true ∧ (∀ a b, eqK .ptr (.iptr a b) .nilp = some false) ∧ (∀ a b c, eqK .ptr (.ptr a b c) .nilp = some false) ∧ eqK .fn .nilf .nilf = some true ∧
    (∀ a b c, eqK .fn (.fn a b c) .nilf = some false) ∧ (∀ a b c d e f, eqK .slice (.msl a b c d e f) (.sl .nil []) = some false) ∧ (∀ f, eqK .slice (.sl f []) (.sl .nil []) = f.isNil) ∧ (∀ f e es, eqK .slice (.sl f (e :: es)) (.sl .nil []) = some false) := by
  refine ⟨?_, ?_, ?_, ?_, ?_, ?_, ?_, ?_, ?_⟩ <;> intros <;> rfl
theorem splice_map {α : Type} {f : α → List V} {l : List α} {i : Nat} {sz : Nat} (x : α) (hf : ∀ a, (f a).length = sz) (h : i < l.length) : splice (l.map f).flatten (i * sz) (f x) = ((l.set i x).map f).flatten := by
  have hr : ∀ r ∈ l.map f, r.length = sz := fun r hr => by obtain ⟨a, _, rfl⟩ := List.mem_map.1 hr; exact hf a
  rw [flat_set hr (by rw [List.length_map]; exact h) (hf x), List.map_set]
theorem flat_map_len {α : Type} {f : α → List V} {l : List α} {sz : Nat} (hf : ∀ a, (f a).length = sz) : (l.map f).flatten.length = l.length * sz := by
  have hr : ∀ r ∈ l.map f, r.length = sz := fun r hr => by obtain ⟨a, _, rfl⟩ := List.mem_map.1 hr; exact hf a
  rw [flat_len hr, List.length_map]
theorem flat_map_at {α : Type} [Inhabited α] {f : α → List V} {l : List α} {i : Nat} {sz : Nat} (hf : ∀ a, (f a).length = sz) (h : i < l.length) : ((l.map f).flatten.drop (i * sz)).take sz = f (nth l i) := by
  have hr : ∀ r ∈ l.map f, r.length = sz := fun r hr => by obtain ⟨a, _, rfl⟩ := List.mem_map.1 hr; exact hf a
  exact flat_at hr (get_map_nat h)
theorem splice_nil {cs : List V} : splice cs 0 [] = cs := by simp [splice]
theorem splice_zero {c n : V} {cs ns : List V} : splice (c :: cs) 0 (n :: ns) = n :: splice cs 0 ns := by simp [splice]
theorem splice_succ {c : V} {cs ns : List V} {k : Nat} : splice (c :: cs) (k + 1) ns = c :: splice cs k ns := by
  simp only [splice, List.take_succ_cons, List.cons_append]
  rw [show k + 1 + ns.length = (k + ns.length) + 1 by omega, List.drop_succ_cons]
section pend1
variable {T : Tm} {m : Mem} {rest : List RO} {d : Option Nat} {op : ROp} {lo hi t sz : Nat}
theorem opsK_pend1 : opsK prog (⟨some t, .pend sz, none, lo, hi⟩ :: rest) [] T m = opsK prog rest [(t, sz)] (upd T t .undef) m := rfl
theorem opsK_cons1 {d : Nat} (hp : op.pending = false) (hd : (t == d) = false) : opsK prog (⟨some d, op, none, lo, hi⟩ :: rest) [(t, sz)] T m = stepK prog (stepOp (lim prog) T m op) (some d) rest [(t, sz)] T := by
  unfold opsK stepK
  simp only [evOps, wantedG, Option.bind_some]
  have : pendStep [(t, sz)] (some d) op = some [(t, sz)] := by
    have hf : List.filter (fun p : Nat × Nat => p.1 != d) [(t, sz)] = [(t, sz)] := by simp only [List.filter, bne, hd, Bool.not_false]
    cases op <;> first | exact congrArg some hf | cases hp
  rw [this]
  simp only [Option.bind_some]
  cases stepOp (lim prog) T m op <;> rfl
theorem opsK_init1 {imm : Bool} {x : Opd} : opsK prog (⟨some t, .init imm sz t x, none, lo, hi⟩ :: rest) [(t, sz)] T m = stepK prog (stepOp (lim prog) T m (.init imm sz t x)) (some t) rest [] T := by
  unfold opsK stepK
  simp only [evOps, wantedG, Option.bind_some, pendStep, List.contains_cons, beq_self_eq_true, Bool.true_or, Bool.and_self, if_true, List.filter, bne_self_eq_false]
  cases stepOp (lim prog) T m (.init imm sz t x) <;> rfl
end pend1
theorem int_same (a : Int) : (a == a) = true := by simp
theorem bytes_same (a : ByteArray) : (a.toList == a.toList) = true := by simp
theorem bool_same (a : Bool) : (a == a) = true := by simp
end Go.Rx
