/-
A part of the proof: lemmas on the machine that the printed functions run on, or contracts of functions.
-/
import Derived.Test.YtfnioapgelabfaaGreatDoorRxMach
set_option linter.unusedVariables false
set_option linter.unusedSimpArgs false
namespace Go.Rx
def Ev (p : Nat → Prop) : Prop := ∃ N, ∀ n, N ≤ n → p n
theorem Ev.all {p : Nat → Prop} (h : ∀ n, p n) : Ev p := ⟨0, fun n _ => h n⟩
theorem Ev.and {p q : Nat → Prop} (h : Ev p) (k : Ev q) : Ev fun n => p n ∧ q n := by
  obtain ⟨N, h⟩ := h
  obtain ⟨M, k⟩ := k
  exact ⟨N + M, fun n hn => ⟨h n (by omega), k n (by omega)⟩⟩
theorem Ev.mono {p q : Nat → Prop} (h : Ev p) (k : ∀ n, p n → q n) : Ev q := by
  obtain ⟨N, h⟩ := h
  exact ⟨N, fun n hn => k n (h n hn)⟩
theorem Ev.mono2 {p q r : Nat → Prop} (h : Ev p) (h' : Ev q) (k : ∀ n, p n → q n → r n) : Ev r := (h.and h').mono fun n ⟨a, b⟩ => k n a b
theorem Ev.ge (k : Nat) : Ev fun n => k ≤ n := ⟨k, fun _ h => h⟩
theorem Ev.succ {p : Nat → Prop} (h : Ev fun n => p (n + 1)) : Ev p := by
  obtain ⟨N, h⟩ := h
  refine ⟨N + 1, fun n hn => ?_⟩
  have := h (n - 1) (by omega)
  simp only at this
  rwa [Nat.sub_add_cancel (by omega)] at this
theorem Ev.list {α : Type} {p : α → Nat → Prop} : ∀ {l : List α}, (∀ x ∈ l, Ev (p x)) → Ev fun n => ∀ x ∈ l, p x n
  | [], _ => .all fun n x h => by simp at h
  | x :: l, h => (h x (List.mem_cons_self ..)).mono2 (Ev.list fun y hy => h y (List.mem_cons_of_mem _ hy)) fun n a b y hy => by
    rcases List.mem_cons.1 hy with rfl | hy
    · exact a
    · exact b y hy
section
variable (prog : Nat → Option PF)
def Run (pid : Nat) (args : List V) (m : Mem) (r : V × Mem) : Prop := Ev fun n => callN prog n pid args m = some r
theorem Run.uniq {pid : Nat} {args : List V} {m : Mem} {r r' : V × Mem} (h : Run prog pid args m r) (h' : Run prog pid args m r') : r = r' := by
  obtain ⟨N, h⟩ := h.and h'
  obtain ⟨a, b⟩ := h N (Nat.le_refl _)
  rw [a] at b; exact Option.some.inj b
open Classical in
noncomputable def lim : CallF := fun pid args m => if h : ∃ r, Run prog pid args m r then some h.choose else none
theorem lim_run {pid : Nat} {args : List V} {m : Mem} {r : V × Mem} : lim prog pid args m = some r ↔ Run prog pid args m r := by
  unfold lim
  constructor
  · intro h
    split at h
    · rename_i hx
      cases h
      exact hx.choose_spec
    · cases h
  · intro h
    have hx : ∃ r, Run prog pid args m r := ⟨r, h⟩
    rw [dif_pos hx]
    exact congrArg some (hx.choose_spec.uniq prog h)
def ROp.isCall : ROp → Bool
  | .call .. | .callp .. | .callv .. => true
  | _ => false
theorem step_nocall {c c' : CallF} {T : Tm} {m : Mem} {op : ROp} (h : op.isCall = false) : stepOp c T m op = stepOp c' T m op := by
  cases op <;> first | rfl | cases h
theorem step_lim {T : Tm} {m : Mem} {op : ROp} {r : V × Mem} (h : stepOp (lim prog) T m op = some r) : Ev fun n => stepOp (callN prog n) T m op = some r := by
  cases hc : op.isCall with
  | false => exact .all fun n => by rw [step_nocall (c' := lim prog) hc]; exact h
  | true =>
    cases op <;> simp only [ROp.isCall, Bool.false_eq_true] at hc
    case call pid args =>
      simp only [stepOp] at h ⊢
      exact (lim_run prog).1 h
    case callv f args =>
      simp only [stepOp] at h ⊢
      split at h
      · exact (lim_run prog).1 h
      · cases h
    case callp pid args =>
      simp only [stepOp] at h ⊢
      cases hn : allM (norm depth) (args.map (·.get T)) with
      | none => simp [hn] at h
      | some as =>
        cases hl : lim prog pid as m0 with
        | none => simp [hn, hl] at h
        | some q =>
          simp only [hn, hl, Option.bind_some] at h
          refine ((lim_run prog).1 hl).mono fun n hn' => ?_
          simp only [Option.bind_some, hn']
          exact h
theorem ops_lim : ∀ {rs : List RO} {pd : Pend} {T : Tm} {m : Mem} {r : Tm × Mem}, evOps (lim prog) rs pd T m = some r → Ev fun n => evOps (callN prog n) rs pd T m = some r
  | [], _, _, _, _, h => .all fun n => h
  | o :: rest, pd, T, m, r, h => by
    simp only [evOps] at h ⊢
    cases hb : wantedG T o.guard with
    | none => simp [hb] at h
    | some b =>
      simp only [hb, Option.bind_some] at h ⊢
      cases b with
      | true =>
        cases hp : pendStep pd o.dst o.op with
        | none => simp [hp] at h
        | some pd' =>
          cases hs : stepOp (lim prog) T m o.op with
          | none => simp [hp, hs] at h
          | some q =>
            simp only [hp, hs, Option.bind_some] at h ⊢
            exact (step_lim prog hs).mono2 (ops_lim h) fun n a b => by simp only [a, Option.bind_some]; exact b
      | false =>
        simp only at h ⊢
        split at h
        · cases h
        · rename_i hn
          simp only [hn]
          exact ops_lim h
theorem alike_lim {T : Tm} {op : ROp} {v : V} {m : Mem} (h : alike (lim prog) T op v m = true) : Ev fun n => alike (callN prog n) T op v m = true := by
  unfold alike at h ⊢
  split at h
  · rename_i u m' hs
    exact (step_lim prog hs).mono fun n a => by simp only [a]; exact h
  · cases h
theorem draw_lim : ∀ {rs : List RO} {pd : Pend} {T : Tm} {m : Mem} {k : Nat} {past : List Mem} {due : List Due} {r : Tm × Mem}, evDraw (lim prog) rs pd T m k past due = some r → Ev fun n => evDraw (callN prog n) rs pd T m k past due = some r
  | [], _, _, _, _, _, _, _, h => .all fun n => h
  | o :: rest, pd, T, m, k, past, due, r, h => by
    simp only [evDraw] at h ⊢
    cases hb : wantedG T o.guard with
    | none => simp [hb] at h
    | some b =>
      simp only [hb, Option.bind_some] at h ⊢
      cases b with
      | true =>
        cases hp : pendStep pd o.dst o.op with
        | none => simp [hp] at h
        | some pd' =>
          cases hs : stepOp (lim prog) T m o.op with
          | none => simp [hp, hs] at h
          | some q =>
            obtain ⟨v, m'⟩ := q
            simp only [hp, hs, Option.bind_some] at h ⊢
            split at h
            · rename_i he
              simp only [he, if_true]
              split at h
              · rename_i hd
                simp only [List.all_eq_true, Bool.or_eq_true, decide_eq_true_eq] at hd
                have hd' : Ev fun n => ∀ d ∈ due, d.hi ≤ k ∨ alike (callN prog n) d.T d.op d.v m' = true := Ev.list fun d hdm => by
                  rcases hd d hdm with h | h
                  · exact .all fun n => .inl h
                  · exact (alike_lim prog h).mono fun n a => .inr a
                refine ((step_lim prog hs).and hd').mono2 (draw_lim h) fun n a b => ?_
                simp only [a.1, Option.bind_some]
                rw [if_pos (by simp only [List.all_eq_true, Bool.or_eq_true, decide_eq_true_eq]; exact a.2)]
                exact b
              · cases h
            · rename_i he
              simp only [he]
              split at h
              · rename_i hr
                simp only [hr, if_true]
                split at h
                · rename_i hd
                  obtain ⟨h1, h2, h3⟩ := hd
                  simp only [List.all_eq_true] at h3
                  have hd' : Ev fun n => ∀ p ∈ past.take (k - o.lo), alike (callN prog n) T o.op v p = true := Ev.list fun p hp => alike_lim prog (h3 p hp)
                  refine ((step_lim prog hs).and hd').mono2 (draw_lim h) fun n a b => ?_
                  simp only [a.1, Option.bind_some, Bool.false_eq_true, if_false]
                  rw [if_pos ⟨h1, h2, by simp only [List.all_eq_true]; exact a.2⟩]
                  exact b
                · cases h
              · rename_i hr
                simp only [hr]
                refine (step_lim prog hs).mono2 (draw_lim h) fun n a b => ?_
                simp only [a, Option.bind_some, Bool.false_eq_true, if_false]
                exact b
      | false =>
        simp only at h ⊢
        split at h
        · cases h
        · rename_i hn
          simp only [hn]
          exact draw_lim h
def WP (pc : PC) (s : St) (Q : Ex → St → Prop) : Prop := ∃ e s', Q e s' ∧ Ev fun n => evC (callN prog n) n pc s = some (e, s')
variable {prog} {Q : Ex → St → Prop} {s : St}
theorem WP.mono {pc : PC} {Q' : Ex → St → Prop} (h : WP prog pc s Q) (k : ∀ e s', Q e s' → Q' e s') : WP prog pc s Q' := by
  obtain ⟨e, s', h1, h2⟩ := h
  exact ⟨e, s', k e s' h1, h2⟩
theorem WP.skip (h : Q .normal s) : WP prog .skip s Q := ⟨_, _, h, .all fun n => rfl⟩
theorem WP.label (h : Q .normal s) : WP prog .label s Q := ⟨_, _, h, .all fun n => rfl⟩
theorem WP.exit {id : Nat} (h : Q (.exit id) s) : WP prog (.exit id) s Q := ⟨_, _, h, .all fun n => rfl⟩
theorem WP.ret (h : Q .ret s) : WP prog .ret s Q := ⟨_, _, h, .all fun n => rfl⟩
theorem WP.scope {b : PC} (h : WP prog b s Q) : WP prog (.scope b) s Q := h
theorem WP.text {rs : List RO} {s' : St} (h : evOps (lim prog) rs [] s.1 s.2 = some s') (k : Q .normal s') : WP prog (.region false rs) s Q := by
  obtain ⟨T, m⟩ := s
  refine ⟨_, _, k, (ops_lim prog h).mono fun n a => ?_⟩
  simp only [evC, Bool.false_eq_true, if_false, a, Option.bind_some]
theorem WP.draw {rs : List RO} {s' : St} (h : evDraw (lim prog) rs [] s.1 s.2 0 [] [] = some s') (k : Q .normal s') : WP prog (.region true rs) s Q := by
  obtain ⟨T, m⟩ := s
  refine ⟨_, _, k, (draw_lim prog h).mono fun n a => ?_⟩
  simp only [evC, if_true, a, Option.bind_some]
theorem WP.seq {a b : PC} (h : WP prog a s fun e s' => match e with | .normal => WP prog b s' Q | e => Q e s') : WP prog (.seq a b) s Q := by
  obtain ⟨e, s', h1, h2⟩ := h
  cases e with
  | normal =>
    obtain ⟨e2, s2, h3, h4⟩ := h1
    exact ⟨e2, s2, h3, h2.mono2 h4 fun n x y => by simp only [evC, x, Option.bind_some]; exact y⟩
  | exit id => exact ⟨_, _, h1, h2.mono fun n x => by simp only [evC, x, Option.bind_some]⟩
  | ret => exact ⟨_, _, h1, h2.mono fun n x => by simp only [evC, x, Option.bind_some]⟩
theorem WP.cond {c : Opd} {a b : PC} {q : Bool} (hc : c.get s.1 = .bool q) (h : if q = true then WP prog a s Q else WP prog b s Q) : WP prog (.cond c a b) s Q := by
  cases q with
  | true =>
    simp only [if_true] at h
    obtain ⟨e, s', h1, h2⟩ := h
    exact ⟨e, s', h1, h2.mono fun n x => by simp only [evC, hc]; exact x⟩
  | false =>
    simp only [Bool.false_eq_true, if_false] at h
    obtain ⟨e, s', h1, h2⟩ := h
    exact ⟨e, s', h1, h2.mono fun n x => by simp only [evC, hc]; exact x⟩
theorem WP.block {id : Nat} {b : PC} (h : WP prog b s fun e s' => Q (if e = .exit id then .normal else e) s') : WP prog (.block id b) s Q := by
  obtain ⟨e, s', h1, h2⟩ := h
  exact ⟨_, s', h1, h2.mono fun n x => by simp only [evC, x, Option.bind_some]⟩
theorem WP.loop {b : PC} (I : Nat → St → Prop) (k : Nat) (h0 : I k s) (step : ∀ k s, I k s → WP prog b s fun e s' => match e with | .normal => ∃ k', k' < k ∧ I k' s' | e => Q e s') : WP prog (.loop b) s Q := by
  have key : ∀ k s, I k s → ∃ e s', Q e s' ∧ ∃ r, Ev fun n => ∀ f, r ≤ f → evLoop (evC (callN prog n) n b) f s = some (e, s') := by
    intro k
    induction k using Nat.strongRecOn with
    | _ k ih =>
      intro s hI
      obtain ⟨e, s', h1, h2⟩ := step k s hI
      cases e with
      | normal =>
        obtain ⟨k', hk, hI'⟩ := h1
        obtain ⟨e2, s2, q1, r, q2⟩ := ih k' hk s' hI'
        refine ⟨e2, s2, q1, r + 1, h2.mono2 q2 fun n x y f hf => ?_⟩
        cases f with
        | zero => omega
        | succ f => simp only [evLoop, x, Option.bind_some]; exact y f (by omega)
      | exit id =>
        refine ⟨_, _, h1, 1, h2.mono fun n x f hf => ?_⟩
        cases f with
        | zero => omega
        | succ f => simp only [evLoop, x, Option.bind_some]
      | ret =>
        refine ⟨_, _, h1, 1, h2.mono fun n x f hf => ?_⟩
        cases f with
        | zero => omega
        | succ f => simp only [evLoop, x, Option.bind_some]
  obtain ⟨e, s', h1, r, h2⟩ := key k s h0
  exact ⟨e, s', h1, h2.mono2 (Ev.ge r) fun n x y => by simp only [evC]; exact x n y⟩
def wpE (prog : Nat → Option PF) : PC → St → (Ex → St → Prop) → Prop
  | .skip, s, Q | .label, s, Q => Q .normal s
  | .region d rs, s, Q => match (if d then evDraw (lim prog) rs [] s.1 s.2 0 [] [] else evOps (lim prog) rs [] s.1 s.2) with | some s' => Q .normal s' | none => False
  | .seq a b, s, Q => wpE prog a s fun e s' => match e with | .normal => wpE prog b s' Q | e => Q e s'
  | .cond c a b, s, Q => match c.get s.1 with | .bool q => if q = true then wpE prog a s Q else wpE prog b s Q | _ => False
  | .block id b, s, Q => wpE prog b s fun e s' => Q (if e = .exit id then .normal else e) s'
  | .loop b, s, Q => WP prog (.loop b) s Q
  | .exit id, s, Q => Q (.exit id) s
  | .scope b, s, Q => wpE prog b s Q
  | .ret, s, Q => Q .ret s
theorem wpE_mono : ∀ {pc : PC} {s : St} {Q Q' : Ex → St → Prop}, (∀ e s', Q e s' → Q' e s') → wpE prog pc s Q → wpE prog pc s Q' := by
  intro pc
  induction pc with
  | skip => intro s Q Q' k h; exact k _ _ h
  | label => intro s Q Q' k h; exact k _ _ h
  | exit => intro s Q Q' k h; exact k _ _ h
  | ret => intro s Q Q' k h; exact k _ _ h
  | region d rs =>
    intro s Q Q' k h
    simp only [wpE] at h ⊢
    split at h
    · exact k _ _ h
    · exact h
  | seq a b iha ihb =>
    intro s Q Q' k h
    simp only [wpE] at h ⊢
    refine iha (fun e s' h => ?_) h
    cases e with
    | normal => exact ihb k h
    | exit => exact k _ _ h
    | ret => exact k _ _ h
  | cond c a b iha ihb =>
    intro s Q Q' k h
    simp only [wpE] at h ⊢
    split at h
    · split at h
      · rename_i hq; rw [if_pos hq]; exact iha k h
      · rename_i hq; rw [if_neg hq]; exact ihb k h
    · exact h
  | block id b ih =>
    intro s Q Q' k h
    simp only [wpE] at h ⊢
    exact ih (fun e s' h => k _ _ h) h
  | loop b ih =>
    intro s Q Q' k h
    simp only [wpE] at h ⊢
    exact h.mono k
  | scope b ih =>
    intro s Q Q' k h
    simp only [wpE] at h ⊢
    exact ih k h
theorem wpE_WP : ∀ {pc : PC} {s : St} {Q : Ex → St → Prop}, wpE prog pc s Q → WP prog pc s Q := by
  intro pc
  induction pc with
  | skip => intro s Q h; exact .skip h
  | label => intro s Q h; exact .label h
  | exit => intro s Q h; exact .exit h
  | ret => intro s Q h; exact .ret h
  | region d rs =>
    intro s Q h
    simp only [wpE] at h
    split at h
    · rename_i s' hs
      cases d with
      | true => exact .draw (by simpa using hs) h
      | false => exact .text (by simpa using hs) h
    · exact h.elim
  | seq a b iha ihb =>
    intro s Q h
    simp only [wpE] at h
    refine .seq ((iha h).mono fun e s' h => ?_)
    cases e with
    | normal => exact ihb h
    | exit => exact h
    | ret => exact h
  | cond c a b iha ihb =>
    intro s Q h
    simp only [wpE] at h
    split at h
    · rename_i q hq
      refine .cond hq ?_
      split at h
      · rename_i hq; rw [if_pos hq]; exact iha h
      · rename_i hq; rw [if_neg hq]; exact ihb h
    · exact h.elim
  | block id b ih =>
    intro s Q h
    simp only [wpE] at h
    exact .block (ih h)
  | loop b ih => intro s Q h; exact h
  | scope b ih => intro s Q h; exact .scope (ih h)
def start (args : List V) : Tm := fun t => args.getD t (.tup [])
def Body (prog : Nat → Option PF) (f : PF) (args : List V) (m : Mem) (R : V → Mem → Prop) : Prop :=
  wpE prog f.body (start args, m) fun e s => match e with | .exit _ => False | _ => match resV f.res s.1 s.2 with | some v => R v s.2 | none => False
theorem body_run {f : PF} {args : List V} {m : Mem} {R : V → Mem → Prop} (h : Body prog f args m R) : ∃ v m', R v m' ∧ Ev fun n => runBody (callN prog n) n f args m = some (v, m') := by
  obtain ⟨e, ⟨T', m'⟩, h1, h2⟩ := wpE_WP h
  cases e with
  | exit => exact h1.elim
  | normal =>
    simp only at h1
    split at h1
    · rename_i v hv
      exact ⟨v, m', h1, h2.mono fun n x => by unfold runBody; rw [show (fun t => args.getD t (.tup [])) = start args from rfl, x]; simp only [Option.bind_some, hv]⟩
    · exact h1.elim
  | ret =>
    simp only at h1
    split at h1
    · rename_i v hv
      exact ⟨v, m', h1, h2.mono fun n x => by unfold runBody; rw [show (fun t => args.getD t (.tup [])) = start args from rfl, x]; simp only [Option.bind_some, hv]⟩
    · exact h1.elim
def Fn (prog : Nat → Option PF) (pid : Nat) (args : List V) (R : V → Prop) : Prop := ∃ v, R v ∧ ∀ m, lim prog pid args m = some (v, m)
theorem Fn.of {pid : Nat} {f : PF} {args as : List V} {R : V → Prop} (hp : prog pid = some f) (hr : f.raw = false) (hs : f.split = false) (hn : allM (norm depth) args = some as)
    (h : Body prog f as m0 fun v m' => match frz m' 0 depth v with | some u => R u | none => False) : Fn prog pid args R := by
  obtain ⟨v, m', h1, h2⟩ := body_run h
  split at h1
  · rename_i u hu
    refine ⟨u, h1, fun m => (lim_run prog).2 (Ev.succ (h2.mono fun n x => ?_))⟩
    simp only [callN, hp, Option.bind_some, callWith, hr, hn, callPure, hs, runPure, x, Bool.false_and, Bool.false_eq_true, if_false, hu]
  · exact h1.elim
end
end Go.Rx
