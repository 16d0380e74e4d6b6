/-
A part of the proof: lemmas on the machine that the printed functions run on, or contracts of functions.
-/
import Derived.Test.YtfnioapgelabfaaGreatDoorRxLim
set_option linter.unusedVariables false
set_option linter.unusedSimpArgs false
namespace Go.Rx
def CallLe (c c' : CallF) : Prop := ∀ pid args m r, c pid args m = some r → c' pid args m = some r
theorem step_mono {c c' : CallF} (hc : CallLe c c') {T : Tm} {m : Mem} {op : ROp} {r : V × Mem} (h : stepOp c T m op = some r) : stepOp c' T m op = some r := by
  cases hi : op.isCall with
  | false => rw [step_nocall (c' := c) hi]; exact h
  | true =>
    cases op <;> simp only [ROp.isCall, Bool.false_eq_true] at hi
    case call pid args => exact hc _ _ _ _ h
    case callv f args =>
      simp only [stepOp] at h ⊢
      split at h
      · exact hc _ _ _ _ h
      · cases h
    case callp pid args =>
      simp only [stepOp] at h ⊢
      cases hn : allM (norm depth) (args.map (·.get T)) with
      | none => simp [hn] at h
      | some as =>
        cases hl : c pid as m0 with
        | none => simp [hn, hl] at h
        | some q =>
          simp only [hn, hl, Option.bind_some] at h
          simp only [Option.bind_some, hc _ _ _ _ hl]
          exact h
theorem ops_mono {c c' : CallF} (hc : CallLe c c') : ∀ {rs : List RO} {pd : Pend} {T : Tm} {m : Mem} {r : Tm × Mem}, evOps c rs pd T m = some r → evOps c' rs pd T m = some r
  | [], _, _, _, _, h => h
  | o :: rest, pd, T, m, r, h => by
    simp only [evOps] at h ⊢
    cases hb : wantedG T o.guard with
    | none => simp [hb] at h
    | some b =>
      simp only [hb, Option.bind_some] at h ⊢
      cases b with
      | true =>
        cases hp : pendStep pd o.dst o.op with
        | none => simp [hp] at h
        | some pd' =>
          cases hs : stepOp c T m o.op with
          | none => simp [hp, hs] at h
          | some q =>
            simp only [hp, hs, Option.bind_some] at h ⊢
            simp only [step_mono hc hs, Option.bind_some]
            exact ops_mono hc h
      | false =>
        simp only at h ⊢
        split at h
        · cases h
        · rename_i hn
          simp only [hn]
          exact ops_mono hc h
theorem alike_mono {c c' : CallF} (hc : CallLe c c') {T : Tm} {op : ROp} {v : V} {m : Mem} (h : alike c T op v m = true) : alike c' T op v m = true := by
  unfold alike at h ⊢
  split at h
  · rename_i u m' hs
    rw [step_mono hc hs]; exact h
  · cases h
theorem draw_mono {c c' : CallF} (hc : CallLe c c') : ∀ {rs : List RO} {pd : Pend} {T : Tm} {m : Mem} {k : Nat} {past : List Mem} {due : List Due} {r : Tm × Mem}, evDraw c rs pd T m k past due = some r → evDraw c' rs pd T m k past due = some r
  | [], _, _, _, _, _, _, _, h => h
  | o :: rest, pd, T, m, k, past, due, r, h => by
    simp only [evDraw] at h ⊢
    cases hb : wantedG T o.guard with
    | none => simp [hb] at h
    | some b =>
      simp only [hb, Option.bind_some] at h ⊢
      cases b with
      | true =>
        cases hp : pendStep pd o.dst o.op with
        | none => simp [hp] at h
        | some pd' =>
          cases hs : stepOp c T m o.op with
          | none => simp [hp, hs] at h
          | some q =>
            obtain ⟨v, m'⟩ := q
            simp only [hp, hs, Option.bind_some] at h ⊢
            simp only [step_mono hc hs, Option.bind_some]
            split at h
            · rename_i he
              simp only [he, if_true]
              split at h
              · rename_i hd
                simp only [List.all_eq_true, Bool.or_eq_true, decide_eq_true_eq] at hd
                rw [if_pos (by
                  simp only [List.all_eq_true, Bool.or_eq_true, decide_eq_true_eq]
                  intro d hdm
                  rcases hd d hdm with h | h
                  · exact .inl h
                  · exact .inr (alike_mono hc h))]
                exact draw_mono hc h
              · cases h
            · rename_i he
              simp only [he]
              split at h
              · rename_i hr
                simp only [hr, if_true]
                split at h
                · rename_i hd
                  obtain ⟨h1, h2, h3⟩ := hd
                  simp only [List.all_eq_true] at h3
                  simp only [Bool.false_eq_true, if_false]
                  rw [if_pos ⟨h1, h2, by simp only [List.all_eq_true]; exact fun p hp => alike_mono hc (h3 p hp)⟩]
                  exact draw_mono hc h
                · cases h
              · rename_i hr
                simp only [hr, Bool.false_eq_true, if_false]
                exact draw_mono hc h
      | false =>
        simp only at h ⊢
        split at h
        · cases h
        · rename_i hn
          simp only [hn]
          exact draw_mono hc h
theorem loop_mono {f g : St → Option (Ex × St)} (hf : ∀ s r, f s = some r → g s = some r) : ∀ {k k' : Nat} {s : St} {r : Ex × St}, k ≤ k' → evLoop f k s = some r → evLoop g k' s = some r
  | 0, _, _, _, _, h => by cases h
  | k + 1, 0, _, _, hk, _ => by omega
  | k + 1, k' + 1, s, r, hk, h => by
    simp only [evLoop] at h ⊢
    cases hs : f s with
    | none => simp [hs] at h
    | some q =>
      obtain ⟨e, s'⟩ := q
      simp only [hs, Option.bind_some] at h
      simp only [hf _ _ hs, Option.bind_some]
      cases e with
      | normal => exact loop_mono hf (by omega) h
      | exit id => exact h
      | ret => exact h
theorem evC_mono {c c' : CallF} (hc : CallLe c c') {k k' : Nat} (hk : k ≤ k') : ∀ (pc : PC) (s : St) (r : Ex × St), evC c k pc s = some r → evC c' k' pc s = some r := by
  intro pc
  induction pc with
  | skip => intro s r h; exact h
  | label => intro s r h; exact h
  | exit => intro s r h; exact h
  | ret => intro s r h; exact h
  | region d rs =>
    intro s r h
    obtain ⟨T, m⟩ := s
    cases d with
    | true =>
      simp only [evC, if_true] at h ⊢
      cases hs : evDraw c rs [] T m 0 [] [] with
      | none => simp [hs] at h
      | some q => simp only [hs, Option.bind_some] at h; simp only [draw_mono hc hs, Option.bind_some]; exact h
    | false =>
      simp only [evC, Bool.false_eq_true, if_false] at h ⊢
      cases hs : evOps c rs [] T m with
      | none => simp [hs] at h
      | some q => simp only [hs, Option.bind_some] at h; simp only [ops_mono hc hs, Option.bind_some]; exact h
  | seq a b iha ihb =>
    intro s r h
    simp only [evC] at h ⊢
    cases hs : evC c k a s with
    | none => simp [hs] at h
    | some q =>
      obtain ⟨e, s'⟩ := q
      simp only [hs, Option.bind_some] at h
      simp only [iha _ _ hs, Option.bind_some]
      cases e with
      | normal => exact ihb _ _ h
      | exit => exact h
      | ret => exact h
  | cond q a b iha ihb =>
    intro s r h
    simp only [evC] at h ⊢
    split at h
    · exact iha _ _ h
    · exact ihb _ _ h
    · cases h
  | block id b ih =>
    intro s r h
    simp only [evC] at h ⊢
    cases hs : evC c k b s with
    | none => simp [hs] at h
    | some q => simp only [hs, Option.bind_some] at h; simp only [ih _ _ hs, Option.bind_some]; exact h
  | loop b ih =>
    intro s r h
    exact loop_mono ih hk h
  | scope b ih => intro s r h; exact ih s r h
theorem runBody_mono {c c' : CallF} (hc : CallLe c c') {k k' : Nat} (hk : k ≤ k') {f : PF} {args : List V} {m : Mem} {r : V × Mem} (h : runBody c k f args m = some r) : runBody c' k' f args m = some r := by
  unfold runBody at h ⊢
  cases hs : evC c k f.body (fun t => args.getD t (.tup []), m) with
  | none => rw [hs] at h; cases h
  | some q => simp only [hs, Option.bind_some] at h; simp only [evC_mono hc hk _ _ _ hs, Option.bind_some]; exact h
theorem runPure_mono {c c' : CallF} (hc : CallLe c c') {k k' : Nat} (hk : k ≤ k') {f : PF} {as : List V} {v : V} (h : runPure c k f as = some v) : runPure c' k' f as = some v := by
  unfold runPure at h ⊢
  cases hs : runBody c k f as m0 with
  | none => simp [hs] at h
  | some q => simp only [hs, Option.bind_some] at h; simp only [runBody_mono hc hk hs, Option.bind_some]; exact h
theorem callPure_mono {c c' : CallF} (hc : CallLe c c') {k k' : Nat} (hk : k ≤ k') {f : PF} {as : List V} {v : V} (h : callPure c k f as = some v) : callPure c' k' f as = some v := by
  unfold callPure at h ⊢
  split at h
  · rename_i hs
    rw [if_pos hs]
    split at h
    · rename_i fl rest
      cases ha : runPure c k f (.sl .nil [] :: rest) with
      | none => simp [ha] at h
      | some a =>
        cases hb : runPure c k f (.sl .nn [] :: rest) with
        | none => simp [ha, hb] at h
        | some b =>
          simp only [ha, hb, Option.bind_some] at h
          simp only [runPure_mono hc hk ha, runPure_mono hc hk hb, Option.bind_some]
          exact h
    · exact runPure_mono hc hk h
  · rename_i hs
    rw [if_neg hs]
    exact runPure_mono hc hk h
theorem callWith_mono {c c' : CallF} (hc : CallLe c c') {k k' : Nat} (hk : k ≤ k') {f : PF} {args : List V} {m : Mem} {r : V × Mem} (h : callWith c k f args m = some r) : callWith c' k' f args m = some r := by
  unfold callWith at h ⊢
  split at h
  · rename_i hs
    rw [if_pos hs]
    exact runBody_mono hc hk h
  · rename_i hs
    rw [if_neg hs]
    cases hn : allM (norm depth) args with
    | some as =>
      simp only [hn] at h ⊢
      cases hp : callPure c k f as with
      | none => simp [hp] at h
      | some v => simp only [hp, Option.bind_some] at h; simp only [callPure_mono hc hk hp, Option.bind_some]; exact h
    | none =>
      simp only [hn] at h ⊢
      split at h
      · cases h
      · rename_i hsp
        rw [if_neg hsp]
        cases hb : runBody c k f args m with
        | none => simp [hb] at h
        | some q => simp only [hb, Option.bind_some] at h; simp only [runBody_mono hc hk hb, Option.bind_some]; exact h
theorem callN_succ (prog : Nat → Option PF) : ∀ n, CallLe (callN prog n) (callN prog (n + 1))
  | 0 => fun _ _ _ _ h => by cases h
  | n + 1 => fun pid args m r h => by
    simp only [callN] at h ⊢
    cases hp : prog pid with
    | none => simp [hp] at h
    | some f =>
      simp only [hp, Option.bind_some] at h ⊢
      exact callWith_mono (callN_succ prog n) (Nat.le_succ n) h
theorem callN_mono (prog : Nat → Option PF) {n : Nat} : ∀ {n' : Nat}, n ≤ n' → CallLe (callN prog n) (callN prog n')
  | 0, h => by
    have : n = 0 := by omega
    subst this
    exact fun _ _ _ _ h => h
  | n' + 1, h => by
    rcases Nat.lt_or_ge n (n' + 1) with hl | hg
    · exact fun pid args m r e => callN_succ prog n' _ _ _ _ (callN_mono prog (by omega) _ _ _ _ e)
    · have : n = n' + 1 := by omega
      subst this
      exact fun _ _ _ _ h => h
theorem lim_of_run {prog : Nat → Option PF} {n pid : Nat} {args : List V} {m : Mem} {r : V × Mem} (h : callN prog n pid args m = some r) : lim prog pid args m = some r :=
  (lim_run prog).2 ⟨n, fun _ hk => callN_mono prog hk _ _ _ _ h⟩
end Go.Rx
