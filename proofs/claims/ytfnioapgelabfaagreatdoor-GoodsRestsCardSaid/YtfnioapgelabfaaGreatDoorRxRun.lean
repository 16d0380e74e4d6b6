/-
A part of the proof: lemmas on the machine that the printed functions run on, or contracts of functions.
-/
import Derived.Test.YtfnioapgelabfaaGreatDoorRxLim
set_option linter.unusedVariables false
set_option linter.unusedSimpArgs false
namespace Go.Rx
variable {prog : Nat → Option PF}
inductive Fr where
  | code (b : PC)
  | block (id : Nat)
def popK (prog : Nat → Option PF) : Ex → St → List Fr → (Ex → St → Prop) → Prop
  | e, s, [], Q => Q e s
  | .normal, s, .code b :: ks, Q => wpE prog b s fun e s' => popK prog e s' ks Q
  | .exit id, s, .code _ :: ks, Q => popK prog (.exit id) s ks Q
  | .ret, s, .code _ :: ks, Q => popK prog .ret s ks Q
  | e, s, .block id :: ks, Q => popK prog (if e = .exit id then .normal else e) s ks Q
def wpK (prog : Nat → Option PF) (pc : PC) (T : Tm) (m : Mem) (ks : List Fr) (Q : Ex → St → Prop) : Prop := wpE prog pc (T, m) fun e s' => popK prog e s' ks Q
def regK (prog : Nat → Option PF) (r : Option St) (ks : List Fr) (Q : Ex → St → Prop) : Prop := match r with | some s => popK prog .normal s ks Q | none => False
def condK (prog : Nat → Option PF) (c : V) (a b : PC) (T : Tm) (m : Mem) (ks : List Fr) (Q : Ex → St → Prop) : Prop := match c with | .bool q => if q = true then wpK prog a T m ks Q else wpK prog b T m ks Q | _ => False
noncomputable def opsK (prog : Nat → Option PF) (rs : List RO) (pd : Pend) (T : Tm) (m : Mem) : Option St := evOps (lim prog) rs pd T m
noncomputable def stepK (prog : Nat → Option PF) (r : Option (V × Mem)) (d : Option Nat) (rest : List RO) (pd : Pend) (T : Tm) : Option St := match r with | some (v, m) => opsK prog rest pd (updO T d v) m | none => none
noncomputable def guardK (prog : Nat → Option PF) (g : V) (b : Bool) (d : Option Nat) (op : ROp) (rest : List RO) (pd : Pend) (T : Tm) (m : Mem) : Option St :=
  match wantedG (fun _ => g) (some (0, b)) with
  | some q => evOps (lim prog) (⟨d, op, none, 0, 0⟩ :: rest) pd T m |> fun x => if q then x else (if op.pending then none else opsK prog rest (pd.filter fun p => some p.1 != d) (updO T d (.tup [])) m)
  | none => none
theorem pend_rules : (∀ x0, (ROp.mv x0).pending = false) ∧
  (∀ x0 x1 x2, (ROp.pick x0 x1 x2).pending = false) ∧
  (∀ x0 x1, (ROp.box x0 x1).pending = false) ∧
  (∀ x0 x1, (ROp.alloc x0 x1).pending = false) ∧
  (∀ x0 x1, (ROp.build x0 x1).pending = false) ∧
  (∀ x0 x1 x2 x3 x4, (ROp.bslice x0 x1 x2 x3 x4).pending = false) ∧
  (∀ x0 x1 x2, (ROp.load x0 x1 x2).pending = false) ∧
  (∀ x0 x1 x2, (ROp.store x0 x1 x2).pending = false) ∧
  (∀ x0, (ROp.nilc x0).pending = false) ∧
  (∀ x0 x1 x2, (ROp.bin x0 x1 x2).pending = false) ∧
  (∀ x0 x1 x2 x3, (ROp.eqk x0 x1 x2 x3).pending = false) ∧
  (∀ x0 x1 x2 x3, (ROp.eqs x0 x1 x2 x3).pending = false) ∧
  (∀ x0 x1, (ROp.un x0 x1).pending = false) ∧
  (∀ x0 x1, (ROp.cvi x0 x1).pending = false) ∧
  (∀ x0, (ROp.cvs x0).pending = false) ∧
  (∀ x0, (ROp.s2b x0).pending = false) ∧
  (∀ x0, (ROp.b2s x0).pending = false) ∧
  (∀ x0 x1 x2, (ROp.mkfn x0 x1 x2).pending = false) ∧
  (∀ x0 x1 x2 x3 x4 x5, (ROp.mksl x0 x1 x2 x3 x4 x5).pending = false) ∧
  (∀ x0 x1 x2, (ROp.slstr x0 x1 x2).pending = false) ∧
  (∀ x0 x1 x2 x3 x4, (ROp.slice x0 x1 x2 x3 x4).pending = false) ∧
  (∀ x0 x1 x2 x3 x4 x5, (ROp.slarr x0 x1 x2 x3 x4 x5).pending = false) ∧
  (∀ x0 x1, (ROp.faddr x0 x1).pending = false) ∧
  (∀ x0 x1 x2 x3, (ROp.field x0 x1 x2 x3).pending = false) ∧
  (∀ x0 x1 x2, (ROp.ixsl x0 x1 x2).pending = false) ∧
  (∀ x0 x1 x2 x3, (ROp.ixarr x0 x1 x2 x3).pending = false) ∧
  (∀ x0 x1, (ROp.ixstr x0 x1).pending = false) ∧
  (∀ x0 x1 x2 x3 x4, (ROp.ixagg x0 x1 x2 x3 x4).pending = false) ∧
  (∀ x0 x1, (ROp.ext x0 x1).pending = false) ∧
  (∀ x0 x1, (ROp.call x0 x1).pending = false) ∧
  (∀ x0 x1, (ROp.callp x0 x1).pending = false) ∧
  (∀ x0 x1 x2 x3, (ROp.carry x0 x1 x2 x3).pending = false) ∧
  (∀ x0 x1, (ROp.callv x0 x1).pending = false) ∧
  (∀ x0, (ROp.len x0).pending = false) ∧
  (∀ x0, (ROp.lens x0).pending = false) ∧
  (∀ x0, (ROp.lenc x0).pending = false) ∧
  (∀ x0 x1 x2 x3 x4, (ROp.append x0 x1 x2 x3 x4).pending = false) ∧
  (∀ x0 x1 x2, (ROp.copy x0 x1 x2).pending = false) ∧
  (∀ x0 x1 x2, (ROp.clear x0 x1 x2).pending = false) ∧
  (∀ x0 x1, (ROp.minmax x0 x1).pending = false) ∧
  ROp.mkmap.pending = false ∧
  (∀ x0 x1 x2 x3 x4 x5, (ROp.lookup x0 x1 x2 x3 x4 x5).pending = false) ∧
  (∀ x0 x1 x2 x3, (ROp.mapupd x0 x1 x2 x3).pending = false) ∧
  (∀ x0, (ROp.maplen x0).pending = false) := by
  refine ⟨?_, ?_, ?_, ?_, ?_, ?_, ?_, ?_, ?_, ?_, ?_, ?_, ?_, ?_, ?_, ?_, ?_, ?_, ?_, ?_, ?_, ?_, ?_, ?_, ?_, ?_, ?_, ?_, ?_, ?_, ?_, ?_, ?_, ?_, ?_, ?_, ?_, ?_, ?_, ?_, ?_, ?_, ?_, ?_⟩ <;> intros <;> rfl
section rules
variable {s : St} {T : Tm} {m m' : Mem} {ks : List Fr} {Q : Ex → St → Prop} {a b : PC} {rs rest : List RO} {pd : Pend} {d : Option Nat} {op : ROp} {lo hi : Nat} {v : V}
theorem wpK_skip : wpK prog .skip T m ks Q = popK prog .normal (T, m) ks Q := rfl
theorem wpK_label : wpK prog .label T m ks Q = popK prog .normal (T, m) ks Q := rfl
theorem wpK_exit {id : Nat} : wpK prog (.exit id) T m ks Q = popK prog (.exit id) (T, m) ks Q := rfl
theorem wpK_ret : wpK prog .ret T m ks Q = popK prog .ret (T, m) ks Q := rfl
theorem wpK_scope : wpK prog (.scope a) T m ks Q = wpK prog a T m ks Q := rfl
theorem wpK_seq : wpK prog (.seq a b) T m ks Q = wpK prog a T m (.code b :: ks) Q := by
  unfold wpK
  simp only [wpE]
  congr 1
  funext e s'
  cases e <;> rfl
theorem wpK_block {id : Nat} : wpK prog (.block id a) T m ks Q = wpK prog a T m (.block id :: ks) Q := by
  unfold wpK
  simp only [wpE]
  congr 1
theorem wpK_text : wpK prog (.region false rs) T m ks Q = regK prog (opsK prog rs [] T m) ks Q := by
  unfold wpK regK opsK
  simp only [wpE, Bool.false_eq_true, if_false]
  cases evOps (lim prog) rs [] T m <;> rfl
theorem wpK_cond {c : Opd} : wpK prog (.cond c a b) T m ks Q = condK prog (c.get T) a b T m ks Q := rfl
theorem regK_some : regK prog (some (T, m)) ks Q = popK prog .normal (T, m) ks Q := rfl
theorem condK_true : condK prog (.bool true) a b T m ks Q = wpK prog a T m ks Q := rfl
theorem condK_false : condK prog (.bool false) a b T m ks Q = wpK prog b T m ks Q := by simp [condK]
theorem condK_split {q : Bool} (h : q = true → wpK prog a T m ks Q) (k : q = false → wpK prog b T m ks Q) : condK prog (.bool q) a b T m ks Q := by
  cases q
  · rw [condK_false]; exact k rfl
  · exact h rfl
theorem popK_nil {e : Ex} : popK prog e (T, m) [] Q = Q e (T, m) := by cases e <;> rfl
theorem popK_code : popK prog .normal (T, m) (.code b :: ks) Q = wpK prog b T m ks Q := rfl
theorem popK_exit {id : Nat} : popK prog (.exit id) (T, m) (.code b :: ks) Q = popK prog (.exit id) (T, m) ks Q := rfl
theorem popK_ret : popK prog .ret (T, m) (.code b :: ks) Q = popK prog .ret (T, m) ks Q := rfl
theorem popK_block {id : Nat} : popK prog .normal (T, m) (.block id :: ks) Q = popK prog .normal (T, m) ks Q := by simp only [popK, reduceCtorEq, if_false]
theorem popK_block_ret {id : Nat} : popK prog .ret (T, m) (.block id :: ks) Q = popK prog .ret (T, m) ks Q := by simp only [popK, reduceCtorEq, if_false]
theorem popK_block_exit {id id' : Nat} : popK prog (.exit id') (T, m) (.block id :: ks) Q = popK prog (if id' = id then .normal else .exit id') (T, m) ks Q := by
  simp only [popK, Ex.exit.injEq]
theorem opsK_nil : opsK prog [] pd T m = some (T, m) := rfl
theorem opsK_cons (hp : op.pending = false) : opsK prog (⟨d, op, none, lo, hi⟩ :: rest) [] T m = stepK prog (stepOp (lim prog) T m op) d rest [] T := by
  unfold opsK stepK
  simp only [evOps, wantedG, Option.bind_some]
  have : pendStep [] d op = some [] := by cases op <;> first | (cases d <;> rfl) | cases hp
  rw [this]
  simp only [Option.bind_some]
  cases stepOp (lim prog) T m op <;> rfl
theorem opsK_guard {g : Nat} {q : Bool} (hp : op.pending = false) : opsK prog (⟨d, op, some (g, q), lo, hi⟩ :: rest) [] T m = guardK prog (T g) q d op rest [] T m := by
  unfold opsK guardK
  simp only [evOps, wantedG]
  have hps : pendStep [] d op = some [] := by cases op <;> first | (cases d <;> rfl) | cases hp
  cases T g <;> simp only [Option.bind_none, Option.bind_some]
  case bool b => cases (b == q) <;> simp [hps, hp, opsK]
  case tup => simp [hp, opsK]
theorem guardK_run : guardK prog (.bool true) true d op rest [] T m = opsK prog (⟨d, op, none, 0, 0⟩ :: rest) [] T m := rfl
theorem guardK_runf : guardK prog (.bool false) false d op rest [] T m = opsK prog (⟨d, op, none, 0, 0⟩ :: rest) [] T m := rfl
theorem guardK_skip (hp : op.pending = false) : guardK prog (.bool false) true d op rest [] T m = opsK prog rest [] (updO T d (.tup [])) m := by
  simp [guardK, wantedG, hp]
theorem guardK_skipf (hp : op.pending = false) : guardK prog (.bool true) false d op rest [] T m = opsK prog rest [] (updO T d (.tup [])) m := by
  simp [guardK, wantedG, hp]
theorem guardK_skipt {q : Bool} {l : List V} (hp : op.pending = false) : guardK prog (.tup l) q d op rest [] T m = opsK prog rest [] (updO T d (.tup [])) m := by
  simp [guardK, wantedG, hp]
theorem guardK_split {b q : Bool} (h : b = true → regK prog (guardK prog (.bool true) q d op rest [] T m) ks Q) (k : b = false → regK prog (guardK prog (.bool false) q d op rest [] T m) ks Q) : regK prog (guardK prog (.bool b) q d op rest [] T m) ks Q := by
  cases b
  · exact k rfl
  · exact h rfl
theorem stepK_some : stepK prog (some (v, m)) d rest pd T = opsK prog rest pd (updO T d v) m := rfl
theorem upd_apply (d : Nat) (v : V) (t : Nat) : upd T d v t = if t = d then v else T t := rfl
theorem updO_some (d : Nat) (v : V) : updO T (some d) v = upd T d v := rfl
theorem updO_none (v : V) : updO T none v = T := rfl
theorem body_K {f : PF} {args : List V} {R : V → Mem → Prop} (h : wpK prog f.body (start args) m [] fun e s => match e with | .exit _ => False | _ => match resV f.res s.1 s.2 with | some v => R v s.2 | none => False) : Body prog f args m R := by
  unfold wpK at h
  unfold Body
  refine wpE_mono (fun e s' h => ?_) h
  obtain ⟨T', m'⟩ := s'
  rw [popK_nil] at h
  exact h
end rules
end Go.Rx
