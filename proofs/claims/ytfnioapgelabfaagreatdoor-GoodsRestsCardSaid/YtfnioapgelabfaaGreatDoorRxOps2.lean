/-
A part of the proof: lemmas on the machine that the printed functions run on, or contracts of functions.
-/
import Derived.Test.YtfnioapgelabfaaGreatDoorRxOps
set_option linter.unusedVariables false
set_option linter.unusedSimpArgs false
namespace Go.Rx
variable {P : Program} {X : Ctx} {T : Tm} {a : Act} {w : World} {o : Oper} {call : CallF} {v : V} {m' : Mem}
theorem ok_mv (hw : WR X) (hH : X.H = w.heap) (ht : TR X T a.tmps) {x : Opd} {c : Operand} (ho : o.op = .move c ∨ o.op = .assign c) (hc : chkOpd X.lnk x c = true)
    (hs : stepOp call T X.m (.mv x) = some (v, m')) : OpOK P o a w X v m' := by
  simp only [stepOp, Option.some.injEq, Prod.mk.injEq] at hs
  obtain ⟨rfl, rfl⟩ := hs
  refine OpOK.same (cv := a.eval c) (w' := w) hw hH (.refl w) ?_ (get_VR hc ht)
  rcases ho with ho | ho <;> simp [execOp, ho]
theorem ok_pick (hw : WR X) (hH : X.H = w.heap) (ht : TR X T a.tmps) {x y z : Opd} {c d e : Operand} (ho : o.op = .pick c d e) (hc : chkOpd X.lnk x c = true) (hd : chkOpd X.lnk y d = true) (he : chkOpd X.lnk z e = true)
    (hs : stepOp call T X.m (.pick x y z) = some (v, m')) : OpOK P o a w X v m' := by
  have h1 := get_VR hc ht
  have h2 := get_VR hd ht
  have h3 := get_VR he ht
  simp only [stepOp] at hs
  split at hs
  · rename_i b hb
    rw [hb] at h1
    simp only [Option.some.injEq, Prod.mk.injEq] at hs
    obtain ⟨rfl, rfl⟩ := hs
    generalize hce : a.eval c = ce at h1
    cases h1
    refine OpOK.same (cv := if b then a.eval d else a.eval e) (w' := w) hw hH (.refl w) ?_ ?_
    · simp [execOp, ho, hce, asBool]
    · cases b
      · exact h3
      · exact h2
  · cases hs
theorem ok_un (hw : WR X) (hH : X.H = w.heap) (ht : TR X T a.tmps) {op : UnOp} {t : TypeId} {x : Opd} {c : Operand} (ho : o.op = .unOp op t c) (hc : chkOpd X.lnk x c = true)
    (hs : stepOp call T X.m (.un op x) = some (v, m')) : OpOK P o a w X v m' := by
  have h1 := get_VR hc ht
  simp only [stepOp] at hs
  generalize hx : x.get T = xv at hs h1
  generalize hce : a.eval c = ce at h1
  unfold unOp at hs
  split at hs
  all_goals (try (simp at hs; done))
  all_goals
    cases h1
    simp only [Option.bind_some, Option.some.injEq, Prod.mk.injEq] at hs
    obtain ⟨rfl, rfl⟩ := hs
  · exact OpOK.same (w' := w) hw hH (.refl w) (by simp [execOp, ho, hce, Op.unary, Op.intArith]) (.int _ _)
  · exact OpOK.same (w' := w) hw hH (.refl w) (by simp [execOp, ho, hce, Op.unary, Op.intBits]) (.int _ _)
  · exact OpOK.same (w' := w) hw hH (.refl w) (by simp [execOp, ho, hce, Op.unary]) (.bool _)
theorem run_arith {op : BinOp} {k : IntKind} {x y : Int} (h : arith op k x y = some v) (t : TypeId) (hn : op ≠ .shl) (hn' : op ≠ .shr) : ∃ cv, (Go.binOp op t (.int k x) (.int k y)).run P w = .ok cv w ∧ VR X v cv := by
  unfold arith at h
  split at h <;> first | (cases h; done) | skip
  all_goals (try (simp only [Option.some.injEq] at h; subst h))
  · exact ⟨_, by simp [Go.binOp, Op.intArith], .int _ _⟩
  · exact ⟨_, by simp [Go.binOp, Op.intArith], .int _ _⟩
  · exact ⟨_, by simp [Go.binOp, Op.intArith], .int _ _⟩
  · split at h
    · cases h
    · rename_i hb
      simp only [Option.some.injEq] at h; subst h
      exact ⟨_, by simp [Go.binOp, Op.intDiv, hb], .int _ _⟩
  · split at h
    · cases h
    · rename_i hb
      simp only [Option.some.injEq] at h; subst h
      exact ⟨_, by simp [Go.binOp, Op.intDiv, hb], .int _ _⟩
  · exact ⟨_, by simp [Go.binOp, Op.intBits], .int _ _⟩
  · exact ⟨_, by simp [Go.binOp, Op.intBits], .int _ _⟩
  · exact ⟨_, by simp [Go.binOp, Op.intBits], .int _ _⟩
  · exact ⟨_, by simp [Go.binOp, Op.intBits], .int _ _⟩
  · exact ⟨_, by simp only [Go.binOp, Op.intCmp, ne_eq, not_true_eq_false, if_false]; rfl, .bool _⟩
  · exact ⟨_, by simp only [Go.binOp, Op.intCmp, ne_eq, not_true_eq_false, if_false]; rfl, .bool _⟩
  · exact ⟨_, by simp only [Go.binOp, Op.intCmp, ne_eq, not_true_eq_false, if_false]; rfl, .bool _⟩
  · exact ⟨_, by simp only [Go.binOp, Op.intCmp, ne_eq, not_true_eq_false, if_false]; rfl, .bool _⟩
  · exact ⟨_, by simp only [Go.binOp, Op.intCmp, ne_eq, not_true_eq_false, if_false]; rfl, .bool _⟩
  · exact ⟨_, by simp only [Go.binOp, Op.intCmp, ne_eq, not_true_eq_false, if_false]; rfl, .bool _⟩
theorem run_shift {op : BinOp} {k k' : IntKind} {x y : Int} (h : shift op k x y = some v) (t : TypeId) : ∃ cv, (Go.binOp op t (.int k x) (.int k' y)).run P w = .ok cv w ∧ VR X v cv := by
  unfold shift at h
  split at h
  · cases h
  · rename_i hy
    split at h
    · simp only [Option.some.injEq] at h; subst h
      exact ⟨_, by simp [Go.binOp, Op.shift, hy], .int _ _⟩
    · simp only [Option.some.injEq] at h; subst h
      exact ⟨_, by simp [Go.binOp, Op.shift, hy], .int _ _⟩
    · cases h
theorem run_str {op : BinOp} {x y : ByteArray} (h : strOp op x y = some v) (t : TypeId) : ∃ cv, (Go.binOp op t (.string x) (.string y)).run P w = .ok cv w ∧ VR X v cv := by
  unfold strOp at h
  split at h
  · split at h
    · rename_i hle
      simp only [Option.some.injEq] at h; subst h
      refine ⟨_, ?_, .str _⟩
      have : ¬ (((x.size + y.size : Nat) : Int) > IntKind.i64.max) := by
        have : IntKind.i64.max = 9223372036854775807 := rfl
        omega
      simp only [Go.binOp, Op.stringOp, this, if_false, Sem.run_pure]
    · cases h
  · simp only [Option.some.injEq] at h; subst h
    exact ⟨_, by simp [Go.binOp, Op.stringOp], .bool _⟩
  · simp only [Option.some.injEq] at h; subst h
    exact ⟨_, by simp [Go.binOp, Op.stringOp], .bool _⟩
  · cases h
theorem ok_bin (hw : WR X) (hH : X.H = w.heap) (ht : TR X T a.tmps) {op : BinOp} {t ty : TypeId} {x y : Opd} {c d : Operand} (ho : o.op = .binOp op t c d ty) (hc : chkOpd X.lnk x c = true) (hd : chkOpd X.lnk y d = true)
    (hs : stepOp call T X.m (.bin op x y) = some (v, m')) : OpOK P o a w X v m' := by
  have h1 := get_VR hc ht
  have h2 := get_VR hd ht
  simp only [stepOp] at hs
  generalize hx : x.get T = xv at hs h1
  generalize hy : y.get T = yv at hs h2
  generalize hce : a.eval c = ce at h1
  generalize hde : a.eval d = de at h2
  cases hb : binOp op xv yv with
  | none => simp [hb] at hs
  | some u =>
    simp only [hb, Option.bind_some, Option.some.injEq, Prod.mk.injEq] at hs
    obtain ⟨rfl, rfl⟩ := hs
    have key : ∃ cv, (Go.binOp op t ce de).run P w = .ok cv w ∧ VR X u cv ∧ (eqGuard op t c d ce de).run P w = .ok () w := by
      unfold binOp at hb
      split at hb
      · rename_i k i k' j
        cases h1; cases h2
        have hg : (eqGuard op t c d (.int k i) (.int k' j)).run P w = .ok () w := by cases op <;> rfl
        split at hb
        · obtain ⟨cv, hr, hv⟩ := run_shift (P := P) (w := w) (X := X) (k' := k') hb t
          exact ⟨cv, hr, hv, hg⟩
        · obtain ⟨cv, hr, hv⟩ := run_shift (P := P) (w := w) (X := X) (k' := k') hb t
          exact ⟨cv, hr, hv, hg⟩
        · rename_i hn1 hn2
          split at hb
          · rename_i hk
            subst hk
            obtain ⟨cv, hr, hv⟩ := run_arith (P := P) (w := w) (X := X) hb t (fun e => hn1 e) (fun e => hn2 e)
            exact ⟨cv, hr, hv, hg⟩
          · cases hb
      · rename_i i j
        cases h1; cases h2
        have hg : (eqGuard op t c d (.string i) (.string j)).run P w = .ok () w := by cases op <;> rfl
        obtain ⟨cv, hr, hv⟩ := run_str (P := P) (w := w) (X := X) hb t
        exact ⟨cv, hr, hv, hg⟩
      · cases hb
    obtain ⟨cv, hr, hv, hg⟩ := key
    exact OpOK.same (w' := w) hw hH (.refl w) (by simp [execOp, ho, hce, hde, hg, hr]) hv
def kindIs (P : Program) (t : TypeId) : EqK → Bool
  | .bool => match P.underlying t with | some .bool => true | _ => false
  | .ptr => match P.underlying t with | some (.pointer _) => true | _ => false
  | .slice => match P.underlying t with | some (.slice _) => true | _ => false
  | .fn => match P.underlying t with | some (.func ..) => true | _ => false
theorem kb {t : TypeId} (h : kindIs P t .bool = true) : P.underlying t = some .bool := by unfold kindIs at h; simp only at h; split at h <;> first | assumption | cases h
theorem kp {t : TypeId} (h : kindIs P t .ptr = true) : ∃ e, P.underlying t = some (.pointer e) := by unfold kindIs at h; simp only at h; split at h <;> first | exact ⟨_, by assumption⟩ | cases h
theorem ks {t : TypeId} (h : kindIs P t .slice = true) : ∃ e, P.underlying t = some (.slice e) := by unfold kindIs at h; simp only at h; split at h <;> first | exact ⟨_, by assumption⟩ | cases h
theorem kf {t : TypeId} (h : kindIs P t .fn = true) : ∃ p q r, P.underlying t = some (.func p q r) := by unfold kindIs at h; simp only at h; split at h <;> first | exact ⟨_, _, _, by assumption⟩ | cases h
theorem run_equal {t : TypeId} {x y : Value} {q : Bool} (h : ∀ d, (Op.equalIn (d + 1) t x y).run P w = .ok q w) : (Op.equal t x y).run P w = .ok q w := h 9999
theorem run_eqk {k : EqK} {t : TypeId} (hk : kindIs P t k = true) {x y : V} {q : Bool} (hq : eqK k x y = some q) {xv yv : Value} (h1 : VR X x xv) (h2 : VR X y yv) (c d : Operand) :
    (Go.binOp .eql t xv yv).run P w = .ok (.bool q) w ∧ (Go.binOp .neq t xv yv).run P w = .ok (.bool !q) w ∧ (∀ op, (eqGuard op t c d xv yv).run P w = .ok () w) := by
  unfold eqK at hq
  have gd : ∀ {xv yv : Value}, (∀ op, eqGuard op t c d xv yv = pure ()) → ∀ op, (eqGuard op t c d xv yv).run P w = .ok () w := fun h op => by rw [h op]; rfl
  have fin : ∀ {xv yv : Value} {q : Bool}, (Op.equal t xv yv).run P w = .ok q w → Go.binOp .eql t xv yv = (do pure (.bool (← Op.equal t xv yv))) → Go.binOp .neq t xv yv = (do pure (.bool (!(← Op.equal t xv yv)))) →
      (∀ op, eqGuard op t c d xv yv = pure ()) → (Go.binOp .eql t xv yv).run P w = .ok (.bool q) w ∧ (Go.binOp .neq t xv yv).run P w = .ok (.bool !q) w ∧ (∀ op, (eqGuard op t c d xv yv).run P w = .ok () w) :=
    fun he h1 h2 h3 => ⟨by rw [h1]; simp [he], by rw [h2]; simp [he], gd h3⟩
  have gg : ∀ {xv yv : Value}, (match xv, yv with | .nilIface, .nilIface => False | .agg _, .agg _ => False | _, _ => True) → ∀ op, eqGuard op t c d xv yv = pure () := by
    intro xv yv h op
    unfold eqGuard
    cases op <;> first | rfl | (simp only [Bool.not_true, Bool.false_eq_true, if_false]; split <;> first | exact h.elim | rfl)
  split at hq
  all_goals (try (cases hq; done))
  case h_10 =>
    obtain ⟨_, hu⟩ := ks hk
    have hy : yv = .slice none 0 0 := by
      cases h2 with
      | sl0 _ a cap g1 g2 _ _ => rw [g2 rfl, g1 rfl]
      | sl1 _ _ n a cap sz g hn hne => exact absurd rfl hne
    subst hy
    split at hq
    · simp only [Option.some.injEq] at hq; subst hq
      cases h1 with
      | sl1 => exact fin (run_equal fun d => by simp only [Op.equalIn, Sem.run_bind, run_underlying hu, Result.andThen_ok]; rfl) rfl rfl (gg trivial)
    · cases h1 with
      | sl0 f a cap g1 g2 g3 _ =>
        cases q with
        | true =>
          rw [g2 hq]
          exact fin (run_equal fun d => by simp only [Op.equalIn, Sem.run_bind, run_underlying hu, Result.andThen_ok]; rfl) rfl rfl (gg trivial)
        | false =>
          have := g3 hq
          cases a with
          | none => exact absurd rfl this
          | some ad => exact fin (run_equal fun d => by simp only [Op.equalIn, Sem.run_bind, run_underlying hu, Result.andThen_ok]; rfl) rfl rfl (gg trivial)
      | sl1 _ _ n a cap sz g hn hne => exact absurd rfl hne
  case h_11 =>
    obtain ⟨_, hu⟩ := ks hk
    have hy : yv = .slice none 0 0 := by
      cases h2 with
      | sl0 _ a cap g1 g2 _ _ => rw [g2 rfl, g1 rfl]
      | sl1 _ _ n a cap sz g hn hne => exact absurd rfl hne
    subst hy
    simp only [Option.some.injEq] at hq; subst hq
    cases h1
    exact fin (run_equal fun d => by simp only [Op.equalIn, Sem.run_bind, run_underlying hu, Result.andThen_ok]; rfl) rfl rfl (gg trivial)
  all_goals (simp only [Option.some.injEq] at hq; subst hq)
  all_goals
    cases h1; cases h2
    first
      | (have hu := kb hk
         exact fin (run_equal fun d => by simp only [Op.equalIn, Sem.run_bind, run_underlying hu, Result.andThen_ok]; rfl) rfl rfl (gg trivial))
      | (obtain ⟨_, hu⟩ := kp hk
         exact fin (run_equal fun d => by simp only [Op.equalIn, Sem.run_bind, run_underlying hu, Result.andThen_ok]; rfl) rfl rfl (gg trivial))
      | (obtain ⟨_, _, _, hu⟩ := kf hk
         exact fin (run_equal fun d => by simp only [Op.equalIn, Sem.run_bind, run_underlying hu, Result.andThen_ok]; rfl) rfl rfl (gg trivial))
theorem ok_eqk (hw : WR X) (hH : X.H = w.heap) (ht : TR X T a.tmps) {k : EqK} {neg : Bool} {t ty : TypeId} {x y : Opd} {c d : Operand} (ho : o.op = .binOp (if neg then .neq else .eql) t c d ty) (hk : kindIs P t k = true)
    (hc : chkOpd X.lnk x c = true) (hd : chkOpd X.lnk y d = true) (hs : stepOp call T X.m (.eqk k neg x y) = some (v, m')) : OpOK P o a w X v m' := by
  have h1 := get_VR hc ht
  have h2 := get_VR hd ht
  simp only [stepOp] at hs
  cases hb : eqK k (x.get T) (y.get T) with
  | none => simp [hb] at hs
  | some q =>
    simp only [hb, Option.bind_some, Option.some.injEq, Prod.mk.injEq] at hs
    obtain ⟨rfl, rfl⟩ := hs
    obtain ⟨g1, g2, g3⟩ := run_eqk (P := P) (w := w) hk hb h1 h2 c d
    cases neg with
    | true => exact OpOK.same (w' := w) hw hH (.refl w) (by simp [execOp, ho, g3, g2]) (.bool _)
    | false => exact OpOK.same (w' := w) hw hH (.refl w) (by simp [execOp, ho, g3, g1]) (.bool _)
theorem ok_cvi (hw : WR X) (hH : X.H = w.heap) (ht : TR X T a.tmps) {k : IntKind} {t u : TypeId} {x : Opd} {c : Operand} {d : TypeDesc} (ho : o.op = .convert t u c) (hc : chkOpd X.lnk x c = true)
    (hu : P.underlying u = some (.int k)) (hu' : P.underlying t = some d) (hs : stepOp call T X.m (.cvi k x) = some (v, m')) : OpOK P o a w X v m' := by
  have h1 := get_VR hc ht
  simp only [stepOp] at hs
  generalize hce : a.eval c = ce at h1
  split at hs
  · rename_i j n hx
    rw [hx] at h1
    cases h1
    simp only [Option.some.injEq, Prod.mk.injEq] at hs
    obtain ⟨rfl, rfl⟩ := hs
    refine OpOK.same (w' := w) hw hH (.refl w) ?_ (.int _ _)
    simp only [execOp, ho, hce, convert, Sem.run_bind, run_underlying hu, run_underlying hu', Result.andThen_ok]
    rfl
  · cases hs
theorem ok_cvs (hw : WR X) (hH : X.H = w.heap) (ht : TR X T a.tmps) {t u : TypeId} {x : Opd} {c : Operand} (ho : o.op = .convert t u c) (hc : chkOpd X.lnk x c = true)
    (hu : P.underlying u = some .string) (hu' : P.underlying t = some .string) (hs : stepOp call T X.m (.cvs x) = some (v, m')) : OpOK P o a w X v m' := by
  have h1 := get_VR hc ht
  simp only [stepOp] at hs
  generalize hce : a.eval c = ce at h1
  split at hs
  · rename_i n hx
    rw [hx] at h1
    cases h1
    simp only [Option.some.injEq, Prod.mk.injEq] at hs
    obtain ⟨rfl, rfl⟩ := hs
    refine OpOK.same (w' := w) hw hH (.refl w) ?_ (.str _)
    simp only [execOp, ho, hce, convert, Sem.run_bind, run_underlying hu, run_underlying hu', Result.andThen_ok]
    rfl
  · cases hs
theorem ok_mkfn (hw : WR X) (hH : X.H = w.heap) (ht : TR X T a.tmps) {pid : Nat} {f : FuncId} {xs ys : List Opd} {cs ds : Array Operand} (ho : o.op = .makeFunc (.func f) cs ds) (hf : X.lnk pid = f)
    (hc : chkOpds X.lnk xs cs.toList = true) (hd : chkOpds X.lnk ys ds.toList = true) (hs : stepOp call T X.m (.mkfn pid xs ys) = some (v, m')) : OpOK P o a w X v m' := by
  have h1 := gets_VR ht hc
  have h2 := gets_VR ht hd
  simp only [stepOp, Option.some.injEq, Prod.mk.injEq] at hs
  obtain ⟨rfl, rfl⟩ := hs
  subst hf
  refine OpOK.same (cv := .func (.func (X.lnk pid)) (cs.map a.eval) (ds.map a.eval)) (w' := w) hw hH (.refl w) (by simp [execOp, ho, Instr.makeFunc]) ?_
  refine .fn pid _ _ _ _ (by simpa using h1.1) (by simpa using h2.1) (fun i c u hi hj => h1.2 i c u hi ?_) (fun i c u hi hj => h2.2 i c u hi ?_)
  · simpa using hj
  · simpa using hj
theorem ok_ext (hw : WR X) (hH : X.H = w.heap) (ht : TR X T a.tmps) {x : Opd} {c : Operand} {i : Nat} (ho : o.op = .extract c i) (hc : chkOpd X.lnk x c = true)
    (hs : stepOp call T X.m (.ext x i) = some (v, m')) : OpOK P o a w X v m' := by
  have h1 := get_VR hc ht
  simp only [stepOp] at hs
  generalize hce : a.eval c = ce at h1
  split at hs
  · rename_i vs hx
    rw [hx] at h1
    cases h1 with
    | tup _ us g1 g2 =>
      cases hi : vs[i]? with
      | none => simp [hi] at hs
      | some u =>
        simp only [hi, Option.bind_some, Option.some.injEq, Prod.mk.injEq] at hs
        obtain ⟨rfl, rfl⟩ := hs
        have hlt := lt_of_getElem? hi
        have hlt' : i < us.size := by omega
        have hu : us[i]? = some us[i] := Array.getElem?_eq_getElem hlt'
        exact OpOK.same (cv := us[i]) (w' := w) hw hH (.refl w) (by simp [execOp, ho, hce, Instr.extract, hu]) (g2 i u _ hi hu)
  · cases hs
theorem ok_nilc (hw : WR X) (hH : X.H = w.heap) (ht : TR X T a.tmps) {x : Opd} {c : Operand} (ho : o.op = .nilCheck c) (hc : chkOpd X.lnk x c = true)
    (hs : stepOp call T X.m (.nilc x) = some (v, m')) : OpOK P o a w X v m' := by
  have h1 := get_VR hc ht
  simp only [stepOp] at hs
  generalize hce : a.eval c = ce at h1
  split at hs
  all_goals (try (cases hs; done))
  all_goals
    rename_i hx
    rw [hx] at h1
    simp only [Option.some.injEq, Prod.mk.injEq] at hs
    obtain ⟨rfl, rfl⟩ := hs
    refine OpOK.same (cv := ce) (w' := w) hw hH (.refl w) ?_ h1
    cases h1
    simp [execOp, ho, hce]
theorem ok_len (hw : WR X) (hH : X.H = w.heap) (ht : TR X T a.tmps) {x : Opd} {c : Operand} {t e : TypeId} (ho : o.op = .call { callee := .builtin .len, args := #[c], argTypes := #[t] }) (hu : P.underlying t = some (.slice e))
    (hc : chkOpd X.lnk x c = true) (hs : stepOp call T X.m (.len x) = some (v, m')) : OpOK P o a w X v m' := by
  have h1 := get_VR hc ht
  simp only [stepOp] at hs
  generalize hce : a.eval c = ce at h1
  have hrun : ∀ (b : Option Addr) (n cap : Nat), a.eval c = .slice b n cap → (execOp a.eval o).run P w = .ok (.value (.int .i64 n)) w := fun b n cap h => by
    simp [execOp, ho, resolve, invoke, Go.builtin, Builtin.len_, run_underlying hu, h, goInt]
  split at hs
  · rename_i f es hx
    rw [hx] at h1
    simp only [Option.some.injEq, Prod.mk.injEq] at hs
    obtain ⟨rfl, rfl⟩ := hs
    cases h1 with
    | sl0 => exact OpOK.same (w' := w) hw hH (.refl w) (hrun _ _ _ hce) (.int _ _)
    | sl1 _ _ n _ _ _ _ hn => subst hn; exact OpOK.same (w' := w) hw hH (.refl w) (hrun _ _ _ hce) (.int _ _)
  · rename_i hx
    rw [hx] at h1
    simp only [Option.some.injEq, Prod.mk.injEq] at hs
    obtain ⟨rfl, rfl⟩ := hs
    cases h1
    exact OpOK.same (w' := w) hw hH (.refl w) (hrun _ _ _ hce) (.int _ _)
  · cases hs
theorem ok_lens (hw : WR X) (hH : X.H = w.heap) (ht : TR X T a.tmps) {x : Opd} {c : Operand} {t : TypeId} (ho : o.op = .call { callee := .builtin .len, args := #[c], argTypes := #[t] }) (hu : P.underlying t = some .string)
    (hc : chkOpd X.lnk x c = true) (hs : stepOp call T X.m (.lens x) = some (v, m')) : OpOK P o a w X v m' := by
  have h1 := get_VR hc ht
  simp only [stepOp] at hs
  generalize hce : a.eval c = ce at h1
  split at hs
  · rename_i s hx
    rw [hx] at h1
    simp only [Option.some.injEq, Prod.mk.injEq] at hs
    obtain ⟨rfl, rfl⟩ := hs
    cases h1
    exact OpOK.same (w' := w) hw hH (.refl w) (by simp [execOp, ho, resolve, invoke, Go.builtin, Builtin.len_, run_underlying hu, hce, goInt]) (.int _ _)
  · cases hs
def lenIs (P : Program) (t : TypeId) (n : Nat) : Bool :=
  match P.underlying t with
  | some (.array k _) => k == n
  | some (.pointer u) => (match P.underlying u with | some (.array k _) => k == n | _ => false)
  | _ => false
theorem ok_lenc (hw : WR X) (hH : X.H = w.heap) {n : Nat} {c : Operand} {t : TypeId} (ho : o.op = .call { callee := .builtin .len, args := #[c], argTypes := #[t] }) (hu : lenIs P t n = true)
    (hs : stepOp call T X.m (.lenc n) = some (v, m')) : OpOK P o a w X v m' := by
  simp only [stepOp, Option.some.injEq, Prod.mk.injEq] at hs
  obtain ⟨rfl, rfl⟩ := hs
  refine OpOK.same (cv := .int .i64 n) (w' := w) hw hH (.refl w) ?_ (.int _ _)
  unfold lenIs at hu
  split at hu
  · rename_i k e hk
    simp only [beq_iff_eq] at hu; subst hu
    have : (execOp a.eval o).run P w = ((Builtin.len_ #[t] o.type #[a.eval c]).run P w).andThen fun v w' => .ok (.value v) w' := by simp [execOp, ho, resolve, invoke, Go.builtin]
    rw [this]
    generalize a.eval c = ce
    cases ce <;> simp [Builtin.len_, run_underlying hk, goInt]
  · rename_i u hk
    split at hu
    · rename_i k e hk2
      simp only [beq_iff_eq] at hu; subst hu
      have : (execOp a.eval o).run P w = ((Builtin.len_ #[t] o.type #[a.eval c]).run P w).andThen fun v w' => .ok (.value v) w' := by simp [execOp, ho, resolve, invoke, Go.builtin]
      rw [this]
      generalize a.eval c = ce
      cases ce <;> simp [Builtin.len_, run_underlying hk, run_underlying hk2, goInt]
    · cases hu
  · cases hu
theorem ok_faddr (hw : WR X) (hH : X.H = w.heap) (ht : TR X T a.tmps) {off : Nat} {x : Opd} {c : Operand} {t : TypeId} {i : Nat} {fs : Array Field} {f : Field} {sz : Nat} (ho : o.op = .fieldAddr t c i) (hu : P.underlying t = some (.struct fs))
    (hf : fs[i]? = some f) (hoff : f.offset = off) (hsz : sizeIs P f.type sz = true) (h0 : sz ≠ 0) (hc : chkOpd X.lnk x c = true) (hs : stepOp call T X.m (.faddr off x) = some (v, m')) : OpOK P o a w X v m' := by
  have h1 := get_VR hc ht
  subst hoff
  simp only [stepOp] at hs
  generalize hce : a.eval c = ce at h1
  have hrun : ∀ ad : Addr, a.eval c = .pointer (some ad) → (execOp a.eval o).run P w = .ok (.value (.pointer (some (ad.add f.offset)))) w := fun ad h => by
    simp [execOp, ho, h, Instr.fieldAt, run_underlying hu, hf, Instr.sureAddr, fieldPlace, run_sizeOf' hsz, h0]
  split at hs
  · rename_i id st off hx
    rw [hx] at h1
    simp only [Option.some.injEq, Prod.mk.injEq] at hs
    obtain ⟨rfl, rfl⟩ := hs
    cases h1 with
    | ptr _ _ _ ad g1 g2 =>
      refine OpOK.same (w' := w) hw hH (.refl w) (hrun _ hce) (.ptr _ _ _ _ g1 fun cs hcs => ?_)
      obtain ⟨k1, k2, k3⟩ := g2 cs hcs
      obtain ⟨ab, ao, asp⟩ := ad
      subst k2; subst k3
      rw [add_none]
      exact ⟨k1, rfl, rfl⟩
  · rename_i cs off hx
    rw [hx] at h1
    simp only [Option.some.injEq, Prod.mk.injEq] at hs
    obtain ⟨rfl, rfl⟩ := hs
    obtain ⟨b, oo, g, rfl, hI, hrow⟩ := iptr_row h1
    refine OpOK.same (w' := w) hw hH (.refl w) (hrun _ hce) ?_
    rw [add_none, Nat.add_assoc]
    exact hrow.iptr hI _
  · cases hs
theorem ok_field (hw : WR X) (hH : X.H = w.heap) (ht : TR X T a.tmps) {ag : Bool} {off sz : Nat} {x : Opd} {c : Operand} {t : TypeId} {i : Nat} {fs : Array Field} {f : Field} (ho : o.op = .field t c i) (hu : P.underlying t = some (.struct fs))
    (hf : fs[i]? = some f) (hoff : f.offset = off) (hag : aggIs P f.type ag = true) (hsz : sizeIs P f.type sz = true) (hc : chkOpd X.lnk x c = true) (hs : stepOp call T X.m (.field ag off sz x) = some (v, m')) : OpOK P o a w X v m' := by
  have h1 := get_VR hc ht
  subst hoff
  simp only [stepOp] at hs
  generalize hce : a.eval c = ce at h1
  split at hs
  · rename_i cs hx
    rw [hx] at h1
    cases hp : part ag sz cs f.offset with
    | none => simp [hp] at hs
    | some u =>
      simp only [hp, Option.bind_some, Option.some.injEq, Prod.mk.injEq] at hs
      obtain ⟨rfl, rfl⟩ := hs
      obtain ⟨vs, cv, rfl, hr, hv⟩ := part_VR (w := w) hag hsz h1 hp
      exact OpOK.same (w' := w) hw hH (.refl w) (by simp [execOp, ho, hce, Instr.field, run_underlying hu, hf, asAgg, hr]) hv
  · cases hs
theorem ok_load (hw : WR X) (hH : X.H = w.heap) (ht : TR X T a.tmps) {ag : Bool} {sz : Nat} {x : Opd} {c : Operand} {t : TypeId} (ho : o.op = .load t c) (hag : aggIs P t ag = true) (hsz : sizeIs P t sz = true)
    (hc : chkOpd X.lnk x c = true) (hs : stepOp call T X.m (.load ag sz x) = some (v, m')) : OpOK P o a w X v m' := by
  have h1 := get_VR hc ht
  simp only [stepOp] at hs
  generalize hce : a.eval c = ce at h1
  split at hs
  · rename_i id st off hx
    rw [hx] at h1
    cases hcs : X.m.cells id st with
    | none => simp [hcs] at hs
    | some cs =>
      cases hp : part ag sz cs off with
      | none => simp [hcs, hp] at hs
      | some u =>
        simp only [hcs, hp, Option.bind_some, Option.some.injEq, Prod.mk.injEq] at hs
        obtain ⟨rfl, rfl⟩ := hs
        obtain ⟨b, cc, e, rfl, _, _, _, _, hrow⟩ := ptr_row hw h1 hcs
        obtain ⟨cv, hr, hv⟩ := run_load_part (P := P) (w := w) hH hag hsz hrow hp
        rw [Nat.zero_add] at hr
        exact OpOK.same (w' := w) hw hH (.refl w) (by simp [execOp, ho, hce, Instr.loadAt, Instr.sureAddr, hr]) hv
  · rename_i cs off hx
    rw [hx] at h1
    cases hp : part ag sz cs off with
    | none => simp [hp] at hs
    | some u =>
      simp only [hp, Option.bind_some, Option.some.injEq, Prod.mk.injEq] at hs
      obtain ⟨rfl, rfl⟩ := hs
      obtain ⟨b, oo, g, rfl, hI, hrow⟩ := iptr_row h1
      obtain ⟨cv, hr, hv⟩ := run_load_part (P := P) (w := w) hH hag hsz hrow hp
      exact OpOK.same (w' := w) hw hH (.refl w) (by simp [execOp, ho, hce, Instr.loadAt, Instr.sureAddr, hr]) hv
  · cases hs
end Go.Rx
