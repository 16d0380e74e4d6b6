/-
A part of the proof: lemmas on the machine that the printed functions run on, or contracts of functions.
-/
import Derived.Test.YtfnioapgelabfaaGreatDoorRxReg
set_option linter.unusedVariables false
set_option linter.unusedSimpArgs false
namespace Go.Rx
variable {P : Program} {X : Ctx} {T : Tm} {a : Act} {w : World} {o : Oper} {call : CallF} {v : V} {m' : Mem}
def CallSound (P : Program) (lnk : Nat → FuncId) (call : CallF) : Prop := ∀ pid args m v m', call pid args m = some (v, m') →
  (∃ fn, P.funcs[lnk pid]? = some fn ∧ fn.body.isSome = true ∧ fn.name ≠ "runtime.NumGoroutine") ∧
  ∀ (X : Ctx) (w : World) (cargs : Array Value), X.lnk = lnk → X.m = m → X.H = w.heap → WR X → VRs X args cargs.toList →
    Calls P (lnk pid) cargs w fun e w' => ∃ cv X', e = .returned cv ∧ Goes X X' ∧ WR X' ∧ X'.m = m' ∧ X'.H = w'.heap ∧ WEq w w' ∧ VR X' v cv
theorem run_callFunc {f : FuncId} {fn : Func} (hf : P.funcs[f]? = some fn) (hb : fn.body.isSome = true) (hn : fn.name ≠ "runtime.NumGoroutine") (args : Array Value) (w : World) : (callFunc f args).run P w = .ok (.enter f args) w := by
  have hb' : fn.body ≠ none := by intro h; rw [h] at hb; cases hb
  simp [callFunc, hf, hb', hn]
theorem VRs.app {c1 c2 : List V} {v1 v2 : Array Value} (h : VRs X c1 v1.toList) (k : VRs X c2 v2.toList) : VRs X (c1 ++ c2) (v1 ++ v2).toList := by
  rw [Array.toList_append]; exact h.append k
theorem OpOK.calls {lnk : Nat → FuncId} (hcall : CallSound P lnk call) (hl : X.lnk = lnk) (hw : WR X) (hH : X.H = w.heap) (ht : TR X T a.tmps) {pid : Nat} {fs cs : List V} {args : List Opd} {c : Operand} {ds : Array Operand} {ts : Array TypeId}
    (ho : o.op = .call ⟨.value c, ds, ts⟩) (hf : VR X (.fn pid fs cs) (a.eval c)) (hd : chkOpds lnk args ds.toList = true) (hs : call pid (fs ++ args.map (·.get T) ++ cs) X.m = some (v, m')) : OpOK P o a w X v m' := by
  subst hl
  obtain ⟨⟨fn, hfn, hb, hn⟩, hc⟩ := hcall pid _ _ _ _ hs
  have hargs := gets_VR ht hd
  generalize hce : a.eval c = ce at hf
  cases hf with
  | fn _ _ _ vf vc k1 k2 k3 k4 =>
    have hvr : VRs X (fs ++ args.map (·.get T) ++ cs) ((vf ++ ds.map a.eval) ++ vc).toList := by
      refine VRs.app (VRs.app ⟨by simpa using k1, fun i c v hc hv => k3 i c v hc (by simpa using hv)⟩ ?_) ⟨by simpa using k2, fun i c v hc hv => k4 i c v hc (by simpa using hv)⟩
      rw [Array.toList_map]; exact hargs
    have hrun : (execOp a.eval o).run P w = .ok (.enter (X.lnk pid) ((vf ++ ds.map a.eval) ++ vc)) w := by
      simp only [execOp, ho, resolve, Deferred.ofValue, hce, Sem.run_bind, Sem.run_pure, Result.andThen_ok, invoke, run_callFunc hfn hb hn]
    intro K Q h
    unfold Oper.wp
    rw [hrun, Oper.upon_enter]
    refine Calls.mono (hc X w _ rfl rfl hH hw hvr) fun e w' ⟨cv, X', he, g1, g2, g3, g4, g5, g6⟩ => ?_
    subst he
    exact h cv w' X' g1 g2 g3 g4 g5 g6
theorem ok_call {lnk : Nat → FuncId} (hcall : CallSound P lnk call) (hl : X.lnk = lnk) (hw : WR X) (hH : X.H = w.heap) (ht : TR X T a.tmps) {pid : Nat} {args : List Opd} {f : FuncId} {ds : Array Operand} {ts : Array TypeId}
    (ho : o.op = .call ⟨.value (.func f), ds, ts⟩) (hf : lnk pid = f) (hd : chkOpds lnk args ds.toList = true) (hs : stepOp call T X.m (.call pid args) = some (v, m')) : OpOK P o a w X v m' := by
  simp only [stepOp] at hs
  refine OpOK.calls hcall hl hw hH ht (pid := pid) (fs := []) (cs := []) ho ?_ hd (by simpa using hs)
  subst hf; subst hl
  exact fn0 X pid
theorem ok_callv {lnk : Nat → FuncId} (hcall : CallSound P lnk call) (hl : X.lnk = lnk) (hw : WR X) (hH : X.H = w.heap) (ht : TR X T a.tmps) {fo : Opd} {args : List Opd} {c : Operand} {ds : Array Operand} {ts : Array TypeId}
    (ho : o.op = .call ⟨.value c, ds, ts⟩) (hf : chkOpd lnk fo c = true) (hd : chkOpds lnk args ds.toList = true) (hs : stepOp call T X.m (.callv fo args) = some (v, m')) : OpOK P o a w X v m' := by
  simp only [stepOp] at hs
  subst hl
  have h1 := get_VR hf ht
  split at hs
  · rename_i pid fs cs hx
    rw [hx] at h1
    exact OpOK.calls hcall rfl hw hH ht ho h1 hd hs
  · cases hs
theorem ok_callp {lnk : Nat → FuncId} (hcall : CallSound P lnk call) (hl : X.lnk = lnk) (hw : WR X) (hH : X.H = w.heap) (ht : TR X T a.tmps) {pid : Nat} {args : List Opd} {f : FuncId} {ds : Array Operand} {ts : Array TypeId}
    (ho : o.op = .call ⟨.value (.func f), ds, ts⟩) (hf : lnk pid = f) (hd : chkOpds lnk args ds.toList = true) (hs : stepOp call T X.m (.callp pid args) = some (v, m')) : OpOK P o a w X v m' := by
  simp only [stepOp] at hs
  subst hl; subst hf
  cases hn : allM (norm depth) (args.map (·.get T)) with
  | none => simp [hn] at hs
  | some as =>
    cases hc : call pid as m0 with
    | none => simp [hn, hc] at hs
    | some r =>
      obtain ⟨v0, mm⟩ := r
      simp only [hn, hc, Option.bind_some] at hs
      cases hv : norm depth v0 with
      | none => simp [hv] at hs
      | some u =>
        simp only [hv, Option.bind_some, Option.some.injEq, Prod.mk.injEq] at hs
        obtain ⟨rfl, rfl⟩ := hs
        obtain ⟨⟨fn, hfn, hb, hnm⟩, hcc⟩ := hcall pid _ _ _ _ hc
        obtain ⟨k1, k2⟩ := norms_spec hn (gets_VR ht hd)
        have k1' : VRs X.alone as (ds.map a.eval).toList := by
          rw [Array.toList_map]
          exact ⟨k1.1, fun i b c hb hc => Clean.move (X := X) (X' := X.alone) rfl (fun b hb => ⟨hb, rfl⟩) (k1.2 i b c hb hc) (k2 i b hb)⟩
        have hrun : (execOp a.eval o).run P w = .ok (.enter (X.lnk pid) (ds.map a.eval)) w := by
          have hfe : a.eval (.func (X.lnk pid)) = .func (.func (X.lnk pid)) #[] #[] := rfl
          simp only [execOp, ho, resolve, Deferred.ofValue, hfe, Sem.run_bind, Sem.run_pure, Result.andThen_ok, invoke, run_callFunc hfn hb hnm, Array.append_empty, Array.empty_append]
        intro K Q h
        unfold Oper.wp
        rw [hrun, Oper.upon_enter]
        refine Calls.mono (hcc X.alone w _ rfl rfl hH hw.alone k1') fun e w' ⟨cv, Y, he, g1, g2, g3, g4, g5, g6⟩ => ?_
        subst he
        obtain ⟨b1, b2⟩ := back_alone hw g1 g2
        obtain ⟨c1, c2⟩ := norm_spec depth v0 _ hv
        exact h cv w' _ b1 b2 rfl g4 g5 (Clean.move (X := Y) (X' := ⟨X.lnk, X.B, Y.I, X.m, Y.H⟩) g1.lnk.symm (fun b hb => ⟨hb, rfl⟩) (c2 Y cv g6) c1)
def PendR (S X : Ctx) (tmps : Array Value) (pd : Pend) : Prop := ∃ β : Nat → Nat,
  (∀ t sz, (t, sz) ∈ pd → tmps.getD t Go.undef = .pointer (some ⟨β t, 0, none⟩) ∧ (∃ c e, X.H[β t]? = some (.cells c e (0, 0)) ∧ c.size = sz) ∧ S.H.size ≤ β t ∧ ¬ X.I (β t) ∧ ¬ Live X (β t)) ∧
  ∀ t s t' s', (t, s) ∈ pd → (t', s') ∈ pd → t ≠ t' → β t ≠ β t'
theorem PendR.nil (S X : Ctx) (tmps : Array Value) : PendR S X tmps [] := ⟨fun _ => 0, fun _ _ h => by simp at h, fun _ _ _ _ h => by simp at h⟩
theorem PendR.goes {S X X' : Ctx} {tmps tmps' : Array Value} {pd pd' : Pend} (h : PendR S X tmps pd) (hg : Goes X X') (hsub : ∀ p ∈ pd', p ∈ pd) (hsame : ∀ t sz, (t, sz) ∈ pd' → tmps'.getD t Go.undef = tmps.getD t Go.undef) : PendR S X' tmps' pd' := by
  obtain ⟨β, h1, h2⟩ := h
  refine ⟨β, fun t sz ht => ?_, fun t s t' s' ht ht' => h2 t s t' s' (hsub _ ht) (hsub _ ht')⟩
  obtain ⟨k1, ⟨c, e, k2, k3⟩, k4, k5, k6⟩ := h1 t sz (hsub _ ht)
  have hlt := size_lt_of_getElem? k2
  refine ⟨(hsame t sz ht).trans k1, ⟨c, e, (hg.frame _ hlt k6).trans k2, k3⟩, k4, fun hI => ?_, fun hL => ?_⟩
  · rcases hg.immo _ hI with q | q | q
    · exact k5 q
    · exact k6 q
    · omega
  · rcases hg.fresh _ hL with q | q
    · exact k6 q
    · omega
def chkGuard (nt : Nat) (ops : Array Oper) (g : Option (Nat × Bool)) (g' : Option (Nat × Bool)) : Bool :=
  match g, g' with
  | none, none => true
  | some (g, b), some (j, b') => b == b' && (ops[j]?).bind (·.dst) == some g && decide (g < nt)
  | _, _ => false
def pendZero (P : Program) (t : TypeId) (sz : Nat) : Bool :=
  match P.info? t with
  | some i => (match i.zero with | some z => z.cells.size == sz | none => false)
  | none => false
def chkRO (P : Program) (lnk : Nat → FuncId) (cf : FuncId → Bool → Bool) (nt : Nat) (ops : Array Oper) (r : RO) (o : Oper) : Bool :=
  chkGuard nt ops r.guard o.guard &&
  match r.op with
  | .init _ sz t x => r.dst == some t && o.dst == none && decide (t < nt) && (match o.op with | .store ty (.tmp t') c => t == t' && sizeIs P ty sz && chkOpd lnk x c | _ => false)
  | .pend sz => r.dst == o.dst && (match r.dst with | some d => decide (d < nt) | none => false) && (match o.op with | .alloc t => pendZero P t sz | _ => false)
  | .call pid args | .callp pid args => r.dst == o.dst && r.dst.all (decide <| · < nt) && (match o.op with | .call ⟨.value (.func f), ds, _⟩ => lnk pid == f && chkOpds lnk args ds.toList | _ => false)
  | .callv fo args => r.dst == o.dst && r.dst.all (decide <| · < nt) && (match o.op with | .call ⟨.value c, ds, _⟩ => chkOpd lnk fo c && chkOpds lnk args ds.toList | _ => false)
  | p => r.dst == o.dst && r.dst.all (decide <| · < nt) && chkOp P lnk cf p o.op
theorem wanted_of {nt : Nat} {ops : Array Oper} {r : RO} {b : Bool} (ht : TR X T a.tmps) (hsz : nt ≤ a.tmps.size) (hg : chkGuard nt ops r.guard o.guard = true) (hw : wantedG T r.guard = some b) : Region.wanted o (yielded ops a.tmps) = b := by
  unfold chkGuard at hg
  split at hg
  · rename_i h1 h2
    simp only [h1, wantedG, Option.some.injEq] at hw
    subst hw
    simp [Region.wanted, h2]
  · rename_i g bb j bb' h1 h2
    simp only [Bool.and_eq_true, beq_iff_eq, decide_eq_true_eq] at hg
    obtain ⟨⟨rfl, hd⟩, hlt⟩ := hg
    have hget : a.tmps[g]? = some (a.tmps.getD g Go.undef) := by
      rw [Array.getD_eq_getD_getElem?, Array.getElem?_eq_getElem (by omega)]; rfl
    have hr := ht g
    simp only [h1, wantedG] at hw
    unfold Region.wanted yielded
    simp only [h2, hd, Option.bind_some, hget]
    generalize a.tmps.getD g Go.undef = q at hr
    split at hw
    · rename_i b0 hb0
      rw [hb0] at hr
      cases hr
      simp only [Option.some.injEq] at hw
      subst hw
      cases b0 <;> cases bb <;> rfl
    · rename_i vs hb0
      rw [hb0] at hr
      cases hr
      simp only [Option.some.injEq] at hw
      subst hw
      cases bb <;> rfl
    · cases hw
  · cases hg
theorem put_get {d : Option Nat} {cv : Value} {t : Nat} (ht : some t ≠ d) : (a.put d cv).tmps.getD t Go.undef = a.tmps.getD t Go.undef := by
  cases d with
  | none => rfl
  | some d =>
    have hne : d ≠ t := fun e => ht (by rw [e])
    simp [Act.put, Array.getElem?_setIfInBounds_ne hne]
theorem put_get_same {d : Nat} {cv : Value} (hd : d < a.tmps.size) : (a.put (some d) cv).tmps.getD d Go.undef = cv := by
  simp [Act.put, hd]
theorem put_size {d : Option Nat} {cv : Value} : (a.put d cv).tmps.size = a.tmps.size := by cases d <;> simp [Act.put]
theorem put_defers {d : Option Nat} {cv : Value} : (a.put d cv).defers = a.defers := by cases d <;> rfl
theorem TR.put {X' : Ctx} {r : Option Nat} {a' : Act} (ht : TR X' T a.tmps) (hsame : ∀ t, some t ≠ r → a'.tmps.getD t Go.undef = a.tmps.getD t Go.undef) (hd : ∀ d, r = some d → VR X' v (a'.tmps.getD d Go.undef)) : TR X' (updO T r v) a'.tmps := by
  intro t
  cases r with
  | none => simp only [updO]; rw [hsame t (by simp)]; exact ht t
  | some d =>
    simp only [updO, upd]
    by_cases h : t = d
    · subst h; rw [if_pos rfl]; exact hd _ rfl
    · rw [if_neg h, hsame t (by simpa using h)]; exact ht t
structure StepR (S X X' : Ctx) (r : RO) (v : V) (m' : Mem) (pd' : Pend) (a a' : Act) (w w' : World) : Prop where
  goes : Goes S X'
  ext : Ext X X'
  hw : WR X'
  hm : X'.m = m'
  hH : X'.H = w'.heap
  weq : WEq w w'
  size : a'.tmps.size = a.tmps.size
  df : a'.defers = a.defers
  same : ∀ t, some t ≠ r.dst → a'.tmps.getD t Go.undef = a.tmps.getD t Go.undef
  at_ : ∀ d, r.dst = some d → VR X' v (a'.tmps.getD d Go.undef)
  pend : PendR S X' a'.tmps pd'
theorem step_region {lnk : Nat → FuncId} {cf : FuncId → Bool → Bool} (hcf : ∀ f sub, cf f sub = true → Carry P f sub) (hcall : CallSound P lnk call) (hl : X.lnk = lnk) {nt : Nat} {ops : Array Oper} {r : RO} (hro : chkRO P lnk cf nt ops r o = true)
    {S : Ctx} (hS : Goes S X) (hw : WR X) (hH : X.H = w.heap) (ht : TR X T a.tmps) (hsz : nt ≤ a.tmps.size) {pd pd' : Pend} (hp : PendR S X a.tmps pd) (hpd : pendStep pd r.dst r.op = some pd') (hs : stepOp call T X.m r.op = some (v, m'))
    (K : Act → World → Prop) (Q : Exit → Act → World → Prop) (hK : ∀ a' w' X', StepR S X X' r v m' pd' a a' w w' → K a' w') : o.wp P a w K Q := by
  unfold chkRO at hro
  simp only [Bool.and_eq_true] at hro
  obtain ⟨_, hro⟩ := hro
  have plain : OpOK P o a w X v m' → r.dst = o.dst → r.dst.all (decide <| · < nt) = true → pd' = (match r.dst with | some d => pd.filter (fun p => p.1 != d) | none => pd) → o.wp P a w K Q := by
    intro hok hd hdn hpd'
    refine hok K Q fun cv w' X' g1 g2 g3 g4 g5 g6 => hK _ w' X' ⟨hS.trans g1, g1.toExt, g2, g3, g4, g5, put_size, put_defers, fun t ht => put_get (by rw [← hd]; exact ht), fun d hdd => ?_, ?_⟩
    · rw [hdd] at hdn
      simp only [Option.all_some, decide_eq_true_eq] at hdn
      rw [← hd, hdd, put_get_same (by omega)]; exact g6
    · subst hpd'
      refine hp.goes g1 (fun p hp => ?_) (fun t sz htp => ?_)
      · cases hr : r.dst with
        | none => rw [hr] at hp; exact hp
        | some d => rw [hr] at hp; exact (List.mem_filter.1 hp).1
      · refine put_get fun e => ?_
        rw [← hd] at e
        rw [← e] at htp
        simp only [List.mem_filter, bne_self_eq_false, Bool.false_eq_true, and_false] at htp
  cases hop : r.op with
  | pend sz =>
    rw [hop] at hro hpd hs
    simp only [Bool.and_eq_true, beq_iff_eq] at hro
    obtain ⟨⟨h1, h2⟩, h3⟩ := hro
    cases hd : r.dst with
    | none => rw [hd] at h2; cases h2
    | some d =>
      rw [hd] at h1 h2 hpd
      simp only [decide_eq_true_eq] at h2
      simp only [pendStep, Option.some.injEq] at hpd
      subst hpd
      simp only [stepOp, Option.some.injEq, Prod.mk.injEq] at hs
      obtain ⟨rfl, rfl⟩ := hs
      split at h3
      case h_2 => cases h3
      rename_i t ho
      unfold pendZero at h3
      split at h3
      case h_2 => cases h3
      rename_i i hi
      split at h3
      case h_2 => cases h3
      rename_i z hz
      simp only [beq_iff_eq] at h3
      have hr : (execOp a.eval o).run P w = .ok (.value (.pointer (some ⟨w.heap.size, 0, none⟩))) (w.alloc (.cells z.cells t)) := by
        simp [execOp, ho, Instr.alloc, run_zero hi hz, newVar, newRow]
      unfold Oper.wp
      rw [hr]
      have ext : Ext X ⟨X.lnk, X.B, X.I, X.m, X.H.push (.cells z.cells t)⟩ := by
        refine ⟨rfl, Nat.le_refl _, fun b hb => ⟨hb, push_old (hw.imm b hb)⟩, fun i st cs' _ hc => ⟨cs', hc, rfl, rfl, fun b c e hb hh => ⟨c, e, ?_, rfl⟩⟩, fun i st es' _ he => ⟨es', he, rfl⟩⟩
        exact (push_old (Array.getElem?_eq_some_iff.1 hh).1).trans hh
      have g1 : Goes X ⟨X.lnk, X.B, X.I, X.m, X.H.push (.cells z.cells t)⟩ := ⟨ext, by simp, fun b hb _ => push_old hb, fun b hb => .inl hb, fun b hb => .inl hb⟩
      have g2 : WR ⟨X.lnk, X.B, X.I, X.m, X.H.push (.cells z.cells t)⟩ := ⟨hw.len, fun b hb => by have := hw.imm b hb; simp only [Array.size_push]; omega, fun i bk hi => by
        obtain ⟨b, h1, h2, h3⟩ := hw.live i bk hi
        exact ⟨b, h1, h2, h3.ext ext (push_old h3.lt)⟩, hw.inj⟩
      refine hK _ _ _ ⟨hS.trans g1, ext, g2, rfl, by show X.H.push _ = w.heap.push _; rw [hH], ⟨rfl, rfl, rfl⟩, put_size, put_defers, fun t ht => put_get (by rw [← h1, ← hd]; exact ht), fun d' hd' => .undef _, ?_⟩
      have hp' := hp.goes (pd' := pd.filter (fun p => p.1 != d)) (tmps' := (a.put o.dst (.pointer (some ⟨w.heap.size, 0, none⟩))).tmps) g1 (fun p hp => (List.mem_filter.1 hp).1) (fun t sz htp => by
        refine put_get fun e => ?_
        rw [← h1] at e
        cases e
        simp only [List.mem_filter, bne_self_eq_false, Bool.false_eq_true, and_false] at htp)
      obtain ⟨β, b1, b2⟩ := hp'
      have hne : ∀ t s, (t, s) ∈ pd.filter (fun p => p.1 != d) → t ≠ d ∧ β t < X.H.size := by
        intro t s hts
        refine ⟨by have := (List.mem_filter.1 hts).2; simpa using this, ?_⟩
        obtain ⟨β0, c1, _⟩ := hp
        obtain ⟨k1, _, _, _, _⟩ := b1 t s hts
        obtain ⟨q1, ⟨c, e, q2, _⟩, _⟩ := c1 t s (List.mem_filter.1 hts).1
        have htd : t ≠ d := by have := (List.mem_filter.1 hts).2; simpa using this
        rw [put_get (by rw [← h1]; simpa using htd), q1] at k1
        have : β0 t = β t := by injection k1 with h; injection h with h; injection h
        rw [← this]; exact size_lt_of_getElem? q2
      refine ⟨fun t => if t = d then X.H.size else β t, fun t s hts => ?_, fun t s t' s' hts hts' hn => ?_⟩
      · simp only [List.mem_cons, Prod.mk.injEq] at hts
        rcases hts with ⟨rfl, rfl⟩ | hts
        · simp only [if_true]
          refine ⟨by rw [← h1, put_get_same (by omega), hH], ⟨_, _, push_new, h3⟩, hS.size, fun hI => ?_, fun hL => ?_⟩
          · have := hw.imm _ hI; omega
          · have := hw.live_lt hL; omega
        · have := (hne t s hts).1
          simp only [this, if_false]
          exact b1 t s hts
      · simp only [List.mem_cons, Prod.mk.injEq] at hts hts'
        rcases hts with ⟨rfl, rfl⟩ | hts <;> rcases hts' with ⟨rfl, rfl⟩ | hts'
        · exact absurd rfl hn
        · have := hne t' s' hts'
          simp only [if_true, this.1, if_false]; omega
        · have := hne t s hts
          simp only [if_true, this.1, if_false]; omega
        · have k1 := hne t s hts
          have k2 := hne t' s' hts'
          simp only [k1.1, k2.1, if_false]
          exact b2 t s t' s' hts hts' hn
  | init imm sz t x =>
    rw [hop] at hro hpd hs
    simp only [Bool.and_eq_true, beq_iff_eq, decide_eq_true_eq] at hro
    obtain ⟨⟨⟨h1, h2⟩, h3⟩, h4⟩ := hro
    split at h4
    case h_2 => cases h4
    rename_i ty t' c ho
    simp only [Bool.and_eq_true, beq_iff_eq] at h4
    obtain ⟨⟨rfl, hsy⟩, hx⟩ := h4
    simp only [pendStep, Bool.and_eq_true, beq_iff_eq] at hpd
    split at hpd
    case isFalse => cases hpd
    rename_i hmem
    simp only [Option.some.injEq] at hpd
    subst hpd
    have hmem : (t, sz) ∈ pd := by simpa using hmem.1
    obtain ⟨β, b1, b2⟩ := hp
    obtain ⟨k1, ⟨cc, e, k2, k3⟩, k4, k5, k6⟩ := b1 t sz hmem
    have hxv : VR X (x.get T) (a.eval c) := by subst hl; exact get_VR hx ht
    simp only [stepOp] at hs
    split at hs
    case isFalse => cases hs
    rename_i hcond
    obtain ⟨q1, q2⟩ := hcond
    obtain ⟨c1, c2⟩ := cells_VR hxv q2
    have hk : (x.get T).cells.length = (a.eval c).cells.size := by simpa using c1.1
    have hk2 : w.heap[β t]? = some (.cells cc e (0, 0)) := by rw [← hH]; exact k2
    let w' := w.setRow (β t) (a.eval c).cells
    have hr : (execOp a.eval o).run P w = .ok .skip w' := by
      have hst := run_storeCells_from (P := P) (β t) e (a.eval c).cells.toList 0 cc w hk2 (by simp; omega) c2
      have hss : (sizeOf ty).run P w = .ok (a.eval c).cells.size w := by rw [run_sizeOf' hsy]; congr 1; omega
      have hta : a.eval (.tmp t) = .pointer (some ⟨β t, 0, none⟩) := k1
      simp only [execOp, ho, hta, Instr.storeAt, Instr.sureAddr, Sem.run_bind, Sem.run_pure, Result.andThen_ok, storeVar, hss]
      rw [if_neg (by simp)]
      rw [hst]
      simp [w']
    have hheap : w'.heap[β t]? = some (.cells (a.eval c).cells e (0, 0)) := setRow_heap w _ _ _ e (0, 0) hk2
    have hother : ∀ k, k ≠ β t → w'.heap[k]? = X.H[k]? := fun k hk => by show (w.setRow _ _).heap[k]? = _; rw [setRow_other' w _ k _ hk, hH]
    have hsize : w'.heap.size = X.H.size := by show (w.setRow _ _).heap.size = _; rw [setRow_size', hH]
    have hbt : β t < X.H.size := size_lt_of_getElem? k2
    have hSf : ∀ b, b < S.H.size → w'.heap[b]? = X.H[b]? := fun b hb => hother b (by omega)
    have hne : ∀ b, X.I b ∨ Live X b → b ≠ β t := fun b hb e => by subst e; exact hb.elim k5 k6
    have hpn : ∀ t' s', (t', s') ∈ pd.filter (fun p => p.1 != t) → (t', s') ∈ pd ∧ t' ≠ t := fun t' s' h => ⟨(List.mem_filter.1 h).1, by have := (List.mem_filter.1 h).2; simpa using this⟩
    unfold Oper.wp
    rw [hr]
    cases imm with
    | true =>
      simp only [if_true, Option.some.injEq, Prod.mk.injEq] at hs
      obtain ⟨rfl, rfl⟩ := hs
      have ext : Ext X ⟨X.lnk, X.B, fun b => X.I b ∨ b = β t, X.m, w'.heap⟩ := by
        refine ⟨rfl, Nat.le_refl _, fun b hb => ⟨.inl hb, hother b (hne b (.inl hb))⟩, fun i st cs' _ hc => ⟨cs', hc, rfl, rfl, fun b c e hb hh => ⟨c, e, ?_, rfl⟩⟩, fun i st es' _ he => ⟨es', he, rfl⟩⟩
        rw [hother b]; exact hh
        refine hne b (.inr ?_)
        unfold Mem.cells at hc
        split at hc
        · rename_i s cs'' hbs; exact ⟨i, _, hbs, hb⟩
        · cases hc
      refine hK _ w' ⟨X.lnk, X.B, fun b => X.I b ∨ b = β t, X.m, w'.heap⟩ ⟨⟨hS.toExt.trans ext, by simp only; rw [hsize]; exact hS.size, fun b hb hn => (hSf b hb).trans (hS.frame b hb hn), fun b hb => hS.fresh b hb, fun b hb => ?_⟩, ext,
        ⟨hw.len, fun b hb => ?_, fun i bk hi => ?_, hw.inj⟩, rfl, rfl, ⟨rfl, rfl, rfl⟩, put_size, put_defers, fun t' ht' => put_get (by rw [h2]; simp), fun d hd => ?_, ?_⟩
      · rcases hb with hb | rfl
        · exact hS.immo b hb
        · exact .inr (.inr k4)
      · rw [hsize]
        rcases hb with hb | rfl
        · exact hw.imm b hb
        · exact hbt
      · obtain ⟨b, r1, r2, r3⟩ := hw.live i bk hi
        refine ⟨b, r1, fun hb => ?_, r3.ext ext (hother b (hne b (.inr ⟨i, bk, hi, r1⟩)))⟩
        rcases hb with hb | hb
        · exact r2 hb
        · exact hne b (.inr ⟨i, bk, hi, r1⟩) hb
      · rw [h1] at hd; cases hd
        rw [h2, put_get (by simp), k1]
        have hc1 : VRs ⟨X.lnk, X.B, fun b => X.I b ∨ b = β t, X.m, w'.heap⟩ (x.get T).cells (a.eval c).cells.toList := c1.ext ext
        have := (hc1.row c2 hheap).iptr (.inr rfl) 0
        rwa [Nat.zero_add] at this
      · refine ⟨β, fun t' s' hts => ?_, fun t1 s1 t2 s2 hm1 hm2 hn => b2 t1 s1 t2 s2 (hpn _ _ hm1).1 (hpn _ _ hm2).1 hn⟩
        obtain ⟨p1, p2⟩ := hpn t' s' hts
        obtain ⟨r1, ⟨c', e', r2, r3⟩, r4, r5, r6⟩ := b1 t' s' p1
        have hbb : β t' ≠ β t := b2 t' s' t sz p1 hmem p2
        refine ⟨by rw [h2, put_get (by simp)]; exact r1, ⟨c', e', (hother _ hbb).trans r2, r3⟩, r4, fun hI => ?_, r6⟩
        rcases hI with hI | hI
        · exact r5 hI
        · exact hbb hI
    | false =>
      simp only [Bool.false_eq_true, if_false, Option.some.injEq, Prod.mk.injEq] at hs
      obtain ⟨rfl, rfl⟩ := hs
      have hnew : (X.m.push (x.get T).cells).bs[X.m.bs.length]? = some (some (.cells X.m.gen (x.get T).cells)) := by simp [Mem.push]
      have hBn : (X.B ++ [β t])[X.m.bs.length]? = some (β t) := by rw [← hw.len]; simp
      have hBo : ∀ i, i ≠ X.m.bs.length → (X.B ++ [β t])[i]? = X.B[i]? := fun i hi => by
        by_cases h : i < X.B.length
        · rw [List.getElem?_append_left h]
        · rw [List.getElem?_append_right (by omega), List.getElem?_eq_none (by have := hw.len; simp; omega), List.getElem?_eq_none (by omega)]
      have hbo : ∀ i, i ≠ X.m.bs.length → (X.m.push (x.get T).cells).bs[i]? = X.m.bs[i]? := fun i hi => Mem.push_old hi
      have ext : Ext X ⟨X.lnk, X.B ++ [β t], X.I, X.m.push (x.get T).cells, w'.heap⟩ := by
        refine ⟨rfl, by simp [Mem.push], fun b hb => ⟨hb, hother b (hne b (.inl hb))⟩, fun i st cs' hst hc => ?_, fun i st es' hst he => ?_⟩
        · by_cases hi : i = X.m.bs.length
          · subst hi
            simp only [Mem.cells, hnew] at hc
            split at hc
            · omega
            · cases hc
          · simp only [Mem.cells, hbo i hi] at hc
            refine ⟨cs', hc, rfl, hBo i hi, fun b c e hb hh => ⟨c, e, ?_, rfl⟩⟩
            rw [hother b]; exact hh
            refine hne b (.inr ?_)
            split at hc
            · rename_i s cs'' hbs; exact ⟨i, _, hbs, hb⟩
            · cases hc
        · by_cases hi : i = X.m.bs.length
          · subst hi
            simp only [Mem.map, hnew] at he
            cases he
          · simp only [Mem.map, hbo i hi] at he
            exact ⟨es', he, hBo i hi⟩
      have hlv : ∀ b, Live ⟨X.lnk, X.B ++ [β t], X.I, X.m.push (x.get T).cells, w'.heap⟩ b → Live X b ∨ b = β t := by
        rintro b ⟨i, bk, r1, r2⟩
        by_cases hi : i = X.m.bs.length
        · subst hi
          rw [hBn] at r2; cases r2; exact .inr rfl
        · simp only at r1 r2
          rw [hbo i hi] at r1
          rw [hBo i hi] at r2
          exact .inl ⟨i, bk, r1, r2⟩
      refine hK _ w' ⟨X.lnk, X.B ++ [β t], X.I, X.m.push (x.get T).cells, w'.heap⟩ ⟨⟨hS.toExt.trans ext, by simp only; rw [hsize]; exact hS.size, fun b hb hn => (hSf b hb).trans (hS.frame b hb hn), fun b hb => ?_, fun b hb => hS.immo b hb⟩, ext,
        ⟨by simp [Mem.push, hw.len], fun b hb => ?_, fun i bk hi => ?_, fun i j bi bj b r1 r2 r3 r4 => ?_⟩, rfl, rfl, ⟨rfl, rfl, rfl⟩, put_size, put_defers, fun t' ht' => put_get (by rw [h2]; simp), fun d hd => ?_, ?_⟩
      · rcases hlv b hb with hb | rfl
        · exact hS.fresh b hb
        · exact .inr k4
      · simp only; rw [hsize]; exact hw.imm b hb
      · by_cases hii : i = X.m.bs.length
        · subst hii
          simp only [hnew, Option.some.injEq] at hi
          subst hi
          refine ⟨β t, hBn, k5, by simp [Mem.push], _, e, hheap, by omega, fun j v hj => c2 v (by rw [Array.mem_toList_iff]; exact Array.mem_of_getElem? hj), fun j v u hj hu => (c1.2 j v u hj (by simpa using hu)).ext ext⟩
        · simp only at hi
          rw [hbo i hii] at hi
          obtain ⟨b, r1, r2, r3⟩ := hw.live i bk hi
          exact ⟨b, (hBo i hii).trans r1, r2, r3.ext ext (hother b (hne b (.inr ⟨i, bk, hi, r1⟩)))⟩
      · simp only at r1 r2 r3 r4
        by_cases hi : i = X.m.bs.length
        · by_cases hj : j = X.m.bs.length
          · omega
          · subst hi
            rw [hBn] at r3; cases r3
            rw [hbo j hj] at r2
            rw [hBo j hj] at r4
            exact absurd ⟨j, bj, r2, r4⟩ k6
        · rw [hbo i hi] at r1
          rw [hBo i hi] at r3
          by_cases hj : j = X.m.bs.length
          · subst hj
            rw [hBn] at r4; cases r4
            exact absurd ⟨i, bi, r1, r3⟩ k6
          · rw [hbo j hj] at r2
            rw [hBo j hj] at r4
            exact hw.inj i j bi bj b r1 r2 r3 r4
      · rw [h1] at hd; cases hd
        rw [h2, put_get (by simp), k1]
        exact .ptr _ _ _ _ (by simp [Mem.push]) fun cs _ => ⟨hBn, rfl, rfl⟩
      · refine ⟨β, fun t' s' hts => ?_, fun t1 s1 t2 s2 hm1 hm2 hn => b2 t1 s1 t2 s2 (hpn _ _ hm1).1 (hpn _ _ hm2).1 hn⟩
        obtain ⟨p1, p2⟩ := hpn t' s' hts
        obtain ⟨r1, ⟨c', e', r2, r3⟩, r4, r5, r6⟩ := b1 t' s' p1
        have hbb : β t' ≠ β t := b2 t' s' t sz p1 hmem p2
        refine ⟨by rw [h2, put_get (by simp)]; exact r1, ⟨c', e', (hother _ hbb).trans r2, r3⟩, r4, r5, fun hL => ?_⟩
        rcases hlv _ hL with hL | hL
        · exact r6 hL
        · exact hbb hL
  | call pid args =>
    rw [hop] at hro hpd hs
    simp only [Bool.and_eq_true, beq_iff_eq] at hro
    obtain ⟨⟨h1, h2⟩, h3⟩ := hro
    split at h3
    case h_2 => cases h3
    simp only [Bool.and_eq_true, beq_iff_eq] at h3
    simp only [pendStep, Option.some.injEq] at hpd
    exact plain (ok_call hcall hl hw hH ht (by assumption) h3.1 h3.2 hs) h1 h2 hpd.symm
  | callp pid args =>
    rw [hop] at hro hpd hs
    simp only [Bool.and_eq_true, beq_iff_eq] at hro
    obtain ⟨⟨h1, h2⟩, h3⟩ := hro
    split at h3
    case h_2 => cases h3
    simp only [Bool.and_eq_true, beq_iff_eq] at h3
    simp only [pendStep, Option.some.injEq] at hpd
    exact plain (ok_callp hcall hl hw hH ht (by assumption) h3.1 h3.2 hs) h1 h2 hpd.symm
  | callv fo args =>
    rw [hop] at hro hpd hs
    simp only [Bool.and_eq_true, beq_iff_eq] at hro
    obtain ⟨⟨h1, h2⟩, h3⟩ := hro
    split at h3
    case h_2 => cases h3
    simp only [Bool.and_eq_true] at h3
    simp only [pendStep, Option.some.injEq] at hpd
    exact plain (ok_callv hcall hl hw hH ht (by assumption) h3.1 h3.2 hs) h1 h2 hpd.symm
  | _ =>
    rw [hop] at hro hpd hs
    simp only [Bool.and_eq_true, beq_iff_eq] at hro
    simp only [pendStep, Option.some.injEq] at hpd
    exact plain (ok_op hcf hw hH ht hl hro.2 hs) hro.1.1 hro.1.2 hpd.symm
end Go.Rx
