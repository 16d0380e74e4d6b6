/-
A part of the proof: lemmas on the machine that the printed functions run on, or contracts of functions.
-/
import Derived.Test.YtfnioapgelabfaaGreatDoorRxDraw3
import Derived.LoopN
import Derived.Scope
set_option linter.unusedVariables false
set_option linter.unusedSimpArgs false
namespace Go.Rx
variable {P : Program} {X : Ctx} {T : Tm} {a : Act} {w : World} {o : Oper} {call : CallF} {v : V} {m' : Mem}
def Ex.out : Ex → Exit
  | .normal => .normal
  | .exit id => .exit id
  | .ret => .ret
def chkC (P : Program) (lnk : Nat → FuncId) (cf : FuncId → Bool → Bool) (nt : Nat) : PC → Code → Bool
  | .skip, .skip => true
  | .label, .label _ => true
  | .ret, .ret => true
  | .region draw rs, .region _ ops d => draw == d && chkROs P lnk cf nt ops rs ops.toList && (!d || chkDraw rs ops.toList)
  | .seq a b, .seq c d => chkC P lnk cf nt a c && chkC P lnk cf nt b d
  | .cond c a b, .cond c' x y => chkOpd lnk c c' && chkC P lnk cf nt a x && chkC P lnk cf nt b y
  | .block id b, .block id' c => id == id' && chkC P lnk cf nt b c
  | .loop b, .loop c => chkC P lnk cf nt b c
  | .exit id, .exit id' => id == id'
  | .scope b, .scope c => chkC P lnk cf nt b c
  | _, _ => false
def CodeOK (P : Program) (lnk : Nat → FuncId) (nt : Nat) (ev : St → Option (Ex × St)) (c : Code) : Prop :=
  ∀ (S : Ctx) (a0 : Act) (w0 : World) (T : Tm) (X : Ctx) (a : Act) (w : World) (Q : Exit → Act → World → Prop) (e : Ex) (T' : Tm) (m' : Mem), X.lnk = lnk → MidR S X T a0 a w0 w → nt ≤ a.tmps.size → ev (T, X.m) = some (e, T', m') →
    (∀ a' w' X', MidR S X' T' a0 a' w0 w' → X'.m = m' → X'.lnk = lnk → Q e.out a' w') → c.wp P Q a w
theorem MidR.same {S X X' : Ctx} {T : Tm} {a0 a' : Act} {w0 w' : World} (hl : S.lnk = X.lnk) (h : MidR S X' T a0 a' w0 w') : X'.lnk = X.lnk := by
  rw [← hl]; exact h.goes.lnk
theorem code_ok {lnk : Nat → FuncId} {cf : FuncId → Bool → Bool} (hcf : ∀ f sub, cf f sub = true → Carry P f sub) (hcall : CallSound P lnk call) (hmix : P.follows .mixedOrders = true) {nt : Nat} {k : Nat} :
    ∀ (pc : PC) (c : Code), chkC P lnk cf nt pc c = true → CodeOK P lnk nt (evC call k pc) c := by
  intro pc
  induction pc with
  | skip =>
    intro c hc S a0 w0 T X a w Q e T' m' hl hm hn he hK
    cases c <;> simp only [chkC, Bool.false_eq_true] at hc
    simp only [evC, Option.some.injEq, Prod.mk.injEq] at he
    obtain ⟨rfl, rfl, he⟩ := he
    exact wp_skip (hK a w X hm he hl)
  | label =>
    intro c hc S a0 w0 T X a w Q e T' m' hl hm hn he hK
    cases c <;> simp only [chkC, Bool.false_eq_true] at hc
    simp only [evC, Option.some.injEq, Prod.mk.injEq] at he
    obtain ⟨rfl, rfl, he⟩ := he
    exact wp_label (hK a w X hm he hl)
  | ret =>
    intro c hc S a0 w0 T X a w Q e T' m' hl hm hn he hK
    cases c <;> simp only [chkC, Bool.false_eq_true] at hc
    simp only [evC, Option.some.injEq, Prod.mk.injEq] at he
    obtain ⟨rfl, rfl, he⟩ := he
    exact wp_ret (hK a w X hm he hl)
  | exit id =>
    intro c hc S a0 w0 T X a w Q e T' m' hl hm hn he hK
    cases c <;> simp only [chkC, Bool.false_eq_true, beq_iff_eq] at hc
    subst hc
    simp only [evC, Option.some.injEq, Prod.mk.injEq] at he
    obtain ⟨rfl, rfl, he⟩ := he
    exact wp_exit (hK a w X hm he hl)
  | region draw rs =>
    intro c hc S a0 w0 T X a w Q e T' m' hl hm hn he hK
    cases c <;> simp only [chkC, Bool.false_eq_true, beq_iff_eq, Bool.and_eq_true, Bool.or_eq_true] at hc
    rename_i id ops d
    obtain ⟨⟨rfl, h1⟩, h2⟩ := hc
    have hlS : S.lnk = lnk := by rw [← hm.goes.lnk]; exact hl
    cases draw with
    | false =>
      simp only [evC, Bool.false_eq_true, if_false] at he
      cases hs : evOps call rs [] T X.m with
      | none => simp [hs] at he
      | some s =>
        simp only [hs, Option.bind_some, Option.some.injEq, Prod.mk.injEq] at he
        obtain ⟨rfl, rfl⟩ := he
        exact wp_region_list (region_text hcf hcall h1 hl hm hn (PendR.nil S X _) hs fun a' w' X' h1 h2 => hK a' w' X' h1 h2 (by rw [h1.goes.lnk]; exact hlS))
    | true =>
      simp only [evC, if_true] at he
      cases hs : evDraw call rs [] T X.m 0 [] [] with
      | none => simp [hs] at he
      | some s =>
        simp only [hs, Option.bind_some, Option.some.injEq, Prod.mk.injEq] at he
        obtain ⟨rfl, rfl⟩ := he
        exact region_draw hcf hcall hmix h1 (h2.resolve_left (by simp)) hl hm hn hs fun a' w' X' h1 h2 => hK a' w' X' h1 h2 (by rw [h1.goes.lnk]; exact hlS)
  | seq x y ihx ihy =>
    intro c hc S a0 w0 T X a w Q e T' m' hl hm hn he hK
    cases c <;> simp only [chkC, Bool.false_eq_true, Bool.and_eq_true] at hc
    rename_i c d
    simp only [evC] at he
    cases hs : evC call k x (T, X.m) with
    | none => simp [hs] at he
    | some s =>
      obtain ⟨e1, T1, m1⟩ := s
      simp only [hs, Option.bind_some] at he
      refine wp_seq (ihx c hc.1 S a0 w0 T X a w _ e1 T1 m1 hl hm hn hs fun a' w' X' hm' hx' hl' => ?_)
      cases e1 with
      | normal =>
        simp only at he
        exact ihy d hc.2 S a0 w0 T1 X' a' w' Q e T' m' hl' hm' (by rw [hm'.size, ← hm.size]; exact hn) (by rw [hx']; exact he) hK
      | exit id =>
        simp only [Option.some.injEq, Prod.mk.injEq] at he
        obtain ⟨rfl, rfl, rfl⟩ := he
        exact hK a' w' X' hm' hx' hl'
      | ret =>
        simp only [Option.some.injEq, Prod.mk.injEq] at he
        obtain ⟨rfl, rfl, rfl⟩ := he
        exact hK a' w' X' hm' hx' hl'
  | cond c x y ihx ihy =>
    intro c' hc S a0 w0 T X a w Q e T' m' hl hm hn he hK
    cases c' <;> simp only [chkC, Bool.false_eq_true, Bool.and_eq_true] at hc
    rename_i o c d
    obtain ⟨⟨h1, h2⟩, h3⟩ := hc
    simp only [evC] at he
    have hv := get_VR (a := a) (by rw [hl]; exact h1) hm.tr
    split at he
    · rename_i hb
      rw [hb] at hv
      generalize hz : a.eval o = z at hv
      cases hv
      exact wp_cond_true hz (ihx c h2 S a0 w0 T X a w Q e T' m' hl hm hn he hK)
    · rename_i hb
      rw [hb] at hv
      generalize hz : a.eval o = z at hv
      cases hv
      exact wp_cond_false hz (ihy d h3 S a0 w0 T X a w Q e T' m' hl hm hn he hK)
    · cases he
  | block id b ih =>
    intro c hc S a0 w0 T X a w Q e T' m' hl hm hn he hK
    cases c <;> simp only [chkC, Bool.false_eq_true, Bool.and_eq_true, beq_iff_eq] at hc
    rename_i id' c
    obtain ⟨rfl, h2⟩ := hc
    simp only [evC] at he
    cases hs : evC call k b (T, X.m) with
    | none => simp [hs] at he
    | some s =>
      obtain ⟨e1, T1, m1⟩ := s
      simp only [hs, Option.bind_some, Option.some.injEq, Prod.mk.injEq] at he
      obtain ⟨h3, rfl, rfl⟩ := he
      refine wp_block (ih c h2 S a0 w0 T X a w _ e1 T1 m1 hl hm hn hs fun a' w' X' hm' hx' hl' => ?_)
      have hk := hK a' w' X' hm' hx' hl'
      cases e1 with
      | normal => simp only [reduceCtorEq, if_false] at h3; subst h3; exact hk
      | ret => simp only [reduceCtorEq, if_false] at h3; subst h3; exact hk
      | exit i =>
        simp only [Ex.exit.injEq] at h3
        simp only [Ex.out, Exit.inBlock]
        split at h3
        · rename_i h; rw [if_pos h]; subst h3; exact hk
        · rename_i h; rw [if_neg h]; subst h3; exact hk
  | loop b ih =>
    intro c hc S a0 w0 T X a w Q e T' m' hl hm hn he hK
    cases c <;> simp only [chkC, Bool.false_eq_true] at hc
    rename_i c
    simp only [evC] at he
    refine wp_loop_rounds k ?_
    have key : ∀ n T X a w, X.lnk = lnk → MidR S X T a0 a w0 w → nt ≤ a.tmps.size → evLoop (evC call k b) n (T, X.m) = some (e, T', m') → Code.rounds P c Q n a w := by
      intro n
      induction n with
      | zero => intro T X a w _ _ _ he; simp [evLoop] at he
      | succ n ihn =>
        intro T X a w hl hm hn he
        simp only [evLoop] at he
        cases hs : evC call k b (T, X.m) with
        | none => simp [hs] at he
        | some s =>
          obtain ⟨e1, T1, m1⟩ := s
          simp only [hs, Option.bind_some] at he
          rw [rounds_succ]
          refine ih c hc S a0 w0 T X a w _ e1 T1 m1 hl hm hn hs fun a' w' X' hm' hx' hl' => ?_
          cases e1 with
          | normal =>
            simp only at he
            exact ihn T1 X' a' w' hl' hm' (by rw [hm'.size, ← hm.size]; exact hn) (by rw [hx']; exact he)
          | exit id =>
            simp only [Option.some.injEq, Prod.mk.injEq] at he
            obtain ⟨rfl, rfl, rfl⟩ := he
            exact hK a' w' X' hm' hx' hl'
          | ret =>
            simp only [Option.some.injEq, Prod.mk.injEq] at he
            obtain ⟨rfl, rfl, rfl⟩ := he
            exact hK a' w' X' hm' hx' hl'
    exact key k T X a w hl hm hn he
  | scope b ih =>
    intro c hc S a0 w0 T X a w Q e T' m' hl hm hn he hK
    cases c <;> simp only [chkC, Bool.false_eq_true] at hc
    rename_i c
    simp only [evC] at he
    refine wp_scope_straight (ih c hc S a0 w0 T X a w _ e T' m' hl hm hn he fun a' w' X' hm' hx' hl' => ?_)
    have hk := hK a' w' X' hm' hx' hl'
    cases e <;> exact hk
def chkRes (P : Program) : List Res → List ResultVar → Bool
  | [], [] => true
  | .tmp t :: rs, .tmp t' :: cs => t == t' && chkRes P rs cs
  | .cell t ag sz :: rs, .cell t' ty :: cs => t == t' && aggIs P ty ag && sizeIs P ty sz && chkRes P rs cs
  | _, _ => false
def resVar (tmps : Array Value) : ResultVar → Sem Value
  | .tmp t => pure (tmps.getD t undef)
  | .cell a t => do loadVar t (← asAddr (tmps.getD a undef))
theorem res_one (hw : WR X) (hH : X.H = w.heap) {tmps : Array Value} (ht : TR X T tmps) : ∀ {rs : List Res} {cs : List ResultVar} {vs : List V}, chkRes P rs cs = true → allM (resOne T X.m) rs = some vs →
    ∃ cvs : List Value, (cs.mapM (resVar tmps)).run P w = .ok cvs w ∧ VRs X vs cvs
  | [], [], vs, _, h => by
    simp only [allM, Option.some.injEq] at h
    subst h
    exact ⟨[], by simp, rfl, fun i c v h => by simp at h⟩
  | .tmp t :: rs, .tmp t' :: cs, vs, hc, h => by
    simp only [chkRes, Bool.and_eq_true, beq_iff_eq] at hc
    obtain ⟨rfl, hc⟩ := hc
    simp only [allM, resOne, Option.bind_some] at h
    cases hr : allM (resOne T X.m) rs with
    | none => simp [hr] at h
    | some us =>
      simp only [hr, Option.bind_some, Option.some.injEq] at h
      subst h
      obtain ⟨cvs, h1, h2, h3⟩ := res_one hw hH ht hc hr
      refine ⟨tmps.getD t Go.undef :: cvs, by simp [List.mapM_cons, resVar, h1], by simp [h2], fun i c v hc hv => ?_⟩
      cases i with
      | zero => simp at hc hv; subst hc; subst hv; simpa using ht t
      | succ i => exact h3 i c v (by simpa using hc) (by simpa using hv)
  | .cell t ag sz :: rs, .cell t' ty :: cs, vs, hc, h => by
    simp only [chkRes, Bool.and_eq_true, beq_iff_eq] at hc
    obtain ⟨⟨⟨rfl, hag⟩, hsz⟩, hc⟩ := hc
    simp only [allM] at h
    cases h0 : resOne T X.m (.cell t ag sz) with
    | none => simp [h0] at h
    | some u =>
      cases hr : allM (resOne T X.m) rs with
      | none => simp [h0, hr] at h
      | some us =>
        simp only [h0, hr, Option.bind_some, Option.some.injEq] at h
        subst h
        obtain ⟨cvs, h1, h2, h3⟩ := res_one hw hH ht hc hr
        have hone : ∃ cv, (resVar tmps (.cell t ty)).run P w = .ok cv w ∧ VR X u cv := by
          have ht' := ht t
          simp only [resOne] at h0
          split at h0
          · rename_i id st off hx
            rw [hx] at ht'
            cases hcs : X.m.cells id st with
            | none => simp [hcs] at h0
            | some cs =>
              simp only [hcs, Option.bind_some] at h0
              obtain ⟨b, cc, e, he, _, _, _, _, hrow⟩ := ptr_row hw ht' hcs
              obtain ⟨cv, hr, hv⟩ := run_load_part (P := P) (w := w) hH hag hsz hrow h0
              rw [Nat.zero_add] at hr
              exact ⟨cv, by simp only [resVar]; rw [he]; simp [asAddr, hr], hv⟩
          · rename_i cs off hx
            rw [hx] at ht'
            obtain ⟨b, oo, g, he, hI, hrow⟩ := iptr_row ht'
            obtain ⟨cv, hr, hv⟩ := run_load_part (P := P) (w := w) hH hag hsz hrow h0
            exact ⟨cv, by simp only [resVar]; rw [he]; simp [asAddr, hr], hv⟩
          · cases h0
        obtain ⟨cv, g1, g2⟩ := hone
        refine ⟨cv :: cvs, by simp [List.mapM_cons, g1, h1], by simp [h2], fun i c v hc hv => ?_⟩
        cases i with
        | zero => simp at hc hv; subst hc; subst hv; exact g2
        | succ i => exact h3 i c v (by simpa using hc) (by simpa using hv)
  | [], _ :: _, _, hc, _ => by simp [chkRes] at hc
  | .tmp _ :: _, [], _, hc, _ => by simp [chkRes] at hc
  | .cell .. :: _, [], _, hc, _ => by simp [chkRes] at hc
  | .tmp _ :: _, .cell .. :: _, _, hc, _ => by simp [chkRes] at hc
  | .cell .. :: _, .tmp _ :: _, _, hc, _ => by simp [chkRes] at hc
theorem results_ok (hw : WR X) (hH : X.H = w.heap) {tmps : Array Value} (ht : TR X T tmps) {rs : List Res} {fn : Func} (hc : chkRes P rs fn.results.toList = true) (h : resV rs T X.m = some v) :
    ∃ cv, (results fn tmps).run P w = .ok cv w ∧ VR X v cv := by
  unfold resV at h
  cases hr : allM (resOne T X.m) rs with
  | none => simp [hr] at h
  | some vs =>
    simp only [hr, Option.bind_some] at h
    obtain ⟨cvs, h1, h2⟩ := res_one hw hH ht hc hr
    have hrun : (results fn tmps).run P w = .ok (if h : cvs.toArray.size = 1 then cvs.toArray[0] else .tuple cvs.toArray) w := by
      unfold results
      rw [Array.mapM_eq_mapM_toList]
      change Sem.run P (do let vs ← List.toArray <$> List.mapM (resVar tmps) fn.results.toList; pure (if h : vs.size = 1 then vs[0] else .tuple vs)) w = _
      simp [h1]
    refine ⟨_, hrun, ?_⟩
    obtain ⟨hl, hrel⟩ := h2
    split at h
    · rename_i u
      simp only [Option.some.injEq] at h
      subst h
      cases cvs with
      | nil => simp at hl
      | cons c cvs =>
        cases cvs with
        | cons _ _ => simp at hl
        | nil => exact hrel 0 _ _ rfl rfl
    · rename_i us hne
      simp only [Option.some.injEq] at h
      subst h
      rw [dif_neg]
      · exact .tup vs cvs.toArray (by simpa using hl) fun i c v hc hv => hrel i c v hc (by simpa using hv)
      · intro h1
        simp only [List.size_toArray] at h1
        cases vs with
        | nil => simp at hl; omega
        | cons x vs =>
          cases vs with
          | nil => exact hne x rfl
          | cons _ _ => simp at hl; omega
end Go.Rx
