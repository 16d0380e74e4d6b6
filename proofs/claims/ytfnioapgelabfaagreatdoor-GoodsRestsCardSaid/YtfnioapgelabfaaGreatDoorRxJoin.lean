/-
A part of the proof: lemmas on the machine that the printed functions run on, or contracts of functions.
-/
import Derived.Test.YtfnioapgelabfaaGreatDoorRxAgain
import Derived.OpenShut
set_option linter.unusedVariables false
set_option linter.unusedSimpArgs false
namespace Go.Rx
open Go.ChangeShapes Go.WideShapes Go.RowKit
variable {H : Type} {enc : TypeId × Value → H} {P : Program} {W W' : World}
structure Held (W W' : World) : Prop where
  os : W'.os = W.os
  output : W'.output = W.output
  heap : ∀ b, b < W.heap.size → W'.heap[b]? = W.heap[b]?
theorem Held.of {lnk : Nat → FuncId} {X' : Ctx} (hg : Goes (argX lnk W) X') (hH : X'.H = W'.heap) (hw : WEq W W') : Held W W' :=
  ⟨hw.1, hw.2.1, fun b hb => by rw [← hH]; exact hg.frame b hb argX_live⟩
theorem Held.cell (h : Held W W') (a : Addr) (v : Value) (hc : W.cell? a = some v) : W'.cell? a = some v := by
  obtain ⟨_, hb, _⟩ := cell_at hc
  unfold World.cell? at hc ⊢
  rw [h.heap _ hb]
  exact hc
theorem Held.kept (h : Held W W') (may : MemPlace → Prop) : W.keptBut W' may := by
  obtain ⟨_, _, k⟩ := World.keptBut_refl W may
  refine ⟨h.os, h.output, fun i hi => ?_⟩
  rw [h.heap i hi]
  exact k i hi
theorem Held.frozen (h : Held W W') {b off : Nat} (hb : b < W.heap.size) : W'.frozen? ⟨b, off, none⟩ = W.frozen? ⟨b, off, none⟩ := by
  unfold World.frozen?
  simp only [h.heap b hb]
theorem trodAll_again {sp : Nat → Bool} (hc : ∀ a v, W.cell? a = some v → W'.cell? a = some v) : ∀ {ts : List TypeId} {vs : List Value} {ds : List (DataW H)} {ps : List MemPlace}, (∀ t ∈ ts, ∃ d ty, tyOf P d t = some ty) →
    DataW.TrodAll enc P W 0 (fun _ => true) true ts vs ds ps → (∀ p ∈ ps, sp p.block = true) → DataW.TrodAll enc P W' 0 sp true ts vs ds ps
  | [], [], [], _, _, h, _ => h
  | t :: ts, v :: vs, d :: ds, ps, ht, ⟨p, q, ⟨fuel, h1⟩, h2, e⟩, hs => by
    obtain ⟨n, ty, hty⟩ := ht t (List.mem_cons_self ..)
    exact ⟨p, q, ⟨fuel, trod_again hc fuel n t ty _ _ hty h1 fun x hx => hs x (by rw [e]; exact List.mem_append_left _ hx)⟩,
      trodAll_again hc (fun t ht' => ht t (List.mem_cons_of_mem _ ht')) h2 (fun x hx => hs x (by rw [e]; exact List.mem_append_right _ hx)), e⟩
  | [], _ :: _, _, _, _, h, _ => h.elim
  | [], [], _ :: _, _, _, h, _ => h.elim
  | _ :: _, [], _, _, _, h, _ => h.elim
  | _ :: _, _ :: _, [], _, _, h, _ => h.elim
theorem post_law {f : Func} {s : ChangeSpec} {apart fresh handsOn again : Bool} {args : Array Value} {ds gs : List (DataW H)} {before : List MemPlace} {tb : TypeId}
    (hv : s.vars = []) (hfn : s.fn H (ds ++ gs) = { results := [.lit (.bool true)], args := ds, vars := [] }) (hr : f.resultTypes = #[tb]) (hb : P.underlying tb = some .bool)
    (hts : ∀ t ∈ f.params.toList, ∃ d ty, tyOf P d t = some ty) (hW : DataW.Whole enc P f.params.toList s.vars apart W args.toList ds gs before) (hh : Held W W') :
    s.post enc P f apart fresh handsOn again W args (.bool true) W' := by
  have hold : ∀ p ∈ before, (fun b => decide (b < W.heap.size)) p.block = true := fun p hp => by simpa using hW.lt p hp
  have hW0 := hW
  obtain ⟨p, q, hA, hV, hpq, hz, hn⟩ := hW
  have hgs : gs = [] ∧ q = [] := by
    rw [hv] at hV
    cases gs with
    | nil => exact ⟨rfl, hV⟩
    | cons _ _ => exact hV.elim
  obtain ⟨rfl, rfl⟩ := hgs
  rw [List.append_nil] at hpq
  subst hpq
  have hres : ∀ (b : Nat) (sp : Nat → Bool) (hd : Bool), DataW.TrodAll enc P W' b sp hd f.resultTypes.toList (Value.resultList (n := f.resultTypes.size) (Value.bool true)) (s.fn H (ds ++ [])).results [] := by
    intro b sp hd
    rw [hfn, hr]
    exact trodAll_mk1 (shut_bool hb _)
  have hargs : ∀ sp : Nat → Bool, (∀ x ∈ before, sp x.block = true) → DataW.TrodAll enc P W' 0 sp true f.params.toList args.toList (s.fn H (ds ++ [])).args before := by
    intro sp hsp
    rw [hfn]
    exact trodAll_again hh.cell hts hA hsp
  have hvars : ∀ sp : Nat → Bool, DataW.TrodVars enc P W' sp s.vars (s.fn H (ds ++ [])).vars [] := by
    intro sp
    rw [hv, hfn]
    exact rfl
  refine ⟨ds, [], before, [], before, [], hW0, hres _ _ _, hargs _ hold, hvars _, hh.kept _, fun _ => ?_⟩
  refine ⟨ok_one hr rfl (okWide_bool_mk hb _), _, _, ([] ++ before) ++ [], ⟨[] ++ before, [], trodAll_append (hargs _ (fun _ _ => rfl)) (hres _ _ _), hvars _, rfl, ?_, ?_⟩, ?_⟩
  · intro b off hp
    have hp' : MemPlace.cell b off ∈ before := by simpa using hp
    rw [hh.frozen (show b < W.heap.size from hW0.lt _ hp')]
    exact hz b off hp'
  · intro ha
    have := hn ha
    simpa using this
  · intro p hp _
    simpa using hp
def Ty.ag : Ty → Bool
  | .st _ | .ar _ _ => true
  | _ => false
def mkV (t : Ty) (cs : List V) : V := if t.ag then .agg cs else cs.headD .undef
def ArgVs : List Ty → List V → Prop
  | [], [] => True
  | t :: ts, v :: vs => (∃ cs, TyV t cs ∧ v = mkV t cs) ∧ ArgVs ts vs
  | _, _ => False
def tysOf (P : Program) (ts : List TypeId) : Option (List Ty) := allM (tyOf P 100) ts
theorem arg_VR {lnk : Nat → FuncId} {d : Nat} {t : TypeId} {ty : Ty} {v : Value} {x : DataW H} {ps : List MemPlace} {r : Reach} {b0 : Nat} (ht : tyOf P d t = some ty) (hval : Value.okWide P W r b0 t v) (h : DataW.Trod enc P W 0 (fun _ => true) true t v x ps) :
    ∃ cs, TyV ty cs ∧ VR (argX lnk W) (mkV ty cs) v := by
  obtain ⟨fuel, hf⟩ := h
  obtain ⟨vs, h1, h2, h3⟩ := trod_ty (lnk := lnk) fuel d t ty _ _ ht hf
  refine ⟨vs, h1, ?_⟩
  have one : ∀ (c : V), vs = [c] → ty.ag = false → v.cells = #[v] → VR (argX lnk W) (mkV ty vs) v := fun c hc ha hv => by
    subst hc
    rw [hv] at h2
    simp only [mkV, ha, Bool.false_eq_true, if_false, List.headD_cons]
    exact h2.2 0 c v rfl rfl
  have agg : ty.ag = true → (∃ cs, v = .agg cs) → VR (argX lnk W) (mkV ty vs) v := fun ha ⟨cs, hcs⟩ => by
    subst hcs
    simp only [mkV, ha, if_true]
    have h2' : VRs (argX lnk W) vs cs.toList := h2
    have h3' : ∀ c ∈ cs.toList, c.oneCell' = true := h3
    exact .agg vs cs (by simpa using h2'.1) (fun i c hi => h3' c (by rw [Array.mem_toList_iff]; exact Array.mem_of_getElem? hi)) fun i c u hc hu => h2'.2 i c u hc (by simpa using hu)
  cases d with
  | zero => simp [tyOf] at ht
  | succ d =>
    unfold tyOf at ht
    unfold Value.okWide at hval
    cases hu : P.underlying t with
    | none => simp [hu] at ht
    | some desc =>
      cases desc <;> simp only [hu, reduceCtorEq, Option.some.injEq] at ht hval
      case bool =>
        subst ht
        cases h1 with
        | b b => exact one _ rfl rfl (by cases v <;> first | rfl | (simp [Cell.okWide, Cell.ok, hu] at hval; done))
      case int k =>
        subst ht
        cases h1 with
        | i _ n => exact one _ rfl rfl (by cases v <;> first | rfl | (simp [Cell.okWide, Cell.ok, hu] at hval; done))
      case string =>
        subst ht
        cases h1 with
        | s s => exact one _ rfl rfl (by cases v <;> first | rfl | (simp [Cell.okWide, Cell.ok, hu] at hval; done))
      case slice e =>
        cases he : tyOf P d e with
        | none => simp [he] at ht
        | some u =>
          simp only [he, Option.bind_some] at ht
          split at ht
          case isFalse => cases ht
          simp only [Option.some.injEq] at ht
          subst ht
          cases h1 with
          | sl _ es => exact one _ rfl rfl (by cases v <;> first | rfl | (simp [Cell.okWide, Cell.ok, hu] at hval; done))
      case struct fs =>
        obtain ⟨cs, hcs, _⟩ := hval
        refine agg ?_ ⟨cs, hcs⟩
        cases hf : (fs.toList.foldr (fun f acc => acc.bind fun (ts : List Ty) => (tyOf P d f.type).bind fun u => some (u :: ts)) (some [])) with
        | none => simp only [hf, Option.bind_none, reduceCtorEq] at ht
        | some us =>
          simp only [hf, Option.bind_some] at ht
          split at ht
          case isFalse => cases ht
          simp only [Option.some.injEq] at ht
          subst ht
          rfl
      case array n e =>
        obtain ⟨cs, hcs, _⟩ := hval
        refine agg ?_ ⟨cs, hcs⟩
        cases he : tyOf P d e with
        | none => simp [he] at ht
        | some u =>
          simp only [he, Option.bind_some] at ht
          split at ht
          case isFalse => cases ht
          simp only [Option.some.injEq] at ht
          subst ht
          rfl
theorem tys_all {ts : List TypeId} {tys : List Ty} (h : tysOf P ts = some tys) : ∀ t ∈ ts, ∃ d ty, tyOf P d t = some ty := by
  intro t ht
  obtain ⟨i, hi⟩ := List.getElem?_of_mem ht
  obtain ⟨h1, h2⟩ := allM_get h
  have hlt := lt_of_getElem? hi
  exact ⟨100, tys[i], h2 i t _ hi (List.getElem?_eq_getElem (by omega))⟩
theorem args_VR {lnk : Nat → FuncId} {r : Reach} {b0 : Nat} : ∀ {ts : List TypeId} {tys : List Ty} {vs : List Value} {ds : List (DataW H)} {ps : List MemPlace}, tysOf P ts = some tys → (∀ (j : Nat) t v, ts[j]? = some t → vs[j]? = some v → Value.okWide P W r b0 t v) →
    DataW.TrodAll enc P W 0 (fun _ => true) true ts vs ds ps → ∃ as, ArgVs tys as ∧ VRs (argX lnk W) as vs
  | [], tys, [], [], _, ht, _, _ => by
    simp only [tysOf, allM, Option.some.injEq] at ht
    subst ht
    exact ⟨[], trivial, rfl, fun i c v h => by simp at h⟩
  | t :: ts, tys, v :: vs, d :: ds, ps, ht, hval, ⟨p, q, h1, h2, _⟩ => by
    simp only [tysOf, allM] at ht
    cases hty : tyOf P 100 t with
    | none => simp [hty] at ht
    | some ty =>
      cases hr : allM (tyOf P 100) ts with
      | none => simp [hty, hr] at ht
      | some us =>
        simp only [hty, hr, Option.bind_some, Option.some.injEq] at ht
        subst ht
        obtain ⟨cs, g1, g2⟩ := arg_VR (lnk := lnk) hty (hval 0 t v rfl rfl) h1
        obtain ⟨as, k1, k2⟩ := args_VR (lnk := lnk) (tys := us) hr (fun j t' v' hj hv => hval (j + 1) t' v' (by simpa using hj) (by simpa using hv)) h2
        exact ⟨mkV ty cs :: as, ⟨⟨cs, g1, rfl⟩, k1⟩, (VRs.one g2).join k2⟩
  | [], _, _ :: _, _, _, _, _, h => h.elim
  | [], _, [], _ :: _, _, _, _, h => h.elim
  | _ :: _, _, [], _, _, _, _, h => h.elim
  | _ :: _, _, _ :: _, [], _, _, _, h => h.elim
theorem law_contract {lnk : Nat → FuncId} {cf : FuncId → Bool → Bool} (hcf : ∀ f sub, cf f sub = true → Carry P f sub) (hmix : P.follows .mixedOrders = true) {prog : Nat → Option PF} (hp : ∀ pid f, prog pid = some f → chkF P lnk cf pid f = true)
    {pid : Nat} {f : Func} {s : ChangeSpec} {apart fresh handsOn again : Bool} {tys : List Ty} {tb : TypeId} (ht : tysOf P f.params.toList = some tys) (hlaw : ∀ as, ArgVs tys as → ∃ n m', callN prog n pid as m0 = some (.bool true, m'))
    (hv : s.vars = []) (hr : f.resultTypes = #[tb]) (hb : P.underlying tb = some .bool) {args : Array Value} {ds gs : List (DataW H)} {before : List MemPlace} {r : Reach} {b0 : Nat}
    (hfn : s.fn H (ds ++ gs) = { results := [.lit (.bool true)], args := ds, vars := [] })
    (hval : ∀ (j : Nat) t v, f.params[j]? = some t → args[j]? = some v → Value.okWide P W r b0 t v) (hW : DataW.Whole enc P f.params.toList s.vars apart W args.toList ds gs before) :
    Calls P (lnk pid) args W fun e W' => ∃ v, e = .returned v ∧ s.post enc P f apart fresh handsOn again W args v W' := by
  have hW0 := hW
  obtain ⟨p, q, hA, _⟩ := hW
  obtain ⟨as, h1, h2⟩ := args_VR (lnk := lnk) ht (fun j t v hj hv => hval j t v (by simpa using hj) (by simpa using hv)) hA
  obtain ⟨n, m', h3⟩ := hlaw as h1
  obtain ⟨_, hc⟩ := callN_sound hcf hmix hp n pid as m0 _ _ h3
  refine (hc (argX lnk W) W args rfl rfl rfl (argX_WR lnk W) h2).mono ?_
  rintro e W' ⟨cv, X', rfl, g1, g2, g3, g4, g5, g6⟩
  cases g6
  exact ⟨_, rfl, post_law hv hfn hr hb (tys_all ht) hW0 (.of g1 g4 g5)⟩
end Go.Rx
