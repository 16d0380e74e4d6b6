/-
A part of the proof: lemmas on the machine that the printed functions run on, or contracts of functions.
-/
import Derived.Test.YtfnioapgelabfaaGreatDoorRxStep
set_option linter.unusedVariables false
set_option linter.unusedSimpArgs false
namespace Go.Rx
variable {P : Program} {X : Ctx} {T : Tm} {a : Act} {w : World} {o : Oper} {call : CallF} {v : V} {m' : Mem}
def chkROs (P : Program) (lnk : Nat → FuncId) (cf : FuncId → Bool → Bool) (nt : Nat) (ops : Array Oper) : List RO → List Oper → Bool
  | [], [] => true
  | r :: rs, o :: os => chkRO P lnk cf nt ops r o && chkROs P lnk cf nt ops rs os
  | _, _ => false
structure MidR (S X : Ctx) (T : Tm) (a0 a : Act) (w0 w : World) : Prop where
  goes : Goes S X
  hw : WR X
  hH : X.H = w.heap
  weq : WEq w0 w
  size : a.tmps.size = a0.tmps.size
  df : a.defers = a0.defers
  tr : TR X T a.tmps
theorem chkRO_dst {lnk : Nat → FuncId} {cf : FuncId → Bool → Bool} {nt : Nat} {ops : Array Oper} {r : RO} (hro : chkRO P lnk cf nt ops r o = true) (hp : r.op.pending = false) : r.dst = o.dst ∧ r.dst.all (decide <| · < nt) = true := by
  unfold chkRO at hro
  simp only [Bool.and_eq_true] at hro
  obtain ⟨_, hro⟩ := hro
  cases hop : r.op <;> rw [hop] at hro hp <;> simp only [ROp.pending, Bool.true_eq_false] at hp <;> simp only [Bool.and_eq_true, beq_iff_eq] at hro <;> first | exact hro.1 | exact ⟨hro.1.1, hro.1.2⟩
theorem skip_mid {S : Ctx} {nt : Nat} {r : RO} {a0 : Act} {w0 : World} (h : MidR S X T a0 a w0 w) (hd : r.dst = o.dst) (hdn : r.dst.all (decide <| · < nt) = true) (hsz : nt ≤ a.tmps.size) : MidR S X (updO T r.dst (.tup [])) a0 (a.put o.dst undef) w0 w := by
  refine ⟨h.goes, h.hw, h.hH, h.weq, put_size.trans h.size, put_defers.trans h.df, h.tr.put (fun t ht => put_get (by rw [← hd]; exact ht)) fun d hdd => ?_⟩
  rw [hdd] at hdn
  simp only [Option.all_some, decide_eq_true_eq] at hdn
  rw [← hd, hdd, put_get_same (by omega)]
  exact .tup [] #[] rfl fun i c v hc => by simp at hc
theorem skip_pend {S : Ctx} {r : RO} {pd : Pend} (h : PendR S X a.tmps pd) (hd : r.dst = o.dst) : PendR S X (a.put o.dst undef).tmps (pd.filter fun p => some p.1 != r.dst) := by
  obtain ⟨β, h1, h2⟩ := h
  refine ⟨β, fun t sz ht => ?_, fun t s t' s' ht ht' => h2 t s t' s' (List.mem_filter.1 ht).1 (List.mem_filter.1 ht').1⟩
  obtain ⟨k1, k2⟩ := List.mem_filter.1 ht
  rw [put_get (by rw [← hd]; simpa using k2)]
  exact h1 t sz k1
theorem region_text {lnk : Nat → FuncId} {cf : FuncId → Bool → Bool} (hcf : ∀ f sub, cf f sub = true → Carry P f sub) (hcall : CallSound P lnk call) {nt : Nat} {ops : Array Oper} {Q : Exit → Act → World → Prop} {S : Ctx} {a0 : Act} {w0 : World} {T' : Tm} :
    ∀ {rs : List RO} {os : List Oper}, chkROs P lnk cf nt ops rs os = true → ∀ {pd : Pend} {T : Tm} {X : Ctx} {a : Act} {w : World}, X.lnk = lnk → MidR S X T a0 a w0 w → nt ≤ a.tmps.size → PendR S X a.tmps pd → evOps call rs pd T X.m = some (T', m') →
      (∀ a' w' X', MidR S X' T' a0 a' w0 w' → X'.m = m' → Q .normal a' w') → wpList P ops Q os a w
  | [], [], _, pd, T, X, a, w, _, hm, _, _, he, hK => by
    simp only [evOps, Option.some.injEq, Prod.mk.injEq] at he
    obtain ⟨rfl, he⟩ := he
    exact hK a w X hm he
  | r :: rs, o :: os, hc, pd, T, X, a, w, hl, hm, hsz, hp, he, hK => by
    simp only [chkROs, Bool.and_eq_true] at hc
    obtain ⟨hro, hc⟩ := hc
    simp only [evOps] at he
    have hg : chkGuard nt ops r.guard o.guard = true := by unfold chkRO at hro; simp only [Bool.and_eq_true] at hro; exact hro.1
    cases hb : wantedG T r.guard with
    | none => simp [hb] at he
    | some b =>
      rw [hb] at he
      simp only [Option.bind_some] at he
      have hw := wanted_of (ops := ops) hm.tr hsz hg hb
      refine wpList_step fun K hKK => ?_
      cases b with
      | false =>
        simp only at he
        split at he
        · cases he
        rename_i hpn
        obtain ⟨h1, h2⟩ := chkRO_dst hro (by simpa using hpn)
        rw [if_neg (by rw [hw]; simp)]
        exact hKK _ _ (region_text hcf hcall hc hl (skip_mid hm h1 h2 hsz) (by rw [put_size]; exact hsz) (skip_pend hp h1) he hK)
      | true =>
        simp only at he
        rw [if_pos hw]
        cases hps : pendStep pd r.dst r.op with
        | none => simp [hps] at he
        | some pd' =>
          cases hs : stepOp call T X.m r.op with
          | none => simp [hps, hs] at he
          | some vm =>
            obtain ⟨v, m1⟩ := vm
            simp only [hps, hs, Option.bind_some] at he
            refine step_region hcf hcall hl hro hm.goes hm.hw hm.hH hm.tr hsz hp hps hs K Q fun a1 w1 X1 hst => hKK _ _ ?_
            have hl1 : X1.lnk = lnk := by rw [hst.ext.lnk]; exact hl
            refine region_text hcf hcall hc hl1 (pd := pd') (T := updO T r.dst v) ⟨hst.goes, hst.hw, hst.hH, hm.weq.trans hst.weq, hst.size.trans hm.size, hst.df.trans hm.df, (hm.tr.ext hst.ext).put hst.same hst.at_⟩ (by rw [hst.size]; exact hsz) hst.pend (by rw [hst.hm]; exact he) hK
  | [], _ :: _, hc, _, _, _, _, _, _, _, _, _, _, _ => by simp [chkROs] at hc
  | _ :: _, [], hc, _, _, _, _, _, _, _, _, _, _, _ => by simp [chkROs] at hc
def Opd.slots : Opd → List Nat
  | .t n => [n]
  | .c _ => []
def oslots : Option Opd → List Nat
  | some x => x.slots
  | none => []
def lslots (l : List Opd) : List Nat := l.flatMap (·.slots)
def ROp.slots : ROp → List Nat
  | .mv x | .box _ x | .load _ _ x | .init _ _ _ x | .nilc x | .un _ x | .cvi _ x | .cvs x | .s2b x | .b2s x | .faddr _ x | .field _ _ _ x | .ext x _ | .len x | .lens x | .clear _ _ x | .maplen x => x.slots
  | .pick c x y | .carry _ c x y | .mapupd _ c x y => c.slots ++ (x.slots ++ y.slots)
  | .store _ x y | .bin _ x y | .eqk _ _ x y | .eqs _ _ x y | .mksl _ _ _ _ x y | .ixsl _ x y | .ixarr _ _ x y | .ixstr x y | .ixagg _ _ _ x y | .append _ _ _ x y | .copy _ x y | .lookup _ _ _ _ x y => x.slots ++ y.slots
  | .alloc .. | .pend _ | .lenc _ | .mkmap => []
  | .build _ ps => ps.flatMap (·.2.2.slots)
  | .bslice _ _ _ _ ps => ps.flatMap (·.2.slots)
  | .mkfn _ f c => lslots f ++ lslots c
  | .slstr x lo hi => x.slots ++ (oslots lo ++ oslots hi)
  | .slice _ x lo hi mx | .slarr _ _ x lo hi mx => x.slots ++ (oslots lo ++ (oslots hi ++ oslots mx))
  | .call _ as | .callp _ as | .minmax _ as => lslots as
  | .callv f as => f.slots ++ lslots as
theorem get_congr {T T' : Tm} {x : Opd} (h : ∀ t ∈ x.slots, T t = T' t) : x.get T = x.get T' := by
  cases x with
  | t n => exact h n (by simp [Opd.slots])
  | c v => rfl
theorem gets_congr {T T' : Tm} {l : List Opd} (h : ∀ t ∈ lslots l, T t = T' t) : l.map (·.get T) = l.map (·.get T') :=
  List.map_congr_left fun x hx => get_congr fun t ht => h t (List.mem_flatMap.2 ⟨x, hx, ht⟩)
theorem ogets_congr {T T' : Tm} {x : Option Opd} (h : ∀ t ∈ oslots x, T t = T' t) : x.map (·.get T) = x.map (·.get T') := by
  cases x with
  | none => rfl
  | some x => simp only [Option.map_some]; rw [get_congr h]
theorem stepOp_congr {T T' : Tm} {m : Mem} {op : ROp} (h : ∀ t ∈ op.slots, T t = T' t) : stepOp call T m op = stepOp call T' m op := by
  cases op
  case build z ps =>
    simp only [stepOp]
    rw [List.map_congr_left (g := fun x => (x.1, x.2.1, x.2.2.get T')) fun x hx => by rw [get_congr fun t ht => h t (List.mem_flatMap.2 ⟨x, hx, ht⟩)]]
  case bslice i s n z ps =>
    simp only [stepOp]
    rw [List.map_congr_left (g := fun x => (x.1 * s, s, x.2.get T')) fun x hx => by rw [get_congr fun t ht => h t (List.mem_flatMap.2 ⟨x, hx, ht⟩)]]
  case pick c x y =>
    have h1 := get_congr (x := c) fun t ht => h t (by simp [ROp.slots, ht])
    have h2 := get_congr (x := x) fun t ht => h t (by simp [ROp.slots, ht])
    have h3 := get_congr (x := y) fun t ht => h t (by simp [ROp.slots, ht])
    simp only [stepOp, h1, h2, h3]
  case carry b c x y =>
    have h1 := get_congr (x := c) fun t ht => h t (by simp [ROp.slots, ht])
    have h2 := get_congr (x := x) fun t ht => h t (by simp [ROp.slots, ht])
    have h3 := get_congr (x := y) fun t ht => h t (by simp [ROp.slots, ht])
    simp only [stepOp, h1, h2, h3]
  case mapupd ks c x y =>
    have h1 := get_congr (x := c) fun t ht => h t (by simp [ROp.slots, ht])
    have h2 := get_congr (x := x) fun t ht => h t (by simp [ROp.slots, ht])
    have h3 := get_congr (x := y) fun t ht => h t (by simp [ROp.slots, ht])
    simp only [stepOp, h1, h2, h3]
  case mkfn p f c =>
    have h1 := gets_congr (l := f) fun t ht => h t (by simp [ROp.slots, ht])
    have h2 := gets_congr (l := c) fun t ht => h t (by simp [ROp.slots, ht])
    simp only [stepOp, h1, h2]
  case callv f as =>
    have h1 := get_congr (x := f) fun t ht => h t (by simp [ROp.slots, ht])
    have h2 := gets_congr (l := as) fun t ht => h t (by simp [ROp.slots, ht])
    simp only [stepOp, h1, h2]
  case slstr x lo hi =>
    have h1 := get_congr (x := x) fun t ht => h t (by simp [ROp.slots, ht])
    have h2 := ogets_congr (x := lo) fun t ht => h t (by simp [ROp.slots, ht])
    have h3 := ogets_congr (x := hi) fun t ht => h t (by simp [ROp.slots, ht])
    simp only [stepOp, h1, h2, h3]
  case slice s x lo hi mx =>
    have h1 := get_congr (x := x) fun t ht => h t (by simp [ROp.slots, ht])
    have h2 := ogets_congr (x := lo) fun t ht => h t (by simp [ROp.slots, ht])
    have h3 := ogets_congr (x := hi) fun t ht => h t (by simp [ROp.slots, ht])
    have h4 := ogets_congr (x := mx) fun t ht => h t (by simp [ROp.slots, ht])
    simp only [stepOp, h1, h2, h3, h4]
  case slarr n s x lo hi mx =>
    have h1 := get_congr (x := x) fun t ht => h t (by simp [ROp.slots, ht])
    have h2 := ogets_congr (x := lo) fun t ht => h t (by simp [ROp.slots, ht])
    have h3 := ogets_congr (x := hi) fun t ht => h t (by simp [ROp.slots, ht])
    have h4 := ogets_congr (x := mx) fun t ht => h t (by simp [ROp.slots, ht])
    simp only [stepOp, h1, h2, h3, h4]
  all_goals first
    | rfl
    | (rename_i x; have h1 := get_congr (x := x) fun t ht => h t (by simp [ROp.slots, ht]); simp only [stepOp, h1]; done)
    | (rename_i x y; have h1 := get_congr (x := x) fun t ht => h t (by simp [ROp.slots, ht]); have h2 := get_congr (x := y) fun t ht => h t (by simp [ROp.slots, ht]); simp only [stepOp, h1, h2]; done)
    | (rename_i x y; have h1 := get_congr (x := x) fun t ht => h t (by simp [ROp.slots, ht]); simp only [stepOp, h1]; done)
    | (rename_i xs; have h1 := gets_congr (l := xs) fun t ht => h t (by simp [ROp.slots, ht]); simp only [stepOp, h1]; done)
end Go.Rx
