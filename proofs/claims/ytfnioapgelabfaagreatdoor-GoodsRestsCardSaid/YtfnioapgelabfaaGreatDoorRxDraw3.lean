/-
A part of the proof: lemmas on the machine that the printed functions run on, or contracts of functions.
-/
import Derived.Test.YtfnioapgelabfaaGreatDoorRxDraw2
set_option linter.unusedVariables false
set_option linter.unusedSimpArgs false
namespace Go.Rx
variable {P : Program} {X : Ctx} {T : Tm} {a : Act} {w : World} {o : Oper} {call : CallF} {v : V} {m' : Mem}
theorem chkROs_spec {lnk : Nat → FuncId} {cf : FuncId → Bool → Bool} {nt : Nat} {ops : Array Oper} : ∀ {rs : List RO} {os : List Oper}, chkROs P lnk cf nt ops rs os = true → rs.length = os.length ∧ ∀ (i : Nat) o, os[i]? = some o → ∃ r, rs[i]? = some r ∧ chkRO P lnk cf nt ops r o = true
  | [], [], _ => ⟨rfl, fun i o h => by simp at h⟩
  | r :: rs, o :: os, h => by
    simp only [chkROs, Bool.and_eq_true] at h
    obtain ⟨h1, h2⟩ := chkROs_spec h.2
    refine ⟨by simp [h1], fun i o' hi => ?_⟩
    cases i with
    | zero => simp only [List.getElem?_cons_zero, Option.some.injEq] at hi; subst hi; exact ⟨r, rfl, h.1⟩
    | succ i => obtain ⟨r', h3, h4⟩ := h2 i o' (by simpa using hi); exact ⟨r', by simpa using h3, h4⟩
  | [], _ :: _, h => by simp [chkROs] at h
  | _ :: _, [], h => by simp [chkROs] at h
def setOf (listed : Array Bool) (i : Nat) : Bool := listed.getD i false
def Closed (ops : Array Oper) (D : Nat → Bool) : Prop := ∀ j o, ops[j]? = some o → D j = true → ∀ e ∈ o.after, Region.binds .any e = true → D e.on = true
section
variable {ops : Array Oper} {A : List Nat} {D : Nat → Bool}
theorem anc_ready (hA : chkAnc A 0 ops.toList = true) (hc : Closed ops D) : ∀ (j : Nat) o, ops[j]? = some o → (∀ e ∈ o.after, Region.binds .any e = true → D e.on = true) → ∀ i, ancB A j i = true → D i = true := by
  intro j
  induction j using Nat.strongRecOn with
  | _ j ih =>
    intro o ho he i hi
    obtain ⟨h1, h2⟩ := chkAnc_spec hA j o (by simpa using ho)
    rw [Nat.zero_add] at h1 h2
    unfold ancB at hi
    rw [h1] at hi
    obtain ⟨e, g1, g2, g3⟩ := edgeMask_spec hi
    have hDe := he e (by simpa using g1) g2
    rcases g3 with g3 | ⟨g3, g4⟩
    · rw [← g3]; exact hDe
    · have hlt : e.on < ops.size := by have := (Array.getElem?_eq_some_iff.1 ho).1; omega
      refine ih e.on g3 ops[e.on] (Array.getElem?_eq_getElem hlt) (fun e' he' hb' => ?_) i g4
      exact hc e.on _ (Array.getElem?_eq_getElem hlt) hDe e' he' hb'
theorem setOf_getD {listed : Array Bool} {i : Nat} (h : i < listed.size) : listed.getD i true = setOf listed i := by
  simp [setOf, h]
theorem setOf_set {listed : Array Bool} {i j : Nat} (h : j < listed.size) : setOf (listed.setIfInBounds j true) i = if i = j then true else setOf listed i := by
  unfold setOf
  by_cases e : i = j
  · subst e; simp [h]
  · rw [if_neg e, Array.getD_eq_getD_getElem?, Array.getD_eq_getD_getElem?, Array.getElem?_setIfInBounds_ne (Ne.symm e)]
theorem all_listed (hA : chkAnc A 0 ops.toList = true) {listed : Array Bool} (hs : listed.size = ops.size) (hr : Region.ready .any ops listed = []) : ∀ i, i < ops.size → setOf listed i = true := by
  intro i
  induction i using Nat.strongRecOn with
  | _ i ih =>
    intro hi
    cases h : setOf listed i
    case true => rfl
    exfalso
    have hm : i ∈ Region.ready .any ops listed := by
      rw [mem_ready]
      refine ⟨by rw [setOf_getD (by omega)]; exact h, ops[i], Array.getElem?_eq_getElem hi, fun e he hb => ?_⟩
      have := (chkAnc_spec hA i ops[i] (by simp [hi])).2 e (by simpa using he) hb
      exact ih e.on (by omega) (by omega)
    rw [hr] at hm
    cases hm
end
theorem clash_eff {ri rj : RO} (h1 : ri.op.effect = true) (h2 : rj.op.effect = true) : clash ri rj = true := by simp [clash, h1, h2]
theorem clash_dst {ri rj : RO} {t : Nat} (h1 : ri.dst = some t) (h2 : rj.dst = some t) : clash ri rj = true := by simp [clash, h1, h2]
theorem clash_wr {ri rj : RO} {t : Nat} (h1 : ri.dst = some t) (h2 : t ∈ rj.looks) : clash ri rj = true := by simp [clash, h1, h2]
theorem clash_rw {ri rj : RO} {t : Nat} (h1 : rj.dst = some t) (h2 : t ∈ ri.looks) : clash ri rj = true := by simp [clash, h1, h2]
theorem wantedG_congr {T T' : Tm} {g : Option (Nat × Bool)} (h : ∀ t ∈ gslots g, T t = T' t) : wantedG T g = wantedG T' g := by
  cases g with
  | none => rfl
  | some p => obtain ⟨t, b⟩ := p; simp only [wantedG, h t (by simp [gslots])]
theorem PendR.sub {S X : Ctx} {tmps : Array Value} {pd pd' : Pend} (h : PendR S X tmps pd) (hs : ∀ p ∈ pd', p ∈ pd) : PendR S X tmps pd' := by
  obtain ⟨β, h1, h2⟩ := h
  exact ⟨β, fun t sz ht => h1 t sz (hs _ ht), fun t s t' s' ht ht' => h2 t s t' s' (hs _ ht) (hs _ ht')⟩
theorem region_draw {lnk : Nat → FuncId} {cf : FuncId → Bool → Bool} (hcf : ∀ f sub, cf f sub = true → Carry P f sub) (hcall : CallSound P lnk call) (hmix : P.follows .mixedOrders = true) {id : Nat} {nt : Nat} {ops : Array Oper} {Q : Exit → Act → World → Prop} {rs : List RO}
    (hro : chkROs P lnk cf nt ops rs ops.toList = true) (hdr : chkDraw rs ops.toList = true) {S : Ctx} {a0 : Act} {w0 : World} {T' : Tm} {T : Tm} {X : Ctx} {a : Act} {w : World} (hl : X.lnk = lnk) (hm : MidR S X T a0 a w0 w) (hsz : nt ≤ a.tmps.size)
    (he : evDraw call rs [] T X.m 0 [] [] = some (T', m')) (hK : ∀ a' w' X', MidR S X' T' a0 a' w0 w' → X'.m = m' → Q .normal a' w') : (Code.region id ops true).wp P Q a w := by
  obtain ⟨Ts, Ms, bs, vs, _, t2, t3, t4, t5, t6, _⟩ := trace he (fun _ => m0) (fun q hq => by omega) (fun d hd => by simp at hd)
  obtain ⟨hlen, hros⟩ := chkROs_spec hro
  have hlen : rs.length = ops.size := by simpa using hlen
  simp only [chkDraw, Bool.and_eq_true] at hdr
  generalize ancGo ops.toList 0 [] = A at hdr
  obtain ⟨hA, hrows⟩ := hdr
  simp only [Nat.zero_add] at t5 t6
  have hnext : ∀ i, i < rs.length → Ts (i + 1) = updO (Ts i) (dstAt rs i) (vs i) := fun i hi => by
    have := (t6 i rs[i] (List.getElem?_eq_getElem hi)).next
    simpa [dstAt, List.getElem?_eq_getElem hi] using this
  have order : ∀ (D : Nat → Bool), Closed ops D → ∀ i j ri rj, rs[i]? = some ri → rs[j]? = some rj → i < j → clash ri rj = true → D j = true → D i = true := fun D hc i j ri rj hi hj hlt hcl hD => by
    have hp := chkPair_spec (chkRows_spec hrows j rj hj).1 i ri hi (by omega) hcl
    simp only [Nat.zero_add] at hp
    have hjs : j < ops.size := by rw [← hlen]; exact lt_of_getElem? hj
    exact anc_ready hA hc j ops[j] (Array.getElem?_eq_getElem hjs) (fun e he hb => hc j _ (Array.getElem?_eq_getElem hjs) hD e he hb) i hp
  refine wp_region_any hmix ?_
  have main : ∀ (fuel : Nat) (listed : Array Bool) (a : Act) (w : World) (X : Ctx), listed.size = ops.size → Closed ops (setOf listed) → cntP (fun i => !setOf listed i) ops.size ≤ fuel → X.lnk = lnk →
      MidR S X (TD (dstAt rs) vs T (setOf listed) ops.size) a0 a w0 w → nt ≤ a.tmps.size → X.m = Ms (cntP (fun i => setOf listed i && effAt rs i) ops.size) → PendR S X a.tmps (PD rs bs (setOf listed) ops.size) →
      wpAny P .any ops Q fuel listed a w := by
    intro fuel
    have fin : ∀ (listed : Array Bool) (a : Act) (w : World) (X : Ctx), (∀ i, i < ops.size → setOf listed i = true) → MidR S X (TD (dstAt rs) vs T (setOf listed) ops.size) a0 a w0 w → X.m = Ms (cntP (fun i => setOf listed i && effAt rs i) ops.size) → Q .normal a w := by
      intro listed a w X hall hm hX
      refine hK a w X ?_ ?_
      · rw [TD_all (D := setOf listed) (Ts := Ts) t3 (fun i hi => hnext i (by omega)) hall, ← hlen, t4] at hm
        exact hm
      · rw [hX, ← t5, nE_cnt, hlen]
        congr 1
        exact cntP_congr fun i hi => by rw [hall i hi]; simp
    induction fuel with
    | zero =>
      intro listed a w X hs hc hf hl hm hsz hX hp
      have hall : ∀ i, i < ops.size → setOf listed i = true := fun i hi => by
        cases h : setOf listed i
        · have := cntP_pos (p := fun i => !setOf listed i) hi (by simp [h])
          omega
        · rfl
      refine ⟨?_, fin listed a w X hall hm hX⟩
      rw [List.eq_nil_iff_forall_not_mem]
      intro i hi
      rw [mem_ready] at hi
      obtain ⟨h1, o, h2, _⟩ := hi
      have hlt := (Array.getElem?_eq_some_iff.1 h2).1
      rw [setOf_getD (by omega), hall i hlt] at h1
      cases h1
    | succ fuel ih =>
      intro listed a w X hs hc hf hl hm hsz hX hp
      refine ⟨fun hr => fin listed a w X (all_listed hA hs hr) hm hX, fun j hj => ?_⟩
      rw [mem_ready] at hj
      obtain ⟨hj0, o, ho, hje⟩ := hj
      have hjlt := (Array.getElem?_eq_some_iff.1 ho).1
      rw [setOf_getD (by omega)] at hj0
      obtain ⟨r, hr, hro⟩ := hros j o (by simpa using ho)
      have hF := t6 j r hr
      have hanc := anc_ready hA hc j o ho hje
      let D := setOf listed
      let D' := setOf (listed.setIfInBounds j true)
      have hD' : ∀ i, i ≠ j → D' i = D i := fun i hi => by show setOf _ _ = _; rw [setOf_set (by omega), if_neg hi]
      have hD'j : D' j = true := by show setOf _ _ = _; rw [setOf_set (by omega), if_pos rfl]
      have hc' : Closed ops D' := fun i o' ho' hi e he hb => by
        by_cases eij : i = j
        · subst eij
          rw [ho] at ho'; cases ho'
          have h := hje e he hb
          by_cases e2 : e.on = i
          · rw [e2]; exact hD'j
          · rw [hD' _ e2]; exact h
        · rw [hD' i eij] at hi
          have h := hc i o' ho' hi e he hb
          by_cases e2 : e.on = j
          · rw [e2]; exact hD'j
          · rw [hD' _ e2]; exact h
      have early : ∀ i ri, rs[i]? = some ri → i < j → clash ri r = true → D i = true := fun i ri hi hlt hcl => by
        have hp := chkPair_spec (chkRows_spec hrows j r hr).1 i ri hi (by omega) hcl
        simp only [Nat.zero_add] at hp
        exact hanc i hp
      have late : ∀ i ri, rs[i]? = some ri → j < i → clash r ri = true → D i = false := fun i ri hi hlt hcl => by
        cases h : D i
        · rfl
        · have := order D hc j i r ri hr hi hlt hcl h
          exact absurd this (by show ¬ setOf listed j = true; rw [hj0]; simp)
      have hrget : ∀ i, i < ops.size → ∃ ri, rs[i]? = some ri := fun i hi => ⟨rs[i], List.getElem?_eq_getElem (by omega)⟩
      have hlook : ∀ t ∈ r.looks, TD (dstAt rs) vs T D ops.size t = Ts j t := fun t ht => by
        refine TD_at t3 (fun i hi => hnext i (by omega)) (fun i hi hdi => ?_) (by omega) fun i h1 h2 hDi hdi => ?_
        · obtain ⟨ri, hri⟩ := hrget i (by omega)
          simp only [dstAt, hri, Option.bind_some] at hdi
          exact early i ri hri hi (clash_wr hdi ht)
        · obtain ⟨ri, hri⟩ := hrget i (by omega)
          simp only [dstAt, hri, Option.bind_some] at hdi
          rcases Nat.eq_or_lt_of_le h1 with e | e
          · subst e; have : D j = false := hj0; rw [this] at hDi; cases hDi
          · rw [late i ri hri e (clash_rw hdi ht)] at hDi; cases hDi
      have hwg : wantedG (TD (dstAt rs) vs T D ops.size) r.guard = some (bs j) := by
        rw [wantedG_congr fun t ht => hlook t (List.mem_append_left _ ht)]; exact hF.want
      have hstep : ∀ m, stepOp call (TD (dstAt rs) vs T D ops.size) m r.op = stepOp call (Ts j) m r.op := fun m => stepOp_congr fun t ht => hlook t (List.mem_append_right _ ht)
      have hTD : TD (dstAt rs) vs T D' ops.size = updO (TD (dstAt rs) vs T D ops.size) r.dst (vs j) := by
        have := TD_add (dst := dstAt rs) (vs := vs) (T0 := T) hD' hj0 hD'j hjlt fun i h1 h2 hDi t ht hti => by
          obtain ⟨ri, hri⟩ := hrget i h2
          simp only [dstAt, hr, hri, Option.bind_some] at ht hti
          rw [late i ri hri h1 (clash_dst ht hti)] at hDi; cases hDi
        rw [this]
        simp [dstAt, hr]
      have hcnt : cntP (fun i => D' i && effAt rs i) ops.size = cntP (fun i => D i && effAt rs i) ops.size + (if r.op.effect then 1 else 0) := by
        rw [cntP_add (p := fun i => D i && effAt rs i) (q := fun i => D' i && effAt rs i) (j := j) (fun i hi => by simp only [hD' i hi]) (by have : D j = false := hj0; simp [this]) hjlt]
        simp [hD'j, effAt, hr]
      have hkE : r.op.effect = true → cntP (fun i => D i && effAt rs i) ops.size = nE rs j := fun hef => by
        rw [nE_cnt, cntP_cut (j := j) (by omega) fun i h1 h2 => ?_]
        · refine cntP_congr fun i hi => ?_
          cases hei : effAt rs i
          · simp
          · obtain ⟨ri, hri⟩ := hrget i (by omega)
            simp only [effAt, hri] at hei
            rw [early i ri hri hi (clash_eff hei hef)]; rfl
        · cases hei : effAt rs i
          · simp
          · obtain ⟨ri, hri⟩ := hrget i (by omega)
            simp only [effAt, hri] at hei
            rcases Nat.eq_or_lt_of_le h1 with e | e
            · subst e; have : D j = false := hj0; simp [this]
            · rw [late i ri hri e (clash_eff hef hei)]; rfl
      have hktot : cntP (fun i => D i && effAt rs i) ops.size ≤ nE rs rs.length := by
        rw [nE_cnt, hlen]; exact cntP_mono fun i _ h => by simp only [Bool.and_eq_true] at h; exact h.2
      have hkR : r.op.reads = true → r.lo ≤ cntP (fun i => D i && effAt rs i) ops.size ∧ cntP (fun i => D i && effAt rs i) ops.size ≤ r.hi := fun hrd => by
        have h := (chkRows_spec hrows j r hr).2
        simp only [chkReads, hrd, Bool.not_true, Bool.false_or, Bool.and_eq_true, decide_eq_true_eq, Nat.zero_add, hlen] at h
        refine ⟨Nat.le_trans h.1 (cntP_mono fun i _ hi => ?_), Nat.le_trans (cntP_mono fun i hilt hi => ?_) h.2⟩
        · simp only [Bool.and_eq_true] at hi ⊢
          exact ⟨hanc i hi.2, hi.1⟩
        · simp only [Bool.and_eq_true, Bool.not_eq_true'] at hi ⊢
          refine ⟨hi.2, ?_⟩
          cases hij : ancB A i j
          · rfl
          · have := anc_ready hA hc i ops[i] (Array.getElem?_eq_getElem hilt) (fun e he hb => hc i _ (Array.getElem?_eq_getElem hilt) hi.1 e he hb) j hij
            exact absurd this (by show ¬ setOf listed j = true; rw [hj0]; simp)
      have hfuel : cntP (fun i => !D' i) ops.size ≤ fuel := by
        have := cntP_add (p := fun i => !D' i) (q := fun i => !D i) (j := j) (fun i hi => by simp only [hD' i hi]) (by simp [hD'j]) hjlt
        have hDj : D j = false := hj0
        simp only [hDj, Bool.not_false, if_true] at this
        have hf' : cntP (fun i => !D i) ops.size ≤ fuel + 1 := hf
        omega
      have hPD : ∀ t sz, (t, sz) ∈ PD rs bs D' ops.size → ((t, sz) ∈ PD rs bs D ops.size ∧ r.dst ≠ some t) ∨ (r.op = .pend sz ∧ r.dst = some t ∧ bs j = true) := fun t sz h => by
        obtain ⟨i, h1, h2, h3, h4⟩ := mem_PD.1 h
        obtain ⟨g1, ri, g2, g3, g4, g5⟩ := pendOf_dst h2
        by_cases e : i = j
        · subst e
          rw [hr] at g2; cases g2
          exact .inr ⟨g3, g4, g5⟩
        · rw [hD' i e] at h3
          refine .inl ⟨mem_PD.2 ⟨i, h1, h2, h3, fun i' k1 k2 k3 => h4 i' k1 k2 ?_⟩, fun hd => ?_⟩
          · by_cases e' : i' = j
            · rw [e']; exact hD'j
            · rw [hD' i' e']; exact k3
          · rcases Nat.lt_or_ge j i with hlt | hge
            · rw [late i ri g2 hlt (clash_dst hd g4)] at h3; cases h3
            · exact h4 j hjlt (by omega) hD'j (by simp [dstAt, hr, hd])
      have hg : chkGuard nt ops r.guard o.guard = true := by unfold chkRO at hro; simp only [Bool.and_eq_true] at hro; exact hro.1
      have hwant := wanted_of (ops := ops) hm.tr hsz hg hwg
      unfold wpOp
      simp only [ho]
      cases hb : bs j with
      | false =>
        rw [hb] at hwant
        rw [if_neg (by rw [hwant]; simp)]
        obtain ⟨s1, s2, s3⟩ := hF.skip hb
        obtain ⟨h1, h2⟩ := chkRO_dst hro s2
        refine ih _ _ _ X (by simp [hs]) hc' hfuel hl ?_ (by rw [put_size]; exact hsz) ?_ ?_
        · show MidR S X (TD (dstAt rs) vs T D' ops.size) a0 _ w0 w
          rw [hTD, s1]
          exact skip_mid hm h1 h2 hsz
        · show X.m = Ms (cntP (fun i => D' i && effAt rs i) ops.size)
          rw [hcnt]
          cases hef : r.op.effect with
          | false => simpa using hX
          | true =>
            have := s3 hef
            rw [hX]
            show Ms (cntP (fun i => D i && effAt rs i) ops.size) = _
            rw [hkE hef]
            simp only [Nat.zero_add] at this
            simp only [if_true]
            exact this.symm
        · show PendR S X _ (PD rs bs D' ops.size)
          refine (skip_pend (o := o) hp h1).sub fun p hpm => ?_
          obtain ⟨t, sz⟩ := p
          rcases hPD t sz hpm with ⟨g1, g2⟩ | ⟨_, _, g3⟩
          · exact List.mem_filter.2 ⟨g1, by simpa using Ne.symm g2⟩
          · rw [hb] at g3; cases g3
      | true =>
        rw [hb] at hwant
        rw [if_pos hwant]
        refine .inl ?_
        have hs : stepOp call (TD (dstAt rs) vs T D ops.size) X.m r.op = some (vs j, Ms (cntP (fun i => D' i && effAt rs i) ops.size)) := by
          rw [hstep, hX, hcnt]
          show stepOp call (Ts j) (Ms (cntP (fun i => D i && effAt rs i) ops.size)) r.op = _
          cases hef : r.op.effect with
          | true => have h := hF.eff hb hef; simp only [Nat.zero_add] at h; rw [hkE hef]; simp only [if_true]; exact h
          | false => exact hF.any hb hef _ hkR (by rw [Nat.zero_add]; exact hktot)
        have hps : ∃ pd', pendStep (PD rs bs D ops.size) r.dst r.op = some pd' ∧ ∀ p ∈ PD rs bs D' ops.size, p ∈ pd' := by
          have plain : ∀ pd' : Pend, pd' = (match r.dst with | some d => (PD rs bs D ops.size).filter (fun p => p.1 != d) | none => PD rs bs D ops.size) → r.op.pending = false → ∀ p ∈ PD rs bs D' ops.size, p ∈ pd' := fun pd' hpd' hpn p hpm => by
            obtain ⟨t, sz⟩ := p
            subst hpd'
            rcases hPD t sz hpm with ⟨g1, g2⟩ | ⟨g1, _, _⟩
            · cases hd : r.dst with
              | none => exact g1
              | some d => exact List.mem_filter.2 ⟨g1, by rw [hd] at g2; simpa using fun e : t = d => g2 (by rw [e])⟩
            · rw [g1] at hpn; cases hpn
          cases hop : r.op
          case pend sz =>
            obtain ⟨d, hd⟩ := Option.isSome_iff_exists.1 (hF.pdst sz hb hop)
            refine ⟨_, by rw [hd]; rfl, fun p hpm => ?_⟩
            obtain ⟨t, sz'⟩ := p
            rcases hPD t sz' hpm with ⟨g1, g2⟩ | ⟨g1, g2, _⟩
            · exact List.mem_cons_of_mem _ (List.mem_filter.2 ⟨g1, by rw [hd] at g2; simpa using fun e : t = d => g2 (by rw [e])⟩)
            · rw [hop] at g1; cases g1
              rw [hd] at g2; cases g2
              exact List.mem_cons_self ..
          case init imm sz t x =>
            obtain ⟨hd, hpend⟩ := hF.pend imm sz t x hb hop
            have hmem : (t, sz) ∈ PD rs bs D ops.size := by
              rcases hpend with ⟨h, _⟩ | ⟨i', r', q1, q2, q3, q4, q5, q6⟩
              · cases h
              · refine mem_PD.2 ⟨i', by omega, pendOf_of q2 q4 q5 q3, early i' r' q2 q1 (clash_dst q5 hd), fun i'' k1 k2 k3 hdt => ?_⟩
                obtain ⟨r'', hr''⟩ := hrget i'' k1
                simp only [dstAt, hr'', Option.bind_some] at hdt
                rcases Nat.lt_trichotomy i'' j with h | h | h
                · exact q6 i'' r'' k2 h hr'' hdt
                · subst h; have : D i'' = false := hj0; rw [this] at k3; cases k3
                · rw [late i'' r'' hr'' h (clash_dst hd hdt)] at k3; cases k3
            refine ⟨(PD rs bs D ops.size).filter (fun p => p.1 != t), by simp only [pendStep]; rw [if_pos (by simp [hd, hmem])], fun p hpm => ?_⟩
            obtain ⟨t', sz'⟩ := p
            rcases hPD t' sz' hpm with ⟨g1, g2⟩ | ⟨g1, _, _⟩
            · exact List.mem_filter.2 ⟨g1, by rw [hd] at g2; simpa using fun e : t' = t => g2 (by rw [e])⟩
            · rw [hop] at g1; cases g1
          all_goals exact ⟨_, rfl, plain _ rfl (by rw [hop]; rfl)⟩
        obtain ⟨pd', hps, hsub⟩ := hps
        refine step_region hcf hcall hl hro hm.goes hm.hw hm.hH hm.tr hsz hp hps hs _ Q fun a1 w1 X1 hst => ?_
        have hl1 : X1.lnk = lnk := by rw [hst.ext.lnk]; exact hl
        refine ih _ _ _ X1 (by simp; omega) hc' hfuel hl1 ?_ (by rw [hst.size]; exact hsz) hst.hm (hst.pend.sub hsub)
        show MidR S X1 (TD (dstAt rs) vs T D' ops.size) a0 a1 w0 w1
        rw [hTD]
        exact ⟨hst.goes, hst.hw, hst.hH, hm.weq.trans hst.weq, hst.size.trans hm.size, hst.df.trans hm.df, (hm.tr.ext hst.ext).put hst.same hst.at_⟩
  have hz : ∀ i, setOf (Array.replicate ops.size false) i = false := fun i => by
    unfold setOf
    by_cases h : i < ops.size
    · simp [h]
    · simp [Array.getElem?_eq_none (xs := Array.replicate ops.size false) (i := i) (by simp; omega)]
  refine main ops.size _ a _ X (by simp) (fun j o ho h => by rw [hz] at h; cases h) ?_ hl ?_ hsz ?_ ?_
  · have : ∀ n, cntP (fun i => !setOf (Array.replicate ops.size false) i) n ≤ n := by
      intro n
      induction n with
      | zero => exact Nat.le_refl _
      | succ n ih => simp only [cntP]; split <;> omega
    exact this _
  · have : TD (dstAt rs) vs T (setOf (Array.replicate ops.size false)) ops.size = T := by
      have : ∀ n, TD (dstAt rs) vs T (setOf (Array.replicate ops.size false)) n = T := by
        intro n
        induction n with
        | zero => rfl
        | succ n ih => simp only [TD, hz, Bool.false_eq_true, if_false]; exact ih
      exact this _
    rw [this]
    exact ⟨hm.goes, hm.hw, hm.hH, hm.weq, hm.size, hm.df, hm.tr⟩
  · have : cntP (fun i => setOf (Array.replicate ops.size false) i && effAt rs i) ops.size = 0 := by
      rw [cntP_cut (j := 0) (by omega) fun i _ _ => by rw [hz]; rfl]; rfl
    rw [this, t2]
  · have : PD rs bs (setOf (Array.replicate ops.size false)) ops.size = [] := by
      rw [List.eq_nil_iff_forall_not_mem]
      rintro ⟨t, sz⟩ h
      obtain ⟨i, _, _, h, _⟩ := mem_PD.1 h
      rw [hz] at h; cases h
    rw [this]
    exact PendR.nil S X _
end Go.Rx
