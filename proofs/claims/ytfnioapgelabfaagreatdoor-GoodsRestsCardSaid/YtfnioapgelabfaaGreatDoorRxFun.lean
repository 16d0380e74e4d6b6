/-
A part of the proof: lemmas on the machine that the printed functions run on, or contracts of functions.
-/
import Derived.Test.YtfnioapgelabfaaGreatDoorRxFlow
set_option linter.unusedVariables false
set_option linter.unusedSimpArgs false
namespace Go.Rx
variable {P : Program} {X : Ctx} {T : Tm} {a : Act} {w : World} {call : CallF} {v : V} {m m' : Mem}
def chkF (P : Program) (lnk : Nat → FuncId) (cf : FuncId → Bool → Bool) (pid : Nat) (f : PF) : Bool :=
  match P.funcs[lnk pid]? with
  | some fn =>
    (match fn.body with | some c => chkC P lnk cf f.ntmps f.body c | none => false) && fn.name != "runtime.NumGoroutine" && decide (f.ntmps ≤ fn.ntmps) && chkRes P f.res fn.results.toList
  | none => false
def After (X : Ctx) (w : World) (v : V) (m' : Mem) : Ending → World → Prop :=
  fun e w' => ∃ cv X', e = .returned cv ∧ Goes X X' ∧ WR X' ∧ X'.m = m' ∧ X'.H = w'.heap ∧ WEq w w' ∧ VR X' v cv
theorem start_TR {args : List V} {cargs : Array Value} {n : Nat} (h : VRs X args cargs.toList) : TR X (fun t => args.getD t (.tup [])) (cargs ++ Array.replicate n Go.undef) := by
  intro t
  have hlen : args.length = cargs.size := by simpa using h.1
  show VR X (args.getD t (.tup [])) _
  rw [List.getD_eq_getElem?_getD, Array.getD_eq_getD_getElem?]
  by_cases ht : t < cargs.size
  · rw [Array.getElem?_append_left ht, Array.getElem?_eq_getElem ht, List.getElem?_eq_getElem (by omega)]
    exact h.2 t _ _ (List.getElem?_eq_getElem (by omega)) (by simp [ht])
  · rw [Array.getElem?_append_right (by omega), List.getElem?_eq_none (by omega)]
    have : ((Array.replicate n Go.undef)[t - cargs.size]?).getD Go.undef = Go.undef := by
      by_cases h : t - cargs.size < n
      · simp [h]
      · simp [Array.getElem?_eq_none (xs := Array.replicate n Go.undef) (i := t - cargs.size) (by simp; omega)]
    rw [this]
    exact .tup [] #[] rfl fun i c v hc => by simp at hc
theorem body_sound {lnk : Nat → FuncId} {cf : FuncId → Bool → Bool} (hcf : ∀ f sub, cf f sub = true → Carry P f sub) (hcall : CallSound P lnk call) (hmix : P.follows .mixedOrders = true) {k pid : Nat} {f : PF} (hf : chkF P lnk cf pid f = true)
    {args : List V} (he : runBody call k f args m = some (v, m')) {cargs : Array Value} (hl : X.lnk = lnk) (hm : X.m = m) (hH : X.H = w.heap) (hw : WR X) (ha : VRs X args cargs.toList) : Calls P (lnk pid) cargs w (After X w v m') := by
  unfold chkF at hf
  split at hf
  case h_2 => cases hf
  rename_i fn hfn
  simp only [Bool.and_eq_true, decide_eq_true_eq] at hf
  obtain ⟨⟨⟨hc, hname⟩, hn⟩, hres⟩ := hf
  split at hc
  case h_2 => cases hc
  rename_i c hbody
  unfold runBody at he
  cases hs : evC call k f.body (fun t => args.getD t (.tup []), m) with
  | none => rw [hs] at he; cases he
  | some s =>
    obtain ⟨e, T', m1⟩ := s
    rw [hs] at he
    simp only [Option.bind_some] at he
    subst hm
    refine calls_of_wp hfn hbody ?_
    have mid : MidR X X (fun t => args.getD t (.tup [])) { tmps := cargs ++ Array.replicate (fn.ntmps - cargs.size) undef, defers := [] } { tmps := cargs ++ Array.replicate (fn.ntmps - cargs.size) undef, defers := [] } w w :=
      ⟨.refl X, hw, hH, .refl w, rfl, rfl, start_TR ha⟩
    refine code_ok hcf hcall hmix f.body c hc X _ w _ X _ w _ e T' m1 hl mid (by simp; omega) hs fun a' w' X' h1 h2 h3 => ?_
    have post : ∀ (he : (resV f.res T' m1).bind (fun v => some (v, m1)) = some (v, m')), a'.defers = [] ∧ ∃ cv, (results fn a'.tmps).run P w' = .ok cv w' ∧ After X w v m' (.returned cv) w' := fun he => by
      cases hr : resV f.res T' m1 with
      | none => simp [hr] at he
      | some u =>
        simp only [hr, Option.bind_some, Option.some.injEq, Prod.mk.injEq] at he
        obtain ⟨rfl, rfl⟩ := he
        rw [← h2] at hr
        obtain ⟨cv, g1, g2⟩ := results_ok (fn := fn) h1.hw h1.hH h1.tr hres hr
        exact ⟨h1.df, cv, g1, cv, X', rfl, h1.goes, h1.hw, h2, h1.hH, h1.weq, g2⟩
    cases e with
    | exit id => cases he
    | normal => exact post he
    | ret => exact post he
theorem Clean.moves {X X' : Ctx} (hl : X'.lnk = X.lnk) (hI : ∀ b, X.I b → X'.I b ∧ X'.H[b]? = X.H[b]?) {vs : List V} {cs : List Value} (hr : VRs X vs cs) (hc : ∀ (i : Nat) b, vs[i]? = some b → Clean b) : VRs X' vs cs :=
  ⟨hr.1, fun i c v h1 h2 => Clean.move hl hI (hr.2 i c v h1 h2) (hc i c h1)⟩
theorem pure_sound {lnk : Nat → FuncId} {cf : FuncId → Bool → Bool} (hcf : ∀ f sub, cf f sub = true → Carry P f sub) (hcall : CallSound P lnk call) (hmix : P.follows .mixedOrders = true) {k pid : Nat} {f : PF} (hf : chkF P lnk cf pid f = true)
    {as : List V} (he : runPure call k f as = some v) {cargs : Array Value} (hl : X.lnk = lnk) (hH : X.H = w.heap) (hw : WR X) (ha : VRs X.alone as cargs.toList) : Calls P (lnk pid) cargs w (After X w v X.m) := by
  unfold runPure at he
  cases hs : runBody call k f as m0 with
  | none => simp [hs] at he
  | some s =>
    obtain ⟨u, m1⟩ := s
    simp only [hs, Option.bind_some] at he
    refine Calls.mono (body_sound hcf hcall hmix hf hs (X := X.alone) hl rfl hH hw.alone ha) ?_
    rintro e w' ⟨cv, Y, rfl, g1, g2, g3, g4, g5, g6⟩
    rw [← g3] at he
    obtain ⟨c1, c2⟩ := frz_spec g2 0 depth u v he
    have hcut := goes_cut g2 0
    obtain ⟨b1, b2⟩ := back_alone hw (g1.trans hcut.1) hcut.2
    exact ⟨cv, _, rfl, b1, b2, rfl, g4, g5, Clean.move (X := Y.cut 0) (X' := ⟨X.lnk, X.B, (Y.cut 0).I, X.m, (Y.cut 0).H⟩) g1.lnk.symm (fun b hb => ⟨hb, rfl⟩) (c2 cv g6) (c1 rfl)⟩
theorem sl_empty {c : Value} {f : SF} (h : VR X (.sl f []) c) : VR X (.sl .nil []) c ∨ VR X (.sl .nn []) c := by
  cases h with
  | sl0 _ a cap h1 h2 h3 h4 =>
    cases a with
    | none => exact .inl (.sl0 _ _ _ (fun _ => h4 rfl) (fun _ => rfl) (fun h => by cases h) h4)
    | some a => exact .inr (.sl0 _ _ _ (fun h => by cases h) (fun h => by cases h) (fun _ => by simp) (fun h => by cases h))
  | sl1 _ _ _ _ _ _ _ _ hne => exact absurd rfl hne
theorem callWith_sound {lnk : Nat → FuncId} {cf : FuncId → Bool → Bool} (hcf : ∀ f sub, cf f sub = true → Carry P f sub) (hcall : CallSound P lnk call) (hmix : P.follows .mixedOrders = true) {k pid : Nat} {f : PF} (hf : chkF P lnk cf pid f = true)
    {args : List V} (he : callWith call k f args m = some (v, m')) {cargs : Array Value} (hl : X.lnk = lnk) (hm : X.m = m) (hH : X.H = w.heap) (hw : WR X) (ha : VRs X args cargs.toList) : Calls P (lnk pid) cargs w (After X w v m') := by
  subst hm
  unfold callWith at he
  split at he
  · exact body_sound hcf hcall hmix hf he hl rfl hH hw ha
  · split at he
    · rename_i as has
      cases hp : callPure call k f as with
      | none => simp [hp] at he
      | some u =>
        simp only [hp, Option.bind_some, Option.some.injEq, Prod.mk.injEq] at he
        obtain ⟨rfl, rfl⟩ := he
        obtain ⟨k1, k2⟩ := norms_spec has ha
        have k3 : VRs X.alone as cargs.toList := Clean.moves (X := X) (X' := X.alone) rfl (fun b hb => ⟨hb, rfl⟩) k1 k2
        unfold callPure at hp
        split at hp
        · split at hp
          · rename_i fl rest
            cases h1 : runPure call k f (.sl .nil [] :: rest) with
            | none => simp [h1] at hp
            | some u1 =>
              cases h2 : runPure call k f (.sl .nn [] :: rest) with
              | none => simp [h1, h2] at hp
              | some u2 =>
                simp only [h1, h2, Option.bind_some] at hp
                split at hp
                · rename_i hb
                  have hb := V.beq_eq u1 u2 hb
                  simp only [Option.some.injEq] at hp
                  subst hb; subst hp
                  have hcases : VRs X.alone (.sl .nil [] :: rest) cargs.toList ∨ VRs X.alone (.sl .nn [] :: rest) cargs.toList := by
                    obtain ⟨hlen, hrel⟩ := k3
                    cases hcl : cargs.toList with
                    | nil => rw [hcl] at hlen; simp at hlen
                    | cons c cl =>
                      rw [hcl] at hlen hrel
                      have h0 := hrel 0 _ _ rfl rfl
                      have go : ∀ q, VR X.alone q c → VRs X.alone (q :: rest) (c :: cl) := fun q hq => ⟨by simpa using hlen, fun i x y hx hy => by
                        cases i with
                        | zero => simp at hx hy; subst hx; subst hy; exact hq
                        | succ i => exact hrel (i + 1) x y (by simpa using hx) (by simpa using hy)⟩
                      exact (sl_empty h0).imp (go _) (go _)
                  rcases hcases with h | h
                  · exact pure_sound hcf hcall hmix hf h1 hl hH hw h
                  · exact pure_sound hcf hcall hmix hf h2 hl hH hw h
                · cases hp
          · exact pure_sound hcf hcall hmix hf hp hl hH hw k3
        · exact pure_sound hcf hcall hmix hf hp hl hH hw k3
    · split at he
      · cases he
      · cases hs : runBody call k f args X.m with
        | none => simp [hs] at he
        | some s =>
          obtain ⟨u, m1⟩ := s
          simp only [hs, Option.bind_some] at he
          cases hz : frz m1 X.m.bs.length depth u with
          | none => simp [hz] at he
          | some z =>
            simp only [hz, Option.bind_some, Option.some.injEq, Prod.mk.injEq] at he
            obtain ⟨rfl, rfl⟩ := he
            refine Calls.mono (body_sound hcf hcall hmix hf hs hl rfl hH hw ha) ?_
            rintro e w' ⟨cv, Y, rfl, g1, g2, g3, g4, g5, g6⟩
            subst g3
            obtain ⟨_, c2⟩ := frz_spec g2 X.m.bs.length depth u z hz
            have hcut := goes_cut g2 X.m.bs.length
            exact ⟨cv, Y.cut X.m.bs.length, rfl, g1.trans hcut.1, hcut.2, rfl, g4, g5, c2 cv g6⟩
theorem callN_sound {lnk : Nat → FuncId} {cf : FuncId → Bool → Bool} (hcf : ∀ f sub, cf f sub = true → Carry P f sub) (hmix : P.follows .mixedOrders = true) {prog : Nat → Option PF} (hp : ∀ pid f, prog pid = some f → chkF P lnk cf pid f = true) :
    ∀ n, CallSound P lnk (callN prog n)
  | 0 => fun pid args m v m' h => by simp [callN] at h
  | n + 1 => fun pid args m v m' h => by
    simp only [callN] at h
    cases hf : prog pid with
    | none => simp [hf] at h
    | some f =>
      simp only [hf, Option.bind_some] at h
      have hc := hp pid f hf
      refine ⟨?_, fun X w cargs hl hm hH hw ha => callWith_sound hcf (callN_sound hcf hmix hp n) hmix hc h hl hm hH hw ha⟩
      unfold chkF at hc
      split at hc
      case h_2 => cases hc
      rename_i fn hfn
      simp only [Bool.and_eq_true] at hc
      obtain ⟨⟨⟨h1, h2⟩, _⟩, _⟩ := hc
      refine ⟨fn, hfn, ?_, by simpa using h2⟩
      cases hb : fn.body with
      | none => rw [hb] at h1; cases h1
      | some c => rfl
end Go.Rx
