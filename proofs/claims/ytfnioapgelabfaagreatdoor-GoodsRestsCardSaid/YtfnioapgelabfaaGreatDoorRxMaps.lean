/-
A part of the proof: lemmas on the machine that the printed functions run on, or contracts of functions.
-/
import Derived.Test.YtfnioapgelabfaaGreatDoorRxOps8
import Derived.MapKept
set_option linter.unusedVariables false
set_option linter.unusedSimpArgs false
namespace Go.Rx
variable {P : Program} {X : Ctx} {T : Tm} {a : Act} {w : World} {o : Oper} {call : CallF} {v : V} {m' : Mem}
def keyIs (P : Program) (t : TypeId) (ks : Bool) : Bool :=
  match P.underlying t with
  | some .string => ks
  | some (.int _) => !ks
  | _ => false
theorem mem_map {id st : Nat} {es : List (V × V)} {m : Mem} (h : m.map id st = some es) : m.bs[id]? = some (some (.map st es)) := by
  unfold Mem.map at h
  split at h
  · rename_i s es' hb
    split at h
    · rename_i e; subst e; cases h; exact hb
    · cases h
  · cases h
theorem map_row (hw : WR X) {id st : Nat} {es : List (V × V)} {c : Value} (hr : VR X (.mapr id st) c) (hm : X.m.map id st = some es) :
    ∃ r en clock, c = .map (some r) ∧ X.B[id]? = some r ∧ X.H[r]? = some (.map en clock) ∧ es.length = en.size ∧ ∀ (j : Nat) kv e, es[j]? = some kv → en[j]? = some e → VR X kv.1 e.key ∧ VR X kv.2 e.val := by
  cases hr with
  | mapr _ _ r hs h =>
    have hB := h es hm
    obtain ⟨b, h1, _, h2⟩ := hw.live id _ (mem_map hm)
    rw [hB] at h1; cases h1
    obtain ⟨_, en, clock, h3, h4, h5⟩ := h2
    exact ⟨r, en, clock, rfl, hB, h3, h4, h5⟩
theorem sameNow_of {kt : TypeId} {ks : Bool} (hk : keyIs P kt ks = true) {k k' : V} {c c' : Value} (h1 : VR X k c) (h2 : VR X k' c') (hi : k.isKey ks = true) {b : Bool} (he : keyEq k k' = some b) :
    ∃ d, P.underlying kt = some d ∧ Instr.sameNow d c c' = some b := by
  unfold keyIs at hk
  split at hk
  · rename_i hu
    refine ⟨_, hu, ?_⟩
    subst hk
    cases k <;> simp only [V.isKey, Bool.false_eq_true] at hi
    cases k' <;> simp only [keyEq, reduceCtorEq, Option.some.injEq] at he
    cases h1; cases h2
    simp only [Instr.sameNow, Option.some.injEq]; exact he
  · rename_i kk hu
    refine ⟨_, hu, ?_⟩
    simp only [Bool.not_eq_true'] at hk
    subst hk
    cases k <;> simp only [V.isKey, Bool.false_eq_true] at hi
    cases k' <;> simp only [keyEq, reduceCtorEq] at he
    cases h1; cases h2
    simp only [Instr.sameNow]; exact he
  · cases hk
theorem key_desc {kt : TypeId} {ks : Bool} (hk : keyIs P kt ks = true) : ∃ d, P.underlying kt = some d ∧ (d = .string ∧ ks = true ∨ ∃ k, d = .int k ∧ ks = false) := by
  unfold keyIs at hk
  split at hk
  · rename_i hu; exact ⟨_, hu, .inl ⟨rfl, hk⟩⟩
  · rename_i k hu; exact ⟨_, hu, .inr ⟨k, rfl, by simpa using hk⟩⟩
  · cases hk
theorem run_checkKey' {kt : TypeId} {ks : Bool} (hk : keyIs P kt ks = true) (e : Bool) (n : Nat) (c : Value) : (Instr.checkKey e (n + 1) kt c).run P w = .ok () w := by
  obtain ⟨d, hu, hd⟩ := key_desc hk
  rcases hd with ⟨rfl, _⟩ | ⟨k, rfl, _⟩
  · unfold Instr.checkKey
    simp [run_underlying hu]
  · unfold Instr.checkKey
    simp [run_underlying hu]
theorem findNow_of {kt : TypeId} {ks : Bool} (hk : keyIs P kt ks = true) {k : V} {c : Value} (h1 : VR X k c) (hi : k.isKey ks = true) {d : TypeDesc} (hd : P.underlying kt = some d) : ∀ (es : List (V × V)) (en : List MapEntry) (i : Nat) (q : Option V),
    es.length = en.length → (∀ (j : Nat) kv e, es[j]? = some kv → en[j]? = some e → VR X kv.1 e.key ∧ VR X kv.2 e.val) → findMap k es = some q →
    ∃ a, Instr.findNow d c en i = some a ∧ (match q, a with | none, none => True | some v, some (_, cv) => VR X v cv | _, _ => False)
  | [], [], i, q, _, _, hf => by
    simp only [findMap, Option.some.injEq] at hf
    subst hf
    exact ⟨none, rfl, trivial⟩
  | (k', v') :: es, e :: en, i, q, hl, hr, hf => by
    have h0 := hr 0 _ _ rfl rfl
    simp only [findMap] at hf
    cases hb : keyEq k k' with
    | none => simp [hb] at hf
    | some b =>
      obtain ⟨d', hd', hs⟩ := sameNow_of hk h1 h0.1 hi hb
      rw [hd] at hd'; cases hd'
      simp only [hb, Option.bind_some] at hf
      cases b with
      | true =>
        simp only [if_true, Option.some.injEq] at hf
        subst hf
        exact ⟨some (i, e.val), by simp [Instr.findNow, hs], h0.2⟩
      | false =>
        simp only [Bool.false_eq_true, if_false] at hf
        obtain ⟨a, g1, g2⟩ := findNow_of hk h1 hi hd es en (i + 1) q (by simpa using hl) (fun j kv e' hj he => hr (j + 1) kv e' (by simpa using hj) (by simpa using he)) hf
        exact ⟨a, by simp [Instr.findNow, hs, g1], g2⟩
  | [], _ :: _, _, _, hl, _, _ => by simp at hl
  | _ :: _, [], _, _, hl, _, _ => by simp at hl
theorem ok_mkmap (hw : WR X) (hH : X.H = w.heap) {t : TypeId} (ho : o.op = .makeMap t none) (hs : stepOp call T X.m .mkmap = some (v, m')) : OpOK P o a w X v m' := by
  simp only [stepOp, Option.some.injEq, Prod.mk.injEq] at hs
  obtain ⟨rfl, rfl⟩ := hs
  have hr : (execOp a.eval o).run P w = .ok (.value (.map (some w.heap.size))) (w.alloc (.map #[] 0)) := by
    simp [execOp, ho, Instr.makeMap]
  intro K Q h
  unfold Oper.wp
  rw [hr]
  obtain ⟨ext, g⟩ := goes_push hw (.map X.m.gen []) { bs := X.m.bs ++ [some (.map X.m.gen [])], gen := X.m.gen + 1 } rfl rfl rfl (.map #[] 0)
  obtain ⟨g1, g2⟩ := g ⟨by simp, #[], 0, push_new, rfl, fun j kv e hj => by simp at hj⟩
  refine h _ _ _ g1 g2 rfl (by show X.H.push _ = w.heap.push _; rw [hH]) ⟨rfl, rfl, rfl⟩ (.mapr _ _ _ (by simp) fun es _ => ?_)
  simp only [← hw.len, ← hH]; simp
theorem ok_maplen (hw : WR X) (hH : X.H = w.heap) (ht : TR X T a.tmps) {mp : Opd} {t kt et : TypeId} {c : Operand} (ho : o.op = .call ⟨.builtin .len, #[c], #[t]⟩) (hu : P.underlying t = some (.map kt et))
    (hc : chkOpd X.lnk mp c = true) (hs : stepOp call T X.m (.maplen mp) = some (v, m')) : OpOK P o a w X v m' := by
  have h1 := get_VR (a := a) hc ht
  simp only [stepOp] at hs
  split at hs
  · rename_i id st hx
    rw [hx] at h1
    cases hm : X.m.map id st with
    | none => simp [hm] at hs
    | some es =>
      simp only [hm, Option.bind_some, Option.some.injEq, Prod.mk.injEq] at hs
      obtain ⟨rfl, rfl⟩ := hs
      obtain ⟨r, en, clock, hce, hB, hHr, hl, _⟩ := map_row hw h1 hm
      have hget : (getObj r).run P w = .ok (.map en clock) w := MapKept.run_getObj_map (by rw [← hH]; exact hHr)
      have hr : (execOp a.eval o).run P w = .ok (.value (goInt en.size)) w := by
        simp [execOp, ho, resolve, invoke, Go.builtin, Builtin.len_, run_underlying hu, hce, hget]
      refine OpOK.same (w' := w) hw hH (.refl w) hr ?_
      rw [← hl]
      exact .int _ _
  · cases hs
theorem ok_lookup (hw : WR X) (hH : X.H = w.heap) (ht : TR X T a.tmps) {zero : List V} {ag ok ks : Bool} {mp k : Opd} {t kt et : TypeId} {c d : Operand} (ho : o.op = .lookup t c d ok) (hu : P.underlying t = some (.map kt et)) (hk : keyIs P kt ks = true)
    (hz : chkZero P et zero = true) (hag : aggIs P et ag = true) (hzz : ag = false → ∃ i z, P.info? et = some i ∧ i.zero = some z ∧ z.cells = #[z]) (hza : ag = true → ∃ i zs, P.info? et = some i ∧ i.zero = some (.agg zs))
    (hc : chkOpd X.lnk mp c = true) (hd : chkOpd X.lnk k d = true) (hs : stepOp call T X.m (.lookup zero ag ok ks mp k) = some (v, m')) : OpOK P o a w X v m' := by
  have h1 := get_VR (a := a) hc ht
  have h2 := get_VR (a := a) hd ht
  simp only [stepOp] at hs
  split at hs
  case h_2 => cases hs
  rename_i id st hx
  rw [hx] at h1
  split at hs
  · cases hs
  rename_i hkey
  have hkey : (k.get T).isKey ks = true := by simpa using hkey
  cases hm : X.m.map id st with
  | none => simp [hm] at hs
  | some es =>
    cases hf : findMap (k.get T) es with
    | none => simp [hm, hf] at hs
    | some q =>
      simp only [hm, hf, Option.bind_some] at hs
      obtain ⟨r, en, clock, hce, hB, hHr, hl, hrel⟩ := map_row hw h1 hm
      have hget : (getObj r).run P w = .ok (.map en clock) w := MapKept.run_getObj_map (by rw [← hH]; exact hHr)
      obtain ⟨dd, hud, _⟩ := key_desc hk
      obtain ⟨an, hfn, hq⟩ := findNow_of hk h2 hkey hud es en.toList 0 q (by simpa using hl) (fun j kv e hj he => hrel j kv e hj (by simpa using he)) hf
      have hfk := MapKept.run_findKey (P := P) (w := w) hud hfn
      have fin : ∀ (u : V) (cv : Value) (b : Bool), VR X u cv → VR X (if ok = true then .tup [u, .bool b] else u) (if ok = true then .tuple #[cv, .bool b] else cv) := by
        intro u cv b hu
        cases ok with
        | false => simpa using hu
        | true =>
          simp only [if_true]
          refine .tup _ _ rfl fun i x y hx hy => ?_
          match i with
          | 0 => simp at hx hy; subst hx; subst hy; exact hu
          | 1 => simp at hx hy; subst hx; subst hy; exact .bool _
          | n + 2 => simp at hx
      cases q with
      | some u =>
        simp only [Option.bind_some, Option.isSome_some, Option.some.injEq, Prod.mk.injEq] at hs
        obtain ⟨rfl, rfl⟩ := hs
        cases an with
        | none => exact hq.elim
        | some p =>
          obtain ⟨i, cv⟩ := p
          have hr : (execOp a.eval o).run P w = .ok (.value (if ok = true then .tuple #[cv, .bool true] else cv)) w := by
            simp [execOp, ho, Instr.lookup, run_underlying hu, hce, hget, run_checkKey' hk, hfk]
          exact OpOK.same (w' := w) hw hH (.refl w) hr (fin u cv true hq)
      | none =>
        cases an with
        | some p => exact hq.elim
        | none =>
          obtain ⟨i, z, hi, hiz, hzs, hsz⟩ := chkZero_spec hz
          have hr : (execOp a.eval o).run P w = .ok (.value (if ok = true then .tuple #[z, .bool false] else z)) w := by
            simp [execOp, ho, Instr.lookup, run_underlying hu, hce, hget, run_checkKey' hk, hfk, run_zero hi hiz]
          have hzv := (chkVals_spec (X := X) hzs).1
          have hzu : ∀ u, (if ag = true then some (.agg zero) else zero[0]?) = some u → VR X u z := by
            intro u hu
            cases ag with
            | true =>
              obtain ⟨i', zs, e1, e2⟩ := hza rfl
              rw [hi] at e1; cases e1
              rw [hiz] at e2; cases e2
              simp only [if_true, Option.some.injEq] at hu
              subst hu
              have h1c := (chkVals_spec (X := X) hzs).2
              simp only [Value.cells] at hzv h1c
              exact .agg _ _ (by simpa using hzv.1) (fun i v hi => h1c i v (by simpa using hi)) fun i x y hx hy => hzv.2 i x y hx (by simpa using hy)
            | false =>
              obtain ⟨i', z', e1, e2, e3⟩ := hzz rfl
              rw [hi] at e1; cases e1
              rw [hiz] at e2; cases e2
              simp only [Bool.false_eq_true, if_false] at hu
              rw [e3] at hzv
              exact hzv.2 0 u z hu rfl
          cases hzq : (if ag = true then some (V.agg zero) else zero[0]?) with
          | none => simp [hzq] at hs
          | some u =>
            simp only [hzq, Option.bind_some, Option.isSome_none, Option.some.injEq, Prod.mk.injEq] at hs
            obtain ⟨rfl, rfl⟩ := hs
            exact OpOK.same (w' := w) hw hH (.refl w) hr (fin u z false (hzu u hzq))
theorem updMap_of {kt : TypeId} {ks : Bool} (hk : keyIs P kt ks = true) {k x : V} {c y : Value} (h1 : VR X k c) (h2 : VR X x y) (hi : k.isKey ks = true) {d : TypeDesc} (hd : P.underlying kt = some d) : ∀ (es : List (V × V)) (en : List MapEntry) (i : Nat) (es' : List (V × V)),
    es.length = en.length → (∀ (j : Nat) kv e, es[j]? = some kv → en[j]? = some e → VR X kv.1 e.key ∧ VR X kv.2 e.val) → updMap k x es = some es' →
    (∃ (j : Nat) (e : MapEntry), Instr.findNow d c en i = some (some (i + j, e.val)) ∧ en[j]? = some e ∧ Instr.sameNow d c e.key = some true ∧ es'.length = es.length ∧
      (∀ (n : Nat) kv e', es'[n]? = some kv → (en.modify j fun e => { e with key := c, val := y })[n]? = some e' → VR X kv.1 e'.key ∧ VR X kv.2 e'.val)) ∨
    (Instr.findNow d c en i = some none ∧ es' = es ++ [(k, x)])
  | [], [], i, es', _, _, hf => by
    simp only [updMap, Option.some.injEq] at hf
    subst hf
    exact .inr ⟨rfl, rfl⟩
  | (k', v') :: es, e :: en, i, es', hl, hr, hf => by
    have h0 := hr 0 _ _ rfl rfl
    have hr' : ∀ (j : Nat) kv e, es[j]? = some kv → en[j]? = some e → VR X kv.1 e.key ∧ VR X kv.2 e.val := fun j kv e' hj he => hr (j + 1) kv e' (by simpa using hj) (by simpa using he)
    simp only [updMap] at hf
    cases hb : keyEq k k' with
    | none => simp [hb] at hf
    | some b =>
      obtain ⟨d', hd', hs⟩ := sameNow_of hk h1 h0.1 hi hb
      rw [hd] at hd'; cases hd'
      simp only [hb, Option.bind_some] at hf
      cases b with
      | true =>
        simp only [if_true, Option.some.injEq] at hf
        subst hf
        refine .inl ⟨0, e, by simp [Instr.findNow, hs], rfl, hs, by simp, fun n kv e' hn he => ?_⟩
        cases n with
        | zero => simp at hn he; subst hn; subst he; exact ⟨h1, h2⟩
        | succ n => exact hr' n kv e' (by simpa using hn) (by simpa using he)
      | false =>
        simp only [Bool.false_eq_true, if_false] at hf
        cases hu : updMap k x es with
        | none => simp [hu] at hf
        | some es1 =>
          simp only [hu, Option.bind_some, Option.some.injEq] at hf
          subst hf
          rcases updMap_of hk h1 h2 hi hd es en (i + 1) es1 (by simpa using hl) hr' hu with ⟨j, e1, g1, g2, g3, g4, g5⟩ | ⟨g1, g2⟩
          · refine .inl ⟨j + 1, e1, by simp [Instr.findNow, hs, g1]; omega, by simpa using g2, g3, by simp [g4], fun n kv e' hn he => ?_⟩
            cases n with
            | zero => simp at hn he; subst hn; subst he; exact h0
            | succ n => exact g5 n kv e' (by simpa using hn) (by simpa using he)
          · exact .inr ⟨by simp [Instr.findNow, hs, g1], by rw [g2]; rfl⟩
  | [], _ :: _, _, _, hl, _, _ => by simp at hl
  | _ :: _, [], _, _, hl, _, _ => by simp at hl
theorem goes_map (hw : WR X) {id st r : Nat} {es es' : List (V × V)} {en' : Array MapEntry} {clock' : Nat} (hm : X.m.map id st = some es) (hB : X.B[id]? = some r)
    (hl : es'.length = en'.size) (hr : ∀ (j : Nat) kv e, es'[j]? = some kv → en'[j]? = some e → VR X kv.1 e.key ∧ VR X kv.2 e.val) {H' : Array Obj} (hH' : H'[r]? = some (.map en' clock')) (hHo : ∀ k, k ≠ r → H'[k]? = X.H[k]?) (hHs : H'.size = X.H.size) :
    Goes X ⟨X.lnk, X.B, X.I, { X.m with bs := X.m.bs.set id (some (.map st es')) }, H'⟩ ∧ WR ⟨X.lnk, X.B, X.I, { X.m with bs := X.m.bs.set id (some (.map st es')) }, H'⟩ := by
  have hbs := mem_map hm
  have hid : id < X.m.bs.length := lt_of_getElem? hbs
  have hnew : (X.m.bs.set id (some (Blk.map st es')))[id]? = some (some (.map st es')) := by simp [hid]
  obtain ⟨ext, g⟩ := goes_set hw ⟨X.lnk, X.B, X.I, { X.m with bs := X.m.bs.set id (some (.map st es')) }, H'⟩ id r rfl rfl (Nat.le_refl _) (by simp [hw.len])
    (fun i hi => rfl) (fun i hi => by simp [List.getElem?_set_ne (Ne.symm hi)]) hB (by simp [hHs]) (fun k _ hk => hHo k hk) (.inr ⟨_, hbs, hB⟩)
    (fun st' cs' _ hc => by simp only [Mem.cells, hnew] at hc; cases hc)
    (fun st' es'' _ he => by
      simp only [Mem.map, hnew] at he
      split at he
      · rename_i e; subst e; exact ⟨es, hm, rfl⟩
      · cases he)
  refine g fun bk hbk => ?_
  simp only [hnew, Option.some.injEq] at hbk
  subst hbk
  obtain ⟨b, h1, _, h2⟩ := hw.live id _ hbs
  rw [hB] at h1; cases h1
  exact ⟨h2.1, en', clock', hH', hl, fun j kv e hj he => ⟨(hr j kv e hj he).1.ext ext, (hr j kv e hj he).2.ext ext⟩⟩
theorem ok_mapupd (hw : WR X) (hH : X.H = w.heap) (ht : TR X T a.tmps) {ks : Bool} {mp k x : Opd} {t kt et : TypeId} {c d y : Operand} (ho : o.op = .mapUpdate t c d y) (hu : P.underlying t = some (.map kt et)) (hk : keyIs P kt ks = true)
    (hc : chkOpd X.lnk mp c = true) (hd : chkOpd X.lnk k d = true) (hy : chkOpd X.lnk x y = true) (hs : stepOp call T X.m (.mapupd ks mp k x) = some (v, m')) : OpOK P o a w X v m' := by
  have h1 := get_VR (a := a) hc ht
  have h2 := get_VR (a := a) hd ht
  have h3 := get_VR (a := a) hy ht
  simp only [stepOp] at hs
  split at hs
  case h_2 => cases hs
  rename_i id st hx
  rw [hx] at h1
  split at hs
  · cases hs
  rename_i hkey
  have hkey : (k.get T).isKey ks = true := by simpa using hkey
  cases hm : X.m.map id st with
  | none => simp [hm] at hs
  | some es =>
    cases hf : updMap (k.get T) (x.get T) es with
    | none => simp [hm, hf] at hs
    | some es' =>
      simp only [hm, hf, Option.bind_some, Option.some.injEq, Prod.mk.injEq] at hs
      obtain ⟨rfl, rfl⟩ := hs
      obtain ⟨r, en, clock, hce, hB, hHr, hl, hrel⟩ := map_row hw h1 hm
      have hHw : w.heap[r]? = some (.map en clock) := by rw [← hH]; exact hHr
      have hget : (getObj r).run P w = .ok (.map en clock) w := MapKept.run_getObj_map hHw
      obtain ⟨dd, hud, hdk⟩ := key_desc hk
      have hlt : r < w.heap.size := (Array.getElem?_eq_some_iff.1 hHw).1
      rcases updMap_of hk h2 h3 hkey hud es en.toList 0 es' (by simpa using hl) (fun j kv e hj he => hrel j kv e hj (by simpa using he)) hf with ⟨j, e, g1, g2, g3, g4, g5⟩ | ⟨g1, g2⟩
      · have hfk := MapKept.run_findKey (P := P) (w := w) hud g1
        have hekey : e.key = a.eval d := by
          rcases hdk with ⟨rfl, hkk⟩ | ⟨kk, rfl, hkk⟩
          · subst hkk
            generalize k.get T = kv at h2 hkey
            cases kv <;> simp only [V.isKey, Bool.false_eq_true] at hkey
            generalize a.eval d = dv at *
            cases h2
            cases hek : e.key <;> rw [hek] at g3 <;> simp only [Instr.sameNow, reduceCtorEq, Option.some.injEq] at g3
            rename_i s1 s2
            have : s1 = s2 := by
              obtain ⟨s1⟩ := s1
              obtain ⟨s2⟩ := s2
              have h' : (s1 == s2) = true := g3
              rw [beq_iff_eq] at h'
              rw [h']
            rw [this]
          · subst hkk
            generalize k.get T = kv at h2 hkey
            cases kv <;> simp only [V.isKey, Bool.false_eq_true] at hkey
            generalize a.eval d = dv at *
            cases h2
            cases hek : e.key <;> rw [hek] at g3 <;> simp only [Instr.sameNow, reduceCtorEq] at g3
            split at g3
            · rename_i hkk
              simp only [Option.some.injEq, beq_iff_eq] at g3
              rw [hkk, g3]
            · cases g3
        have hkts : (Instr.keyThatStays e.key (a.eval d)).run P w = .ok (a.eval d) w := by
          have hsb : Instr.sameBits 10000 (a.eval d) (a.eval d) = true := by
            generalize k.get T = kv at h2 hkey
            generalize a.eval d = dv at h2 ⊢
            cases ks <;> cases kv <;> simp only [V.isKey, Bool.false_eq_true] at hkey
            · cases h2; simp [Instr.sameBits]
            · cases h2
              rename_i s
              obtain ⟨s⟩ := s
              simp only [Instr.sameBits]
              show (s == s) = true
              simp
          rw [hekey]
          simp [Instr.keyThatStays, hsb]
        have hej : en[j]? = some e := by simpa using g2
        let w' : World := { w with heap := w.heap.setIfInBounds r (.map (en.modify j fun e => { e with key := a.eval d, val := a.eval y }) clock) }
        have hr : (execOp a.eval o).run P w = .ok .skip w' := by
          have hset := MapKept.run_setObj_map (P := P) (.map (en.modify j fun e => { e with key := a.eval d, val := a.eval y }) clock) hHw
          simp only [Nat.zero_add] at hfk
          simp [execOp, ho, Instr.mapUpdate, run_underlying hu, hce, hget, run_checkKey' hk, hfk, hej, hkts, hset, w']
        intro K Q h
        unfold Oper.wp
        rw [hr]
        obtain ⟨k1, k2⟩ := goes_map hw hm hB (es' := es') (en' := en.modify j fun e => { e with key := a.eval d, val := a.eval y }) (clock' := clock) (by rw [g4, hl]; simp) (fun n kv e' hn he => by
          refine g5 n kv e' hn ?_
          rw [← Array.getElem?_toList, Array.toList_modify] at he
          exact he) (H' := w'.heap) (by simp [w', hlt]) (fun q hq => by simp [w', hH, Array.getElem?_setIfInBounds_ne (Ne.symm hq)]) (by simp [w', hH])
        exact h _ w' _ k1 k2 rfl rfl ⟨rfl, rfl, rfl⟩ (.undef _)
      · have hfk := MapKept.run_findKey (P := P) (w := w) hud g1
        subst g2
        let w' : World := { w with heap := w.heap.setIfInBounds r (.map (en.push { key := a.eval d, val := a.eval y, born := clock }) (clock + 1)) }
        have hr : (execOp a.eval o).run P w = .ok .skip w' := by
          have hset := MapKept.run_setObj_map (P := P) (.map (en.push { key := a.eval d, val := a.eval y, born := clock }) (clock + 1)) hHw
          simp [execOp, ho, Instr.mapUpdate, run_underlying hu, hce, hget, run_checkKey' hk, hfk, hset, w']
        intro K Q h
        unfold Oper.wp
        rw [hr]
        obtain ⟨k1, k2⟩ := goes_map hw hm hB (es' := es ++ [(k.get T, x.get T)]) (en' := en.push { key := a.eval d, val := a.eval y, born := clock }) (clock' := clock + 1) (by simp [hl]) (fun n kv e' hn he => by
          by_cases hnl : n < es.length
          · rw [List.getElem?_append_left hnl] at hn
            rw [Array.getElem?_push, if_neg (by omega)] at he
            exact hrel n kv e' hn he
          · have hlt' := lt_of_getElem? hn
            simp only [List.length_append, List.length_cons, List.length_nil] at hlt'
            have : n = es.length := by omega
            subst this
            simp at hn
            rw [hl] at he
            simp at he
            subst hn; subst he
            exact ⟨h2, h3⟩) (H' := w'.heap) (by simp [w', hlt]) (fun q hq => by simp [w', hH, Array.getElem?_setIfInBounds_ne (Ne.symm hq)]) (by simp [w', hH])
        exact h _ w' _ k1 k2 rfl rfl ⟨rfl, rfl, rfl⟩ (.undef _)
end Go.Rx
