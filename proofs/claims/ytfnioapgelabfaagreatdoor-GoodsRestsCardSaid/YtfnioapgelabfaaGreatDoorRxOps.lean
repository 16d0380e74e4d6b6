/-
A part of the proof: lemmas on the machine that the printed functions run on, or contracts of functions.
-/
import Derived.Test.YtfnioapgelabfaaGreatDoorRxRel
import Derived.Laws.Slices
set_option linter.unusedVariables false
set_option linter.unusedSimpArgs false
namespace Go.Rx
theorem size_lt_of_getElem? {α : Type} {a : Array α} {i : Nat} {v : α} (h : a[i]? = some v) : i < a.size := (Array.getElem?_eq_some_iff.1 h).1
theorem lt_of_getElem? {α : Type} {a : List α} {i : Nat} {v : α} (h : a[i]? = some v) : i < a.length := (List.getElem?_eq_some_iff.1 h).1
def chkVal : V → Value → Bool
  | .bool a, .bool b => a == b
  | .int k a, .int j b => k == j && a == b
  | .str a, .string b => a.data.toList == b.data.toList
  | .nilp, .pointer none => true
  | .sl .nil [], .slice none 0 0 => true
  | .nilf, .nilFunc => true
  | _, _ => false
theorem chkVal_spec {X : Ctx} {v : V} {c : Value} (h : chkVal v c = true) : VR X v c ∧ c.oneCell' = true := by
  unfold chkVal at h
  split at h
  · simp only [beq_iff_eq] at h; subst h; exact ⟨.bool _, rfl⟩
  · simp only [Bool.and_eq_true, beq_iff_eq] at h; obtain ⟨rfl, rfl⟩ := h; exact ⟨.int _ _, rfl⟩
  · rename_i a b
    simp only [beq_iff_eq] at h
    obtain ⟨⟨a⟩⟩ := a; obtain ⟨⟨b⟩⟩ := b
    simp only at h; subst h
    exact ⟨.str _, rfl⟩
  · exact ⟨.nilp, rfl⟩
  · exact ⟨.sl0 _ _ _ (fun _ => rfl) (fun _ => rfl) (fun h => by cases h) (fun _ => rfl), rfl⟩
  · exact ⟨.nilf, rfl⟩
  · cases h
def chkVals : List V → List Value → Bool
  | [], [] => true
  | v :: vs, c :: cs => chkVal v c && chkVals vs cs
  | _, _ => false
theorem chkVals_spec {X : Ctx} : ∀ {vs : List V} {cs : List Value}, chkVals vs cs = true → VRs X vs cs ∧ ∀ (i : Nat) c, cs[i]? = some c → c.oneCell' = true
  | [], [], _ => ⟨⟨rfl, fun i c v hc => by simp at hc⟩, fun i c hc => by simp at hc⟩
  | v :: vs, c :: cs, h => by
    simp only [chkVals, Bool.and_eq_true] at h
    obtain ⟨⟨h1, h2⟩, h3⟩ := chkVals_spec (X := X) h.2
    have h0 := chkVal_spec (X := X) h.1
    refine ⟨⟨by simp [h1], fun i a b ha hb => ?_⟩, fun i a ha => ?_⟩
    · cases i with
      | zero => simp at ha hb; subst ha; subst hb; exact h0.1
      | succ i => simp at ha hb; exact h2 i a b ha hb
    · cases i with
      | zero => simp at ha; subst ha; exact h0.2
      | succ i => simp at ha; exact h3 i a ha
  | [], _ :: _, h => by simp [chkVals] at h
  | _ :: _, [], h => by simp [chkVals] at h
def chkOpd (lnk : Nat → FuncId) : Opd → Operand → Bool
  | .t n, .tmp k => n == k
  | .c (.fn pid [] []), .func f => lnk pid == f
  | .c (.fn pid [] []), .const (.func (.func f) a b) => lnk pid == f && a.size == 0 && b.size == 0
  | .c v, .const c => chkVal v c
  | _, _ => false
def TR (X : Ctx) (T : Tm) (tmps : Array Value) : Prop := ∀ t, VR X (T t) (tmps.getD t Go.undef)
theorem TR.ext {X X' : Ctx} (h : Ext X X') {T : Tm} {tmps : Array Value} (hr : TR X T tmps) : TR X' T tmps := fun t => (hr t).ext h
theorem fn0 (X : Ctx) (pid : Nat) : VR X (.fn pid [] []) (.func (.func (X.lnk pid)) #[] #[]) :=
  .fn pid [] [] #[] #[] rfl rfl (fun i c v h => by simp at h) (fun i c v h => by simp at h)
theorem get_VR {X : Ctx} {T : Tm} {a : Act} {x : Opd} {c : Operand} (h : chkOpd X.lnk x c = true) (ht : TR X T a.tmps) : VR X (x.get T) (a.eval c) := by
  unfold chkOpd at h
  split at h
  · simp only [beq_iff_eq] at h; subst h; exact ht _
  · simp only [beq_iff_eq] at h; subst h; exact fn0 X _
  · rename_i a b
    simp only [Bool.and_eq_true, beq_iff_eq] at h
    obtain ⟨⟨rfl, h1⟩, h2⟩ := h
    have e1 : a = #[] := Array.eq_empty_of_size_eq_zero h1
    have e2 : b = #[] := Array.eq_empty_of_size_eq_zero h2
    subst e1; subst e2
    exact fn0 X _
  · exact (chkVal_spec h).1
  · cases h
def chkOpds (lnk : Nat → FuncId) : List Opd → List Operand → Bool
  | [], [] => true
  | x :: xs, c :: cs => chkOpd lnk x c && chkOpds lnk xs cs
  | _, _ => false
theorem gets_VR {X : Ctx} {T : Tm} {a : Act} (ht : TR X T a.tmps) : ∀ {xs : List Opd} {cs : List Operand}, chkOpds X.lnk xs cs = true → VRs X (xs.map (·.get T)) (cs.map a.eval)
  | [], [], _ => ⟨rfl, fun i c v hc => by simp at hc⟩
  | x :: xs, c :: cs, h => by
    simp only [chkOpds, Bool.and_eq_true] at h
    obtain ⟨h1, h2⟩ := gets_VR ht h.2
    have h0 := get_VR h.1 ht
    refine ⟨by simpa using h1, fun i a b ha hb => ?_⟩
    cases i with
    | zero => simp at ha hb; subst ha; subst hb; exact h0
    | succ i => simp only [List.map_cons, List.getElem?_cons_succ] at ha hb; exact h2 i a b ha hb
  | [], _ :: _, h => by simp [chkOpds] at h
  | _ :: _, [], h => by simp [chkOpds] at h
def chkOO (lnk : Nat → FuncId) : Option Opd → Option Operand → Bool
  | none, none => true
  | some x, some c => chkOpd lnk x c
  | _, _ => false
def OpOK (P : Program) (o : Oper) (a : Act) (w : World) (X : Ctx) (v : V) (m' : Mem) : Prop :=
  ∀ (K : Act → World → Prop) (Q : Exit → Act → World → Prop),
    (∀ cv w' X', Goes X X' → WR X' → X'.m = m' → X'.H = w'.heap → WEq w w' → VR X' v cv → K (a.put o.dst cv) w') → o.wp P a w K Q
theorem OpOK.same {P : Program} {o : Oper} {a : Act} {w : World} {X : Ctx} {v : V} {cv : Value} {w' : World} (hw : WR X) (hH : X.H = w'.heap) (he : WEq w w')
    (hr : (execOp a.eval o).run P w = .ok (.value cv) w') (hv : VR X v cv) : OpOK P o a w X v X.m := by
  intro K Q h
  unfold Oper.wp
  rw [hr]
  exact h cv w' X (Goes.refl X) hw rfl hH he hv
structure Row (X : Ctx) (b o : Nat) (cs : List V) (g : Nat → Value) : Prop where
  cell : ∀ (j : Nat) c, cs[j]? = some c → cellAt X.H b (o + j) = some (g j)
  one : ∀ (j : Nat) c, cs[j]? = some c → (g j).oneCell' = true
  rel : ∀ (j : Nat) c, cs[j]? = some c → VR X c (g j)
theorem Row.drop {X : Ctx} {b o : Nat} {cs : List V} {g : Nat → Value} (h : Row X b o cs g) (k : Nat) : Row X b (o + k) (cs.drop k) (fun j => g (k + j)) :=
  ⟨fun j c hj => by rw [List.getElem?_drop] at hj; rw [Nat.add_assoc]; exact h.cell _ c hj, fun j c hj => by rw [List.getElem?_drop] at hj; exact h.one _ c hj,
   fun j c hj => by rw [List.getElem?_drop] at hj; exact h.rel _ c hj⟩
theorem Row.take {X : Ctx} {b o : Nat} {cs : List V} {g : Nat → Value} (h : Row X b o cs g) (k : Nat) : Row X b o (cs.take k) g := by
  have key : ∀ (j : Nat) c, (cs.take k)[j]? = some c → cs[j]? = some c := fun j c hj => by
    rw [List.getElem?_take] at hj
    split at hj
    · exact hj
    · cases hj
  exact ⟨fun j c hj => h.cell _ c (key j c hj), fun j c hj => h.one _ c (key j c hj), fun j c hj => h.rel _ c (key j c hj)⟩
theorem ptr_row {X : Ctx} (hw : WR X) {id st off : Nat} {c : Value} {cs : List V} (hr : VR X (.ptr id st off) c) (hc : X.m.cells id st = some cs) :
    ∃ b cc e, c = .pointer (some ⟨b, off, none⟩) ∧ X.B[id]? = some b ∧ X.H[b]? = some (.cells cc e (0, 0)) ∧ cs.length ≤ cc.size ∧
      (∀ (j : Nat) v, cc[j]? = some v → v.oneCell' = true) ∧ Row X b 0 cs (fun j => cc.getD j default) := by
  cases hr with
  | ptr _ _ _ a hs h =>
    obtain ⟨h1, h2, h3⟩ := h cs hc
    unfold Mem.cells at hc
    split at hc
    · rename_i s cs' hbs
      split at hc
      · cases hc
        obtain ⟨b, k1, k2, k3, cc, e, k4, k5, k6, k7⟩ := hw.live id _ hbs
        rw [h1] at k1; cases k1
        obtain ⟨ab, ao, asp⟩ := a
        subst h2; subst h3
        refine ⟨ab, cc, e, rfl, h1, k4, k5, k6, ⟨fun j c hj => ?_, fun j c hj => ?_, fun j c hj => ?_⟩⟩
        all_goals
          have hlt := lt_of_getElem? hj
          have hlt' : j < cc.size := Nat.lt_of_lt_of_le hlt k5
          have hcc : cc[j]? = some cc[j] := Array.getElem?_eq_getElem hlt'
        · simp only [Nat.zero_add, cellAt, k4, hcc, Array.getD_eq_getD_getElem?, Option.getD_some]
        · rw [Array.getD_eq_getD_getElem?, hcc]; exact k6 j _ hcc
        · rw [Array.getD_eq_getD_getElem?, hcc]; exact k7 j c _ hj hcc
      · cases hc
    · cases hc
theorem iptr_row {X : Ctx} {cs : List V} {off : Nat} {c : Value} (hr : VR X (.iptr cs off) c) :
    ∃ b o g, c = .pointer (some ⟨b, o + off, none⟩) ∧ X.I b ∧ Row X b o cs g := by
  cases hr with
  | iptr _ _ a o g hI hsp ho hc h1 hr =>
    obtain ⟨ab, ao, asp⟩ := a
    simp only at hsp ho hI hc
    subst hsp; subst ho
    exact ⟨ab, o, g, rfl, hI, hc, h1, hr⟩
theorem Row.iptr {X : Ctx} {b o : Nat} {cs : List V} {g : Nat → Value} (h : Row X b o cs g) (hI : X.I b) (off : Nat) : VR X (.iptr cs off) (.pointer (some ⟨b, o + off, none⟩)) :=
  .iptr cs off ⟨b, o + off, none⟩ o g hI rfl rfl h.cell h.one h.rel
def aggIs (P : Program) (t : TypeId) (ag : Bool) : Bool :=
  match P.underlying t with
  | some (.struct _) | some (.array _ _) => ag
  | some _ => !ag
  | none => false
def sizeIs (P : Program) (t : TypeId) (n : Nat) : Bool :=
  match P.info? t with
  | some i => i.size == n
  | none => false
theorem run_isAgg' {P : Program} {t : TypeId} {ag : Bool} (h : aggIs P t ag = true) (w : World) : (isAgg t).run P w = .ok ag w := by
  unfold aggIs at h
  split at h
  · rename_i hu; subst h; simp [isAgg, run_underlying hu]
  · rename_i hu; subst h; simp [isAgg, run_underlying hu]
  · rename_i d hn1 hn2 hu
    simp only [Bool.not_eq_true'] at h; subst h
    simp only [isAgg, Sem.run_bind, run_underlying hu, Result.andThen_ok]
    cases d <;> first | rfl | exact absurd rfl (hn1 _) | exact absurd rfl (hn2 _ _)
  · cases h
theorem run_sizeOf' {P : Program} {t : TypeId} {n : Nat} (h : sizeIs P t n = true) (w : World) : (sizeOf t).run P w = .ok n w := by
  unfold sizeIs at h
  split at h
  · rename_i i hi; simp only [beq_iff_eq] at h; subst h; simp [sizeOf, typeInfo, hi]
  · cases h
theorem add_none (b o n : Nat) : (⟨b, o, none⟩ : Addr).add n = ⟨b, o + n, none⟩ := by
  unfold Addr.add; split
  · rename_i h; subst h; rfl
  · rfl
theorem agg_VR {X : Ctx} {b o : Nat} {cs : List V} {g : Nat → Value} (h : Row X b o cs g) : VR X (.agg cs) (.agg ((List.range cs.length).map g).toArray) := by
  refine .agg cs _ (by simp) (fun i v hv => ?_) (fun i c v hc hv => ?_)
  · simp only [List.getElem?_toArray, List.getElem?_map] at hv
    cases hr : (List.range cs.length)[i]? with
    | none => simp [hr] at hv
    | some k =>
      rw [hr] at hv; simp only [Option.map_some, Option.some.injEq] at hv; subst hv
      have hlt := lt_of_getElem? hr
      simp only [List.length_range] at hlt
      simp only [List.getElem?_range hlt, Option.some.injEq] at hr
      subst hr
      exact h.one i cs[i] (List.getElem?_eq_getElem hlt)
  · have hlt := lt_of_getElem? hc
    simp only [List.getElem?_toArray, List.getElem?_map, List.getElem?_range hlt, Option.map_some, Option.some.injEq] at hv
    subst hv
    exact h.rel i c hc
theorem run_load_part {P : Program} {X : Ctx} {w : World} (hH : X.H = w.heap) {t : TypeId} {ag : Bool} {sz off b o : Nat} {cs : List V} {g : Nat → Value} {v : V}
    (hag : aggIs P t ag = true) (hsz : sizeIs P t sz = true) (hrow : Row X b o cs g) (hp : part ag sz cs off = some v) :
    ∃ cv, (loadVar t ⟨b, o + off, none⟩).run P w = .ok cv w ∧ VR X v cv := by
  unfold part at hp
  split at hp
  · rename_i hle
    cases ag with
    | true =>
      simp only [if_true, Option.some.injEq] at hp
      subst hp
      have hr := (hrow.drop off).take sz
      refine ⟨_, ?_, agg_VR hr⟩
      have hl : ((cs.drop off).take sz).length = sz := by simp; omega
      have hload := run_loadCells_list (P := P) (w := w) ⟨b, o + off, none⟩ ((List.range sz).map (fun j => g (off + j))) (fun j u hj => by
        have hlt := lt_of_getElem? hj
        simp only [List.length_map, List.length_range] at hlt
        simp only [List.getElem?_map, List.getElem?_range hlt, Option.map_some, Option.some.injEq] at hj
        subst hj
        rw [add_none, cell?_eq, ← hH]
        exact hr.cell j _ (List.getElem?_eq_getElem (by omega)))
      simp only [List.length_map, List.length_range] at hload
      simp [loadVar, run_isAgg' hag, run_sizeOf' hsz, hload, hl]
    | false =>
      simp only [Bool.false_eq_true, if_false] at hp
      refine ⟨g off, ?_, hrow.rel off v hp⟩
      have hc := hrow.cell off v hp
      rw [hH, ← cell?_eq] at hc
      simp [loadVar, run_isAgg' hag, hc]
  · cases hp
theorem part_VR {P : Program} {X : Ctx} {w : World} {t : TypeId} {ag : Bool} {sz off : Nat} {cs : List V} {v : V} {x : Value}
    (hag : aggIs P t ag = true) (hsz : sizeIs P t sz = true) (hx : VR X (.agg cs) x) (hp : part ag sz cs off = some v) :
    ∃ vs cv, x = .agg vs ∧ (Go.part t vs off).run P w = .ok cv w ∧ VR X v cv := by
  cases hx with
  | agg _ vs h1 h2 h3 =>
    unfold part at hp
    split at hp
    · rename_i hle
      cases ag with
      | true =>
        simp only [if_true, Option.some.injEq] at hp
        subst hp
        refine ⟨vs, .agg (vs.extract off (off + sz)), rfl, by simp [Go.part, run_isAgg' hag, run_sizeOf' hsz], ?_⟩
        have key : ∀ (i : Nat) v, (vs.extract off (off + sz))[i]? = some v → vs[off + i]? = some v := fun i v hv => by
          rw [Array.getElem?_extract] at hv
          split at hv
          · exact hv
          · cases hv
        refine .agg _ _ (by simp; omega) (fun i v hv => h2 _ v (key i v hv)) (fun i c v hc hv => ?_)
        refine h3 (off + i) c v ?_ (key i v hv)
        rw [List.getElem?_take] at hc
        split at hc
        · rwa [List.getElem?_drop] at hc
        · cases hc
      | false =>
        simp only [Bool.false_eq_true, if_false] at hp
        have hlt := lt_of_getElem? hp
        have hlt' : off < vs.size := by omega
        refine ⟨vs, vs[off], rfl, ?_, h3 off v _ hp (Array.getElem?_eq_getElem hlt')⟩
        simp [Go.part, run_isAgg' hag, Array.getElem?_eq_getElem hlt']
    · cases hp
end Go.Rx
