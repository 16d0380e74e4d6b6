/-
A part of the proof: lemmas on the machine that the printed functions run on, or contracts of functions.
-/
import Derived.Test.YtfnioapgelabfaaGreatDoorRxMem
set_option linter.unusedVariables false
set_option linter.unusedSimpArgs false
namespace Go.Rx
variable {P : Program} {X : Ctx} {T : Tm} {a : Act} {w : World} {o : Oper} {call : CallF} {v : V} {m' : Mem}
theorem ok_box (hw : WR X) (hH : X.H = w.heap) (ht : TR X T a.tmps) {imm : Bool} {x : Opd} {c : Operand} {t : TypeId} (ho : o.op = .box t c) (hc : chkOpd X.lnk x c = true)
    (hs : stepOp call T X.m (.box imm x) = some (v, m')) : OpOK P o a w X v m' := by
  have h1 := get_VR hc ht
  simp only [stepOp] at hs
  split at hs
  case isFalse => cases hs
  rename_i hf
  obtain ⟨k1, k2⟩ := cells_VR h1 hf
  have hr : (execOp a.eval o).run P w = .ok (.value (.pointer (some ⟨w.heap.size, 0, none⟩))) (w.alloc (.cells (a.eval c).cells t)) := by
    simp [execOp, ho, Instr.box, newVar, newRow]
  cases imm with
  | true =>
    simp only [if_true, Option.some.injEq, Prod.mk.injEq] at hs
    obtain ⟨rfl, rfl⟩ := hs
    refine OpOK.newImm hw hH hr rfl ⟨rfl, rfl, rfl⟩ k1 k2 fun X' _ hrow hI => ?_
    have := hrow.iptr hI 0
    rwa [Nat.zero_add] at this
  | false =>
    simp only [Bool.false_eq_true, if_false, Option.some.injEq, Prod.mk.injEq] at hs
    obtain ⟨rfl, rfl⟩ := hs
    have hl : (a.eval c).cells.toList.length = (x.get T).cells.length := k1.1.symm
    refine OpOK.newOwn hw hH hr rfl ⟨rfl, rfl, rfl⟩ (by rw [List.take_of_length_le (by omega)]; exact k1) k2 fun X' hm hB hH' => ?_
    exact .ptr _ _ _ _ (by rw [hm]; simp [Mem.push]) fun cs _ => ⟨hB, rfl, rfl⟩
def chkZero (P : Program) (t : TypeId) (zs : List V) : Bool :=
  match P.info? t with
  | some i => (match i.zero with | some z => chkVals zs z.cells.toList && i.size == zs.length | none => false)
  | none => false
theorem chkZero_spec {t : TypeId} {zs : List V} (h : chkZero P t zs = true) : ∃ i z, P.info? t = some i ∧ i.zero = some z ∧ chkVals zs z.cells.toList = true ∧ i.size = zs.length := by
  unfold chkZero at h
  split at h
  · rename_i i hi
    split at h
    · rename_i z hz
      simp only [Bool.and_eq_true, beq_iff_eq] at h
      exact ⟨i, z, hi, hz, h.1, h.2⟩
    · cases h
  · cases h
theorem run_zero {t : TypeId} {i : TypeInfo} {z : Value} (hi : P.info? t = some i) (hz : i.zero = some z) (w : World) : (zeroValue t).run P w = .ok z w := by simp [zeroValue, typeInfo, hi, hz]
theorem ok_alloc (hw : WR X) (hH : X.H = w.heap) {imm : Bool} {zs : List V} {t : TypeId} (ho : o.op = .alloc t) (hz : chkZero P t zs = true)
    (hs : stepOp call T X.m (.alloc imm zs) = some (v, m')) : OpOK P o a w X v m' := by
  obtain ⟨i, z, hi, hzz, hch, hsz⟩ := chkZero_spec hz
  obtain ⟨k1, k2⟩ := chkVals_spec (X := X) hch
  have k2' : ∀ v ∈ z.cells.toList, v.oneCell' = true := fun v hv => by
    obtain ⟨j, hj, rfl⟩ := List.getElem_of_mem hv
    exact k2 j _ (List.getElem?_eq_getElem hj)
  simp only [stepOp] at hs
  have hr : (execOp a.eval o).run P w = .ok (.value (.pointer (some ⟨w.heap.size, 0, none⟩))) (w.alloc (.cells z.cells t)) := by
    simp [execOp, ho, Instr.alloc, run_zero hi hzz, newVar, newRow]
  cases imm with
  | true =>
    simp only [if_true, Option.some.injEq, Prod.mk.injEq] at hs
    obtain ⟨rfl, rfl⟩ := hs
    refine OpOK.newImm hw hH hr rfl ⟨rfl, rfl, rfl⟩ k1 k2' fun X' _ hrow hI => ?_
    have := hrow.iptr hI 0
    rwa [Nat.zero_add] at this
  | false =>
    simp only [Bool.false_eq_true, if_false, Option.some.injEq, Prod.mk.injEq] at hs
    obtain ⟨rfl, rfl⟩ := hs
    have hl := k1.1
    refine OpOK.newOwn hw hH hr rfl ⟨rfl, rfl, rfl⟩ (by rw [List.take_of_length_le (by omega)]; exact k1) k2' fun X' hm hB hH' => ?_
    exact .ptr _ _ _ _ (by rw [hm]; simp [Mem.push]) fun cs _ => ⟨hB, rfl, rfl⟩
theorem replicate_get {α : Type} {zs : List α} : ∀ (n k : Nat) (c : α), (List.replicate n zs).flatten[k]? = some c → 0 < zs.length ∧ k < n * zs.length ∧ zs[k % zs.length]? = some c := by
  intro n k c h
  have hs : ∀ e ∈ List.replicate n zs, e.length = zs.length := fun e he => by rw [List.eq_of_mem_replicate he]
  obtain ⟨e, h1, h2, _⟩ := flatten_get hs h
  have he : e = zs := List.eq_of_mem_replicate (List.mem_of_getElem? h1)
  subst he
  have hlt := lt_of_getElem? h
  rw [flatten_length hs, List.length_replicate] at hlt
  refine ⟨?_, hlt, h2⟩
  have := lt_of_getElem? h2
  omega
theorem madeCells_VRs {zs : List V} {z : Array Value} (k1 : VRs X zs z.toList) (k2 : ∀ v ∈ z.toList, v.oneCell' = true) (n : Nat) :
    VRs X (List.replicate n zs).flatten (Go.madeCells z (n * zs.length)).toList ∧ ∀ v ∈ (Go.madeCells z (n * zs.length)).toList, v.oneCell' = true := by
  have hl : zs.length = z.size := by simpa using k1.1
  have hs : ∀ e ∈ List.replicate n zs, e.length = zs.length := fun e he => by rw [List.eq_of_mem_replicate he]
  have hg : ∀ (i : Nat) u, (Go.madeCells z (n * zs.length)).toList[i]? = some u → i < n * zs.length ∧ u = z[i % z.size]! := by
    intro i u hu
    have hlt := lt_of_getElem? hu
    simp only [Array.length_toList, size_madeCells] at hlt
    simp only [Array.getElem?_toList, Go.madeCells, Array.getElem?_map, Array.getElem?_range, hlt, if_true, Option.map_some, Option.some.injEq] at hu
    exact ⟨hlt, hu.symm⟩
  refine ⟨⟨by rw [flatten_length hs]; simp [size_madeCells], fun i c u hc hu => ?_⟩, fun u hu => ?_⟩
  · obtain ⟨h0, h1, h2⟩ := replicate_get n i c hc
    obtain ⟨_, rfl⟩ := hg i u hu
    rw [hl] at h2
    have hlt : i % z.size < z.size := Nat.mod_lt _ (by omega)
    refine k1.2 (i % z.size) c _ h2 ?_
    rw [getElem!_pos z _ hlt]; simp [hlt]
  · obtain ⟨i, hi, rfl⟩ := List.getElem_of_mem hu
    obtain ⟨h0, h1⟩ := hg i _ (List.getElem?_eq_getElem hi)
    rw [h1]
    have hz0 : 0 < z.size := by
      rcases Nat.eq_zero_or_pos z.size with h | h
      · rw [hl, h] at h0; simp at h0
      · exact h
    have hlt : i % z.size < z.size := Nat.mod_lt _ hz0
    rw [getElem!_pos z _ hlt]
    exact k2 _ (by simp)
theorem ok_mksl (hw : WR X) (hH : X.H = w.heap) (ht : TR X T a.tmps) {imm : Bool} {sz bytes : Nat} {zs : List V} {x y : Opd} {c d : Operand} {t e : TypeId} {i : TypeInfo} (ho : o.op = .makeSlice t c d) (hu : P.underlying t = some (.slice e)) (hz : chkZero P e zs = true)
    (hi : P.info? e = some i) (hby : i.bytes = bytes) (hc : chkOpd X.lnk x c = true) (hd : chkOpd X.lnk y d = true) (hs : stepOp call T X.m (.mksl imm sz bytes zs x y) = some (v, m')) : OpOK P o a w X v m' := by
  obtain ⟨i', z, hi', hzz, hch, hsz⟩ := chkZero_spec hz
  rw [hi] at hi'; cases hi'
  obtain ⟨k1, k2⟩ := chkVals_spec (X := X) hch
  have k2' : ∀ v ∈ z.cells.toList, v.oneCell' = true := fun v hv => by
    obtain ⟨j, hj, rfl⟩ := List.getElem_of_mem hv
    exact k2 j _ (List.getElem?_eq_getElem hj)
  have h1 := get_VR hc ht
  have h2 := get_VR hd ht
  simp only [stepOp] at hs
  generalize hce : a.eval c = ce at h1
  generalize hde : a.eval d = de at h2
  split at hs
  case h_2 => cases hs
  rename_i kn n kc n' hx hy
  rw [hx] at h1
  rw [hy] at h2
  cases h1; cases h2
  split at hs
  case isFalse => cases hs
  rename_i hcond
  obtain ⟨rfl, h0, hb, hwd, hzl, hsz0⟩ := hcond
  subst hzl
  subst hby
  simp only [wide] at hb hwd
  have hb' : (i.bytes : Int) * n ≤ 281474976710656 := by rw [Int.mul_comm]; omega
  have hr0 := run_make (P := P) w t e i z hu hi hzz kn kc n n h0 (Int.le_refl _) hb' (by omega)
  have hr : (execOp a.eval o).run P w = .ok (.value (.slice (some ⟨w.heap.size, 0, none⟩) n.toNat n.toNat)) (w.alloc (.cells (Go.madeCells z.cells (n.toNat * zs.length)) e)) := by
    rw [hsz] at hr0
    simp [execOp, ho, hce, hde, hr0]
  obtain ⟨g1, g2⟩ := madeCells_VRs (X := X) k1 k2' n.toNat
  have hs' : ∀ e ∈ List.replicate n.toNat zs, e.length = zs.length := fun e he => by rw [List.eq_of_mem_replicate he]
  have hfl : (List.replicate n.toNat zs).flatten.length = n.toNat * zs.length := by rw [flatten_length hs', List.length_replicate]
  cases imm with
  | true =>
    simp only [if_true, Option.some.injEq, Prod.mk.injEq] at hs
    obtain ⟨rfl, rfl⟩ := hs
    refine OpOK.newImm hw hH hr rfl ⟨rfl, rfl, rfl⟩ g1 g2 fun X' _ hrow hI => ?_
    have := hrow.sl hI zs.length n.toNat n.toNat (by omega) (Nat.le_refl _) .exnn (fun _ => rfl) (by simp [SF.isNil])
    have e1 : chunks zs.length n.toNat (List.replicate n.toNat zs).flatten = List.replicate n.toNat zs := by
      apply List.ext_getElem?
      intro i
      by_cases hi : i < n.toNat
      · have a1 : i < (chunks zs.length n.toNat (List.replicate n.toNat zs).flatten).length := by rw [chunks_length]; exact hi
        obtain ⟨_, b1⟩ := chunks_get _ _ _ _ (List.getElem?_eq_getElem a1)
        rw [List.getElem?_eq_getElem a1, b1, List.getElem?_replicate, if_pos hi]
        congr 1
        have : (List.replicate n.toNat zs).flatten = (List.replicate i zs).flatten ++ (zs ++ (List.replicate (n.toNat - i - 1) zs).flatten) := by
          rw [← List.flatten_cons, ← List.replicate_succ, ← List.flatten_append, List.replicate_append_replicate]
          congr 2; omega
        rw [this]
        have hli : (List.replicate i zs).flatten.length = i * zs.length := by
          rw [flatten_length (fun e he => by rw [List.eq_of_mem_replicate he]), List.length_replicate]
        rw [← hli, List.drop_left, List.take_left]
      · rw [List.getElem?_eq_none (by rw [chunks_length]; omega), List.getElem?_eq_none (by simp; omega)]
    rwa [e1] at this
  | false =>
    simp only [Bool.false_eq_true, if_false, Option.some.injEq, Prod.mk.injEq] at hs
    obtain ⟨rfl, rfl⟩ := hs
    refine OpOK.newOwn hw hH hr rfl ⟨rfl, rfl, rfl⟩ (by rw [List.take_of_length_le (by have := g1.1; omega)]; exact g1) g2 fun X' hm hB hH' => ?_
    refine .msl _ _ _ _ _ _ _ _ (by rw [hm]; simp [Mem.push]) (Nat.le_refl _) (fun _ => rfl) fun cs hcs => ?_
    have hcs' : cs = (List.replicate n.toNat zs).flatten := by
      rw [hm] at hcs
      simp [Mem.cells, Mem.push] at hcs
      exact hcs.symm
    subst hcs'
    refine ⟨by omega, (fun he => by cases he), w.heap.size, _, e, hB, hH', by simp [size_madeCells], .inr ⟨rfl, rfl, rfl⟩⟩
theorem VRs.take {cs : List V} {vs : List Value} (h : VRs X cs vs) (n : Nat) : VRs X (cs.take n) (vs.take n) :=
  ⟨by simp [h.1], fun i c v hc hv => by
    rw [List.getElem?_take] at hc hv
    split at hc
    · rename_i hi
      rw [if_pos hi] at hv
      exact h.2 i c v hc hv
    · cases hc⟩
theorem VRs.drop {cs : List V} {vs : List Value} (h : VRs X cs vs) (n : Nat) : VRs X (cs.drop n) (vs.drop n) :=
  ⟨by simp [h.1], fun i c v hc hv => by rw [List.getElem?_drop] at hc hv; exact h.2 _ c v hc hv⟩
theorem VRs.append {c1 c2 : List V} {v1 v2 : List Value} (h : VRs X c1 v1) (k : VRs X c2 v2) : VRs X (c1 ++ c2) (v1 ++ v2) :=
  ⟨by simp [h.1, k.1], fun i c v hc hv => by
    by_cases hi : i < c1.length
    · rw [List.getElem?_append_left hi] at hc
      rw [List.getElem?_append_left (by rw [← h.1]; exact hi)] at hv
      exact h.2 i c v hc hv
    · rw [List.getElem?_append_right (by omega)] at hc
      rw [List.getElem?_append_right (by rw [← h.1]; omega), ← h.1] at hv
      exact k.2 _ c v hc hv⟩
theorem VRs.splice {cs new : List V} {vs nvs : List Value} (h : VRs X cs vs) (k : VRs X new nvs) (off : Nat) : VRs X (splice cs off new) (vs.take off ++ (nvs ++ vs.drop (off + nvs.length))) := by
  unfold Go.Rx.splice
  rw [k.1]
  exact (h.take off).append (k.append (h.drop _))
theorem fold_cells : ∀ (l : List Value) (k off : Nat) (cells : Array Value), off + k + l.length ≤ cells.size →
    ((l.zipIdx k).foldl (fun cs (p : Value × Nat) => cs.setIfInBounds (off + p.2) p.1) cells).toList = cells.toList.take (off + k) ++ (l ++ cells.toList.drop (off + k + l.length))
  | [], k, off, cells, _ => by simp
  | v :: l, k, off, cells, h => by
    simp only [List.length_cons] at h
    simp only [List.zipIdx_cons, List.foldl_cons]
    rw [fold_cells l (k + 1) off _ (by simp; omega)]
    simp only [Array.toList_setIfInBounds]
    have hlt : off + k < cells.toList.length := by simp; omega
    rw [← Nat.add_assoc off k 1, List.take_set, List.drop_set_of_lt (by omega), List.take_succ_eq_append_getElem hlt]
    rw [List.set_append_right _ _ (by simp; omega)]
    have : (off + k) - (cells.toList.take (off + k)).length = 0 := by simp; omega
    rw [this]
    simp only [List.set_cons_zero, List.append_assoc, List.cons_append, List.nil_append, List.length_cons]
    rw [show off + k + 1 + l.length = off + k + (l.length + 1) by omega]
def PartsR (X : Ctx) (place : Nat → Option (Nat × Nat)) : List (Nat × Nat × V) → List (Nat × Value) → Prop
  | [], [] => True
  | (off, sz, x) :: ps, (i, c) :: qs => place i = some (off, sz) ∧ VR X x c ∧ PartsR X place ps qs
  | _, _ => False
theorem fill_VRs {place : Nat → Option (Nat × Nat)} : ∀ (ps : List (Nat × Nat × V)) (qs : List (Nat × Value)) (cs out : List V) (cells : Array Value), PartsR X place ps qs → VRs X cs cells.toList → (∀ v ∈ cells.toList, v.oneCell' = true) → fillCells cs ps = some out →
    ∃ cells', Instr.fill place cells qs = some cells' ∧ VRs X out cells'.toList ∧ ∀ v ∈ cells'.toList, v.oneCell' = true
  | [], [], cs, out, cells, _, h1, h2, hf => by simp only [fillCells, Option.some.injEq] at hf; subst hf; exact ⟨cells, rfl, h1, h2⟩
  | (off, sz, x) :: ps, (i, c) :: qs, cs, out, cells, hp, h1, h2, hf => by
    obtain ⟨p1, p2, p3⟩ := hp
    simp only [fillCells] at hf
    split at hf
    case isFalse => cases hf
    rename_i hcond
    obtain ⟨c1, c2, c3⟩ := hcond
    obtain ⟨k1, k2⟩ := cells_VR p2 c1
    have hl : cs.length = cells.size := by simpa using h1.1
    have hk : x.cells.length = c.cells.size := by simpa using k1.1
    have hfold := fold_cells c.cells.toList 0 off cells (by simp; omega)
    simp only [Nat.add_zero] at hfold
    have hzip : (c.cells.zipIdx.foldl (fun cs (p : Value × Nat) => cs.setIfInBounds (off + p.2) p.1) cells) = (c.cells.toList.zipIdx.foldl (fun cs (p : Value × Nat) => cs.setIfInBounds (off + p.2) p.1) cells) := by
      rw [← Array.foldl_toList]; simp
    have hsp := h1.splice k1 off
    obtain ⟨cells', r1, r2, r3⟩ := fill_VRs ps qs (splice cs off x.cells) out (c.cells.zipIdx.foldl (fun cs (p : Value × Nat) => cs.setIfInBounds (off + p.2) p.1) cells) p3
      (by rw [hzip, hfold]; exact hsp) (by
        rw [hzip, hfold]
        intro v hv
        simp only [List.mem_append] at hv
        rcases hv with hv | hv | hv
        · exact h2 v (List.mem_of_mem_take hv)
        · exact k2 v hv
        · exact h2 v (List.mem_of_mem_drop hv)) hf
    refine ⟨cells', ?_, r2, r3⟩
    simp only [Instr.fill, p1]
    rw [if_neg (by simp; omega)]
    exact r1
  | [], _ :: _, _, _, _, hp, _, _, _ => hp.elim
  | _ :: _, [], _, _, _, hp, _, _, _ => by cases hp
end Go.Rx
