/-
A part of the proof: lemmas on the machine that the printed functions run on, or contracts of functions.
-/
import Derived.Test.YtfnioapgelabfaaGreatDoorRxOps5
import Derived.Laws.Externs
set_option linter.unusedVariables false
set_option linter.unusedSimpArgs false
namespace Go.Rx
variable {P : Program} {X : Ctx} {T : Tm} {a : Act} {w : World} {o : Oper} {call : CallF} {v : V} {m' : Mem}
theorem byteCells_flatten (s : ByteArray) : (byteCells s).flatten = s.data.toList.map fun b => V.int .u8 b.toNat := by
  unfold byteCells
  induction s.data.toList with
  | nil => rfl
  | cons b l ih => simp [ih]
theorem byteCells_fit (s : ByteArray) : ∀ e ∈ byteCells s, e.length = 1 := by
  intro e he
  simp only [byteCells, List.mem_map] at he
  obtain ⟨b, _, rfl⟩ := he
  rfl
theorem chunks_flatten {sz : Nat} : ∀ (es : List (List V)) (_ : ∀ e ∈ es, e.length = sz) (n : Nat) (_ : n = es.length) (rest : List V), chunks sz n (es.flatten ++ rest) = es
  | [], _, n, hn, rest => by subst hn; rfl
  | e :: es, h, n, hn, rest => by
    subst hn
    have he : e.length = sz := h e (by simp)
    simp only [List.length_cons, chunks, List.flatten_cons, List.append_assoc]
    rw [← he, List.take_left, List.drop_left, he, chunks_flatten es (fun x hx => h x (by simp [hx])) _ rfl rest]
theorem ok_s2b (hw : WR X) (hH : X.H = w.heap) (ht : TR X T a.tmps) {x : Opd} {c : Operand} {t u e : TypeId} (ho : o.op = .convert t u c) (hu : P.underlying u = some (.slice e)) (he : P.underlying e = some (.int .u8)) (hu' : P.underlying t = some .string)
    (hc : chkOpd X.lnk x c = true) (hs : stepOp call T X.m (.s2b x) = some (v, m')) : OpOK P o a w X v m' := by
  have h1 := get_VR hc ht
  simp only [stepOp] at hs
  generalize hce : a.eval c = ce at h1
  split at hs
  case h_2 => cases hs
  rename_i s hx
  rw [hx] at h1
  cases h1
  simp only [Option.some.injEq, Prod.mk.injEq] at hs
  obtain ⟨rfl, rfl⟩ := hs
  have hcap : s.size ≤ grownCap w s.size 0 e := grownCap_ge w _ _ _
  generalize hcv : grownCap w s.size 0 e = cap at hcap
  let vs : Array Value := (s.data.map fun b => Value.int .u8 b.toNat) ++ Array.replicate (cap - s.size) (.int .u8 0)
  have hvs : vs = (s.data.map fun b => Value.int .u8 b.toNat) ++ Array.replicate (cap - s.size) (.int .u8 0) := rfl
  have hr : (execOp a.eval o).run P w = .ok (.value (.slice (some ⟨w.heap.size, 0, none⟩) s.size cap)) ((w.drew.alloc (.cells vs e)).freeze ⟨w.heap.size, vs.size, none⟩ 1) := by
    have hsh : ∀ w2 : World, w2.heap = w.heap.push (.cells vs e) → w2.shape? w.heap.size = some (e, vs.size) := fun w2 h => by
      simp only [World.shape?, h, push_new]
    have hsb : s.size ≤ grownCap w s.size 0 e := grownCap_ge w _ _ _
    have e1 : (Question.appendCap s.size 0 e).cut (w.tape w.drawn (.appendCap s.size 0 e)) = cap := hcv
    simp only [execOp, ho, hce, convert, Sem.run_bind, run_underlying hu, run_underlying hu', run_underlying he, Result.andThen_ok, Conv.stringToBytes, run_choose, Question.forced, Bool.false_eq_true, if_false, e1]
    simp only [newRow, Sem.run_bind, run_newObj, Result.andThen_ok, Sem.run_pure, markStringish, run_shape]
    rw [hsh _ rfl]
    simp only [run_freeze, Result.andThen_ok]
    rfl
  have hfz : ((w.drew.alloc (.cells vs e)).freeze ⟨w.heap.size, vs.size, none⟩ 1).heap = w.heap.push (.cells vs e (vs.size, vs.size + 1)) := by
    simp only [World.freeze, Nat.one_ne_zero, if_false]
    show (w.heap.push (.cells vs e)).modify w.heap.size _ = _
    apply Array.ext_getElem?
    intro i
    rw [Array.getElem?_modify]
    by_cases h : w.heap.size = i
    · subst h
      rw [if_pos rfl, push_new, push_new]
      simp
    · rw [if_neg h]
      by_cases h2 : i < w.heap.size
      · rw [push_old h2, push_old h2]
      · rw [Array.getElem?_eq_none (by simp; omega), Array.getElem?_eq_none (by simp; omega)]
  have hwf : WEq w ((w.drew.alloc (.cells vs e)).freeze ⟨w.heap.size, vs.size, none⟩ 1) := by
    simp only [World.freeze, Nat.one_ne_zero, if_false]; exact ⟨rfl, rfl, rfl⟩
  have hfit := byteCells_fit s
  have hlen : (byteCells s).length = s.size := by simp [byteCells]
  let bs : List V := (byteCells s).flatten ++ List.replicate (cap - s.size) (V.int .u8 0)
  have hvl : VRs X bs vs.toList := by
    refine VRs.append (v1 := s.data.toList.map fun b => Value.int .u8 b.toNat) ?_ ?_ |> fun h => by simpa [hvs] using h
    · rw [byteCells_flatten]
      refine ⟨by simp, fun i c v hc hv => ?_⟩
      simp only [List.getElem?_map] at hc hv
      cases hsi : s.data.toList[i]? with
      | none => simp [hsi] at hc
      | some b =>
        simp only [hsi, Option.map_some, Option.some.injEq] at hc hv
        subst hc; subst hv; exact .int _ _
    · refine ⟨by simp, fun i c v hc hv => ?_⟩
      have h1 := List.eq_of_mem_replicate (List.mem_of_getElem? hc)
      have h2 := List.eq_of_mem_replicate (List.mem_of_getElem? hv)
      subst h1; subst h2; exact .int _ _
  have hv1 : ∀ v ∈ vs.toList, v.oneCell' = true := by
    intro v hv
    simp only [hvs, Array.toList_append, Array.toList_map, Array.toList_replicate, List.mem_append, List.mem_map] at hv
    rcases hv with ⟨b, _, rfl⟩ | hv
    · rfl
    · rw [List.eq_of_mem_replicate hv]; rfl
  refine OpOK.newImm hw hH hr hfz hwf hvl hv1 fun X' _ hrow hI => ?_
  have hfl : (byteCells s).flatten.length = s.size := by rw [flatten_length hfit, hlen, Nat.mul_one]
  have hbl : s.size * 1 ≤ bs.length := by show _ ≤ ((byteCells s).flatten ++ _).length; rw [List.length_append, hfl]; omega
  have key := hrow.sl hI 1 s.size cap hbl (by omega) .nn (fun he => by cases he) (by simp [SF.isNil])
  rwa [chunks_flatten (byteCells s) hfit s.size hlen.symm] at key
def chkParts (P : Program) (lnk : Nat → FuncId) (place : Nat → Option (Nat × Nat)) : List (Nat × Nat × Opd) → List (Nat × Operand) → Bool
  | [], [] => true
  | (off, sz, x) :: ps, (i, c) :: qs => place i == some (off, sz) && chkOpd lnk x c && chkParts P lnk place ps qs
  | _, _ => false
theorem chkParts_spec (ht : TR X T a.tmps) {place : Nat → Option (Nat × Nat)} : ∀ (ps : List (Nat × Nat × Opd)) (qs : List (Nat × Operand)), chkParts P X.lnk place ps qs = true →
    PartsR X place (ps.map fun (o, s, x) => (o, s, x.get T)) (qs.map fun (i, c) => (i, a.eval c))
  | [], [], _ => trivial
  | (off, sz, x) :: ps, (i, c) :: qs, h => by
    simp only [chkParts, Bool.and_eq_true, beq_iff_eq] at h
    exact ⟨h.1.1, get_VR h.1.2 ht, chkParts_spec ht ps qs h.2⟩
  | [], _ :: _, h => by simp [chkParts] at h
  | _ :: _, [], h => by simp [chkParts] at h
def placesOf (P : Program) (t : TypeId) : Option (Nat → Option (Nat × Nat)) :=
  match P.underlying t with
  | some (.array _ e) => (P.info? e).map fun ie => fun i => some (i * ie.size, ie.size)
  | some (.struct fields) => (fields.toList.mapM (fun f => (P.info? f.type).map fun i => (f.offset, i.size))).map fun pl => fun i => pl.toArray[i]?
  | _ => none
theorem ok_build (hw : WR X) (hH : X.H = w.heap) (ht : TR X T a.tmps) {zs : List V} {ps : List (Nat × Nat × Opd)} {t : TypeId} {parts : Array (Nat × Operand)} {place : Nat → Option (Nat × Nat)} (ho : o.op = .build t parts) (hz : chkZero P t zs = true)
    (hpl : placesOf P t = some place) (hp : chkParts P X.lnk place ps parts.toList = true) (hs : stepOp call T X.m (.build zs ps) = some (v, m')) : OpOK P o a w X v m' := by
  obtain ⟨i, z, hi, hzz, hch, hsz⟩ := chkZero_spec hz
  obtain ⟨k1, k2⟩ := chkVals_spec (X := X) hch
  have k2' : ∀ v ∈ z.cells.toList, v.oneCell' = true := fun v hv => by
    obtain ⟨j, hj, rfl⟩ := List.getElem_of_mem hv
    exact k2 j _ (List.getElem?_eq_getElem hj)
  simp only [stepOp] at hs
  cases hf : fillCells zs (ps.map fun (o, s, x) => (o, s, x.get T)) with
  | none => simp [hf] at hs
  | some out =>
    simp only [hf, Option.bind_some, Option.some.injEq, Prod.mk.injEq] at hs
    obtain ⟨rfl, rfl⟩ := hs
    obtain ⟨cells', r1, r2, r3⟩ := fill_VRs (X := X) _ _ _ _ z.cells (chkParts_spec ht ps parts.toList hp) k1 k2' hf
    have hb : P.built t (parts.map fun (i, x) => (i, a.eval x)).toList = some cells' := by
      unfold Program.built
      unfold placesOf at hpl
      rw [Array.toList_map]
      split at hpl
      · rename_i n e hu
        simp only [Option.map_eq_some_iff] at hpl
        obtain ⟨ie, hie, rfl⟩ := hpl
        simp only [hi, hu, hzz, hie]
        exact r1
      · rename_i fields hu
        simp only [Option.map_eq_some_iff] at hpl
        obtain ⟨pl, hpl, rfl⟩ := hpl
        simp only [hi, hu, hzz, hpl]
        exact r1
      · cases hpl
    refine OpOK.same (cv := .agg cells') (w' := w) hw hH (.refl w) (by simp [execOp, ho, Go.run_build w t _ cells' hb]) ?_
    refine .agg out cells' (by simpa using r2.1) (fun i v hv => r3 v (by rw [Array.mem_toList_iff]; exact Array.mem_of_getElem? hv)) (fun i c v hc hv => r2.2 i c v hc (by simpa using hv))
theorem ok_bslice (hw : WR X) (hH : X.H = w.heap) (ht : TR X T a.tmps) {imm : Bool} {sz n : Nat} {zs : List V} {ps : List (Nat × Opd)} {t e : TypeId} {parts : Array (Nat × Operand)} (ho : o.op = .buildSlice t n parts) (hu : P.underlying t = some (.slice e)) (hz : chkZero P e zs = true)
    (hp : chkParts P X.lnk (fun i => some (i * sz, sz)) (ps.map fun (i, x) => (i * sz, sz, x)) parts.toList = true) (hbig : n * sz ≤ 2 ^ 24) (hs : stepOp call T X.m (.bslice imm sz n zs ps) = some (v, m')) : OpOK P o a w X v m' := by
  obtain ⟨i, z, hi, hzz, hch, hsz⟩ := chkZero_spec hz
  obtain ⟨k1, k2⟩ := chkVals_spec (X := X) hch
  have k2' : ∀ v ∈ z.cells.toList, v.oneCell' = true := fun v hv => by
    obtain ⟨j, hj, rfl⟩ := List.getElem_of_mem hv
    exact k2 j _ (List.getElem?_eq_getElem hj)
  simp only [stepOp] at hs
  split at hs
  case isFalse => cases hs
  rename_i hzl
  subst hzl
  obtain ⟨g1, g2⟩ := madeCells_VRs (X := X) k1 k2' n
  have hmap : (ps.map fun (i, x) => (i * zs.length, zs.length, x)).map (fun (o, s, x) => (o, s, x.get T)) = ps.map fun (i, x) => (i * zs.length, zs.length, x.get T) := by
    rw [List.map_map]; rfl
  cases hf : fillCells (List.replicate n zs).flatten (ps.map fun (i, x) => (i * zs.length, zs.length, x.get T)) with
  | none => simp [hf] at hs
  | some out =>
    simp only [hf, Option.bind_some] at hs
    have hpr := chkParts_spec (P := P) ht _ parts.toList hp
    rw [hmap] at hpr
    obtain ⟨cells', r1, r2, r3⟩ := fill_VRs (X := X) _ _ _ _ (Go.madeCells z.cells (n * zs.length)) hpr g1 g2 hf
    have hr : (execOp a.eval o).run P w = .ok (.value (.slice (some ⟨w.heap.size, 0, none⟩) n n)) (w.alloc (.cells cells' e)) := by
      have hso : (sizeOf e).run P w = .ok zs.length w := by simp [sizeOf, typeInfo, hi, hsz]
      have hb2 : ¬ (n * zs.length > 2 ^ 24) := by omega
      have hmc : (if n * zs.length = 0 then (Array.range (n * zs.length)).map (fun i => (#[] : Array Value)[i % 0]!) else (Array.range (n * zs.length)).map (fun i => z.cells[i % z.cells.size]!)) = Go.madeCells z.cells (n * zs.length) := by
        split
        · rename_i h0; rw [h0]; simp [Go.madeCells]
        · rfl
      have r1' : Instr.fill (fun i => some (i * zs.length, zs.length)) (Go.madeCells z.cells (n * zs.length)) (List.map (fun x => (x.1, a.eval x.2)) parts.toList) = some cells' := r1
      by_cases h0 : n * zs.length = 0
      · have hmc0 : Go.madeCells z.cells (n * zs.length) = #[] := by rw [h0]; simp [Go.madeCells]
        rw [hmc0] at r1'
        simp [execOp, ho, Instr.buildSlice, run_underlying hu, hso, h0, r1', newRow, Array.range_zero']
      · simp only [Go.madeCells] at r1'
        simp [execOp, ho, Instr.buildSlice, run_underlying hu, hso, hb2, h0, run_zero hi hzz, r1', newRow]
    have hlo : out.length = n * zs.length := by
      have hfl : ∀ (ps : List (Nat × Nat × V)) (cs out : List V), fillCells cs ps = some out → out.length = cs.length := by
        intro ps
        induction ps with
        | nil => intro cs out h; simp only [fillCells, Option.some.injEq] at h; rw [h]
        | cons p ps ih =>
          intro cs out h
          obtain ⟨off, sz, x⟩ := p
          simp only [fillCells] at h
          split at h
          · rename_i hc
            rw [ih _ _ h]
            simp only [splice, List.length_append, List.length_take, List.length_drop]
            omega
          · cases h
      rw [hfl _ _ _ hf, flatten_length (fun e he => by rw [List.eq_of_mem_replicate he]), List.length_replicate]
    cases imm with
    | true =>
      simp only [if_true, Option.some.injEq, Prod.mk.injEq] at hs
      obtain ⟨rfl, rfl⟩ := hs
      refine OpOK.newImm hw hH hr rfl ⟨rfl, rfl, rfl⟩ r2 r3 fun X' _ hrow hI => ?_
      exact hrow.sl hI zs.length n n (by omega) (Nat.le_refl _) .exnn (fun _ => rfl) (by simp [SF.isNil])
    | false =>
      simp only [Bool.false_eq_true, if_false, Option.some.injEq, Prod.mk.injEq] at hs
      obtain ⟨rfl, rfl⟩ := hs
      have hl2 := r2.1
      refine OpOK.newOwn hw hH hr rfl ⟨rfl, rfl, rfl⟩ (by rw [List.take_of_length_le (by omega)]; exact r2) r3 fun X' hm hB hH' => ?_
      refine .msl _ _ _ _ _ _ _ _ (by rw [hm]; simp [Mem.push]) (Nat.le_refl _) (fun _ => rfl) fun cs hcs => ?_
      have hcs' : cs = out := by
        rw [hm] at hcs
        simp [Mem.cells, Mem.push] at hcs
        exact hcs.symm
      subst hcs'
      simp only [Array.length_toList] at hl2
      exact ⟨by omega, (fun he => by cases he), w.heap.size, _, e, hB, hH', by omega, .inr ⟨rfl, rfl, rfl⟩⟩
theorem get_splice (L nvs : List Value) (off j : Nat) (h : off + nvs.length ≤ L.length) : (L.take off ++ (nvs ++ L.drop (off + nvs.length)))[j]? = if j < off then L[j]? else if j < off + nvs.length then nvs[j - off]? else L[j]? := by
  have hl : (L.take off).length = off := by simp; omega
  by_cases h1 : j < off
  · rw [if_pos h1, List.getElem?_append_left (by omega), List.getElem?_take, if_pos h1]
  · rw [if_neg h1, List.getElem?_append_right (by omega), hl]
    by_cases h2 : j < off + nvs.length
    · rw [if_pos h2, List.getElem?_append_left (by omega)]
    · rw [if_neg h2, List.getElem?_append_right (by omega), List.getElem?_drop]
      congr 1; omega
theorem goes_put (hw : WR X) {id st b : Nat} {cs new : List V} {c : Array Value} {e : TypeId} {nvs : List Value} {off : Nat} (hcs : X.m.cells id st = some cs) (hB : X.B[id]? = some b) (hH : X.H[b]? = some (.cells c e (0, 0)))
    (hlen : cs.length ≤ c.size) (hn : VRs X new nvs) (h1 : ∀ v ∈ nvs, v.oneCell' = true) (hoff : off + new.length ≤ cs.length) {H' : Array Obj}
    (hH' : H'[b]? = some (.cells (c.toList.take off ++ (nvs ++ c.toList.drop (off + nvs.length))).toArray e (0, 0))) (hHo : ∀ k, k ≠ b → H'[k]? = X.H[k]?) (hHs : H'.size = X.H.size) :
    Goes X ⟨X.lnk, X.B, X.I, X.m.put id st (splice cs off new), H'⟩ ∧ WR ⟨X.lnk, X.B, X.I, X.m.put id st (splice cs off new), H'⟩ := by
  have hbs : X.m.bs[id]? = some (some (.cells st cs)) := by
    unfold Mem.cells at hcs
    split at hcs
    · rename_i s cs' h
      split at hcs
      · rename_i hs; subst hs; cases hcs; exact h
      · cases hcs
    · cases hcs
  have hid : id < X.m.bs.length := lt_of_getElem? hbs
  have hnew : (X.m.put id st (splice cs off new)).bs[id]? = some (some (.cells st (splice cs off new))) := by simp [Mem.put, hid]
  have hln : new.length = nvs.length := hn.1
  have hsl : (splice cs off new).length = cs.length := by
    simp only [splice, List.length_append, List.length_take, List.length_drop]; omega
  have hcl : (c.toList.take off ++ (nvs ++ c.toList.drop (off + nvs.length))).toArray.size = c.size := by
    simp only [List.size_toArray, List.length_append, List.length_take, List.length_drop, Array.length_toList]; omega
  obtain ⟨b', k1, k2, k3, cc, e', k4, k5, k6, k7⟩ := hw.live id _ hbs
  rw [hB] at k1; cases k1
  rw [hH] at k4; cases k4
  have key := goes_set hw ⟨X.lnk, X.B, X.I, X.m.put id st (splice cs off new), H'⟩ id b rfl rfl (Nat.le_refl _) (by simp [Mem.put, hw.len]) (fun i hi => rfl)
    (fun i hi => by simp [Mem.put, List.getElem?_set_ne (Ne.symm hi)]) hB (by simp only; omega) (fun k _ hk => hHo k hk) (.inr ⟨_, hbs, hB⟩)
    (fun s cs' hs hc => by
      simp only [Mem.cells, hnew] at hc
      split at hc
      · rename_i hst; subst hst; cases hc
        refine ⟨cs, hcs, hsl, rfl, fun c0 e0 h0 => ?_⟩
        rw [hH] at h0; cases h0
        exact ⟨_, _, hH', hcl⟩
      · cases hc)
    (fun s es' hs hc => by simp only [Mem.map, hnew] at hc; cases hc)
  refine key.2 fun bk hbk => ?_
  simp only [hnew, Option.some.injEq] at hbk
  subst hbk
  refine ⟨k3, _, _, hH', by omega, fun j v hv => ?_, fun j v u hj hu => ?_⟩
  · simp only [List.getElem?_toArray] at hv
    have := List.mem_of_getElem? hv
    simp only [List.mem_append] at this
    rcases this with h | h | h
    · have := List.mem_of_mem_take h
      rw [Array.mem_toList_iff] at this
      obtain ⟨q, hq, rfl⟩ := Array.getElem_of_mem this
      exact k6 q _ (Array.getElem?_eq_getElem hq)
    · exact h1 v h
    · have := List.mem_of_mem_drop h
      rw [Array.mem_toList_iff] at this
      obtain ⟨q, hq, rfl⟩ := Array.getElem_of_mem this
      exact k6 q _ (Array.getElem?_eq_getElem hq)
  · have hw1 : VRs X cs (c.toList.take cs.length) := ⟨by simp; omega, fun i x y hx hy => by
      rw [List.getElem?_take, if_pos (lt_of_getElem? hx)] at hy
      exact k7 i x y hx (by simpa using hy)⟩
    have hsp := hw1.splice hn off
    refine (hsp.2 j v u hj ?_).ext key.1
    simp only [List.getElem?_toArray] at hu
    rw [← hu]
    have hjl := lt_of_getElem? hj
    rw [hsl] at hjl
    rw [get_splice _ _ _ _ (by simp; omega), get_splice _ _ _ _ (by simp; omega), List.getElem?_take, if_pos hjl]
end Go.Rx
