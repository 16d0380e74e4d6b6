/-
A part of the proof: lemmas on the machine that the printed functions run on, or contracts of functions.
-/
import Derived.Test.YtfnioapgelabfaaGreatDoorRxOps4
import Derived.Laws.MakeOwn
set_option linter.unusedVariables false
set_option linter.unusedSimpArgs false
namespace Go.Rx
variable {P : Program} {X : Ctx} {T : Tm} {a : Act} {w : World} {o : Oper} {call : CallF} {v : V} {m' : Mem}
theorem push_old {H : Array Obj} {ob : Obj} {k : Nat} (h : k < H.size) : (H.push ob)[k]? = H[k]? := by rw [Array.getElem?_push, if_neg (by omega)]
theorem push_new {H : Array Obj} {ob : Obj} : (H.push ob)[H.size]? = some ob := by simp
theorem goes_set (hw : WR X) (X' : Ctx) (id nb : Nat) (hlnk : X'.lnk = X.lnk) (hI : X'.I = X.I) (hgen : X.m.gen ≤ X'.m.gen) (hlen : X'.B.length = X'.m.bs.length)
    (hB : ∀ i, i ≠ id → X'.B[i]? = X.B[i]?) (hbs : ∀ i, i ≠ id → X'.m.bs[i]? = X.m.bs[i]?) (hBi : X'.B[id]? = some nb)
    (hsz : X.H.size ≤ X'.H.size) (hH : ∀ k, k < X.H.size → k ≠ nb → X'.H[k]? = X.H[k]?)
    (hnb : X.H.size ≤ nb ∨ (∃ bk, X.m.bs[id]? = some (some bk) ∧ X.B[id]? = some nb))
    (hval : ∀ st cs', st < X.m.gen → X'.m.cells id st = some cs' → ∃ cs, X.m.cells id st = some cs ∧ cs'.length = cs.length ∧ X'.B[id]? = X.B[id]? ∧
      ∀ c e, X.H[nb]? = some (.cells c e (0, 0)) → ∃ c' e', X'.H[nb]? = some (.cells c' e' (0, 0)) ∧ c'.size = c.size)
    (hmap : ∀ st es', st < X.m.gen → X'.m.map id st = some es' → ∃ es, X.m.map id st = some es ∧ X'.B[id]? = X.B[id]?) :
    Ext X X' ∧ ((∀ bk, X'.m.bs[id]? = some (some bk) → BR X' nb bk) → Goes X X' ∧ WR X') := by
  have hnb' : ∀ b, X.I b → b ≠ nb := by
    intro b hb e
    subst e
    rcases hnb with h | ⟨bk, h1, h2⟩
    · have := hw.imm b hb; omega
    · exact hw.not_imm ⟨id, bk, h1, h2⟩ hb
  have hcells : ∀ i st, i ≠ id → X'.m.cells i st = X.m.cells i st := fun i st hi => by simp only [Mem.cells, hbs i hi]
  have hmaps : ∀ i st, i ≠ id → X'.m.map i st = X.m.map i st := fun i st hi => by simp only [Mem.map, hbs i hi]
  have hlive : ∀ i bk, i ≠ id → X.m.bs[i]? = some (some bk) → ∃ b, X.B[i]? = some b ∧ b ≠ nb ∧ ¬ X.I b ∧ BR X b bk := by
    intro i bk hi hb
    obtain ⟨b, h1, h2, h3⟩ := hw.live i bk hb
    refine ⟨b, h1, fun e => ?_, h2, h3⟩
    subst e
    rcases hnb with h | ⟨bk', h4, h5⟩
    · have := h3.lt; omega
    · exact hi (hw.inj i id bk bk' b hb h4 h1 h5)
  have ext : Ext X X' := by
    refine ⟨hlnk, hgen, fun b hb => ⟨by rw [hI]; exact hb, hH b (hw.imm b hb) (hnb' b hb)⟩, fun i st cs' hs hc => ?_, fun i st es' hs he => ?_⟩
    · by_cases hi : i = id
      · subst hi
        obtain ⟨cs, h1, h2, h3, h4⟩ := hval st cs' hs hc
        refine ⟨cs, h1, h2, h3, fun b c e hb hh => ?_⟩
        rw [h3] at hBi
        rw [hBi] at hb
        cases hb
        exact h4 c e hh
      · rw [hcells i st hi] at hc
        refine ⟨cs', hc, rfl, hB i hi, fun b c e hb hh => ⟨c, e, ?_, rfl⟩⟩
        have : ∃ bk, X.m.bs[i]? = some (some bk) := by
          unfold Mem.cells at hc
          split at hc
          · exact ⟨_, by assumption⟩
          · cases hc
        obtain ⟨bk, hbk⟩ := this
        obtain ⟨b', h1, h2, _, h3⟩ := hlive i bk hi hbk
        rw [h1] at hb; cases hb
        rw [hH _ h3.lt h2]; exact hh
    · by_cases hi : i = id
      · subst hi; exact hmap st es' hs he
      · rw [hmaps i st hi] at he
        exact ⟨es', he, hB i hi⟩
  refine ⟨ext, fun hbr => ⟨⟨ext, hsz, fun b hb hn => ?_, fun b hb => ?_, fun b hb => .inl (by rw [hI] at hb; exact hb)⟩, ⟨hlen, fun b hb => ?_, fun i bk hi => ?_, fun i j bi bj b h1 h2 h3 h4 => ?_⟩⟩⟩
  · refine hH b hb fun e => ?_
    subst e
    rcases hnb with h | ⟨bk, h1, h2⟩
    · omega
    · exact hn ⟨id, bk, h1, h2⟩
  · obtain ⟨i, bk, h1, h2⟩ := hb
    by_cases hi : i = id
    · subst hi
      rw [hBi] at h2; cases h2
      rcases hnb with h | h
      · exact .inr h
      · obtain ⟨bk', h3, h4⟩ := h
        exact .inl ⟨_, bk', h3, h4⟩
    · rw [hbs i hi] at h1
      rw [hB i hi] at h2
      exact .inl ⟨i, bk, h1, h2⟩
  · rw [hI] at hb
    exact Nat.lt_of_lt_of_le (hw.imm b hb) hsz
  · by_cases h : i = id
    · subst h
      exact ⟨nb, hBi, fun hb => by rw [hI] at hb; exact hnb' nb hb rfl, hbr bk hi⟩
    · rw [hbs i h] at hi
      obtain ⟨b, h1, h2, h3, h4⟩ := hlive i bk h hi
      exact ⟨b, by rw [hB i h]; exact h1, by rw [hI]; exact h3, h4.ext ext (hH b h4.lt h2)⟩
  · by_cases hi : i = id
    · subst hi
      by_cases hj : j = i
      · exact hj.symm
      · rw [hbs j hj] at h2
        rw [hB j hj] at h4
        obtain ⟨b', k1, k2, _, _⟩ := hlive j bj hj h2
        rw [k1] at h4; cases h4
        rw [hBi] at h3; cases h3
        exact absurd rfl k2
    · rw [hbs i hi] at h1
      rw [hB i hi] at h3
      by_cases hj : j = id
      · subst hj
        obtain ⟨b', k1, k2, _, _⟩ := hlive i bi hi h1
        rw [k1] at h3; cases h3
        rw [hBi] at h4; cases h4
        exact absurd rfl k2
      · rw [hbs j hj] at h2
        rw [hB j hj] at h4
        exact hw.inj i j bi bj b h1 h2 h3 h4
theorem goes_imm (hw : WR X) (ob : Obj) : Goes X ⟨X.lnk, X.B, fun b => X.I b ∨ b = X.H.size, X.m, X.H.push ob⟩ ∧ WR ⟨X.lnk, X.B, fun b => X.I b ∨ b = X.H.size, X.m, X.H.push ob⟩ := by
  have hext : Ext X ⟨X.lnk, X.B, fun b => X.I b ∨ b = X.H.size, X.m, X.H.push ob⟩ := by
    refine ⟨rfl, Nat.le_refl _, fun b hb => ⟨.inl hb, push_old (hw.imm b hb)⟩, fun i st cs' _ hc => ⟨cs', hc, rfl, rfl, fun b c e hb hh => ⟨c, e, ?_, rfl⟩⟩, fun i st es' _ he => ⟨es', he, rfl⟩⟩
    exact (push_old (Array.getElem?_eq_some_iff.1 hh).1).trans hh
  refine ⟨⟨hext, by simp, fun b hb _ => push_old hb, fun b hb => .inl hb, fun b hb => ?_⟩, ⟨hw.len, fun b hb => ?_, fun i bk hi => ?_, hw.inj⟩⟩
  · rcases hb with h | h
    · exact .inl h
    · exact .inr (.inr (by omega))
  · simp only [Array.size_push]
    rcases hb with h | h
    · have := hw.imm b h; omega
    · omega
  · obtain ⟨b, h1, h2, h3⟩ := hw.live i bk hi
    refine ⟨b, h1, fun hb => ?_, h3.ext hext (push_old h3.lt)⟩
    rcases hb with h | h
    · exact h2 h
    · have := h3.lt; omega
theorem Mem.push_old {m : Mem} {cs : List V} {i : Nat} (h : i ≠ m.bs.length) : (m.push cs).bs[i]? = m.bs[i]? := by
  simp only [Mem.push]
  by_cases hi : i < m.bs.length
  · rw [List.getElem?_append_left hi]
  · rw [List.getElem?_append_right (by omega), List.getElem?_eq_none (by simp; omega), List.getElem?_eq_none (by omega)]
theorem goes_push (hw : WR X) (bk : Blk) (m' : Mem) (hm : m'.bs = X.m.bs ++ [some bk]) (hg : m'.gen = X.m.gen + 1) (hst : match bk with | .cells st _ => st = X.m.gen | .map st _ => st = X.m.gen) (ob : Obj) :
    Ext X ⟨X.lnk, X.B ++ [X.H.size], X.I, m', X.H.push ob⟩ ∧
      (BR ⟨X.lnk, X.B ++ [X.H.size], X.I, m', X.H.push ob⟩ X.H.size bk → Goes X ⟨X.lnk, X.B ++ [X.H.size], X.I, m', X.H.push ob⟩ ∧ WR ⟨X.lnk, X.B ++ [X.H.size], X.I, m', X.H.push ob⟩) := by
  have hl := hw.len
  have hnew : m'.bs[X.m.bs.length]? = some (some bk) := by rw [hm]; simp
  have hBn : (X.B ++ [X.H.size])[X.m.bs.length]? = some X.H.size := by rw [← hl]; simp
  have key := goes_set hw ⟨X.lnk, X.B ++ [X.H.size], X.I, m', X.H.push ob⟩ X.m.bs.length X.H.size rfl rfl (by simp only; omega) (by simp only [hm, List.length_append, hl, List.length_cons, List.length_nil])
    (fun i hi => by
      simp only
      by_cases h : i < X.B.length
      · rw [List.getElem?_append_left h]
      · rw [List.getElem?_append_right (by omega), List.getElem?_eq_none (by simp; omega), List.getElem?_eq_none (by omega)])
    (fun i hi => by
      simp only [hm]
      by_cases h : i < X.m.bs.length
      · rw [List.getElem?_append_left h]
      · rw [List.getElem?_append_right (by omega), List.getElem?_eq_none (by simp; omega), List.getElem?_eq_none (by omega)])
    hBn (by simp) (fun k hk _ => Go.Rx.push_old hk) (.inl (Nat.le_refl _))
    (fun st cs' hs hc => by
      simp only [Mem.cells, hnew] at hc
      cases bk with
      | cells s cs => simp only at hc hst; split at hc <;> first | omega | cases hc
      | map s es => cases hc)
    (fun st es' hs hc => by
      simp only [Mem.map, hnew] at hc
      cases bk with
      | cells s cs => cases hc
      | map s es => simp only at hc hst; split at hc <;> first | omega | cases hc)
  refine ⟨key.1, fun hbr => key.2 fun bk' hb' => ?_⟩
  simp only [hnew, Option.some.injEq] at hb'
  subst hb'
  exact hbr
theorem cells_VR {x : V} {c : Value} (h : VR X x c) (hf : x.fits = true) : VRs X x.cells c.cells.toList ∧ ∀ v ∈ c.cells.toList, v.oneCell' = true := by
  have one : ∀ {x : V} {c : Value}, VR X x c → x.cells = [x] → c.cells = #[c] → c.oneCell' = true → VRs X x.cells c.cells.toList ∧ ∀ v ∈ c.cells.toList, v.oneCell' = true := by
    intro x c h h1 h2 h3
    rw [h1, h2]
    refine ⟨⟨rfl, fun i a b ha hb => ?_⟩, fun v hv => ?_⟩
    · cases i with
      | zero => simp at ha hb; subst ha; subst hb; exact h
      | succ i => simp at ha
    · simp at hv; subst hv; exact h3
  cases h with
  | undef => cases hf
  | tup => cases hf
  | agg cs vs h1 h2 h3 =>
    refine ⟨⟨by simpa [V.cells, Value.cells] using h1, fun i a b ha hb => h3 i a b (by simpa [V.cells] using ha) (by simpa [Value.cells] using hb)⟩, fun v hv => ?_⟩
    simp only [Value.cells, Array.mem_toList_iff] at hv
    obtain ⟨i, hi, rfl⟩ := Array.getElem_of_mem hv
    exact h2 i _ (Array.getElem?_eq_getElem hi)
  | bool => exact one (.bool _) rfl rfl rfl
  | int => exact one (.int _ _) rfl rfl rfl
  | str => exact one (.str _) rfl rfl rfl
  | nilp => exact one .nilp rfl rfl rfl
  | ptr _ _ _ _ h1 h2 => exact one (.ptr _ _ _ _ h1 h2) rfl rfl rfl
  | iptr _ _ _ o g a1 a2 a3 a4 a5 a6 => exact one (.iptr _ _ _ o g a1 a2 a3 a4 a5 a6) rfl rfl rfl
  | sl0 _ _ _ a1 a2 a3 a4 => exact one (.sl0 _ _ _ a1 a2 a3 a4) rfl rfl rfl
  | sl1 _ _ _ _ _ sz g a1 a2 a3 a4 a5 a6 a7 a8 a9 a10 a11 => exact one (.sl1 _ _ _ _ _ sz g a1 a2 a3 a4 a5 a6 a7 a8 a9 a10 a11) rfl rfl rfl
  | msl _ _ _ _ _ _ _ _ a1 a2 a3 a4 => exact one (.msl _ _ _ _ _ _ _ _ a1 a2 a3 a4) rfl rfl rfl
  | nilf => exact one .nilf rfl rfl rfl
  | fn _ _ _ _ _ a1 a2 a3 a4 => exact one (.fn _ _ _ _ _ a1 a2 a3 a4) rfl rfl rfl
  | mapr _ _ _ a1 a2 => exact one (.mapr _ _ _ a1 a2) rfl rfl rfl
theorem VRs.row {cs : List V} {vs : Array Value} (h : VRs X cs vs.toList) (h1 : ∀ v ∈ vs.toList, v.oneCell' = true) {b : Nat} {e : TypeId} {fr : Nat × Nat} (hb : X.H[b]? = some (.cells vs e fr)) :
    Row X b 0 cs (fun j => vs.getD j default) := by
  have hl : cs.length = vs.size := by simpa using h.1
  refine ⟨fun j c hj => ?_, fun j c hj => ?_, fun j c hj => ?_⟩
  all_goals
    have hlt := lt_of_getElem? hj
    have hv : vs[j]? = some vs[j] := Array.getElem?_eq_getElem (by omega)
    have hd : vs.getD j default = vs[j] := by rw [Array.getD_eq_getD_getElem?, hv]; rfl
  · rw [hd]; simp [cellAt, hb, hv]
  · rw [hd]; exact h1 _ (by simp)
  · rw [hd]; exact h.2 j c _ hj (by simp)
theorem OpOK.newImm (hw : WR X) (hH : X.H = w.heap) {cs : List V} {vs : Array Value} {e : TypeId} {fr : Nat × Nat} {w' : World} {cv : Value} {v : V}
    (hr : (execOp a.eval o).run P w = .ok (.value cv) w') (hw' : w'.heap = w.heap.push (.cells vs e fr)) (he : WEq w w')
    (hvs : VRs X cs vs.toList) (h1 : ∀ v ∈ vs.toList, v.oneCell' = true)
    (hv : ∀ X' : Ctx, X'.m = X.m → Row X' w.heap.size 0 cs (fun j => vs.getD j default) → X'.I w.heap.size → VR X' v cv) : OpOK P o a w X v X.m := by
  intro K Q h
  unfold Oper.wp
  rw [hr]
  obtain ⟨g1, g2⟩ := goes_imm hw (.cells vs e fr)
  refine h cv w' _ g1 g2 rfl (by rw [hw', hH]) he ?_
  refine hv _ rfl ?_ (.inr (by rw [hH]))
  rw [← hH]
  exact (hvs.ext g1.toExt).row h1 push_new
theorem OpOK.newOwn (hw : WR X) (hH : X.H = w.heap) {cs : List V} {vs : Array Value} {e : TypeId} {w' : World} {cv : Value} {v : V}
    (hr : (execOp a.eval o).run P w = .ok (.value cv) w') (hw' : w'.heap = w.heap.push (.cells vs e (0, 0))) (he : WEq w w')
    (hvs : VRs X cs (vs.toList.take cs.length)) (h1 : ∀ v ∈ vs.toList, v.oneCell' = true)
    (hv : ∀ X' : Ctx, X'.m = X.m.push cs → X'.B[X.m.bs.length]? = some w.heap.size → X'.H[w.heap.size]? = some (.cells vs e (0, 0)) → VR X' v cv) : OpOK P o a w X v (X.m.push cs) := by
  intro K Q h
  unfold Oper.wp
  rw [hr]
  have hl : cs.length ≤ vs.size := by have := hvs.1; simp at this; omega
  obtain ⟨ext, g⟩ := goes_push hw (.cells X.m.gen cs) (X.m.push cs) rfl rfl rfl (.cells vs e (0, 0))
  obtain ⟨g1, g2⟩ := g ⟨by simp [Mem.push], vs, e, push_new, hl, fun j u hj => h1 u (by rw [Array.mem_toList_iff]; exact Array.mem_of_getElem? hj), fun j u c hj hu => by
    refine (hvs.2 j u c hj ?_).ext ext
    rw [List.getElem?_take, if_pos (lt_of_getElem? hj)]; simpa using hu⟩
  refine h cv w' _ g1 g2 rfl (by rw [hw', hH]) he ?_
  refine hv _ rfl ?_ ?_
  · simp only [← hw.len, ← hH]; simp
  · simp only [← hH]; exact push_new
end Go.Rx
