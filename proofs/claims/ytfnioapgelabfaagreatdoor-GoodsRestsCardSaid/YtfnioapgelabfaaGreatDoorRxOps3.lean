/-
A part of the proof: lemmas on the machine that the printed functions run on, or contracts of functions.
-/
import Derived.Test.YtfnioapgelabfaaGreatDoorRxOps2
import Derived.Laws.BytesString
import Derived.Lib.AppendStr
set_option linter.unusedVariables false
set_option linter.unusedSimpArgs false
namespace Go.Rx
variable {P : Program} {X : Ctx} {T : Tm} {a : Act} {w : World} {o : Oper} {call : CallF} {v : V} {m' : Mem}
theorem flatten_get {α : Type} {sz : Nat} : ∀ {es : List (List α)} (_ : ∀ e ∈ es, e.length = sz) {k : Nat} {c : α}, es.flatten[k]? = some c → ∃ e, es[k / sz]? = some e ∧ e[k % sz]? = some c ∧ k = k / sz * sz + k % sz
  | [], _, k, c, h => by simp at h
  | e :: es, hs, k, c, h => by
    have he : e.length = sz := hs e (by simp)
    simp only [List.flatten_cons] at h
    by_cases hk : k < sz
    · rw [List.getElem?_append_left (by omega)] at h
      rw [Nat.div_eq_of_lt hk, Nat.mod_eq_of_lt hk]
      exact ⟨e, rfl, h, by simp⟩
    · rw [List.getElem?_append_right (by omega), he] at h
      have hz : 0 < sz := by
        rcases Nat.eq_zero_or_pos sz with h0 | h0
        · exfalso
          subst h0
          have hall : ∀ x ∈ es, x = [] := fun x hx => List.eq_nil_of_length_eq_zero (hs x (by simp [hx]))
          have : es.flatten = [] := by
            rw [List.flatten_eq_nil_iff]; exact hall
          rw [this] at h; simp at h
        · exact h0
      obtain ⟨e', h1, h2, _⟩ := flatten_get (fun x hx => hs x (by simp [hx])) h
      have hd : k / sz = (k - sz) / sz + 1 := by
        rw [Nat.div_eq_sub_div hz (by omega)]
      have hm : k % sz = (k - sz) % sz := by rw [Nat.mod_eq_sub_mod (by omega)]
      refine ⟨e', ?_, by rw [hm]; exact h2, by rw [Nat.mul_comm]; exact (Nat.div_add_mod k sz).symm⟩
      rw [hd, List.getElem?_cons_succ]; exact h1
theorem flatten_length {α : Type} {sz : Nat} : ∀ {es : List (List α)} (_ : ∀ e ∈ es, e.length = sz), es.flatten.length = es.length * sz
  | [], _ => by simp
  | e :: es, hs => by
    have he : e.length = sz := hs e (by simp)
    have := flatten_length (es := es) (fun x hx => hs x (by simp [hx]))
    simp only [List.flatten_cons, List.length_append, List.length_cons, he, this, Nat.add_mul]
    omega
theorem chunks_length {sz : Nat} : ∀ (n : Nat) (cs : List V), (chunks sz n cs).length = n
  | 0, _ => rfl
  | n + 1, cs => by simp [chunks, chunks_length n]
theorem chunks_get {sz : Nat} : ∀ (n : Nat) (cs : List V) (i : Nat) (e : List V), (chunks sz n cs)[i]? = some e → i < n ∧ e = (cs.drop (i * sz)).take sz
  | 0, _, i, e, h => by simp [chunks] at h
  | n + 1, cs, 0, e, h => by simp [chunks] at h; exact ⟨by omega, by simpa using h.symm⟩
  | n + 1, cs, i + 1, e, h => by
    simp only [chunks, List.getElem?_cons_succ] at h
    obtain ⟨h1, h2⟩ := chunks_get n (cs.drop sz) i e h
    refine ⟨by omega, ?_⟩
    rw [h2, List.drop_drop, Nat.add_mul, Nat.one_mul, Nat.add_comm]
theorem chunks_fit {sz : Nat} (n : Nat) (cs : List V) (h : n * sz ≤ cs.length) : ∀ e ∈ chunks sz n cs, e.length = sz := by
  intro e he
  obtain ⟨i, hi, rfl⟩ := List.getElem_of_mem he
  obtain ⟨h1, h2⟩ := chunks_get n cs i _ (List.getElem?_eq_getElem hi)
  rw [h2]
  simp only [List.length_take, List.length_drop]
  have : (i + 1) * sz ≤ n * sz := Nat.mul_le_mul_right _ h1
  have e1 : (i + 1) * sz = i * sz + sz := by rw [Nat.add_mul, Nat.one_mul]
  omega
theorem flatten_chunks (sz : Nat) : ∀ (n : Nat) (ds : List V), (chunks sz n ds).flatten = ds.take (n * sz)
  | 0, ds => by simp [chunks]
  | n + 1, ds => by
    simp only [chunks, List.flatten_cons, flatten_chunks sz n]
    rw [Nat.add_mul, Nat.one_mul, Nat.add_comm, List.take_add]
theorem Row.sl {b o : Nat} {cs : List V} {g : Nat → Value} (h : Row X b o cs g) (hI : X.I b) (sz n cap : Nat) (hn : n * sz ≤ cs.length) (hcap : n ≤ cap) (f : SF) (hf : f.exact = true → cap = n) (hnil : f.isNil ≠ some true) :
    VR X (.sl f (chunks sz n cs)) (.slice (some ⟨b, o, none⟩) n cap) := by
  cases n with
  | zero => exact .sl0 f _ cap (fun e => hf e) (fun e => absurd e hnil) (fun _ => by simp) (fun h => by cases h)
  | succ n =>
    refine .sl1 f _ _ ⟨b, o, none⟩ cap sz (fun i j => g (i * sz + j)) (chunks_length _ _) (by simp [chunks]) hI rfl hcap hf hnil (chunks_fit _ _ hn) ?_ ?_ ?_
    all_goals
      intro i j e c hi hj
      obtain ⟨h1, rfl⟩ := chunks_get _ _ _ _ hi
      have hj' : cs[i * sz + j]? = some c := by
        rw [List.getElem?_take] at hj
        split at hj
        · rwa [List.getElem?_drop] at hj
        · cases hj
    · rw [Nat.add_assoc]; exact h.cell _ c hj'
    · exact h.one _ c hj'
    · exact h.rel _ c hj'
theorem sl1_row {f : SF} {es : List (List V)} {n : Nat} {ad : Option Addr} {cap : Nat} (hne : es ≠ []) (hr : VR X (.sl f es) (.slice ad n cap)) :
    ∃ b oo sz G, ad = some ⟨b, oo, none⟩ ∧ X.I b ∧ es.length = n ∧ n ≤ cap ∧ (f.exact = true → cap = n) ∧ f.isNil ≠ some true ∧ (∀ e ∈ es, e.length = sz) ∧ Row X b oo es.flatten G := by
  cases hr with
  | sl0 => exact absurd rfl hne
  | sl1 _ _ _ a _ sz g hn hne hI hsp hcap hex hnil hsz hc h1 hr =>
    obtain ⟨ab, ao, asp⟩ := a
    simp only at hsp hI hc
    subst hsp
    refine ⟨ab, ao, sz, fun k => g (k / sz) (k % sz), rfl, hI, hn, hcap, hex, hnil, hsz, ⟨?_, ?_, ?_⟩⟩
    all_goals
      intro k c hk
      obtain ⟨e, k1, k2, k3⟩ := flatten_get hsz hk
    · have := hc _ _ e c k1 k2
      rw [Nat.add_assoc, ← k3] at this
      exact this
    · exact h1 _ _ e c k1 k2
    · exact hr _ _ e c k1 k2
theorem sl_value {f : SF} {es : List (List V)} {c : Value} (hr : VR X (.sl f es) c) : ∃ ad cap, c = .slice ad es.length cap := by
  cases hr with
  | sl0 => exact ⟨_, _, rfl⟩
  | sl1 _ _ n _ _ _ _ hn => subst hn; exact ⟨_, _, rfl⟩
theorem fitSz_spec {sz : Nat} {es : List (List V)} (h : fitSz sz es = true) : ∀ e ∈ es, e.length = sz := by
  intro e he
  simp only [fitSz, List.all_eq_true, beq_iff_eq] at h
  exact h e he
theorem fit_eq {sz sz' : Nat} {es : List (List V)} (hne : es ≠ []) (h : ∀ e ∈ es, e.length = sz) (h' : ∀ e ∈ es, e.length = sz') : sz = sz' := by
  cases es with
  | nil => exact absurd rfl hne
  | cons e es => rw [← h e (by simp), ← h' e (by simp)]
theorem msl_row (hw : WR X) {id st sz off len : Nat} {ex : Bool} {c : Value} {cs : List V} (hr : VR X (.msl id st sz off len ex) c) (hc : X.m.cells id st = some cs) :
    ∃ b cc e cap ad, c = .slice (some ad) len cap ∧ X.B[id]? = some b ∧ X.H[b]? = some (.cells cc e (0, 0)) ∧ cs.length ≤ cc.size ∧
      (∀ (j : Nat) v, cc[j]? = some v → v.oneCell' = true) ∧ Row X b 0 cs (fun j => cc.getD j default) ∧ len ≤ cap ∧ (ex = true → cap = len) ∧
      off + len * sz ≤ cs.length ∧ (ex = false → cs.length ≤ off + cap * sz) ∧ off + cap * sz ≤ cc.size ∧ (cap = 0 ∨ ad = ⟨b, off, none⟩) := by
  cases hr with
  | msl _ _ _ _ _ _ ad cap hs hlen hex h =>
    obtain ⟨h1, h2, b, cc0, e0, h3, h4, h5, h6⟩ := h cs hc
    obtain ⟨b', cc, e, k1, k2, k3, k4, k5, k6⟩ := ptr_row hw (VR.ptr (X := X) id st 0 ⟨b, 0, none⟩ hs (fun cs' hc' => ⟨h3, rfl, rfl⟩)) hc
    rw [h3] at k2; cases k2
    rw [h4] at k3; cases k3
    refine ⟨b, _, _, cap, ad, rfl, h3, h4, k4, k5, k6, hlen, hex, h1, h2, h5, h6.imp (fun h => h) fun ⟨g1, g2, g3⟩ => ?_⟩
    obtain ⟨ab, ao, asp⟩ := ad
    simp only at g1 g2 g3
    subst g1; subst g2; subst g3; rfl
theorem row_list {b oo : Nat} {cs : List V} {g : Nat → Value} (h : Row X b oo cs g) : ∃ vs : List Value, vs.length = cs.length ∧ VRs X cs vs ∧ (∀ v ∈ vs, v.oneCell' = true) ∧ ∀ (j : Nat) v, vs[j]? = some v → cellAt X.H b (oo + j) = some v := by
  refine ⟨(List.range cs.length).map g, by simp, ⟨by simp, fun i c v hc hv => ?_⟩, fun v hv => ?_, fun j v hv => ?_⟩
  · have hlt := lt_of_getElem? hc
    simp only [List.getElem?_map, List.getElem?_range hlt, Option.map_some, Option.some.injEq] at hv
    subst hv; exact h.rel i c hc
  · obtain ⟨i, hi, rfl⟩ := List.mem_map.1 hv
    simp only [List.mem_range] at hi
    exact h.one i _ (List.getElem?_eq_getElem hi)
  · have hlt := lt_of_getElem? hv
    simp only [List.length_map, List.length_range] at hlt
    simp only [List.getElem?_map, List.getElem?_range hlt, Option.map_some, Option.some.injEq] at hv
    subst hv; exact h.cell j _ (List.getElem?_eq_getElem hlt)
theorem elems_run (hw : WR X) (hH : X.H = w.heap) {sz : Nat} {y : V} {c : Value} {es : List (List V)} (hr : VR X y c) (he : elemsOf X.m sz y = some es) (hf : fitSz sz es = true) :
    ∃ vs : List Value, vs.length = es.length * sz ∧ VRs X es.flatten vs ∧ (∀ v ∈ vs, v.oneCell' = true) ∧ (Builtin.lenOf c).run P w = .ok es.length w ∧
      ∀ n, n ≤ es.length → ∀ w', w'.heap = w.heap → (Builtin.firstCells sz n c).run P w' = .ok (vs.take (n * sz)).toArray w' := by
  have hfit := fitSz_spec hf
  have fin : ∀ (b oo len cap : Nat) (cs : List V) (g : Nat → Value), Row X b oo cs g → es.flatten = cs → cs.length = es.length * sz → c = .slice (some ⟨b, oo, none⟩) es.length cap → 
      ∃ vs : List Value, vs.length = es.length * sz ∧ VRs X es.flatten vs ∧ (∀ v ∈ vs, v.oneCell' = true) ∧ (Builtin.lenOf c).run P w = .ok es.length w ∧
      ∀ n, n ≤ es.length → ∀ w', w'.heap = w.heap → (Builtin.firstCells sz n c).run P w' = .ok (vs.take (n * sz)).toArray w' := by
    intro b oo len cap cs g hrow hflat hlen hc
    subst hc
    obtain ⟨vs, k1, k2, k3, k4⟩ := row_list hrow
    refine ⟨vs, by omega, by rw [hflat]; exact k2, k3, by simp [Builtin.lenOf], fun n hn w' hw' => ?_⟩
    have := Nat.mul_le_mul_right sz hn
    exact Go.run_firstCells_some (P := P) w' sz n ⟨b, oo, none⟩ es.length cap (vs.take (n * sz)) (by simp; omega) (fun j v hj => by
      rw [add_none, cell?_eq, hw', ← hH]
      apply k4
      rw [List.getElem?_take] at hj
      split at hj
      · exact hj
      · cases hj)
  unfold elemsOf at he
  split at he
  · rename_i f es'
    cases he
    by_cases hne : es = []
    · subst hne
      obtain ⟨ad, cap, rfl⟩ := sl_value hr
      refine ⟨[], by simp, ⟨rfl, fun i c v h => by simp at h⟩, fun v h => by simp at h, by simp [Builtin.lenOf], fun n hn w' _ => ?_⟩
      have : n = 0 := by simpa using hn
      subst this
      cases ad <;> simp [Builtin.firstCells, loadCells, loadCellsFrom]
    · obtain ⟨ad, cap, rfl⟩ := sl_value hr
      obtain ⟨b, oo, sz', G, rfl, hI, h1, h2, h3, h4, h5, hrow⟩ := sl1_row hne hr
      have hz := fit_eq hne hfit h5
      subst hz
      exact fin b oo es.length cap es.flatten G hrow rfl (flatten_length hfit) rfl
  · rename_i s
    split at he
    case isFalse => cases he
    rename_i hs
    subst hs
    cases he
    cases hr
    refine ⟨s.data.toList.map (fun b => Value.int .u8 b.toNat), by simp [byteCells], ⟨by rw [flatten_length hfit]; simp [byteCells], fun i c v hc hv => ?_⟩, fun v hv => ?_, ?_, fun n hn w' _ => ?_⟩
    · simp only [byteCells] at hc
      have hb : (List.map (fun b : UInt8 => [V.int IntKind.u8 b.toNat]) s.data.toList).flatten = s.data.toList.map (fun b => V.int .u8 b.toNat) := by
        induction s.data.toList with
        | nil => rfl
        | cons b l ih => simp [ih]
      rw [hb] at hc
      simp only [List.getElem?_map] at hc hv
      cases hsi : s.data.toList[i]? with
      | none => simp [hsi] at hc
      | some b =>
        simp only [hsi, Option.map_some, Option.some.injEq] at hc hv
        subst hc; subst hv
        exact .int _ _
    · simp only [List.mem_map] at hv
      obtain ⟨b, _, rfl⟩ := hv
      rfl
    · simp [Builtin.lenOf, byteCells]
    · simp only [byteCells, List.length_map, Array.length_toList] at hn
      simp only [Builtin.firstCells, Sem.run_pure, Nat.mul_one]
      congr 1
      apply Array.ext'
      simp
  · rename_i id st sz' off len ex
    split at he
    · rename_i hz
      subst hz
      cases hcs : X.m.cells id st with
      | none => simp [hcs] at he
      | some cs =>
        simp only [hcs, Option.bind_some] at he
        split at he
        · rename_i hle
          cases he
          obtain ⟨b, cc, e, cap, ad, rfl, h1, h2, h3, h4, hrow, h5, h6, h7, h8, h9, h10⟩ := msl_row hw hr hcs
          have hln : (chunks sz' len (cs.drop off)).length = len := chunks_length _ _
          have hfl := flatten_chunks sz' len (cs.drop off)
          by_cases hl0 : len = 0
          · subst hl0
            refine ⟨[], by simp [chunks], ⟨by simp [chunks], fun i c v h => by simp [chunks] at h⟩, fun v h => by simp at h, by simp [Builtin.lenOf, chunks], fun n hn w' _ => ?_⟩
            have : n = 0 := by simpa [chunks] using hn
            subst this
            simp [Builtin.firstCells, loadCells, loadCellsFrom]
          · have hcap : cap ≠ 0 := by omega
            rcases h10 with h10 | rfl
            · exact absurd h10 hcap
            · have hr2 := (hrow.drop off).take (len * sz')
              rw [Nat.zero_add] at hr2
              exact fin b off len cap _ _ hr2 hfl (by simp [hln]; omega) (by rw [hln])
        · cases he
    · cases he
  · cases he
def OptR (X : Ctx) : Option V → Option Value → Prop
  | none, none => True
  | some x, some c => VR X x c
  | _, _ => False
theorem bound_spec {n : Nat} {hi : Option V} {ci : Option Value} {h : Nat} (hb : bound n hi = some h) (hr : OptR X hi ci) :
    (hi = none ∧ ci = none ∧ h = n) ∨ ∃ k i, ci = some (.int k i) ∧ 0 ≤ i ∧ i.toNat = h := by
  unfold bound at hb
  split at hb
  · cases ci with
    | none => simp only [Option.some.injEq] at hb; exact .inl ⟨rfl, rfl, hb.symm⟩
    | some c => exact hr.elim
  · rename_i k i
    split at hb
    · rename_i h0
      simp only [Option.some.injEq] at hb
      cases ci with
      | none => exact hr.elim
      | some c => cases (show VR X _ c from hr); exact .inr ⟨k, i, rfl, h0, hb⟩
    · cases hb
  · cases hb
theorem low_spec {lo : Option V} {cl : Option Value} {l : Nat} (hb : low lo = some l) (hr : OptR X lo cl) :
    (lo = none ∧ cl = none ∧ l = 0) ∨ ∃ k i, cl = some (.int k i) ∧ 0 ≤ i ∧ i.toNat = l := by
  unfold low at hb
  split at hb
  · cases cl with
    | none => simp only [Option.some.injEq] at hb; exact .inl ⟨rfl, rfl, hb.symm⟩
    | some c => exact hr.elim
  · rename_i k i
    split at hb
    · rename_i h0
      simp only [Option.some.injEq] at hb
      cases cl with
      | none => exact hr.elim
      | some c => cases (show VR X _ c from hr); exact .inr ⟨k, i, rfl, h0, hb⟩
    · cases hb
  · cases hb
theorem opt_VR (ht : TR X T a.tmps) {x : Option Opd} {c : Option Operand} (h : chkOO X.lnk x c = true) : OptR X (x.map (·.get T)) (c.map a.eval) := by
  unfold chkOO at h
  split at h
  · trivial
  · exact get_VR h ht
  · cases h
theorem run_sliceBound' (k : IntKind) (i : Int) (y : Nat) (code : BoundsCode) (h0 : 0 ≤ i) (h1 : i.toNat ≤ y) : (Instr.sliceBound (.int k i) y code).run P w = .ok i.toNat w :=
  run_sliceBound w k i y code h0 (by omega)
theorem run_bounds2 {isS : Bool} {len cap l h : Nat} {lo hi : Option V} {cl ch : Option Value} (hl : low lo = some l) (hh : bound len hi = some h) (rl : OptR X lo cl)
    (rh : OptR X hi ch) (h1 : l ≤ h) (h2 : h ≤ cap) : (Instr.sliceBounds isS len cap cl ch none).run P w = .ok (l, h, cap) w := by
  rcases low_spec hl rl with ⟨_, rfl, rfl⟩ | ⟨k, i, rfl, p0, rfl⟩ <;> rcases bound_spec hh rh with ⟨_, rfl, rfl⟩ | ⟨k', j, rfl, q0, rfl⟩
  · simp [Instr.sliceBounds]
  · simp [Instr.sliceBounds, run_sliceBound' (P := P) (w := w) k' j cap _ q0 h2]
  · simp [Instr.sliceBounds, run_sliceBound' (P := P) (w := w) k i _ _ p0 h1]
  · simp [Instr.sliceBounds, run_sliceBound' (P := P) (w := w) k' j cap _ q0 h2, run_sliceBound' (P := P) (w := w) k i _ _ p0 h1]
theorem run_bounds3 {isS : Bool} {len cap l h m : Nat} {lo hi mx : Option V} {cl ch cm : Option Value} (hl : low lo = some l) (hh : bound len hi = some h) (hm : bound 0 mx = some m) (hmx : mx ≠ none) (hhi : hi ≠ none)
    (rl : OptR X lo cl)
    (rh : OptR X hi ch)
    (rm : OptR X mx cm) (h1 : l ≤ h) (h2 : h ≤ m) (h3 : m ≤ cap) : (Instr.sliceBounds isS len cap cl ch cm).run P w = .ok (l, h, m) w := by
  rcases low_spec hl rl with ⟨_, rfl, rfl⟩ | ⟨k, i, rfl, p0, rfl⟩ <;> rcases bound_spec hh rh with ⟨e, _⟩ | ⟨k', j, rfl, q0, rfl⟩
  · exact absurd e hhi
  · rcases bound_spec hm rm with ⟨e, _⟩ | ⟨k2, j2, rfl, q2, rfl⟩
    · exact absurd e hmx
    · simp [Instr.sliceBounds, run_sliceBound' (P := P) (w := w) k' j _ _ q0 h2, run_sliceBound' (P := P) (w := w) k2 j2 _ _ q2 h3]
  · exact absurd e hhi
  · rcases bound_spec hm rm with ⟨e, _⟩ | ⟨k2, j2, rfl, q2, rfl⟩
    · exact absurd e hmx
    · simp [Instr.sliceBounds, run_sliceBound' (P := P) (w := w) k' j _ _ q0 h2, run_sliceBound' (P := P) (w := w) k2 j2 _ _ q2 h3, run_sliceBound' (P := P) (w := w) k i _ _ p0 h1]
theorem ok_slstr (hw : WR X) (hH : X.H = w.heap) (ht : TR X T a.tmps) {x : Opd} {lo hi : Option Opd} {c : Operand} {cl ch : Option Operand} {t : TypeId} (ho : o.op = .slice t c cl ch none) (hu : P.underlying t = some .string)
    (hc : chkOpd X.lnk x c = true) (hl : chkOO X.lnk lo cl = true) (hh : chkOO X.lnk hi ch = true) (hs : stepOp call T X.m (.slstr x lo hi) = some (v, m')) : OpOK P o a w X v m' := by
  have h1 := get_VR hc ht
  have rl := opt_VR ht hl
  have rh := opt_VR ht hh
  simp only [stepOp, sliceS] at hs
  generalize hce : a.eval c = ce at h1
  split at hs
  · rename_i s hx
    rw [hx] at h1
    cases h1
    cases hlo : low (lo.map (·.get T)) with
    | none => simp [hlo] at hs
    | some l =>
      cases hhi : bound s.size (hi.map (·.get T)) with
      | none => simp [hlo, hhi] at hs
      | some h =>
        simp only [hlo, hhi, Option.bind_some] at hs
        split at hs
        · rename_i hle
          simp only [Option.bind_some, Option.some.injEq, Prod.mk.injEq] at hs
          obtain ⟨rfl, rfl⟩ := hs
          have hb := run_bounds2 (P := P) (w := w) (isS := false) hlo hhi rl rh hle.1 hle.2
          refine OpOK.same (w' := w) hw hH (.refl w) ?_ (.str _)
          simp [execOp, ho, hce, Instr.sliceAt, run_underlying hu, Instr.slice, hb]
        · cases hs
  · simp at hs
theorem cut_exact {f : SF} {b : Bool} (h : (f.cut b).exact = true) : b = true ∨ f = .nil := by cases f <;> cases b <;> simp_all [SF.cut, SF.exact]
theorem ok_slice (hw : WR X) (hH : X.H = w.heap) (ht : TR X T a.tmps) {sz : Nat} {x : Opd} {lo hi mx : Option Opd} {c : Operand} {cl ch cm : Option Operand} {t e : TypeId} (ho : o.op = .slice t c cl ch cm) (hu : P.underlying t = some (.slice e)) (hsz : sizeIs P e sz = true)
    (hc : chkOpd X.lnk x c = true) (hl : chkOO X.lnk lo cl = true) (hh : chkOO X.lnk hi ch = true) (hm : chkOO X.lnk mx cm = true) (h3 : mx ≠ none → hi ≠ none)
    (hs : stepOp call T X.m (.slice sz x lo hi mx) = some (v, m')) : OpOK P o a w X v m' := by
  have h1 := get_VR hc ht
  have rl := opt_VR ht hl
  have rh := opt_VR ht hh
  have rm := opt_VR ht hm
  simp only [stepOp, sliceV] at hs
  generalize hce : a.eval c = ce at h1
  have hrun : ∀ (ad : Option Addr) (n cap l h m : Nat), ce = .slice ad n cap → (Instr.sliceBounds true n cap (cl.map a.eval) (ch.map a.eval) (cm.map a.eval)).run P w = .ok (l, h, m) w →
      (execOp a.eval o).run P w = .ok (.value (.slice (if m = l then ad else ad.map (·.add (l * sz))) (h - l) (m - l))) w := by
    intro ad n cap l h m hcev hb
    subst hcev
    simp [execOp, ho, hce, Instr.sliceAt, run_underlying hu, Instr.slice, hb, run_sizeOf' hsz]
  split at hs
  · rename_i f es hx
    rw [hx] at h1
    cases hlo : low (lo.map (·.get T)) with
    | none => simp [hlo] at hs
    | some l =>
      cases hhi : bound es.length (hi.map (·.get T)) with
      | none => simp [hlo, hhi] at hs
      | some h =>
        simp only [hlo, hhi, Option.bind_some] at hs
        split at hs
        · rename_i hle
          obtain ⟨hle1, hle2, hfit⟩ := hle
          have hfit := fitSz_spec hfit
          obtain ⟨ad, cap, hcev⟩ := sl_value h1
          have piece : ∀ (m : Nat) (fl : SF), h ≤ m → m ≤ cap → (fl.exact = true → m = h) → (fl.isNil = f.isNil ∨ fl.isNil = none) →
              VR X (.sl fl ((es.drop l).take (h - l))) (.slice (if m = l then ad else ad.map (·.add (l * sz))) (h - l) (m - l)) := by
            intro m fl hm1 hm2 hex hnl
            subst hcev
            by_cases hlh : (es.drop l).take (h - l) = []
            · rw [hlh]
              have hz : h - l = 0 := by
                have := congrArg List.length hlh
                simp only [List.length_take, List.length_drop, List.length_nil] at this
                omega
              rw [hz]
              refine .sl0 fl _ _ (fun he => by have := hex he; omega) (fun hn => ?_) (fun hn => ?_) (fun hn => ?_)
              · rcases hnl with e | e
                · have hn' : f.isNil = some true := by rw [← e]; exact hn
                  have : ad = none := by
                    cases h1 with
                    | sl0 _ _ _ _ g2 _ _ => exact g2 hn'
                    | sl1 _ _ _ _ _ _ _ _ _ _ _ _ _ hnil => exact absurd hn' hnil
                  subst this; split <;> rfl
                · rw [e] at hn; cases hn
              · rcases hnl with e | e
                · have hn' : f.isNil = some false := by rw [← e]; exact hn
                  have : ad ≠ none := by
                    cases h1 with
                    | sl0 _ _ _ _ _ g3 _ => exact g3 hn'
                    | sl1 => simp
                  cases ad with
                  | none => exact absurd rfl this
                  | some ad => split <;> simp
                · rw [e] at hn; cases hn
              · have had : ad = none := by
                  cases ad with
                  | none => rfl
                  | some ad => split at hn <;> cases hn
                subst had
                have hc0 : cap = 0 := by
                  cases h1 with
                  | sl0 _ _ _ _ _ _ g4 => exact g4 rfl
                omega
            · have hne : es ≠ [] := by rintro rfl; simp at hlh
              cases h1 with
              | sl0 => exact absurd rfl hne
              | sl1 _ _ _ ad _ sz' g hn _ hI hsp hcap hexx hnil hszz hcc h1c hrr =>
                have hz := fit_eq hne hfit hszz
                subst hz
                obtain ⟨ab, ao, asp⟩ := ad
                simp only at hsp hI hcc
                subst hsp
                have hlt : l < h := by
                  rcases Nat.lt_or_ge l h with q | q
                  · exact q
                  · have : h - l = 0 := by omega
                    rw [this] at hlh; simp at hlh
                have hml : m ≠ l := by omega
                rw [if_neg hml]
                simp only [Option.map_some, add_none]
                have key : ∀ (i : Nat) e, ((es.drop l).take (h - l))[i]? = some e → es[l + i]? = some e := fun i e hi => by
                  rw [List.getElem?_take] at hi
                  split at hi
                  · rwa [List.getElem?_drop] at hi
                  · cases hi
                refine .sl1 fl _ _ ⟨ab, ao + l * sz, none⟩ _ sz (fun i j => g (l + i) j) (by simp; omega) hlh hI rfl (by omega) (fun he => by have := hex he; omega) (fun hn => ?_) ?_ ?_ ?_ ?_
                · rcases hnl with e | e
                  · exact hnil (by rw [← e]; exact hn)
                  · rw [e] at hn; cases hn
                · intro e he
                  exact hfit e (List.mem_of_mem_drop (List.mem_of_mem_take he))
                · intro i j e c hi hj
                  have := hcc (l + i) j e c (key i e hi) hj
                  simp only
                  rw [show ao + l * sz + i * sz + j = ao + (l + i) * sz + j by rw [Nat.add_mul]; omega]
                  exact this
                · intro i j e c hi hj; exact h1c _ _ e c (key i e hi) hj
                · intro i j e c hi hj; exact hrr _ _ e c (key i e hi) hj
          have hcapn : es.length ≤ cap ∧ (f.exact = true → cap = es.length) := by
            subst hcev
            generalize hn : es.length = n at h1
            cases h1 with
            | sl0 _ _ _ g1 => exact ⟨by simp at hn; omega, fun he => by have := g1 he; simp at hn; omega⟩
            | sl1 _ _ _ _ _ _ _ _ _ _ _ hcap hexx => exact ⟨hcap, hexx⟩
          have hnil0 : f = .nil → es.length = 0 := by
            rintro rfl
            subst hcev
            generalize hn : es.length = n at h1
            cases h1 with
            | sl0 => simp
            | sl1 _ _ _ _ _ _ _ _ _ _ _ _ _ hnil => exact absurd rfl hnil
          have cutNil : ∀ b, (f.cut b).isNil = f.isNil ∨ (f.cut b).isNil = none := by intro b; cases f <;> cases b <;> simp [SF.cut, SF.isNil]
          cases mx with
          | none =>
            simp only [Option.map_none, Option.bind_some, Option.some.injEq, Prod.mk.injEq] at hs
            obtain ⟨rfl, rfl⟩ := hs
            cases cm with
            | some _ => simp [chkOO] at hm
            | none =>
              have hb := run_bounds2 (P := P) (w := w) (isS := true) (cap := cap) hlo hhi rl rh hle1 (by omega)
              refine OpOK.same (w' := w) hw hH (.refl w) (hrun ad es.length cap l h cap hcev hb) (piece cap _ (by omega) (Nat.le_refl _) (fun he => ?_) (cutNil _))
              rcases cut_exact he with hb | hb
              · simp only [Bool.and_eq_true, beq_iff_eq] at hb
                have := hcapn.2 hb.1; omega
              · have := hnil0 hb
                have := hcapn.2 (by rw [hb]; rfl)
                omega
          | some mxo =>
            cases cm with
            | none => simp [chkOO] at hm
            | some cmo =>
              simp only [Option.map_some] at hs
              cases hbm : bound 0 (some (mxo.get T)) with
              | none => simp [hbm] at hs
              | some mm =>
                simp only [hbm, Option.bind_some] at hs
                split at hs
                · rename_i hmm
                  simp only [Option.bind_some, Option.some.injEq, Prod.mk.injEq] at hs
                  obtain ⟨rfl, rfl⟩ := hs
                  have hin : hi.map (·.get T) ≠ none := by
                    have := h3 (by simp)
                    cases hi with
                    | none => exact absurd rfl this
                    | some _ => simp
                  have hb := run_bounds3 (P := P) (w := w) (isS := true) (cap := cap) hlo hhi hbm (by simp) hin rl rh rm hle1 hmm.1 (by omega)
                  refine OpOK.same (w' := w) hw hH (.refl w) (hrun ad es.length cap l h mm hcev hb) (piece mm _ hmm.1 (by omega) (fun he => ?_) (cutNil _))
                  rcases cut_exact he with hb | hb
                  · simp only [beq_iff_eq] at hb; omega
                  · have := hnil0 hb
                    omega
                · cases hs
        · cases hs
  · rename_i id st sz' off len ex hx
    rw [hx] at h1
    cases hlo : low (lo.map (·.get T)) with
    | none => simp [hlo] at hs
    | some l =>
      cases hhi : bound len (hi.map (·.get T)) with
      | none => simp [hlo, hhi] at hs
      | some h =>
        simp only [hlo, hhi, Option.bind_some] at hs
        cases hcs : X.m.cells id st with
        | none => simp [hcs] at hs
        | some cs =>
          simp only [hcs, Option.bind_some] at hs
          split at hs
          · rename_i hle
            obtain ⟨hle1, hle2, rfl⟩ := hle
            have hst : st < X.m.gen := by cases h1; assumption
            obtain ⟨b, cc, e', cap, ad, hcev, g1, g2, g3, g4, hrow, g5, g6, g7, g8, g9, g10⟩ := msl_row hw h1 hcs
            have piece : ∀ (m : Nat) (ex' : Bool), h ≤ m → m ≤ cap → (ex' = true → m = h) → (ex' = false → m = cap ∧ (ex = false ∨ off + len * sz' = cs.length)) →
                VR X (.msl id st sz' (off + l * sz') (h - l) ex') (.slice (if m = l then some ad else (some ad).map (·.add (l * sz'))) (h - l) (m - l)) := by
              intro m ex' hm1 hm2 hex hex2
              have hsome2 : (if m = l then some ad else (some ad).map (·.add (l * sz'))) = some (if m = l then ad else ad.add (l * sz')) := by split <;> rfl
              rw [hsome2]
              refine .msl _ _ _ _ _ _ _ _ hst (by omega) (fun he => by have := hex he; omega) fun cs' hcs' => ?_
              rw [hcs] at hcs'; cases hcs'
              have e1 : (off + l * sz') + (h - l) * sz' = off + h * sz' := by rw [Nat.add_assoc, ← Nat.add_mul]; congr 2; omega
              have e2 : (off + l * sz') + (m - l) * sz' = off + m * sz' := by rw [Nat.add_assoc, ← Nat.add_mul]; congr 2; omega
              have l1 : h * sz' ≤ len * sz' := Nat.mul_le_mul_right _ hle2
              have l2 : m * sz' ≤ cap * sz' := Nat.mul_le_mul_right _ hm2
              refine ⟨by omega, fun he => ?_, b, cc, e', g1, g2, by omega, ?_⟩
              · obtain ⟨q1, q2⟩ := hex2 he
                subst q1
                rcases q2 with q2 | q2
                · have := g8 q2; omega
                · have : len * sz' ≤ m * sz' := Nat.mul_le_mul_right _ g5
                  omega
              · by_cases hml : m = l
                · left; omega
                · right
                  rw [if_neg hml]
                  rcases g10 with g10 | rfl
                  · omega
                  · rw [add_none]; exact ⟨rfl, rfl, rfl⟩
            cases mx with
            | none =>
              simp only [Option.map_none] at hs
              split at hs
              case isFalse => cases hs
              rename_i hends
              simp only [Option.bind_some, Option.some.injEq, Prod.mk.injEq] at hs
              obtain ⟨rfl, rfl⟩ := hs
              cases cm with
              | some _ => simp [chkOO] at hm
              | none =>
                have hb := run_bounds2 (P := P) (w := w) (isS := true) (cap := cap) hlo hhi rl rh hle1 (by omega)
                refine OpOK.same (w' := w) hw hH (.refl w) (hrun (some ad) len cap l h cap hcev hb) (piece cap _ (by omega) (Nat.le_refl _) (fun he => ?_) (fun he => ⟨rfl, ?_⟩))
                · simp only [Bool.and_eq_true, beq_iff_eq] at he
                  have := g6 he.1; omega
                · rcases hends with q | q | q
                  · exact .inl q
                  · subst q
                    simp only [beq_self_eq_true, Bool.and_true] at he
                    exact .inl he
                  · exact .inr q
            | some mxo =>
              cases cm with
              | none => simp [chkOO] at hm
              | some cmo =>
                simp only [Option.map_some] at hs
                cases hbm : bound 0 (some (mxo.get T)) with
                | none => simp [hbm] at hs
                | some mm =>
                  simp only [hbm, Option.bind_some] at hs
                  split at hs
                  · rename_i hmm
                    simp only [Option.bind_some, Option.some.injEq, Prod.mk.injEq] at hs
                    obtain ⟨rfl, rfl⟩ := hs
                    subst hmm
                    have hin : hi.map (·.get T) ≠ none := by
                      have := h3 (by simp)
                      cases hi with
                      | none => exact absurd rfl this
                      | some _ => simp
                    have hb := run_bounds3 (P := P) (w := w) (isS := true) (cap := cap) hlo hhi hbm (by simp) hin rl rh rm hle1 (Nat.le_refl _) (by omega)
                    exact OpOK.same (w' := w) hw hH (.refl w) (hrun (some ad) len cap l h h hcev hb) (piece h _ (Nat.le_refl _) (by omega) (fun _ => rfl) (fun he => by cases he))
                  · cases hs
          · cases hs
  · simp at hs
end Go.Rx
