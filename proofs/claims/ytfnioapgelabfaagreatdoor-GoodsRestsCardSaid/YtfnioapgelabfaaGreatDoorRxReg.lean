/-
A part of the proof: lemmas on the machine that the printed functions run on, or contracts of functions.
-/
import Derived.Test.YtfnioapgelabfaaGreatDoorRxCall
import Derived.Test.YtfnioapgelabfaaGreatDoorRxMaps
set_option linter.unusedVariables false
set_option linter.unusedSimpArgs false
namespace Go.Rx
variable {P : Program} {X : Ctx} {T : Tm} {a : Act} {w : World} {o : Oper} {call : CallF} {v : V} {m' : Mem}
def intIs (P : Program) (t : TypeId) (k : IntKind) : Bool := match P.underlying t with | some (.int j) => j == k | _ => false
def strIs (P : Program) (t : TypeId) : Bool := match P.underlying t with | some .string => true | _ => false
def elemIs (P : Program) (t : TypeId) (p : TypeId → Bool) : Bool := match P.underlying t with | some (.slice e) => p e | _ => false
def arrIs (P : Program) (t : TypeId) (n : Nat) (p : TypeId → Bool) : Bool := match P.underlying t with | some (.array k e) => k == n && p e | _ => false
def fldIs (P : Program) (t : TypeId) (i : Nat) (p : Field → Bool) : Bool := match P.underlying t with | some (.struct fs) => (match fs[i]? with | some f => p f | none => false) | _ => false
def bytesIs (P : Program) (e : TypeId) (sz bytes : Nat) : Bool := match P.info? e with | some i => i.bytes == bytes && i.size == sz | none => false
theorem intIs_spec {t : TypeId} {k : IntKind} (h : intIs P t k = true) : P.underlying t = some (.int k) := by
  unfold intIs at h; split at h
  · rename_i j hu; simp only [beq_iff_eq] at h; subst h; exact hu
  · cases h
theorem strIs_spec {t : TypeId} (h : strIs P t = true) : P.underlying t = some .string := by
  unfold strIs at h; split at h
  · assumption
  · cases h
theorem elemIs_spec {t : TypeId} {p : TypeId → Bool} (h : elemIs P t p = true) : ∃ e, P.underlying t = some (.slice e) ∧ p e = true := by
  unfold elemIs at h; split at h
  · exact ⟨_, by assumption, h⟩
  · cases h
theorem arrIs_spec {t : TypeId} {n : Nat} {p : TypeId → Bool} (h : arrIs P t n p = true) : ∃ e, P.underlying t = some (.array n e) ∧ p e = true := by
  unfold arrIs at h; split at h
  · simp only [Bool.and_eq_true, beq_iff_eq] at h; obtain ⟨rfl, h⟩ := h; exact ⟨_, by assumption, h⟩
  · cases h
theorem fldIs_spec {t : TypeId} {i : Nat} {p : Field → Bool} (h : fldIs P t i p = true) : ∃ fs f, P.underlying t = some (.struct fs) ∧ fs[i]? = some f ∧ p f = true := by
  unfold fldIs at h; split at h
  · split at h
    · exact ⟨_, _, by assumption, by assumption, h⟩
    · cases h
  · cases h
theorem bytesIs_spec {e : TypeId} {sz bytes : Nat} (h : bytesIs P e sz bytes = true) : ∃ i, P.info? e = some i ∧ i.bytes = bytes ∧ i.size = sz := by
  unfold bytesIs at h; split at h
  · simp only [Bool.and_eq_true, beq_iff_eq] at h; exact ⟨_, by assumption, h.1, h.2⟩
  · cases h
def mapOf (P : Program) (t : TypeId) : Option (TypeId × TypeId) := match P.underlying t with | some (.map k e) => some (k, e) | _ => none
theorem mapOf_spec {t k e : TypeId} (h : mapOf P t = some (k, e)) : P.underlying t = some (.map k e) := by
  unfold mapOf at h
  split at h
  · rename_i hu; cases h; exact hu
  · cases h
def zeroIs (P : Program) (t : TypeId) (ag : Bool) : Bool :=
  match P.info? t with
  | some i => (match i.zero with | some (.agg _) => ag | some z => !ag && z.cells.size == 1 && (match z with | .agg _ => false | _ => true) | none => false)
  | none => false
theorem zeroIs_spec {t : TypeId} {ag : Bool} (h : zeroIs P t ag = true) : (ag = false → ∃ i z, P.info? t = some i ∧ i.zero = some z ∧ z.cells = #[z]) ∧ (ag = true → ∃ i zs, P.info? t = some i ∧ i.zero = some (.agg zs)) := by
  unfold zeroIs at h
  split at h
  case h_2 => cases h
  rename_i i hi
  split at h
  · rename_i zs hz
    subst h
    exact ⟨fun h => (by cases h), fun _ => ⟨i, zs, hi, hz⟩⟩
  · rename_i z hne hz
    simp only [Bool.and_eq_true, Bool.not_eq_true', beq_iff_eq] at h
    obtain ⟨⟨rfl, hsz⟩, hna⟩ := h
    refine ⟨fun _ => ⟨i, z, hi, hz, ?_⟩, fun h => (by cases h)⟩
    cases z <;> first | rfl | exact absurd rfl (hne _)
  · cases h
def chkOp (P : Program) (lnk : Nat → FuncId) (cf : FuncId → Bool → Bool) (r : ROp) (p : Op) : Bool :=
  match r with
  | .mv x => (match p with | .move c | .assign c => chkOpd lnk x c | _ => false)
  | .pick x y z => (match p with | .pick c d e => chkOpd lnk x c && chkOpd lnk y d && chkOpd lnk z e | _ => false)
  | .box _ x => (match p with | .box _ c => chkOpd lnk x c | _ => false)
  | .alloc _ z => (match p with | .alloc t => chkZero P t z | _ => false)
  | .build z ps => (match p with | .build t parts => chkZero P t z && (match placesOf P t with | some pl => chkParts P lnk pl ps parts.toList | none => false) | _ => false)
  | .bslice _ sz n z ps => (match p with | .buildSlice t k parts => k == n && decide (n * sz ≤ 2 ^ 24) && elemIs P t (fun e => chkZero P e z) && chkParts P lnk (fun i => some (i * sz, sz)) (ps.map fun (i, x) => (i * sz, sz, x)) parts.toList | _ => false)
  | .load ag sz x => (match p with | .load t c => aggIs P t ag && sizeIs P t sz && chkOpd lnk x c | _ => false)
  | .store sz x y => (match p with | .store t c d => sizeIs P t sz && chkOpd lnk x c && chkOpd lnk y d | _ => false)
  | .nilc x => (match p with | .nilCheck c => chkOpd lnk x c | _ => false)
  | .bin b x y => (match p with | .binOp b' _ c d _ => b' == b && chkOpd lnk x c && chkOpd lnk y d | _ => false)
  | .eqk k neg x y => (match p with | .binOp b t c d _ => b == (if neg then .neq else .eql) && kindIs P t k && chkOpd lnk x c && chkOpd lnk y d | _ => false)
  | .eqs ks neg x y => (match p with | .binOp b t c d _ => b == (if neg then .neq else .eql) && plainIs P t ks && chkOpd lnk x c && chkOpd lnk y d | _ => false)
  | .un u x => (match p with | .unOp u' _ c => u' == u && chkOpd lnk x c | _ => false)
  | .cvi k x => (match p with | .convert t u c => (P.underlying t).isSome && intIs P u k && chkOpd lnk x c | _ => false)
  | .cvs x => (match p with | .convert t u c => strIs P t && strIs P u && chkOpd lnk x c | _ => false)
  | .s2b x => (match p with | .convert t u c => strIs P t && elemIs P u (fun e => intIs P e .u8) && chkOpd lnk x c | _ => false)
  | .b2s x => (match p with | .convert t u c => strIs P u && elemIs P t (fun e => intIs P e .u8) && chkOpd lnk x c | _ => false)
  | .mkfn pid xs ys => (match p with | .makeFunc (.func f) cs ds => lnk pid == f && chkOpds lnk xs cs.toList && chkOpds lnk ys ds.toList | _ => false)
  | .mksl _ sz bytes z x y => (match p with | .makeSlice t c d => elemIs P t (fun e => chkZero P e z && bytesIs P e sz bytes) && chkOpd lnk x c && chkOpd lnk y d | _ => false)
  | .slstr x lo hi => (match p with | .slice t c cl ch none => strIs P t && chkOpd lnk x c && chkOO lnk lo cl && chkOO lnk hi ch | _ => false)
  | .slice sz x lo hi mx => (match p with | .slice t c cl ch cm => elemIs P t (fun e => sizeIs P e sz) && chkOpd lnk x c && chkOO lnk lo cl && chkOO lnk hi ch && chkOO lnk mx cm && (mx.isNone || hi.isSome) | _ => false)
  | .slarr n sz x lo hi mx => (match p with | .slice t c cl ch none => mx.isNone && arrIs P t n (fun e => sizeIs P e sz) && chkOpd lnk x c && chkOO lnk lo cl && chkOO lnk hi ch | _ => false)
  | .faddr off x => (match p with | .fieldAddr t c i => fldIs P t i (fun f => f.offset == off && (match P.info? f.type with | some j => j.size != 0 | none => false)) && chkOpd lnk x c | _ => false)
  | .field ag off sz x => (match p with | .field t c i => fldIs P t i (fun f => f.offset == off && aggIs P f.type ag && sizeIs P f.type sz) && chkOpd lnk x c | _ => false)
  | .ixsl sz x i => (match p with | .indexAddr t c d => elemIs P t (fun e => sizeIs P e sz) && chkOpd lnk x c && chkOpd lnk i d | _ => false)
  | .ixarr n sz x i => (match p with | .indexAddr t c d => arrIs P t n (fun e => sizeIs P e sz) && chkOpd lnk x c && chkOpd lnk i d | _ => false)
  | .ixstr x i => (match p with | .index t c d => strIs P t && chkOpd lnk x c && chkOpd lnk i d | _ => false)
  | .ixagg ag n sz x i => (match p with | .index t c d => arrIs P t n (fun e => aggIs P e ag && sizeIs P e sz) && chkOpd lnk x c && chkOpd lnk i d | _ => false)
  | .ext x i => (match p with | .extract c j => j == i && chkOpd lnk x c | _ => false)
  | .len x => (match p with | .call ⟨.builtin .len, ⟨[c]⟩, ⟨[t]⟩⟩ => elemIs P t (fun _ => true) && chkOpd lnk x c | _ => false)
  | .lens x => (match p with | .call ⟨.builtin .len, ⟨[c]⟩, ⟨[t]⟩⟩ => strIs P t && chkOpd lnk x c | _ => false)
  | .lenc n => (match p with | .call ⟨.builtin .len, ⟨[_]⟩, ⟨[t]⟩⟩ => lenIs P t n | _ => false)
  | .append _ sz bytes x y => (match p with | .call ⟨.builtin .append, ⟨[c, d]⟩, ⟨[t, u]⟩⟩ => elemIs P t (fun e => bytesIs P e sz bytes && (match P.info? e with | some i => (match i.zero with | some z => z.cells.toList.all (fun c => c.oneCell') && i.size == z.cells.size | none => false) | none => false)) && srcIs P u sz && chkOpd lnk x c && chkOpd lnk y d | _ => false)
  | .minmax mx xs => (match p with | .call ⟨.builtin b, cs, _⟩ => b == (if mx then .max else .min) && chkOpds lnk xs cs.toList | _ => false)
  | .carry sub x y z => (match p with | .call ⟨.value (.func f), ⟨[c, d, e]⟩, _⟩ => cf f sub && chkOpd lnk x c && chkOpd lnk y d && chkOpd lnk z e | _ => false)
  | .mkmap => (match p with | .makeMap _ none => true | _ => false)
  | .maplen x => (match p with | .call ⟨.builtin .len, ⟨[c]⟩, ⟨[t]⟩⟩ => (mapOf P t).isSome && chkOpd lnk x c | _ => false)
  | .lookup z ag ok ks x y => (match p with | .lookup t c d ok' => ok == ok' && (match mapOf P t with | some (kt, et) => keyIs P kt ks && chkZero P et z && aggIs P et ag && zeroIs P et ag | none => false) && chkOpd lnk x c && chkOpd lnk y d | _ => false)
  | .mapupd ks x y z => (match p with | .mapUpdate t c d e => (match mapOf P t with | some (kt, _) => keyIs P kt ks | none => false) && chkOpd lnk x c && chkOpd lnk y d && chkOpd lnk z e | _ => false)
  | .pend _ | .init .. | .call .. | .callp .. | .callv .. | .copy .. | .clear .. => false
theorem ok_op {lnk : Nat → FuncId} {cf : FuncId → Bool → Bool} (hcf : ∀ f sub, cf f sub = true → Carry P f sub) (hw : WR X) (hH : X.H = w.heap) (ht : TR X T a.tmps) (hl : X.lnk = lnk) {r : ROp} (h : chkOp P lnk cf r o.op = true)
    (hs : stepOp call T X.m r = some (v, m')) : OpOK P o a w X v m' := by
  subst hl
  cases r with
  | mv x =>
    simp only [chkOp] at h
    split at h
    · exact ok_mv hw hH ht (.inl (by assumption)) h hs
    · exact ok_mv hw hH ht (.inr (by assumption)) h hs
    · cases h
  | pick x y z =>
    simp only [chkOp] at h
    split at h
    · simp only [Bool.and_eq_true] at h; exact ok_pick hw hH ht (by assumption) h.1.1 h.1.2 h.2 hs
    · cases h
  | box imm x =>
    simp only [chkOp] at h
    split at h
    · exact ok_box hw hH ht (by assumption) h hs
    · cases h
  | alloc imm z =>
    simp only [chkOp] at h
    split at h
    · exact ok_alloc hw hH (by assumption) h hs
    · cases h
  | build z ps =>
    simp only [chkOp] at h
    split at h
    · simp only [Bool.and_eq_true] at h
      obtain ⟨h1, h2⟩ := h
      split at h2
      · exact ok_build hw hH ht (by assumption) h1 (by assumption) h2 hs
      · cases h2
    · cases h
  | bslice imm sz n z ps =>
    simp only [chkOp] at h
    split at h
    · rename_i t k parts ho
      simp only [Bool.and_eq_true, beq_iff_eq, decide_eq_true_eq] at h
      obtain ⟨⟨⟨rfl, h2⟩, h3⟩, h4⟩ := h
      obtain ⟨e, h5, h6⟩ := elemIs_spec h3
      exact ok_bslice hw hH ht ho h5 h6 h4 h2 hs
    · cases h
  | load ag sz x =>
    simp only [chkOp] at h
    split at h
    · simp only [Bool.and_eq_true] at h; exact ok_load hw hH ht (by assumption) h.1.1 h.1.2 h.2 hs
    · cases h
  | store sz x y =>
    simp only [chkOp] at h
    split at h
    · simp only [Bool.and_eq_true] at h; exact ok_store hw hH ht (by assumption) h.1.1 h.1.2 h.2 hs
    · cases h
  | nilc x =>
    simp only [chkOp] at h
    split at h
    · exact ok_nilc hw hH ht (by assumption) h hs
    · cases h
  | bin b x y =>
    simp only [chkOp] at h
    split at h
    · rename_i b' t c d ty ho
      simp only [Bool.and_eq_true, beq_iff_eq] at h
      obtain ⟨⟨rfl, h2⟩, h3⟩ := h
      exact ok_bin hw hH ht ho h2 h3 hs
    · cases h
  | eqk k neg x y =>
    simp only [chkOp] at h
    split at h
    · rename_i b' t c d ty ho
      simp only [Bool.and_eq_true, beq_iff_eq] at h
      obtain ⟨⟨⟨rfl, h2⟩, h3⟩, h4⟩ := h
      exact ok_eqk hw hH ht ho h2 h3 h4 hs
    · cases h
  | eqs ks neg x y =>
    simp only [chkOp] at h
    split at h
    · rename_i b' t c d ty ho
      simp only [Bool.and_eq_true, beq_iff_eq] at h
      obtain ⟨⟨⟨rfl, h2⟩, h3⟩, h4⟩ := h
      exact ok_eqs hw hH ht ho h2 h3 h4 hs
    · cases h
  | un u x =>
    simp only [chkOp] at h
    split at h
    · rename_i b' t c ho
      simp only [Bool.and_eq_true, beq_iff_eq] at h
      obtain ⟨rfl, h2⟩ := h
      exact ok_un hw hH ht ho h2 hs
    · cases h
  | cvi k x =>
    simp only [chkOp] at h
    split at h
    · rename_i t u c ho
      simp only [Bool.and_eq_true] at h
      obtain ⟨d, hd⟩ := Option.isSome_iff_exists.1 h.1.1
      exact ok_cvi hw hH ht ho h.2 (intIs_spec h.1.2) hd hs
    · cases h
  | cvs x =>
    simp only [chkOp] at h
    split at h
    · simp only [Bool.and_eq_true] at h
      exact ok_cvs hw hH ht (by assumption) h.2 (strIs_spec h.1.2) (strIs_spec h.1.1) hs
    · cases h
  | s2b x =>
    simp only [chkOp] at h
    split at h
    · simp only [Bool.and_eq_true] at h
      obtain ⟨e, h1, h2⟩ := elemIs_spec h.1.2
      exact ok_s2b hw hH ht (by assumption) h1 (intIs_spec h2) (strIs_spec h.1.1) h.2 hs
    · cases h
  | b2s x =>
    simp only [chkOp] at h
    split at h
    · simp only [Bool.and_eq_true] at h
      obtain ⟨e, h1, h2⟩ := elemIs_spec h.1.2
      exact ok_b2s hw hH ht (by assumption) h1 (intIs_spec h2) (strIs_spec h.1.1) h.2 hs
    · cases h
  | mkfn pid xs ys =>
    simp only [chkOp] at h
    split at h
    · simp only [Bool.and_eq_true, beq_iff_eq] at h
      exact ok_mkfn hw hH ht (by assumption) h.1.1 h.1.2 h.2 hs
    · cases h
  | mksl imm sz bytes z x y =>
    simp only [chkOp] at h
    split at h
    · simp only [Bool.and_eq_true] at h
      obtain ⟨e, h1, h2⟩ := elemIs_spec h.1.1
      simp only [Bool.and_eq_true] at h2
      obtain ⟨i, h3, h4, _⟩ := bytesIs_spec h2.2
      exact ok_mksl hw hH ht (by assumption) h1 h2.1 h3 h4 h.1.2 h.2 hs
    · cases h
  | slstr x lo hi =>
    simp only [chkOp] at h
    split at h
    · simp only [Bool.and_eq_true] at h
      exact ok_slstr hw hH ht (by assumption) (strIs_spec h.1.1.1) h.1.1.2 h.1.2 h.2 hs
    · cases h
  | slice sz x lo hi mx =>
    simp only [chkOp] at h
    split at h
    · simp only [Bool.and_eq_true, Bool.or_eq_true] at h
      obtain ⟨e, h1, h2⟩ := elemIs_spec h.1.1.1.1.1
      refine ok_slice hw hH ht (by assumption) h1 h2 h.1.1.1.1.2 h.1.1.1.2 h.1.1.2 h.1.2 (fun hm => ?_) hs
      rcases h.2 with hn | hn
      · cases mx with
        | none => exact absurd rfl hm
        | some _ => cases hn
      · cases hi with
        | none => cases hn
        | some _ => simp
    · cases h
  | slarr n sz x lo hi mx =>
    simp only [chkOp] at h
    split at h
    · simp only [Bool.and_eq_true] at h
      have hm : mx = none := by cases mx with | none => rfl | some _ => exact absurd h.1.1.1.1 (by simp)
      subst hm
      obtain ⟨e, h1, h2⟩ := arrIs_spec h.1.1.1.2
      exact ok_slarr hw hH ht (by assumption) h1 h2 h.1.1.2 h.1.2 h.2 hs
    · cases h
  | faddr off x =>
    simp only [chkOp] at h
    split at h
    · simp only [Bool.and_eq_true] at h
      obtain ⟨fs, f, h1, h2, h3⟩ := fldIs_spec h.1
      simp only [Bool.and_eq_true, beq_iff_eq] at h3
      obtain ⟨h4, h5⟩ := h3
      split at h5
      · rename_i j hj
        exact ok_faddr hw hH ht (by assumption) h1 h2 h4 (sz := j.size) (by simp [sizeIs, hj]) (by simpa using h5) h.2 hs
      · cases h5
    · cases h
  | field ag off sz x =>
    simp only [chkOp] at h
    split at h
    · simp only [Bool.and_eq_true] at h
      obtain ⟨fs, f, h1, h2, h3⟩ := fldIs_spec h.1
      simp only [Bool.and_eq_true, beq_iff_eq] at h3
      exact ok_field hw hH ht (by assumption) h1 h2 h3.1.1 h3.1.2 h3.2 h.2 hs
    · cases h
  | ixsl sz x i =>
    simp only [chkOp] at h
    split at h
    · simp only [Bool.and_eq_true] at h
      obtain ⟨e, h1, h2⟩ := elemIs_spec h.1.1
      exact ok_ixsl hw hH ht (by assumption) h1 h2 h.1.2 h.2 hs
    · cases h
  | ixarr n sz x i =>
    simp only [chkOp] at h
    split at h
    · simp only [Bool.and_eq_true] at h
      obtain ⟨e, h1, h2⟩ := arrIs_spec h.1.1
      exact ok_ixarr hw hH ht (by assumption) h1 h2 h.1.2 h.2 hs
    · cases h
  | ixstr x i =>
    simp only [chkOp] at h
    split at h
    · simp only [Bool.and_eq_true] at h
      exact ok_ixstr hw hH ht (by assumption) (strIs_spec h.1.1) h.1.2 h.2 hs
    · cases h
  | ixagg ag n sz x i =>
    simp only [chkOp] at h
    split at h
    · simp only [Bool.and_eq_true] at h
      obtain ⟨e, h1, h2⟩ := arrIs_spec h.1.1
      simp only [Bool.and_eq_true] at h2
      exact ok_ixagg hw hH ht (by assumption) h1 h2.1 h2.2 h.1.2 h.2 hs
    · cases h
  | ext x i =>
    simp only [chkOp] at h
    split at h
    · simp only [Bool.and_eq_true, beq_iff_eq] at h
      obtain ⟨rfl, h2⟩ := h
      exact ok_ext hw hH ht (by assumption) h2 hs
    · cases h
  | len x =>
    simp only [chkOp] at h
    split at h
    · simp only [Bool.and_eq_true] at h
      obtain ⟨e, h1, _⟩ := elemIs_spec h.1
      exact ok_len hw hH ht (by assumption) h1 h.2 hs
    · cases h
  | lens x =>
    simp only [chkOp] at h
    split at h
    · simp only [Bool.and_eq_true] at h
      exact ok_lens hw hH ht (by assumption) (strIs_spec h.1) h.2 hs
    · cases h
  | lenc n =>
    simp only [chkOp] at h
    split at h
    · exact ok_lenc hw hH (by assumption) h hs
    · cases h
  | append imm sz bytes x y =>
    simp only [chkOp] at h
    split at h
    · simp only [Bool.and_eq_true] at h
      obtain ⟨e, h1, h2⟩ := elemIs_spec h.1.1.1
      simp only [Bool.and_eq_true] at h2
      obtain ⟨i, h3, h4, h5⟩ := bytesIs_spec h2.1
      have h6 := h2.2
      simp only [h3] at h6
      split at h6
      · rename_i z hz
        simp only [Bool.and_eq_true, List.all_eq_true, beq_iff_eq] at h6
        exact ok_append hw hH ht (by assumption) h1 h.1.1.2 h3 hz h6.1 (by omega) h5 h4 h.1.2 h.2 hs
      · cases h6
    · cases h
  | minmax mx xs =>
    simp only [chkOp] at h
    split at h
    · rename_i b cs ts ho
      simp only [Bool.and_eq_true, beq_iff_eq] at h
      obtain ⟨rfl, h2⟩ := h
      exact ok_minmax hw hH ht ho h2 hs
    · cases h
  | carry sub x y z =>
    simp only [chkOp] at h
    split at h
    · simp only [Bool.and_eq_true] at h
      exact ok_carry hw hH ht (by assumption) (hcf _ _ h.1.1.1) h.1.1.2 h.1.2 h.2 hs
    · cases h
  | mkmap =>
    simp only [chkOp] at h
    split at h
    · exact ok_mkmap hw hH (by assumption) hs
    · cases h
  | maplen x =>
    simp only [chkOp] at h
    split at h
    · simp only [Bool.and_eq_true] at h
      obtain ⟨⟨kt, et⟩, hm⟩ := Option.isSome_iff_exists.1 h.1
      exact ok_maplen hw hH ht (by assumption) (mapOf_spec hm) h.2 hs
    · cases h
  | lookup z ag ok ks x y =>
    simp only [chkOp] at h
    split at h
    · rename_i t c d ok' ho
      simp only [Bool.and_eq_true, beq_iff_eq] at h
      obtain ⟨⟨⟨rfl, h1⟩, h2⟩, h3⟩ := h
      split at h1
      · rename_i kt et hm
        simp only [Bool.and_eq_true] at h1
        obtain ⟨⟨⟨k1, k2⟩, k3⟩, k4⟩ := h1
        obtain ⟨z1, z2⟩ := zeroIs_spec k4
        exact ok_lookup hw hH ht ho (mapOf_spec hm) k1 k2 k3 z1 z2 h2 h3 hs
      · cases h1
    · cases h
  | mapupd ks x y z =>
    simp only [chkOp] at h
    split at h
    · rename_i t c d e ho
      simp only [Bool.and_eq_true] at h
      obtain ⟨⟨⟨h1, h2⟩, h3⟩, h4⟩ := h
      split at h1
      · rename_i kt et hm
        exact ok_mapupd hw hH ht ho (mapOf_spec hm) h1 h2 h3 h4 hs
      · cases h1
    · cases h
  | pend | init | call | callp | callv | copy | clear => cases h
end Go.Rx
