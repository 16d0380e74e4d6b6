/-
A part of the proof: lemmas on the machine that the printed functions run on, or contracts of functions.
-/
import Derived.Test.YtfnioapgelabfaaGreatDoorRxOps3
import Derived.ChangeKeysEq
set_option linter.unusedVariables false
set_option linter.unusedSimpArgs false
namespace Go.Rx
variable {P : Program} {X : Ctx} {T : Tm} {a : Act} {w : World} {o : Oper} {call : CallF} {v : V} {m' : Mem}
mutual
def plainT (P : Program) : Nat → TypeId → Option (List CK)
  | 0, _ => none
  | d + 1, t =>
    match P.underlying t with
    | some .bool => some [.b]
    | some (.int _) => some [.i]
    | some .string => some [.s]
    | some (.struct fs) => if P.stoodInHeld t then none else (plainFs P d fs.toList 0).bind fun ks => if sizeIs P t ks.length then some ks else none
    | some (.array n e) => (plainT P d e).bind fun ks => if sizeIs P e ks.length && sizeIs P t (n * ks.length) then some (List.replicate n ks).flatten else none
    | _ => none
def plainFs (P : Program) : Nat → List Field → Nat → Option (List CK)
  | 0, _, _ => none
  | _ + 1, [], _ => some []
  | d + 1, f :: fs, o => if f.name == "_" || f.offset != o then none else (plainT P d f.type).bind fun k => (plainFs P d fs (o + k.length)).bind fun r => some (k ++ r)
end
theorem eqCells_len : ∀ {ks : List CK} {a b : List V} {q : Bool}, eqCells ks a b = some q → a.length = ks.length ∧ b.length = ks.length
  | ks, a, b, q, h => by
    unfold eqCells at h
    split at h
    · exact ⟨rfl, rfl⟩
    · split at h
      · simp only [Option.map_eq_some_iff] at h
        obtain ⟨r, hr, _⟩ := h
        have := eqCells_len hr
        simp [this]
      · cases h
    · simp only [Option.map_eq_some_iff] at h
      obtain ⟨r, hr, _⟩ := h
      have := eqCells_len hr
      simp [this]
    · simp only [Option.map_eq_some_iff] at h
      obtain ⟨r, hr, _⟩ := h
      have := eqCells_len hr
      simp [this]
    · cases h
theorem eqCells_append : ∀ {k1 k2 : List CK} {a1 b1 a2 b2 : List V} {q : Bool}, a1.length = k1.length → b1.length = k1.length → eqCells (k1 ++ k2) (a1 ++ a2) (b1 ++ b2) = some q →
    ∃ q1 q2, eqCells k1 a1 b1 = some q1 ∧ eqCells k2 a2 b2 = some q2 ∧ q = (q1 && q2)
  | [], k2, [], [], a2, b2, q, _, _, h => ⟨true, q, rfl, h, by simp⟩
  | k :: k1, k2, x :: a1, y :: b1, a2, b2, q, hl, hl2, h => by
    have hl' : a1.length = k1.length := by simpa using hl
    have hl2' : b1.length = k1.length := by simpa using hl2
    have key : ∀ (e : Bool), (eqCells (k1 ++ k2) (a1 ++ a2) (b1 ++ b2)).map (e && ·) = some q → (∀ z, (eqCells k1 a1 b1).map (e && ·) = some z → eqCells (k :: k1) (x :: a1) (y :: b1) = some z) →
        ∃ q1 q2, eqCells (k :: k1) (x :: a1) (y :: b1) = some q1 ∧ eqCells k2 a2 b2 = some q2 ∧ q = (q1 && q2) := by
      intro e he hz
      cases hr : eqCells (k1 ++ k2) (a1 ++ a2) (b1 ++ b2) with
      | none => simp [hr] at he
      | some r =>
        simp only [hr, Option.map_some, Option.some.injEq] at he
        obtain ⟨q1, q2, h1, h2, h3⟩ := eqCells_append hl' hl2' hr
        exact ⟨e && q1, q2, hz _ (by rw [h1]; rfl), h2, by rw [← he, h3, Bool.and_assoc]⟩
    simp only [List.cons_append] at h
    unfold eqCells at h
    split at h
    · rename_i heq _ _; cases heq
    · rename_i h0 h1 h2
      cases h0; cases h1; cases h2
      split at h
      · rename_i hk
        subst hk
        exact key _ h fun z hz => by simpa [eqCells] using hz
      · cases h
    · rename_i h0 h1 h2; cases h0; cases h1; cases h2
      exact key _ h fun z hz => by simpa [eqCells] using hz
    · rename_i h0 h1 h2; cases h0; cases h1; cases h2
      exact key _ h fun z hz => by simpa [eqCells] using hz
    · cases h
  | [], _, _ :: _, _, _, _, _, hl, _, _ => by simp at hl
  | [], _, [], _ :: _, _, _, _, _, hl, _ => by simp at hl
  | _ :: _, _, [], _, _, _, _, hl, _, _ => by simp at hl
  | _ :: _, _, _ :: _, [], _, _, _, _, hl, _ => by simp at hl
def At (X : Ctx) (as : List V) (xs : Array Value) (off : Nat) : Prop := ∀ (j : Nat) c, as[j]? = some c → ∃ v, xs[off + j]? = some v ∧ VR X c v
theorem At.left {a1 a2 : List V} {xs : Array Value} {off : Nat} (h : At X (a1 ++ a2) xs off) : At X a1 xs off := fun j c hj => h j c (by rw [List.getElem?_append_left (lt_of_getElem? hj)]; exact hj)
theorem At.right {a1 a2 : List V} {xs : Array Value} {off : Nat} (h : At X (a1 ++ a2) xs off) : At X a2 xs (off + a1.length) := fun j c hj => by
  have := h (a1.length + j) c (by rw [List.getElem?_append_right (by omega)]; simpa using hj)
  rwa [← Nat.add_assoc] at this
theorem At.extract {as : List V} {xs : Array Value} {off n o : Nat} (h : At X as xs (off + o)) (hn : o + as.length ≤ n) : At X as (xs.extract off (off + n)) o := fun j c hj => by
  obtain ⟨v, h1, h2⟩ := h j c hj
  have := lt_of_getElem? hj
  have hs := size_lt_of_getElem? h1
  refine ⟨v, ?_, h2⟩
  rw [Array.getElem?_extract, if_pos (by omega), ← h1, Nat.add_assoc]
theorem split_at' {as : List V} {k n : Nat} (h : as.length = k + n) : ∃ a1 a2, as = a1 ++ a2 ∧ a1.length = k ∧ a2.length = n :=
  ⟨as.take k, as.drop k, (List.take_append_drop k as).symm, by simp; omega, by simp; omega⟩
def EqOK (P : Program) (X : Ctx) (w : World) (D : Nat) (t : TypeId) (ks : List CK) : Prop :=
  ∀ (xs ys : Array Value) (off : Nat) (as bs : List V) (q : Bool), At X as xs off → At X bs ys off → eqCells ks as bs = some q →
    ∃ u u', (Go.part t xs off).run P w = .ok u w ∧ (Go.part t ys off).run P w = .ok u' w ∧ (Op.equalIn D t u u').run P w = .ok q w
theorem eq_scalar {D : Nat} {t : TypeId} {k : CK} (hag : aggIs P t false = true)
    (hk : ∀ (ka kb : Value) (ca cb : V) (q : Bool), VR X ca ka → VR X cb kb → eqCells [k] [ca] [cb] = some q → (Op.equalIn D t ka kb).run P w = .ok q w) : EqOK P X w D t [k] := by
  intro xs ys off as bs q hx hy hq
  obtain ⟨la, lb⟩ := eqCells_len hq
  match as, la, bs, lb, hx, hy, hq with
  | [ca], _, [cb], _, hx, hy, hq =>
    obtain ⟨u, h1, h2⟩ := hx 0 ca rfl
    obtain ⟨u', h3, h4⟩ := hy 0 cb rfl
    simp only [Nat.add_zero] at h1 h3
    exact ⟨u, u', by simp [Go.part, run_isAgg' hag, h1], by simp [Go.part, run_isAgg' hag, h3], hk u u' ca cb q h2 h4 hq⟩
theorem eq_items {D : Nat} {e : TypeId} {ks : List CK} (h : EqOK P X w D e ks) (hsz : sizeIs P e ks.length = true) (xs ys : Array Value) :
    ∀ (m i : Nat) (as bs : List V) (q : Bool), At X as xs (i * ks.length) → At X bs ys (i * ks.length) → eqCells (List.replicate m ks).flatten as bs = some q →
      (Op.eqItems D e ks.length xs ys (List.range' i m)).run P w = .ok q w
  | 0, i, as, bs, q, _, _, hq => by
    obtain ⟨la, lb⟩ := eqCells_len hq
    simp only [List.replicate_zero, List.flatten_nil, List.length_nil] at la lb
    rw [List.eq_nil_of_length_eq_zero la, List.eq_nil_of_length_eq_zero lb] at hq
    simp only [List.replicate_zero, List.flatten_nil, eqCells, Option.some.injEq] at hq
    subst hq
    simp [Op.eqItems]
  | m + 1, i, as, bs, q, hx, hy, hq => by
    obtain ⟨la, lb⟩ := eqCells_len hq
    simp only [List.replicate_succ, List.flatten_cons] at hq la lb
    rw [List.length_append] at la lb
    obtain ⟨a1, a2, rfl, l1, l2⟩ := split_at' la
    obtain ⟨b1, b2, rfl, l3, l4⟩ := split_at' lb
    obtain ⟨q1, q2, g1, g2, rfl⟩ := eqCells_append l1 l3 hq
    obtain ⟨u, u', r1, r2, r3⟩ := h xs ys (i * ks.length) a1 b1 q1 hx.left hy.left g1
    have hx2 := hx.right
    have hy2 := hy.right
    rw [l1, show i * ks.length + ks.length = (i + 1) * ks.length by rw [Nat.add_mul, Nat.one_mul]] at hx2
    rw [l3, show i * ks.length + ks.length = (i + 1) * ks.length by rw [Nat.add_mul, Nat.one_mul]] at hy2
    have ih := eq_items h hsz xs ys m (i + 1) a2 b2 q2 hx2 hy2 g2
    simp only [List.range'_succ, Op.eqItems, Sem.run_bind, r1, r2, r3, Result.andThen_ok]
    cases q1
    · simp
    · simpa using ih
theorem part_agg {t : TypeId} {n : Nat} (hag : aggIs P t true = true) (hsz : sizeIs P t n = true) (xs : Array Value) (off : Nat) : (Go.part t xs off).run P w = .ok (.agg (xs.extract off (off + n))) w := by
  simp [Go.part, run_isAgg' hag, run_sizeOf' hsz]
mutual
theorem equal_plain : ∀ (d : Nat) (t : TypeId) (ks : List CK), plainT P d t = some ks → ∀ D, EqOK P X w (D + d) t ks
  | 0, t, ks, h => by simp [plainT] at h
  | d + 1, t, ks, h => by
    intro D
    unfold plainT at h
    split at h
    · rename_i hu
      cases h
      refine eq_scalar (by simp [aggIs, hu]) fun ka kb ca cb q h1 h2 hq => ?_
      unfold eqCells at hq
      split at hq <;> first | (rename_i e _ _; cases e; done) | skip
      · rename_i e0 e1 e2; cases e0; cases e1; cases e2; cases h1; cases h2
        simp only [eqCells, Option.map_some, Bool.and_true, Option.some.injEq] at hq
        subst hq
        exact run_equalIn_bool' w (D + d) t _ _ hu
      · cases hq
    · rename_i k hu
      cases h
      refine eq_scalar (by simp [aggIs, hu]) fun ka kb ca cb q h1 h2 hq => ?_
      unfold eqCells at hq
      split at hq <;> first | (rename_i e _ _; cases e; done) | skip
      · rename_i e0 e1 e2; cases e0; cases e1; cases e2; cases h1; cases h2
        split at hq
        · rename_i hk; subst hk
          simp only [eqCells, Option.map_some, Bool.and_true, Option.some.injEq] at hq
          subst hq
          exact run_equalIn_int w (D + d) t _ _ _ _ hu
        · cases hq
      · cases hq
    · rename_i hu
      cases h
      refine eq_scalar (by simp [aggIs, hu]) fun ka kb ca cb q h1 h2 hq => ?_
      unfold eqCells at hq
      split at hq <;> first | (rename_i e _ _; cases e; done) | skip
      · rename_i e0 e1 e2; cases e0; cases e1; cases e2; cases h1; cases h2
        simp only [eqCells, Option.map_some, Bool.and_true, Option.some.injEq] at hq
        subst hq
        exact run_equalIn_string w (D + d) t _ _ hu
      · cases hq
    · rename_i fs hu
      split at h
      · cases h
      · rename_i hheld
        cases hf : plainFs P d fs.toList 0 with
        | none => simp [hf] at h
        | some ks' =>
          simp only [hf, Option.bind_some] at h
          split at h
          · rename_i hsz
            cases h
            intro xs ys off as bs q hx hy hq
            obtain ⟨la, lb⟩ := eqCells_len hq
            refine ⟨_, _, part_agg (by simp [aggIs, hu]) hsz xs off, part_agg (by simp [aggIs, hu]) hsz ys off, ?_⟩
            have hfo : P.fieldsOf t = fs := by simp [Program.fieldsOf, hu]
            rw [show D + (d + 1) = (D + d) + 1 from rfl, run_equalIn_struct w (D + d) t _ _ (by rw [hfo]; exact hu) (by simpa using hheld), hfo]
            exact equal_fields d fs.toList 0 ks hf D _ _ as bs q (At.extract (o := 0) hx (by omega)) (At.extract (o := 0) hy (by omega)) hq
          · cases h
    · rename_i n e hu
      cases hf : plainT P d e with
      | none => simp [hf] at h
      | some ks' =>
        simp only [hf, Option.bind_some] at h
        split at h
        · rename_i hsz
          simp only [Bool.and_eq_true] at hsz
          cases h
          intro xs ys off as bs q hx hy hq
          obtain ⟨la, lb⟩ := eqCells_len hq
          have hlen : ∀ m : Nat, (List.replicate m ks').flatten.length = m * ks'.length := fun m => by
            rw [flatten_length (sz := ks'.length)]
            · simp
            · intro e he; rw [List.eq_of_mem_replicate he]
          rw [hlen] at la lb
          refine ⟨_, _, part_agg (by simp [aggIs, hu]) hsz.2 xs off, part_agg (by simp [aggIs, hu]) hsz.2 ys off, ?_⟩
          have h2 := hsz.1
          unfold sizeIs at h2
          split at h2
          · rename_i i hi
            simp only [beq_iff_eq] at h2
            have hc : P.cellsOf e = ks'.length := by simp [Program.cellsOf, hi, h2]
            rw [show D + (d + 1) = (D + d) + 1 from rfl, run_equalIn_array w (D + d) _ _ hu hi, hc, List.range_eq_range']
            exact eq_items (equal_plain d e ks' hf D) hsz.1 _ _ n 0 as bs q (by rw [Nat.zero_mul]; exact At.extract (o := 0) hx (by omega)) (by rw [Nat.zero_mul]; exact At.extract (o := 0) hy (by omega)) hq
          · cases h2
        · cases h
    · cases h
theorem equal_fields : ∀ (d : Nat) (fs : List Field) (oo : Nat) (ks : List CK), plainFs P d fs oo = some ks → ∀ (D : Nat) (xs ys : Array Value) (as bs : List V) (q : Bool),
    At X as xs oo → At X bs ys oo → eqCells ks as bs = some q → (Op.eqFields (D + d) xs ys fs).run P w = .ok q w
  | 0, fs, oo, ks, h => by simp [plainFs] at h
  | d + 1, [], oo, ks, h => by
    intro D xs ys as bs q hx hy hq
    simp only [plainFs, Option.some.injEq] at h
    subst h
    obtain ⟨la, lb⟩ := eqCells_len hq
    rw [List.eq_nil_of_length_eq_zero la, List.eq_nil_of_length_eq_zero lb] at hq
    simp only [eqCells, Option.some.injEq] at hq
    subst hq
    simp [Op.eqFields]
  | d + 1, f :: fs, oo, ks, h => by
    intro D xs ys as bs q hx hy hq
    simp only [plainFs] at h
    split at h
    · cases h
    · rename_i hn
      simp only [Bool.or_eq_true, beq_iff_eq, bne_iff_ne, ne_eq, not_or, Decidable.not_not] at hn
      obtain ⟨hn1, hn2⟩ := hn
      subst hn2
      cases h1 : plainT P d f.type with
      | none => simp [h1] at h
      | some k1 =>
        cases h2 : plainFs P d fs (f.offset + k1.length) with
        | none => simp [h1, h2] at h
        | some k2 =>
          simp only [h1, h2, Option.bind_some, Option.some.injEq] at h
          subst h
          obtain ⟨la, lb⟩ := eqCells_len hq
          rw [List.length_append] at la lb
          obtain ⟨a1, a2, rfl, l1, l2⟩ := split_at' la
          obtain ⟨b1, b2, rfl, l3, l4⟩ := split_at' lb
          obtain ⟨q1, q2, g1, g2, rfl⟩ := eqCells_append l1 l3 hq
          obtain ⟨u, u', r1, r2, r3⟩ := equal_plain d f.type k1 h1 (D + 1) xs ys f.offset a1 b1 q1 hx.left hy.left g1
          have hx2 := hx.right
          have hy2 := hy.right
          rw [l1] at hx2
          rw [l3] at hy2
          have ih := equal_fields d fs (f.offset + k1.length) k2 h2 (D + 1) xs ys a2 b2 q2 hx2 hy2 g2
          rw [show D + (d + 1) = D + 1 + d by omega]
          simp only [Op.eqFields, ne_eq, hn1, not_false_eq_true, if_true, Sem.run_bind, r1, r2, r3, Result.andThen_ok]
          cases q1
          · simp
          · simpa using ih
end
def plainIs (P : Program) (t : TypeId) (ks : List CK) : Bool := plainT P 100 t == some ks && !P.eqGuardType P.depth t && aggIs P t true && sizeIs P t ks.length
theorem ok_eqs (hw : WR X) (hH : X.H = w.heap) (ht : TR X T a.tmps) {ks : List CK} {neg : Bool} {t ty : TypeId} {x y : Opd} {c d : Operand} (ho : o.op = .binOp (if neg then .neq else .eql) t c d ty) (hk : plainIs P t ks = true)
    (hc : chkOpd X.lnk x c = true) (hd : chkOpd X.lnk y d = true) (hs : stepOp call T X.m (.eqs ks neg x y) = some (v, m')) : OpOK P o a w X v m' := by
  have h1 := get_VR hc ht
  have h2 := get_VR hd ht
  simp only [stepOp] at hs
  simp only [plainIs, Bool.and_eq_true, beq_iff_eq, Bool.not_eq_true'] at hk
  obtain ⟨⟨⟨hp, hg⟩, hag⟩, hsz⟩ := hk
  generalize hce : a.eval c = ce at h1
  generalize hde : a.eval d = de at h2
  split at hs
  · rename_i as bs hx hy
    rw [hx] at h1
    rw [hy] at h2
    cases hq : eqCells ks as bs with
    | none => simp [hq] at hs
    | some q =>
      simp only [hq, Option.bind_some, Option.some.injEq, Prod.mk.injEq] at hs
      obtain ⟨rfl, rfl⟩ := hs
      obtain ⟨la, lb⟩ := eqCells_len hq
      cases h1 with
      | agg _ vs g1 _ g3 =>
        cases h2 with
        | agg _ us k1 _ k3 =>
          have hat : ∀ {as : List V} {vs : Array Value}, as.length = vs.size → (∀ (i : Nat) c v, as[i]? = some c → vs[i]? = some v → VR X c v) → At X as vs 0 := by
            intro as vs h1 h2 j c hj
            have := lt_of_getElem? hj
            have hv : vs[j]? = some vs[j] := Array.getElem?_eq_getElem (by omega)
            rw [Nat.zero_add]
            exact ⟨vs[j], hv, h2 j c _ hj hv⟩
          obtain ⟨u, u', r1, r2, r3⟩ := equal_plain (P := P) (X := X) (w := w) 100 t ks hp 9900 vs us 0 as bs q (hat g1 g3) (hat k1 k3) hq
          have e1 : u = .agg vs := by
            rw [part_agg hag hsz] at r1
            cases r1
            rw [show 0 + ks.length = vs.size by omega]; simp
          have e2 : u' = .agg us := by
            rw [part_agg hag hsz] at r2
            cases r2
            rw [show 0 + ks.length = us.size by omega]; simp
          subst e1; subst e2
          cases neg with
          | true => exact OpOK.same (w' := w) hw hH (.refl w) (by simp [execOp, ho, hce, hde, run_eqGuard_agg _ _ _ _ _ _ _ hg, run_neq_struct, r3]) (.bool _)
          | false => exact OpOK.same (w' := w) hw hH (.refl w) (by simp [execOp, ho, hce, hde, run_eqGuard_agg _ _ _ _ _ _ _ hg, run_eql_struct, r3]) (.bool _)
  · cases hs
end Go.Rx
