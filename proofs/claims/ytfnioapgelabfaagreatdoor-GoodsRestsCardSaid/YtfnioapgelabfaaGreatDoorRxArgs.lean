/-
A part of the proof: lemmas on the machine that the printed functions run on, or contracts of functions.
-/
import Derived.Test.YtfnioapgelabfaaGreatDoorRxFun
import Derived.DataReads
import GoSem.ClaimChange
set_option linter.unusedVariables false
set_option linter.unusedSimpArgs false
namespace Go.Rx
variable {H : Type} {enc : TypeId × Value → H} {P : Program} {w : World} {spare : Nat → Bool} {held : Bool}
inductive Ty where
  | b | i (k : IntKind) | s
  | sl (e : Ty)
  | st (fs : List Ty)
  | ar (n : Nat) (e : Ty)
mutual
def Ty.size : Ty → Nat
  | .b | .i _ | .s | .sl _ => 1
  | .st fs => sizes fs
  | .ar n e => n * e.size
def sizes : List Ty → Nat
  | [] => 0
  | t :: ts => t.size + sizes ts
end
mutual
inductive TyV : Ty → List V → Prop
  | b (b : Bool) : TyV .b [.bool b]
  | i (k : IntKind) (n : Int) (h1 : k.min ≤ n) (h2 : n ≤ k.max) : TyV (.i k) [.int k n]
  | s (s : ByteArray) (h : s.size < 2 ^ 63) : TyV .s [.str s]
  | sl (e : Ty) (es : List (List V)) (hl : es.length < 2 ^ 63) (h : ∀ (i : Nat) x, es[i]? = some x → TyV e x) : TyV (.sl e) [.sl .any es]
  | st (fs : List Ty) (cs : List V) (h : TyVs fs cs) : TyV (.st fs) cs
  | ar (n : Nat) (e : Ty) (cs : List V) (h : TyVs (List.replicate n e) cs) : TyV (.ar n e) cs
inductive TyVs : List Ty → List V → Prop
  | nil : TyVs [] []
  | cons (t : Ty) (ts : List Ty) (c cs : List V) (h : TyV t c) (hs : TyVs ts cs) : TyVs (t :: ts) (c ++ cs)
end
def tyOf (P : Program) : Nat → TypeId → Option Ty
  | 0, _ => none
  | d + 1, t =>
    let fields := fun (fs : List Field) => (fs.foldr (fun f acc => acc.bind fun (ts : List Ty) => (tyOf P d f.type).bind fun u => some (u :: ts)) (some []))
    match P.underlying t with
    | some .bool => some .b
    | some (.int k) => some (.i k)
    | some .string => some .s
    | some (.slice e) => (tyOf P d e).bind fun u => if 0 < u.size && u.size == P.cellsOf e then some (.sl u) else none
    | some (.struct fs) => (fields fs.toList).bind fun ts => if sizes ts == P.cellsOf t && tight P 0 fs.toList ts then some (.st ts) else none
    | some (.array n e) => (tyOf P d e).bind fun u => if u.size == P.cellsOf e && n * u.size == P.cellsOf t then some (.ar n u) else none
    | _ => none
 where
  tight (P : Program) (off : Nat) : List Field → List Ty → Bool
    | [], [] => true
    | f :: fs, u :: us => f.offset == off && u.size == P.cellsOf f.type && tight P (off + u.size) fs us
    | _, _ => false
theorem TyVs.length_aux : (∀ {t : Ty} {cs : List V}, TyV t cs → cs.length = t.size) ∧ (∀ {ts : List Ty} {cs : List V}, TyVs ts cs → cs.length = sizes ts) := by
  constructor
  · intro t cs h
    induction h using TyV.rec (motive_2 := fun ts cs _ => cs.length = sizes ts) with
    | b => rfl
    | i => rfl
    | s => rfl
    | sl => rfl
    | st fs cs h ih => exact ih
    | ar n e cs h ih =>
      rw [ih]
      have : ∀ n, sizes (List.replicate n e) = n * e.size := by
        intro n
        induction n with
        | zero => simp [sizes]
        | succ n ih => simp only [List.replicate_succ, sizes, ih]; rw [Nat.add_mul]; omega
      rw [this]; rfl
    | nil => rfl
    | cons t ts c cs h hs ih ihs => rw [List.length_append, ih, ihs]; rfl
  · intro ts cs h
    induction h using TyVs.rec (motive_1 := fun t cs _ => cs.length = t.size) with
    | b => rfl
    | i => rfl
    | s => rfl
    | sl => rfl
    | st fs cs h ih => exact ih
    | ar n e cs h ih =>
      rw [ih]
      have : ∀ n, sizes (List.replicate n e) = n * e.size := by
        intro n
        induction n with
        | zero => simp [sizes]
        | succ n ih => simp only [List.replicate_succ, sizes, ih]; rw [Nat.add_mul]; omega
      rw [this]; rfl
    | nil => rfl
    | cons t ts c cs h hs ih ihs => rw [List.length_append, ih, ihs]; rfl
theorem TyV.length {t : Ty} {cs : List V} (h : TyV t cs) : cs.length = t.size := TyVs.length_aux.1 h
def argX (lnk : Nat → FuncId) (w : World) : Ctx := ⟨lnk, [], fun b => b < w.heap.size, m0, w.heap⟩
theorem argX_WR (lnk : Nat → FuncId) (w : World) : WR (argX lnk w) :=
  ⟨rfl, fun b hb => hb, fun id bk h => by simp [argX, m0] at h, fun i j bi bj b h => by simp [argX, m0] at h⟩
theorem argX_live {lnk : Nat → FuncId} {w : World} {b : Nat} : ¬ Live (argX lnk w) b := by rintro ⟨id, bk, h, _⟩; simp [argX, m0] at h
def Got (lnk : Nat → FuncId) (w : World) (u : Ty) (cs : List Value) (vs : List V) : Prop := TyV u vs ∧ VRs (argX lnk w) vs cs ∧ ∀ c ∈ cs, c.oneCell' = true
theorem VRs.one {X : Ctx} {v : V} {c : Value} (h : VR X v c) : VRs X [v] [c] := ⟨rfl, fun i x y hx hy => by
  cases i with
  | zero => simp at hx hy; subst hx; subst hy; exact h
  | succ i => simp at hx⟩
theorem mapM_all {α β γ : Type} {f : α → Option β} {Q : α → γ → Prop} : ∀ {l : List α} {xs : List β}, l.mapM f = some xs → (∀ a ∈ l, ∀ x, f a = some x → ∃ c, Q a c) → ∃ cs : List γ, cs.length = l.length ∧ ∀ (i : Nat) a, l[i]? = some a → ∃ c, cs[i]? = some c ∧ Q a c
  | [], xs, h, _ => ⟨[], rfl, fun i a h => by simp at h⟩
  | a :: l, xs, h, hq => by
    rw [List.mapM_cons] at h
    cases h1 : f a with
    | none => simp [h1] at h
    | some x =>
      cases h2 : l.mapM f with
      | none => simp [h1, h2] at h
      | some ys =>
        obtain ⟨c, hc⟩ := hq a (List.mem_cons_self ..) x h1
        obtain ⟨cs, g1, g2⟩ := mapM_all h2 fun b hb => hq b (List.mem_cons_of_mem _ hb)
        refine ⟨c :: cs, by simp [g1], fun i b hi => ?_⟩
        cases i with
        | zero => simp at hi; subst hi; exact ⟨c, rfl, hc⟩
        | succ i => obtain ⟨c', k1, k2⟩ := g2 i b (by simpa using hi); exact ⟨c', by simpa using k1, k2⟩
theorem VRs.join {X : Ctx} {v1 v2 : List V} {c1 c2 : List Value} (h : VRs X v1 c1) (k : VRs X v2 c2) : VRs X (v1 ++ v2) (c1 ++ c2) := h.append k
theorem got_rows {lnk : Nat → FuncId} {u : Ty} {cs : List Value} {n sz : Nat} (hlen : cs.length = n * sz) (h : ∀ i, i < n → ∃ vs, Got lnk w u ((cs.drop (i * sz)).take sz) vs) :
    ∀ k, k ≤ n → ∃ vs, TyVs (List.replicate k u) vs ∧ VRs (argX lnk w) vs (cs.drop ((n - k) * sz)) ∧ ∀ c ∈ cs.drop ((n - k) * sz), c.oneCell' = true := by
  intro k
  induction k with
  | zero =>
    intro _
    have : cs.drop ((n - 0) * sz) = [] := List.drop_of_length_le (by simp [hlen])
    rw [this]
    exact ⟨[], .nil, ⟨rfl, fun i c v h => by simp at h⟩, fun c h => by simp at h⟩
  | succ k ih =>
    intro hk
    obtain ⟨vs, h1, h2, h3⟩ := ih (by omega)
    obtain ⟨vs0, g1, g2, g3⟩ := h (n - (k + 1)) (by omega)
    have e : cs.drop ((n - (k + 1)) * sz) = (cs.drop ((n - (k + 1)) * sz)).take sz ++ cs.drop ((n - k) * sz) := by
      have : (n - k) * sz = (n - (k + 1)) * sz + sz := by
        rw [show n - k = (n - (k + 1)) + 1 by omega, Nat.add_mul, Nat.one_mul]
      rw [this, ← List.drop_drop]
      exact (List.take_append_drop sz _).symm
    rw [e]
    refine ⟨vs0 ++ vs, .cons u _ _ _ g1 h1, g2.join h2, fun c hc => ?_⟩
    rcases List.mem_append.1 hc with hc | hc
    · exact g3 c hc
    · exact h3 c hc
theorem cell_at {w : World} {a : Addr} {c : Value} (h : w.cell? a = some c) : a.spot = none ∧ a.block < w.heap.size ∧ cellAt w.heap a.block a.off = some c := by
  unfold World.cell? at h
  unfold cellAt
  split at h
  · rename_i cs t f hb
    split at h
    · cases h
    · rename_i hs
      rw [hb]
      exact ⟨by cases hsp : a.spot <;> simp_all, (Array.getElem?_eq_some_iff.1 hb).1, h⟩
  · cases h
theorem cells_at {w : World} {base n : Nat} {a : Addr} {cs : List Value} (h : w.cells? base a n = some cs) : cs.length = n ∧ ∀ (j : Nat) c, cs[j]? = some c → w.cell? (a.add j) = some c := by
  unfold World.cells? at h
  split at h
  · refine ⟨by simpa using mapM_some_length h, fun j c hj => ?_⟩
    have hl := mapM_some_length h
    have hlt := lt_of_getElem? hj
    simp only [List.length_range] at hl
    rw [mapM_some_get h j j (by rw [List.getElem?_range (by omega)])]
    exact hj
  · cases h
theorem got_fields {lnk : Nat → FuncId} {d fuel : Nat} {cs : List Value} (ih : ∀ (t : TypeId) (ty : Ty) (cs : List Value) (x : DataW H × List MemPlace), tyOf P d t = some ty → DataW.trod enc P w 0 spare held fuel t cs = some x → ∃ vs, Got lnk w ty cs vs) :
    ∀ (fs : List Field) (us : List Ty) (off : Nat) (xs : List (DataW H × List MemPlace)), fs.foldr (fun f acc => acc.bind fun (ts : List Ty) => (tyOf P d f.type).bind fun u => some (u :: ts)) (some []) = some us → tyOf.tight P off fs us = true → off + sizes us = cs.length →
      fs.mapM (fun f => DataW.trod enc P w 0 spare held fuel f.type ((cs.drop f.offset).take (P.cellsOf f.type))) = some xs → ∃ vs, TyVs us vs ∧ VRs (argX lnk w) vs (cs.drop off) ∧ ∀ c ∈ cs.drop off, c.oneCell' = true
  | [], us, off, xs, hf, _, hl, _ => by
    simp only [List.foldr_nil, Option.some.injEq] at hf
    subst hf
    simp only [sizes, Nat.add_zero] at hl
    have : cs.drop off = [] := List.drop_of_length_le (by omega)
    rw [this]
    exact ⟨[], .nil, ⟨rfl, fun i c v h => by simp at h⟩, fun c h => by simp at h⟩
  | f :: fs, us, off, xs, hf, ht, hl, hm => by
    simp only [List.foldr_cons] at hf
    cases hr : fs.foldr (fun f acc => acc.bind fun (ts : List Ty) => (tyOf P d f.type).bind fun u => some (u :: ts)) (some []) with
    | none => simp only [hr, Option.bind_none, reduceCtorEq] at hf
    | some ts =>
      cases hu : tyOf P d f.type with
      | none => simp only [hr, hu, Option.bind_some, Option.bind_none, reduceCtorEq] at hf
      | some u =>
        simp only [hr, hu, Option.bind_some, Option.some.injEq] at hf
        subst hf
        simp only [tyOf.tight, Bool.and_eq_true, beq_iff_eq] at ht
        obtain ⟨⟨ho, hs⟩, ht⟩ := ht
        simp only [sizes] at hl
        rw [List.mapM_cons] at hm
        cases h1 : DataW.trod enc P w 0 spare held fuel f.type ((cs.drop f.offset).take (P.cellsOf f.type)) with
        | none => simp [h1] at hm
        | some x =>
          cases h2 : fs.mapM (fun f => DataW.trod enc P w 0 spare held fuel f.type ((cs.drop f.offset).take (P.cellsOf f.type))) with
          | none => simp [h1, h2] at hm
          | some ys =>
            obtain ⟨vs0, g1, g2, g3⟩ := ih f.type u _ x hu h1
            obtain ⟨vs, k1, k2, k3⟩ := got_fields ih fs ts (off + u.size) ys hr ht (by omega) h2
            rw [ho, ← hs] at g2 g3
            have e : cs.drop off = (cs.drop off).take u.size ++ cs.drop (off + u.size) := by
              rw [← List.drop_drop]; exact (List.take_append_drop _ _).symm
            rw [e]
            refine ⟨vs0 ++ vs, .cons u ts vs0 vs g1 k1, g2.join k2, fun c hc => ?_⟩
            rcases List.mem_append.1 hc with hc | hc
            · exact g3 c hc
            · exact k3 c hc
theorem trod_ty {lnk : Nat → FuncId} : ∀ (fuel : Nat) (d : Nat) (t : TypeId) (ty : Ty) (cs : List Value) (x : DataW H × List MemPlace), tyOf P d t = some ty → DataW.trod enc P w 0 spare held fuel t cs = some x → ∃ vs, Got lnk w ty cs vs
  | 0, d, t, ty, cs, x, _, h => by simp [DataW.trod] at h
  | fuel + 1, 0, t, ty, cs, x, ht, h => by simp [tyOf] at ht
  | fuel + 1, d + 1, t, ty, cs, x, ht, h => by
    have ih := trod_ty (lnk := lnk) fuel d
    unfold tyOf at ht
    unfold DataW.trod at h
    cases hu : P.underlying t with
    | none => simp [hu] at ht
    | some desc =>
      cases desc <;> simp only [hu, reduceCtorEq, Option.some.injEq] at ht
      case bool =>
        subst ht
        simp only [hu] at h
        split at h <;> first | (cases h; done) | (rename_i heq; cases heq; done) | skip
        rename_i b _
        exact ⟨[.bool b], .b b, .one (.bool b), fun c hc => by simp at hc; subst hc; rfl⟩
      case int k =>
        subst ht
        simp only [hu] at h
        split at h <;> first | (cases h; done) | (rename_i heq; cases heq; done) | skip
        rename_i k1 k2 n heq
        cases heq
        split at h
        · rename_i hc
          obtain ⟨rfl, hwf⟩ := hc
          simp only [Lit.wf, Bool.and_eq_true, decide_eq_true_eq] at hwf
          exact ⟨[.int _ n], .i _ n hwf.1 hwf.2, .one (.int _ n), fun c hc => by simp at hc; subst hc; rfl⟩
        · cases h
      case string =>
        subst ht
        simp only [hu] at h
        split at h <;> first | (cases h; done) | (rename_i heq; cases heq; done) | skip
        rename_i s _
        split at h
        · rename_i hs
          exact ⟨[.str s], .s s (by unfold maxLen at hs; omega), .one (.str s), fun c hc => by simp at hc; subst hc; rfl⟩
        · cases h
      case slice e =>
        cases he : tyOf P d e with
        | none => simp [he] at ht
        | some u =>
          simp only [he, Option.bind_some] at ht
          split at ht
          case isFalse => cases ht
          rename_i hc
          simp only [Bool.and_eq_true, decide_eq_true_eq, beq_iff_eq] at hc
          obtain ⟨hpos, hsz⟩ := hc
          simp only [Option.some.injEq] at ht
          subst ht
          simp only [hu] at h
          split at h <;> first | (cases h; done) | (rename_i heq; cases heq; done) | skip
          · exact ⟨[.sl .any []], .sl u [] (by simp) (fun i x hx => by simp at hx), .one (.sl0 _ _ _ (fun h => by cases h) (fun h => by cases h) (fun h => by cases h) (fun _ => rfl)), fun c hc => by simp at hc; subst hc; rfl⟩
          · rename_i e' a len cap heq
            cases heq
            split at h
            case isFalse => cases h
            rename_i hcond
            obtain ⟨_, hlc, hcm⟩ := hcond
            cases hm : (List.range len).mapM (fun i => (w.cells? 0 (a.add (i * P.cellsOf e)) (P.cellsOf e)).bind (DataW.trod enc P w 0 spare held fuel e)) with
            | none => simp only [hm, Option.bind_none] at h; cases h
            | some elems =>
              obtain ⟨es, g1, g2⟩ := mapM_all (Q := fun i (p : List V × List Value) => w.cells? 0 (a.add (i * P.cellsOf e)) (P.cellsOf e) = some p.2 ∧ Got lnk w u p.2 p.1) hm (fun i hi x hx => by
                cases hcs : w.cells? 0 (a.add (i * P.cellsOf e)) (P.cellsOf e) with
                | none => rw [hcs] at hx; simp at hx
                | some cs =>
                  rw [hcs, Option.bind_some] at hx
                  obtain ⟨vs, hvs⟩ := ih e u cs x he hx
                  exact ⟨(vs, cs), rfl, hvs⟩)
              simp only [List.length_range] at g1
              have get : ∀ i, i < len → ∃ p, es[i]? = some p ∧ w.cells? 0 (a.add (i * P.cellsOf e)) (P.cellsOf e) = some p.2 ∧ Got lnk w u p.2 p.1 := fun i hi => g2 i i (by rw [List.getElem?_range hi])
              have hty : TyV (.sl u) [.sl .any (es.map (·.1))] := .sl u _ (by rw [List.length_map, g1]; unfold maxLen at hcm; omega) fun i x hx => by
                rw [List.getElem?_map, Option.map_eq_some_iff] at hx
                obtain ⟨p, hp, rfl⟩ := hx
                obtain ⟨p', hp', _, hg⟩ := get i (by rw [← g1]; exact lt_of_getElem? hp)
                rw [hp] at hp'; cases hp'
                exact hg.1
              refine ⟨[.sl .any (es.map (·.1))], hty, .one ?_, fun c hc => by simp at hc; subst hc; rfl⟩
              by_cases hl0 : len = 0
              · subst hl0
                have : es = [] := List.eq_nil_of_length_eq_zero g1
                subst this
                exact .sl0 _ _ _ (fun h => by cases h) (fun h => by cases h) (fun h => by cases h) (fun h => by cases h)
              · obtain ⟨p0, _, hc0, hg0⟩ := get 0 (by omega)
                obtain ⟨hcl0, hca0⟩ := cells_at hc0
                have hlt0 : 0 < p0.2.length := by omega
                have hfirst := hca0 0 _ (List.getElem?_eq_getElem hlt0)
                have h00 : (a.add (0 * P.cellsOf e)).add 0 = a := by simp [Addr.add]
                rw [h00] at hfirst
                obtain ⟨hsp, hblk, _⟩ := cell_at hfirst
                have haddr : ∀ i j, ((a.add (i * P.cellsOf e)).add j) = ⟨a.block, a.off + i * P.cellsOf e + j, none⟩ := fun i j => by
                  obtain ⟨ab, ao, asp⟩ := a
                  simp only at hsp
                  subst hsp
                  rw [add_none, add_none]
                have key : ∀ (i j : Nat) x c, (es.map (·.1))[i]? = some x → x[j]? = some c → ∃ p, es[i]? = some p ∧ p.1 = x ∧ ∃ cv, p.2[j]? = some cv ∧ cellAt w.heap a.block (a.off + i * P.cellsOf e + j) = some cv ∧ cv.oneCell' = true ∧ VR (argX lnk w) c cv := fun i j x c hx hj => by
                  rw [List.getElem?_map, Option.map_eq_some_iff] at hx
                  obtain ⟨p, hp, rfl⟩ := hx
                  obtain ⟨p', hp', hcc, hg⟩ := get i (by rw [← g1]; exact lt_of_getElem? hp)
                  rw [hp] at hp'; cases hp'
                  have hjl := lt_of_getElem? hj
                  have hl := hg.2.1.1
                  have hget := List.getElem?_eq_getElem (l := p.2) (i := j) (by omega)
                  refine ⟨p, hp, rfl, p.2[j], hget, ?_, hg.2.2 _ (List.getElem_mem _), hg.2.1.2 j c _ hj hget⟩
                  have := (cells_at hcc).2 j _ hget
                  rw [haddr] at this
                  exact this
                refine VR.sl1 (X := argX lnk w) .any (es.map (·.1)) len a cap (P.cellsOf e) (fun i j => ((es[i]?).bind fun p => p.2[j]?).getD Go.undef) (by simp [g1]) (fun h => hl0 (by rw [← g1]; simpa using h)) hblk hsp hlc (fun h => by cases h) (by simp [SF.isNil]) (fun x hx => ?_) ?_ ?_ ?_
                · obtain ⟨i, hi⟩ := List.getElem?_of_mem hx
                  rw [List.getElem?_map, Option.map_eq_some_iff] at hi
                  obtain ⟨p, hp, rfl⟩ := hi
                  obtain ⟨p', hp', hcc, hg⟩ := get i (by rw [← g1]; exact lt_of_getElem? hp)
                  rw [hp] at hp'; cases hp'
                  rw [hg.1.length, hsz]
                · intro i j x c hx hj
                  obtain ⟨p, hp, _, cv, k1, k2, _, _⟩ := key i j x c hx hj
                  simp only [hp, Option.bind_some, k1, Option.getD_some]
                  exact k2
                · intro i j x c hx hj
                  obtain ⟨p, hp, _, cv, k1, _, k3, _⟩ := key i j x c hx hj
                  simp only [hp, Option.bind_some, k1, Option.getD_some]
                  exact k3
                · intro i j x c hx hj
                  obtain ⟨p, hp, _, cv, k1, _, _, k4⟩ := key i j x c hx hj
                  simp only [hp, Option.bind_some, k1, Option.getD_some]
                  exact k4
      case struct fs =>
        cases hf : (fs.toList.foldr (fun f acc => acc.bind fun (ts : List Ty) => (tyOf P d f.type).bind fun u => some (u :: ts)) (some [])) with
        | none => simp only [hf, Option.bind_none, reduceCtorEq] at ht
        | some us =>
          simp only [hf, Option.bind_some] at ht
          split at ht
          case isFalse => cases ht
          rename_i hc
          simp only [Bool.and_eq_true, beq_iff_eq] at hc
          obtain ⟨hsz, htight⟩ := hc
          simp only [Option.some.injEq] at ht
          subst ht
          simp only [hu] at h
          split at h
          case isFalse => cases h
          rename_i hcl
          cases hm : fs.toList.mapM (fun f => DataW.trod enc P w 0 spare held fuel f.type ((cs.drop f.offset).take (P.cellsOf f.type))) with
          | none => simp only [hm, Option.map_none, reduceCtorEq] at h
          | some xs =>
            obtain ⟨vs, h1, h2, h3⟩ := got_fields ih fs.toList us 0 xs hf htight (by omega) hm
            rw [List.drop_zero] at h2 h3
            exact ⟨vs, .st us vs h1, h2, h3⟩
      case array n e =>
        cases he : tyOf P d e with
        | none => simp [he] at ht
        | some u =>
          simp only [he, Option.bind_some] at ht
          split at ht
          case isFalse => cases ht
          rename_i hc
          simp only [Bool.and_eq_true, beq_iff_eq] at hc
          obtain ⟨hsz, hn⟩ := hc
          simp only [Option.some.injEq] at ht
          subst ht
          simp only [hu] at h
          split at h
          case isFalse => cases h
          rename_i hcl
          cases hm : (List.range n).mapM (fun i => DataW.trod enc P w 0 spare held fuel e ((cs.drop (i * P.cellsOf e)).take (P.cellsOf e))) with
          | none => simp only [hm, Option.map_none, reduceCtorEq] at h
          | some xs =>
            obtain ⟨vs, h1, h2, h3⟩ := got_rows (w := w) (lnk := lnk) (u := u) (cs := cs) (n := n) (sz := P.cellsOf e) (by rw [hcl, ← hn, hsz]) (fun i hi => by
              have hl := mapM_some_length hm
              have hx := mapM_some_get hm i i (by rw [List.getElem?_range hi])
              rw [List.getElem?_eq_getElem (by simp only [List.length_range] at hl; omega)] at hx
              exact ih e u _ _ he hx) n (Nat.le_refl _)
            rw [Nat.sub_self, Nat.zero_mul, List.drop_zero] at h2 h3
            exact ⟨vs, .ar n u vs h1, h2, h3⟩
end Go.Rx
