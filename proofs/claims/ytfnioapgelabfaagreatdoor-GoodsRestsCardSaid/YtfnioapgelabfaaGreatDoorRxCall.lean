/-
A part of the proof: lemmas on the machine that the printed functions run on, or contracts of functions.
-/
import Derived.Test.YtfnioapgelabfaaGreatDoorRxOps8
set_option linter.unusedVariables false
set_option linter.unusedSimpArgs false
namespace Go.Rx
variable {P : Program} {X : Ctx}
inductive Clean : V → Prop
  | bool (b) : Clean (.bool b)
  | int (k n) : Clean (.int k n)
  | str (s) : Clean (.str s)
  | nilp : Clean .nilp
  | iptr (cs off) (h : ∀ (j : Nat) c, cs[j]? = some c → Clean c) : Clean (.iptr cs off)
  | sl (f es) (h : ∀ (i j : Nat) e c, es[i]? = some e → e[j]? = some c → Clean c) : Clean (.sl f es)
  | nilf : Clean .nilf
  | fn (p fs cs) (h1 : ∀ (j : Nat) c, fs[j]? = some c → Clean c) (h2 : ∀ (j : Nat) c, cs[j]? = some c → Clean c) : Clean (.fn p fs cs)
  | agg (cs) (h : ∀ (j : Nat) c, cs[j]? = some c → Clean c) : Clean (.agg cs)
  | tup (cs) (h : ∀ (j : Nat) c, cs[j]? = some c → Clean c) : Clean (.tup cs)
theorem Clean.move {X X' : Ctx} (hl : X'.lnk = X.lnk) (hI : ∀ b, X.I b → X'.I b ∧ X'.H[b]? = X.H[b]?) {v : V} {c : Value} (hr : VR X v c) (hc : Clean v) : VR X' v c := by
  induction hr with
  | undef v => cases hc
  | bool b => exact .bool b
  | int k n => exact .int k n
  | str s => exact .str s
  | nilp => exact .nilp
  | ptr => cases hc
  | iptr cs off a o g h1 hsp ho h3 h4 _ ih =>
    cases hc with
    | iptr _ _ hcl => exact .iptr cs off a o g (hI _ h1).1 hsp ho (fun j c hj => (cellAt_eq (hI _ h1).2 _).trans (h3 j c hj)) h4 fun j c hj => ih j c hj (hcl j c hj)
  | sl0 f a cap h1 h2 h3 h4 => exact .sl0 f a cap h1 h2 h3 h4
  | sl1 f es n a cap sz g hn hne h1 hsp hcap hex hnil hsz h3 h4 _ ih =>
    cases hc with
    | sl _ _ hcl => exact .sl1 f es n a cap sz g hn hne (hI _ h1).1 hsp hcap hex hnil hsz (fun i j e c hi hj => (cellAt_eq (hI _ h1).2 _).trans (h3 i j e c hi hj)) h4 fun i j e c hi hj => ih i j e c hi hj (hcl i j e c hi hj)
  | msl => cases hc
  | nilf => exact .nilf
  | fn pid fs cs vf vc h1 h2 _ _ ih3 ih4 =>
    cases hc with
    | fn _ _ _ c1 c2 => rw [← hl]; exact .fn pid fs cs vf vc h1 h2 (fun i c v hc hv => ih3 i c v hc hv (c1 i c hc)) (fun i c v hc hv => ih4 i c v hc hv (c2 i c hc))
  | agg cs vs h1 h2 _ ih =>
    cases hc with
    | agg _ c1 => exact .agg cs vs h1 h2 fun i c v hc hv => ih i c v hc hv (c1 i c hc)
  | tup cs vs h1 _ ih =>
    cases hc with
    | tup _ c1 => exact .tup cs vs h1 fun i c v hc hv => ih i c v hc hv (c1 i c hc)
  | mapr => cases hc
theorem allM_get {α β : Type} {f : α → Option β} : ∀ {l : List α} {r : List β}, allM f l = some r → l.length = r.length ∧ ∀ (i : Nat) a b, l[i]? = some a → r[i]? = some b → f a = some b
  | [], r, h => by simp only [allM, Option.some.injEq] at h; subst h; exact ⟨rfl, fun i a b h => by simp at h⟩
  | x :: l, r, h => by
    simp only [allM] at h
    cases hx : f x with
    | none => simp [hx] at h
    | some y =>
      cases hl : allM f l with
      | none => simp [hx, hl] at h
      | some ys =>
        simp only [hx, hl, Option.bind_some, Option.some.injEq] at h
        subst h
        obtain ⟨h1, h2⟩ := allM_get hl
        refine ⟨by simp [h1], fun i a b ha hb => ?_⟩
        cases i with
        | zero => simp at ha hb; subst ha; subst hb; exact hx
        | succ i => simp at ha hb; exact h2 i a b ha hb
theorem allM_back {α β : Type} {f : α → Option β} {l : List α} {r : List β} (h : allM f l = some r) {i : Nat} {b : β} (hb : r[i]? = some b) : ∃ a, l[i]? = some a ∧ f a = some b := by
  obtain ⟨h1, h2⟩ := allM_get h
  have hlt := lt_of_getElem? hb
  exact ⟨l[i], List.getElem?_eq_getElem (by omega), h2 i _ b (List.getElem?_eq_getElem (by omega)) hb⟩
theorem VR.any {f : SF} {es : List (List V)} {c : Value} (h : VR X (.sl f es) c) : VR X (.sl .any es) c := by
  cases h with
  | sl0 f a cap h1 h2 h3 h4 => exact .sl0 .any a cap (fun h => by cases h) (fun h => by cases h) (fun h => by cases h) h4
  | sl1 f es n a cap sz g hn hne hI hsp hcap hex hnil hsz hc h1 hr => exact .sl1 .any es n a cap sz g hn hne hI hsp hcap (fun h => by cases h) (by simp [SF.isNil]) hsz hc h1 hr
theorem norm_spec : ∀ (n : Nat) (v u : V), norm n v = some u → Clean u ∧ ∀ (X : Ctx) c, VR X v c → VR X u c
  | 0, v, u, h => by simp [norm] at h
  | n + 1, v, u, h => by
    unfold norm at h
    split at h
    · cases h
    · cases h; exact ⟨.bool _, fun X c h => h⟩
    · cases h; exact ⟨.int _ _, fun X c h => h⟩
    · cases h; exact ⟨.str _, fun X c h => h⟩
    · cases h; exact ⟨.nilp, fun X c h => h⟩
    · cases h
    · cases h
    · cases h
    · rename_i cs off
      cases hc : allM (norm n) cs with
      | none => simp [hc] at h
      | some cs' =>
        simp only [hc, Option.bind_some, Option.some.injEq] at h
        subst h
        obtain ⟨hl, hg⟩ := allM_get hc
        refine ⟨.iptr _ _ fun j c hj => ?_, fun X c hr => ?_⟩
        · obtain ⟨x, h1, h2⟩ := allM_back hc hj
          exact (norm_spec n x c h2).1
        · cases hr with
          | iptr _ _ a o g k1 k2 k3 k4 k5 k6 =>
            refine .iptr _ off a o g k1 k2 k3 (fun j c hj => ?_) (fun j c hj => ?_) fun j c hj => ?_
            all_goals obtain ⟨x, h1, h2⟩ := allM_back hc hj
            · exact k4 j x h1
            · exact k5 j x h1
            · exact (norm_spec n x c h2).2 X _ (k6 j x h1)
    · rename_i f es
      cases hc : allM (allM (norm n)) es with
      | none => simp [hc] at h
      | some es' =>
        simp only [hc, Option.bind_some, Option.some.injEq] at h
        subst h
        refine ⟨.sl _ _ fun i j e c hi hj => ?_, fun X c hr => ?_⟩
        · obtain ⟨x, h1, h2⟩ := allM_back hc hi
          obtain ⟨y, h3, h4⟩ := allM_back h2 hj
          exact (norm_spec n y c h4).1
        · have hr := hr.any
          cases hr with
          | sl0 _ a cap g1 g2 g3 g4 =>
            simp only [allM, Option.some.injEq] at hc
            subst hc
            exact .sl0 .any a cap g1 g2 g3 g4
          | sl1 _ _ m a cap sz g hn hne hI hsp hcap hex hnil hsz k4 k5 k6 =>
            obtain ⟨hl, hg⟩ := allM_get hc
            refine .sl1 .any es' m a cap sz g (by omega) (fun h => hne (List.eq_nil_of_length_eq_zero (by rw [hl, h]; rfl))) hI hsp hcap hex hnil (fun e he => ?_) (fun i j e c hi hj => ?_) (fun i j e c hi hj => ?_) fun i j e c hi hj => ?_
            · obtain ⟨i, hi, rfl⟩ := List.getElem_of_mem he
              obtain ⟨x, h1, h2⟩ := allM_back hc (List.getElem?_eq_getElem hi)
              rw [← (allM_get h2).1]
              exact hsz x (List.mem_of_getElem? h1)
            all_goals
              obtain ⟨x, h1, h2⟩ := allM_back hc hi
              obtain ⟨y, h3, h4⟩ := allM_back h2 hj
            · exact k4 i j x y h1 h3
            · exact k5 i j x y h1 h3
            · exact (norm_spec n y c h4).2 X _ (k6 i j x y h1 h3)
    · cases h; exact ⟨.nilf, fun X c h => h⟩
    · rename_i p fs cs
      cases hf : allM (norm n) fs with
      | none => simp [hf] at h
      | some fs' =>
        cases hc : allM (norm n) cs with
        | none => simp [hf, hc] at h
        | some cs' =>
          simp only [hf, hc, Option.bind_some, Option.some.injEq] at h
          subst h
          refine ⟨.fn _ _ _ (fun j c hj => ?_) (fun j c hj => ?_), fun X c hr => ?_⟩
          · obtain ⟨x, h1, h2⟩ := allM_back hf hj
            exact (norm_spec n x c h2).1
          · obtain ⟨x, h1, h2⟩ := allM_back hc hj
            exact (norm_spec n x c h2).1
          · cases hr with
            | fn _ _ _ vf vc k1 k2 k3 k4 =>
              refine .fn p fs' cs' vf vc (by have := (allM_get hf).1; omega) (by have := (allM_get hc).1; omega) (fun i c v hi hv => ?_) (fun i c v hi hv => ?_)
              · obtain ⟨x, h1, h2⟩ := allM_back hf hi
                exact (norm_spec n x c h2).2 X _ (k3 i x v h1 hv)
              · obtain ⟨x, h1, h2⟩ := allM_back hc hi
                exact (norm_spec n x c h2).2 X _ (k4 i x v h1 hv)
    · rename_i cs
      cases hc : allM (norm n) cs with
      | none => simp [hc] at h
      | some cs' =>
        simp only [hc, Option.bind_some, Option.some.injEq] at h
        subst h
        refine ⟨.agg _ fun j c hj => ?_, fun X c hr => ?_⟩
        · obtain ⟨x, h1, h2⟩ := allM_back hc hj
          exact (norm_spec n x c h2).1
        · cases hr with
          | agg _ vs k1 k2 k3 =>
            refine .agg cs' vs (by have := (allM_get hc).1; omega) k2 fun i c v hi hv => ?_
            obtain ⟨x, h1, h2⟩ := allM_back hc hi
            exact (norm_spec n x c h2).2 X _ (k3 i x v h1 hv)
    · rename_i cs
      cases hc : allM (norm n) cs with
      | none => simp [hc] at h
      | some cs' =>
        simp only [hc, Option.bind_some, Option.some.injEq] at h
        subst h
        refine ⟨.tup _ fun j c hj => ?_, fun X c hr => ?_⟩
        · obtain ⟨x, h1, h2⟩ := allM_back hc hj
          exact (norm_spec n x c h2).1
        · cases hr with
          | tup _ vs k1 k3 =>
            refine .tup cs' vs (by have := (allM_get hc).1; omega) fun i c v hi hv => ?_
            obtain ⟨x, h1, h2⟩ := allM_back hc hi
            exact (norm_spec n x c h2).2 X _ (k3 i x v h1 hv)
theorem norms_spec {n : Nat} {as bs : List V} {cs : List Value} (h : allM (norm n) as = some bs) (hr : VRs X as cs) : VRs X bs cs ∧ ∀ (i : Nat) b, bs[i]? = some b → Clean b := by
  obtain ⟨hl, _⟩ := allM_get h
  refine ⟨⟨by have := hr.1; omega, fun i b c hb hc => ?_⟩, fun i b hb => ?_⟩
  all_goals obtain ⟨x, h1, h2⟩ := allM_back h hb
  · exact (norm_spec n x b h2).2 X c (hr.2 i x c h1 hc)
  · exact (norm_spec n x b h2).1
def Ctx.alone (X : Ctx) : Ctx := ⟨X.lnk, [], X.I, m0, X.H⟩
theorem alone_live {X : Ctx} {b : Nat} : ¬ Live X.alone b := by rintro ⟨id, bk, h, _⟩; simp [Ctx.alone, m0] at h
theorem WR.alone (hw : WR X) : WR X.alone :=
  ⟨rfl, hw.imm, fun id bk h => by simp [Ctx.alone, m0] at h, fun i j bi bj b h => by simp [Ctx.alone, m0] at h⟩
theorem back_alone (hw : WR X) {Y : Ctx} (hg : Goes X.alone Y) (hy : WR Y) : Goes X ⟨X.lnk, X.B, Y.I, X.m, Y.H⟩ ∧ WR ⟨X.lnk, X.B, Y.I, X.m, Y.H⟩ := by
  have hsame : ∀ b, b < X.H.size → Y.H[b]? = X.H[b]? := fun b hb => hg.frame b hb alone_live
  have ext : Ext X ⟨X.lnk, X.B, Y.I, X.m, Y.H⟩ := by
    refine ⟨rfl, Nat.le_refl _, fun b hb => hg.imm b hb, fun id st cs' _ hc => ⟨cs', hc, rfl, rfl, fun b c e hb hh => ⟨c, e, ?_, rfl⟩⟩, fun id st es' _ he => ⟨es', he, rfl⟩⟩
    exact (hsame b (Array.getElem?_eq_some_iff.1 hh).1).trans hh
  refine ⟨⟨ext, hg.size, fun b hb _ => hsame b hb, fun b hb => .inl hb, fun b hb => ?_⟩, ⟨hw.len, hy.imm, fun id bk h => ?_, hw.inj⟩⟩
  · rcases hg.immo b hb with h | h | h
    · exact .inl h
    · exact absurd h alone_live
    · exact .inr (.inr h)
  · obtain ⟨b, h1, h2, h3⟩ := hw.live id bk h
    refine ⟨b, h1, fun hb => ?_, h3.ext ext (hsame b h3.lt)⟩
    rcases hg.immo b hb with h | h | h
    · exact h2 h
    · exact alone_live h
    · exact absurd h3.lt (by simp only [Ctx.alone] at h; omega)
def Ctx.cut (X : Ctx) (base : Nat) : Ctx := ⟨X.lnk, X.B.take base, fun b => X.I b ∨ ∃ (id : Nat) (bk : Blk), base ≤ id ∧ X.m.bs[id]? = some (some bk) ∧ X.B[id]? = some b, ⟨X.m.bs.take base, X.m.gen⟩, X.H⟩
theorem cut_bs {base id : Nat} {q : Option Blk} (h : (X.m.bs.take base)[id]? = some q) : id < base ∧ X.m.bs[id]? = some q := by
  rw [List.getElem?_take] at h
  split at h
  · exact ⟨by assumption, h⟩
  · cases h
theorem cut_cells {base id st : Nat} {cs : List V} (h : (X.cut base).m.cells id st = some cs) : id < base ∧ X.m.cells id st = some cs := by
  unfold Mem.cells at h ⊢
  simp only [Ctx.cut] at h
  split at h
  · rename_i s cs' hb
    obtain ⟨h1, h2⟩ := cut_bs hb
    rw [h2]; exact ⟨h1, h⟩
  · cases h
theorem cut_map {base id st : Nat} {es : List (V × V)} (h : (X.cut base).m.map id st = some es) : id < base ∧ X.m.map id st = some es := by
  unfold Mem.map at h ⊢
  simp only [Ctx.cut] at h
  split at h
  · rename_i s cs' hb
    obtain ⟨h1, h2⟩ := cut_bs hb
    rw [h2]; exact ⟨h1, h⟩
  · cases h
theorem goes_cut (hw : WR X) (base : Nat) : Goes X (X.cut base) ∧ WR (X.cut base) := by
  have hB : ∀ id, id < base → (X.B.take base)[id]? = X.B[id]? := fun id h => by rw [List.getElem?_take, if_pos h]
  have ext : Ext X (X.cut base) := by
    refine ⟨rfl, Nat.le_refl _, fun b hb => ⟨.inl hb, rfl⟩, fun id st cs' _ hc => ?_, fun id st es' _ he => ?_⟩
    · obtain ⟨h1, h2⟩ := cut_cells hc
      exact ⟨cs', h2, rfl, hB id h1, fun b c e hb hh => ⟨c, e, hh, rfl⟩⟩
    · obtain ⟨h1, h2⟩ := cut_map he
      exact ⟨es', h2, hB id h1⟩
  have hlive : ∀ b, Live (X.cut base) b → ∃ (id : Nat) (bk : Blk), id < base ∧ X.m.bs[id]? = some (some bk) ∧ X.B[id]? = some b := by
    rintro b ⟨id, bk, h1, h2⟩
    obtain ⟨h3, h4⟩ := cut_bs h1
    exact ⟨id, bk, h3, h4, by rw [← hB id h3]; exact h2⟩
  refine ⟨⟨ext, Nat.le_refl _, fun _ _ _ => rfl, fun b hb => ?_, fun b hb => ?_⟩, ⟨by simp [Ctx.cut, hw.len], fun b hb => ?_, fun id bk h => ?_, fun i j bi bj b h1 h2 h3 h4 => ?_⟩⟩
  · obtain ⟨id, bk, _, h1, h2⟩ := hlive b hb
    exact .inl ⟨id, bk, h1, h2⟩
  · rcases hb with h | ⟨id, bk, _, h1, h2⟩
    · exact .inl h
    · exact .inr (.inl ⟨id, bk, h1, h2⟩)
  · rcases hb with h | ⟨id, bk, _, h1, h2⟩
    · exact hw.imm b h
    · exact hw.live_lt ⟨id, bk, h1, h2⟩
  · obtain ⟨h1, h2⟩ := cut_bs h
    obtain ⟨b, h3, h4, h5⟩ := hw.live id bk h2
    refine ⟨b, (hB id h1).trans h3, fun hb => ?_, h5.ext ext rfl⟩
    rcases hb with hb | ⟨id', bk', g1, g2, g3⟩
    · exact h4 hb
    · have := hw.inj id id' bk bk' b h2 g2 h3 g3
      omega
  · obtain ⟨k1, k2⟩ := cut_bs h1
    obtain ⟨k3, k4⟩ := cut_bs h2
    exact hw.inj i j bi bj b k2 k4 ((hB i k1).symm.trans h3) ((hB j k3).symm.trans h4)
theorem frz_spec (hw : WR X) (base : Nat) : ∀ (n : Nat) (v u : V), frz X.m base n v = some u → (base = 0 → Clean u) ∧ ∀ c, VR X v c → VR (X.cut base) u c
  | 0, v, u, h => by simp [frz] at h
  | n + 1, v, u, h => by
    have ext := (goes_cut hw base).1.toExt
    have imm : ∀ {id st : Nat} {cs : List V} {b : Nat}, base ≤ id → X.m.cells id st = some cs → X.B[id]? = some b → (X.cut base).I b := by
      intro id st cs b hb hc hB
      unfold Mem.cells at hc
      split at hc
      · rename_i s cs' hbs
        exact .inr ⟨id, _, hb, hbs, hB⟩
      · cases hc
    unfold frz at h
    split at h
    · cases h
    · cases h; exact ⟨fun _ => .bool _, fun c h => h.ext ext⟩
    · cases h; exact ⟨fun _ => .int _ _, fun c h => h.ext ext⟩
    · cases h; exact ⟨fun _ => .str _, fun c h => h.ext ext⟩
    · cases h; exact ⟨fun _ => .nilp, fun c h => h.ext ext⟩
    · rename_i id st off
      split at h
      · rename_i hlt
        cases h
        exact ⟨fun h0 => by omega, fun c h => h.ext ext⟩
      · rename_i hge
        cases hcs : X.m.cells id st with
        | none => simp [hcs] at h
        | some cs =>
          cases hc : allM (frz X.m base n) cs with
          | none => simp [hcs, hc] at h
          | some cs' =>
            simp only [hcs, hc, Option.bind_some, Option.some.injEq] at h
            subst h
            refine ⟨fun h0 => .iptr _ _ fun j c hj => ?_, fun c hr => ?_⟩
            · obtain ⟨x, h1, h2⟩ := allM_back hc hj
              exact (frz_spec hw base n x c h2).1 h0
            · obtain ⟨b, cc, e, rfl, g1, g2, g3, g4, hrow⟩ := ptr_row hw hr hcs
              have hrow' : Row (X.cut base) b 0 cs' (fun j => cc.getD j default) := by
                refine ⟨fun j c hj => ?_, fun j c hj => ?_, fun j c hj => ?_⟩
                all_goals obtain ⟨x, h1, h2⟩ := allM_back hc hj
                · exact hrow.cell j x h1
                · exact hrow.one j x h1
                · exact (frz_spec hw base n x c h2).2 _ (hrow.rel j x h1)
              have := hrow'.iptr (imm (by omega) hcs g1) off
              rwa [Nat.zero_add] at this
    · rename_i id st sz off len ex
      split at h
      · rename_i hlt
        cases h
        exact ⟨fun h0 => by omega, fun c h => h.ext ext⟩
      · rename_i hge
        cases hcs : X.m.cells id st with
        | none => simp [hcs] at h
        | some cs =>
          simp only [hcs, Option.bind_some] at h
          split at h
          case isFalse => cases h
          rename_i hle
          cases hc : allM (allM (frz X.m base n)) (chunks sz len (cs.drop off)) with
          | none => simp [hc] at h
          | some es' =>
            simp only [hc, Option.bind_some, Option.some.injEq] at h
            subst h
            refine ⟨fun h0 => .sl _ _ fun i j e c hi hj => ?_, fun c hr => ?_⟩
            · obtain ⟨x, h1, h2⟩ := allM_back hc hi
              obtain ⟨y, h3, h4⟩ := allM_back h2 hj
              exact (frz_spec hw base n y c h4).1 h0
            · obtain ⟨b, cc, e, cap, ad, rfl, g1, g2, g3, g4, hrow, g5, g6, g7, g8, g9, g10⟩ := msl_row hw hr hcs
              obtain ⟨hl, _⟩ := allM_get hc
              rw [chunks_length] at hl
              by_cases hl0 : len = 0
              · have : es' = [] := List.eq_nil_of_length_eq_zero (by omega)
                subst this
                subst hl0
                exact .sl0 .any _ _ (fun h => by cases h) (fun h => by cases h) (fun h => by cases h) (fun h => by cases h)
              · have had : ad = ⟨b, off, none⟩ := g10.resolve_left (by omega)
                subst had
                have hr2 := hrow.drop off
                rw [Nat.zero_add] at hr2
                have hget : ∀ (i j : Nat) e' c, es'[i]? = some e' → e'[j]? = some c → ∃ y, (cs.drop off)[i * sz + j]? = some y ∧ frz X.m base n y = some c := by
                  intro i j e' c hi hj
                  obtain ⟨x, h1, h2⟩ := allM_back hc hi
                  obtain ⟨y, h3, h4⟩ := allM_back h2 hj
                  obtain ⟨_, rfl⟩ := chunks_get _ _ _ _ h1
                  refine ⟨y, ?_, h4⟩
                  rw [List.getElem?_take] at h3
                  split at h3
                  · rwa [List.getElem?_drop] at h3
                  · cases h3
                refine .sl1 .any es' len ⟨b, off, none⟩ cap sz (fun i j => cc.getD (off + (i * sz + j)) default) (by omega) (fun h => hl0 (by rw [hl, h]; rfl)) (imm (by omega) hcs g1) rfl g5 (fun h => by cases h) (by simp [SF.isNil]) (fun e' he => ?_) (fun i j e' c hi hj => ?_) (fun i j e' c hi hj => ?_) fun i j e' c hi hj => ?_
                · obtain ⟨i, hi, rfl⟩ := List.getElem_of_mem he
                  obtain ⟨x, h1, h2⟩ := allM_back hc (List.getElem?_eq_getElem hi)
                  rw [← (allM_get h2).1]
                  exact chunks_fit _ _ (by simp only [List.length_drop]; omega) x (List.mem_of_getElem? h1)
                all_goals obtain ⟨y, h1, h2⟩ := hget i j e' c hi hj
                · rw [Nat.add_assoc]; exact hr2.cell _ y h1
                · exact hr2.one _ y h1
                · exact (frz_spec hw base n y c h2).2 _ (hr2.rel _ y h1)
    · rename_i id st
      split at h
      · cases h
        exact ⟨fun h0 => by omega, fun c h => h.ext ext⟩
      · cases h
    · rename_i cs off
      cases hc : allM (frz X.m base n) cs with
      | none => simp [hc] at h
      | some cs' =>
        simp only [hc, Option.bind_some, Option.some.injEq] at h
        subst h
        refine ⟨fun h0 => .iptr _ _ fun j c hj => ?_, fun c hr => ?_⟩
        · obtain ⟨x, h1, h2⟩ := allM_back hc hj
          exact (frz_spec hw base n x c h2).1 h0
        · cases hr with
          | iptr _ _ a o g k1 k2 k3 k4 k5 k6 =>
            refine .iptr _ off a o g (.inl k1) k2 k3 (fun j c hj => ?_) (fun j c hj => ?_) fun j c hj => ?_
            all_goals obtain ⟨x, h1, h2⟩ := allM_back hc hj
            · exact k4 j x h1
            · exact k5 j x h1
            · exact (frz_spec hw base n x c h2).2 _ (k6 j x h1)
    · rename_i f es
      cases hc : allM (allM (frz X.m base n)) es with
      | none => simp [hc] at h
      | some es' =>
        simp only [hc, Option.bind_some, Option.some.injEq] at h
        subst h
        refine ⟨fun h0 => .sl _ _ fun i j e c hi hj => ?_, fun c hr => ?_⟩
        · obtain ⟨x, h1, h2⟩ := allM_back hc hi
          obtain ⟨y, h3, h4⟩ := allM_back h2 hj
          exact (frz_spec hw base n y c h4).1 h0
        · have hr := hr.any
          cases hr with
          | sl0 _ a cap g1 g2 g3 g4 =>
            simp only [allM, Option.some.injEq] at hc
            subst hc
            exact .sl0 .any a cap g1 g2 g3 g4
          | sl1 _ _ m a cap sz g hn hne hI hsp hcap hex hnil hsz k4 k5 k6 =>
            obtain ⟨hl, hg⟩ := allM_get hc
            refine .sl1 .any es' m a cap sz g (by omega) (fun h => hne (List.eq_nil_of_length_eq_zero (by rw [hl, h]; rfl))) (.inl hI) hsp hcap hex hnil (fun e he => ?_) (fun i j e c hi hj => ?_) (fun i j e c hi hj => ?_) fun i j e c hi hj => ?_
            · obtain ⟨i, hi, rfl⟩ := List.getElem_of_mem he
              obtain ⟨x, h1, h2⟩ := allM_back hc (List.getElem?_eq_getElem hi)
              rw [← (allM_get h2).1]
              exact hsz x (List.mem_of_getElem? h1)
            all_goals
              obtain ⟨x, h1, h2⟩ := allM_back hc hi
              obtain ⟨y, h3, h4⟩ := allM_back h2 hj
            · exact k4 i j x y h1 h3
            · exact k5 i j x y h1 h3
            · exact (frz_spec hw base n y c h4).2 _ (k6 i j x y h1 h3)
    · cases h; exact ⟨fun _ => .nilf, fun c h => h.ext ext⟩
    · rename_i p fs cs
      cases hf : allM (frz X.m base n) fs with
      | none => simp [hf] at h
      | some fs' =>
        cases hc : allM (frz X.m base n) cs with
        | none => simp [hf, hc] at h
        | some cs' =>
          simp only [hf, hc, Option.bind_some, Option.some.injEq] at h
          subst h
          refine ⟨fun h0 => .fn _ _ _ (fun j c hj => ?_) (fun j c hj => ?_), fun c hr => ?_⟩
          · obtain ⟨x, h1, h2⟩ := allM_back hf hj
            exact (frz_spec hw base n x c h2).1 h0
          · obtain ⟨x, h1, h2⟩ := allM_back hc hj
            exact (frz_spec hw base n x c h2).1 h0
          · cases hr with
            | fn _ _ _ vf vc k1 k2 k3 k4 =>
              refine .fn p fs' cs' vf vc (by have := (allM_get hf).1; omega) (by have := (allM_get hc).1; omega) (fun i c v hi hv => ?_) (fun i c v hi hv => ?_)
              · obtain ⟨x, h1, h2⟩ := allM_back hf hi
                exact (frz_spec hw base n x c h2).2 _ (k3 i x v h1 hv)
              · obtain ⟨x, h1, h2⟩ := allM_back hc hi
                exact (frz_spec hw base n x c h2).2 _ (k4 i x v h1 hv)
    · rename_i cs
      cases hc : allM (frz X.m base n) cs with
      | none => simp [hc] at h
      | some cs' =>
        simp only [hc, Option.bind_some, Option.some.injEq] at h
        subst h
        refine ⟨fun h0 => .agg _ fun j c hj => ?_, fun c hr => ?_⟩
        · obtain ⟨x, h1, h2⟩ := allM_back hc hj
          exact (frz_spec hw base n x c h2).1 h0
        · cases hr with
          | agg _ vs k1 k2 k3 =>
            refine .agg cs' vs (by have := (allM_get hc).1; omega) k2 fun i c v hi hv => ?_
            obtain ⟨x, h1, h2⟩ := allM_back hc hi
            exact (frz_spec hw base n x c h2).2 _ (k3 i x v h1 hv)
    · rename_i cs
      cases hc : allM (frz X.m base n) cs with
      | none => simp [hc] at h
      | some cs' =>
        simp only [hc, Option.bind_some, Option.some.injEq] at h
        subst h
        refine ⟨fun h0 => .tup _ fun j c hj => ?_, fun c hr => ?_⟩
        · obtain ⟨x, h1, h2⟩ := allM_back hc hj
          exact (frz_spec hw base n x c h2).1 h0
        · cases hr with
          | tup _ vs k1 k3 =>
            refine .tup cs' vs (by have := (allM_get hc).1; omega) fun i c v hi hv => ?_
            obtain ⟨x, h1, h2⟩ := allM_back hc hi
            exact (frz_spec hw base n x c h2).2 _ (k3 i x v h1 hv)
end Go.Rx
