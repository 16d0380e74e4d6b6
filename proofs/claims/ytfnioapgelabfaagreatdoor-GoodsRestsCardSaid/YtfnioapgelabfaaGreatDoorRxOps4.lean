/-
A part of the proof: lemmas on the machine that the printed functions run on, or contracts of functions.
-/
import Derived.Test.YtfnioapgelabfaaGreatDoorRxEq
set_option linter.unusedVariables false
set_option linter.unusedSimpArgs false
namespace Go.Rx
variable {P : Program} {X : Ctx} {T : Tm} {a : Act} {w : World} {o : Oper} {call : CallF} {v : V} {m' : Mem}
theorem ok_ixsl (hw : WR X) (hH : X.H = w.heap) (ht : TR X T a.tmps) {sz : Nat} {x i : Opd} {c d : Operand} {t e : TypeId} (ho : o.op = .indexAddr t c d) (hu : P.underlying t = some (.slice e)) (hsz : sizeIs P e sz = true)
    (hc : chkOpd X.lnk x c = true) (hd : chkOpd X.lnk i d = true) (hs : stepOp call T X.m (.ixsl sz x i) = some (v, m')) : OpOK P o a w X v m' := by
  have h1 := get_VR hc ht
  have h2 := get_VR hd ht
  simp only [stepOp] at hs
  generalize hce : a.eval c = ce at h1
  generalize hde : a.eval d = de at h2
  split at hs
  case h_2 => cases hs
  rename_i k j hi
  rw [hi] at h2
  cases h2
  split at hs
  case isFalse => cases hs
  rename_i h0
  have hrun : ∀ (ad : Addr) (n cap : Nat), ce = .slice (some ad) n cap → j.toNat < n → (execOp a.eval o).run P w = .ok (.value (.pointer (some (ad.add (j.toNat * sz))))) w := by
    intro ad n cap hcv hlt
    subst hcv
    have hj : 0 ≤ j ∧ j < (n : Int) := ⟨h0, by omega⟩
    simp [execOp, ho, hce, hde, Instr.indexAt, run_underlying hu, asIntOf, hj, run_sizeOf' hsz]
  split at hs
  · rename_i f es hx
    rw [hx] at h1
    split at hs
    case isFalse => cases hs
    rename_i hfit
    have hfit := fitSz_spec hfit
    cases he : es[j.toNat]? with
    | none => simp [he] at hs
    | some el =>
      simp only [he, Option.bind_some, Option.some.injEq, Prod.mk.injEq] at hs
      obtain ⟨rfl, rfl⟩ := hs
      have hlt := lt_of_getElem? he
      have hne : es ≠ [] := by rintro rfl; simp at hlt
      cases h1 with
      | sl0 => exact absurd rfl hne
      | sl1 _ _ n ad cap sz' g hn _ hI hsp hcap hex hnil hszz hcc h1c hrr =>
        have hz := fit_eq hne hfit hszz
        subst hz
        obtain ⟨ab, ao, asp⟩ := ad
        simp only at hsp hI hcc
        subst hsp
        refine OpOK.same (w' := w) hw hH (.refl w) (hrun _ n cap rfl (by omega)) ?_
        rw [add_none]
        have hrow : Row X ab (ao + j.toNat * sz) el (g j.toNat) := ⟨fun q c hq => hcc _ _ el c he hq, fun q c hq => h1c _ _ el c he hq, fun q c hq => hrr _ _ el c he hq⟩
        exact hrow.iptr hI 0
  · rename_i id st sz' off len ex hx
    rw [hx] at h1
    split at hs
    case isFalse => cases hs
    rename_i hle
    obtain ⟨rfl, hlt⟩ := hle
    simp only [Option.some.injEq, Prod.mk.injEq] at hs
    obtain ⟨rfl, rfl⟩ := hs
    cases h1 with
    | msl _ _ _ _ _ _ ad cap hs hlen hex h =>
      refine OpOK.same (w' := w) hw hH (.refl w) (hrun _ len cap rfl hlt) (.ptr _ _ _ _ hs fun cs hcs => ?_)
      obtain ⟨k1, k2, b, cc, e', k3, k4, k5, k6⟩ := h cs hcs
      rcases k6 with k6 | ⟨g1, g2, g3⟩
      · omega
      · obtain ⟨ab, ao, asp⟩ := ad
        simp only at g1 g2 g3
        subst g1; subst g2; subst g3
        rw [add_none]
        exact ⟨k3, rfl, rfl⟩
  · cases hs
theorem ok_ixarr (hw : WR X) (hH : X.H = w.heap) (ht : TR X T a.tmps) {n sz : Nat} {x i : Opd} {c d : Operand} {t e : TypeId} (ho : o.op = .indexAddr t c d) (hu : P.underlying t = some (.array n e)) (hsz : sizeIs P e sz = true)
    (hc : chkOpd X.lnk x c = true) (hd : chkOpd X.lnk i d = true) (hs : stepOp call T X.m (.ixarr n sz x i) = some (v, m')) : OpOK P o a w X v m' := by
  have h1 := get_VR hc ht
  have h2 := get_VR hd ht
  simp only [stepOp] at hs
  generalize hce : a.eval c = ce at h1
  generalize hde : a.eval d = de at h2
  split at hs
  case h_2 => cases hs
  rename_i k j hi
  rw [hi] at h2
  cases h2
  split at hs
  case isFalse => cases hs
  rename_i h0
  have hrun : ∀ (ad : Addr), ce = .pointer (some ad) → (execOp a.eval o).run P w = .ok (.value (.pointer (some (ad.add (j.toNat * sz))))) w := by
    intro ad hcv
    subst hcv
    simp [execOp, ho, hce, hde, Instr.indexAt, run_underlying hu, asIntOf, h0, run_sizeOf' hsz, Instr.sureAddr]
  split at hs
  · rename_i id st off hx
    rw [hx] at h1
    simp only [Option.some.injEq, Prod.mk.injEq] at hs
    obtain ⟨rfl, rfl⟩ := hs
    cases h1 with
    | ptr _ _ _ ad g1 g2 =>
      refine OpOK.same (w' := w) hw hH (.refl w) (hrun _ rfl) (.ptr _ _ _ _ g1 fun cs hcs => ?_)
      obtain ⟨k1, k2, k3⟩ := g2 cs hcs
      obtain ⟨ab, ao, asp⟩ := ad
      subst k2; subst k3
      rw [add_none]
      exact ⟨k1, rfl, rfl⟩
  · rename_i cs off hx
    rw [hx] at h1
    simp only [Option.some.injEq, Prod.mk.injEq] at hs
    obtain ⟨rfl, rfl⟩ := hs
    obtain ⟨b, oo, g, rfl, hI, hrow⟩ := iptr_row h1
    refine OpOK.same (w' := w) hw hH (.refl w) (hrun _ rfl) ?_
    rw [add_none, Nat.add_assoc]
    exact hrow.iptr hI _
  · cases hs
theorem ok_ixstr (hw : WR X) (hH : X.H = w.heap) (ht : TR X T a.tmps) {x i : Opd} {c d : Operand} {t : TypeId} (ho : o.op = .index t c d) (hu : P.underlying t = some .string)
    (hc : chkOpd X.lnk x c = true) (hd : chkOpd X.lnk i d = true) (hs : stepOp call T X.m (.ixstr x i) = some (v, m')) : OpOK P o a w X v m' := by
  have h1 := get_VR hc ht
  have h2 := get_VR hd ht
  simp only [stepOp] at hs
  generalize hce : a.eval c = ce at h1
  generalize hde : a.eval d = de at h2
  split at hs
  case h_2 => cases hs
  rename_i s k j hx hi
  rw [hx] at h1
  rw [hi] at h2
  cases h1; cases h2
  split at hs
  case isFalse => cases hs
  rename_i h0
  cases hb : s.data.toList[j.toNat]? with
  | none => simp [hb] at hs
  | some b =>
    simp only [hb, Option.bind_some, Option.some.injEq, Prod.mk.injEq] at hs
    obtain ⟨rfl, rfl⟩ := hs
    have hlt := lt_of_getElem? hb
    have hsb : s[j.toNat]? = some b := by
      have hl : j.toNat < s.size := by simpa using hlt
      rw [getElem?_pos s j.toNat hl]
      have : s.data.toList[j.toNat] = b := by
        have := List.getElem?_eq_getElem hlt
        rw [hb] at this; exact (Option.some.inj this).symm
      rw [← this]; rfl
    refine OpOK.same (cv := .int .u8 b.toNat) (w' := w) hw hH (.refl w) ?_ (.int _ _)
    simp [execOp, ho, hce, hde, Instr.index, run_underlying hu, asIntOf, h0, hsb]
theorem ok_ixagg (hw : WR X) (hH : X.H = w.heap) (ht : TR X T a.tmps) {ag : Bool} {n sz : Nat} {x i : Opd} {c d : Operand} {t e : TypeId} (ho : o.op = .index t c d) (hu : P.underlying t = some (.array n e)) (hag : aggIs P e ag = true) (hsz : sizeIs P e sz = true)
    (hc : chkOpd X.lnk x c = true) (hd : chkOpd X.lnk i d = true) (hs : stepOp call T X.m (.ixagg ag n sz x i) = some (v, m')) : OpOK P o a w X v m' := by
  have h1 := get_VR hc ht
  have h2 := get_VR hd ht
  simp only [stepOp] at hs
  generalize hce : a.eval c = ce at h1
  generalize hde : a.eval d = de at h2
  split at hs
  case h_2 => cases hs
  rename_i cs k j hx hi
  rw [hx] at h1
  rw [hi] at h2
  cases h2
  split at hs
  case isFalse => cases hs
  rename_i h0
  cases hp : part ag sz cs (j.toNat * sz) with
  | none => simp [hp] at hs
  | some u =>
    simp only [hp, Option.bind_some, Option.some.injEq, Prod.mk.injEq] at hs
    obtain ⟨rfl, rfl⟩ := hs
    obtain ⟨vs, cv, rfl, hr, hv⟩ := part_VR (w := w) hag hsz h1 hp
    exact OpOK.same (w' := w) hw hH (.refl w) (by simp [execOp, ho, hce, hde, Instr.index, run_underlying hu, asIntOf, h0, run_sizeOf' hsz, hr]) hv
theorem ok_slarr (hw : WR X) (hH : X.H = w.heap) (ht : TR X T a.tmps) {n sz : Nat} {x : Opd} {lo hi : Option Opd} {c : Operand} {cl ch : Option Operand} {t e : TypeId} (ho : o.op = .slice t c cl ch none) (hu : P.underlying t = some (.array n e)) (hsz : sizeIs P e sz = true)
    (hc : chkOpd X.lnk x c = true) (hl : chkOO X.lnk lo cl = true) (hh : chkOO X.lnk hi ch = true) (hs : stepOp call T X.m (.slarr n sz x lo hi none) = some (v, m')) : OpOK P o a w X v m' := by
  have h1 := get_VR hc ht
  have rl := opt_VR ht hl
  have rh := opt_VR ht hh
  simp only [stepOp, sliceArr] at hs
  generalize hce : a.eval c = ce at h1
  split at hs
  · rename_i cs off hx
    rw [hx] at h1
    cases hlo : low (lo.map (·.get T)) with
    | none => simp [hlo] at hs
    | some l =>
      cases hhi : bound n (hi.map (·.get T)) with
      | none => simp [hlo, hhi] at hs
      | some h =>
        simp only [hlo, hhi, Option.map_none, Option.isSome_none, Bool.false_eq_true, if_false, Option.bind_some] at hs
        split at hs
        · rename_i hle
          obtain ⟨hle1, hle2, hle3⟩ := hle
          simp only [Option.bind_some, Option.some.injEq, Prod.mk.injEq] at hs
          obtain ⟨rfl, rfl⟩ := hs
          obtain ⟨b, oo, g, rfl, hI, hrow⟩ := iptr_row h1
          have hb := run_bounds2 (P := P) (w := w) (isS := false) (cap := n) hlo hhi rl rh hle1 hle2
          have hrun : (execOp a.eval o).run P w = .ok (.value (.slice (some (if n = l then (⟨b, oo + off, none⟩ : Addr) else (⟨b, oo + off, none⟩ : Addr).add (l * sz))) (h - l) (n - l))) w := by
            simp [execOp, ho, hce, Instr.sliceAt, run_underlying hu, Instr.sureAddr, hb, run_sizeOf' hsz]
          refine OpOK.same (w' := w) hw hH (.refl w) hrun ?_
          have hex : (SF.cut .nn (h == n)).exact = true → n - l = h - l := fun he => by
            rcases cut_exact he with hb | hb
            · simp only [beq_iff_eq] at hb; omega
            · cases hb
          have hnil : (SF.cut .nn (h == n)).isNil = some false := by cases (h == n) <;> rfl
          by_cases hlh : h - l = 0
          · rw [hlh, List.take_zero]
            exact .sl0 _ _ _ (fun he => by have := hex he; omega) (fun hn => by rw [hnil] at hn; cases hn) (fun _ => by simp) (fun h => by split at h <;> cases h)
          · rw [if_neg (by omega), add_none]
            have hr2 := (hrow.drop off).drop (l * sz)
            have hle4 : h * sz ≤ n * sz := Nat.mul_le_mul_right _ hle2
            have e1 : (h - l) * sz = h * sz - l * sz := Nat.sub_mul _ _ _
            have key := hr2.sl hI sz (h - l) (n - l) (by simp only [List.length_drop]; omega) (by omega) (SF.cut .nn (h == n)) hex (by rw [hnil]; simp)
            have e2 : chunks sz (h - l) ((cs.drop off).drop (l * sz)) = ((chunks sz n (cs.drop off)).drop l).take (h - l) := by
              apply List.ext_getElem?
              intro i
              rw [List.getElem?_take, List.getElem?_drop]
              by_cases hi : i < h - l
              · rw [if_pos hi]
                have a1 : i < (chunks sz (h - l) ((cs.drop off).drop (l * sz))).length := by rw [chunks_length]; exact hi
                have a2 : l + i < (chunks sz n (cs.drop off)).length := by rw [chunks_length]; omega
                rw [List.getElem?_eq_getElem a1, List.getElem?_eq_getElem a2]
                obtain ⟨_, b1⟩ := chunks_get _ _ _ _ (List.getElem?_eq_getElem a1)
                obtain ⟨_, b2⟩ := chunks_get _ _ _ _ (List.getElem?_eq_getElem a2)
                rw [b1, b2, List.drop_drop, Nat.add_mul]
              · rw [if_neg hi, List.getElem?_eq_none (by rw [chunks_length]; omega)]
            rw [e2] at key
            exact key
        · cases hs
  · rename_i id st off hx
    rw [hx] at h1
    cases hlo : low (lo.map (·.get T)) with
    | none => simp [hlo] at hs
    | some l =>
      cases hhi : bound n (hi.map (·.get T)) with
      | none => simp [hlo, hhi] at hs
      | some h =>
        cases hcs : X.m.cells id st with
        | none => simp [hlo, hhi, hcs] at hs
        | some cs =>
          simp only [hlo, hhi, hcs, Option.map_none, Option.isSome_none, Bool.false_eq_true, if_false, Option.bind_some] at hs
          split at hs
          · rename_i hle
            obtain ⟨hle1, hle2, hle3⟩ := hle
            simp only [Option.bind_some, Option.some.injEq, Prod.mk.injEq] at hs
            obtain ⟨rfl, rfl⟩ := hs
            subst hle2
            have hst : st < X.m.gen := by cases h1; assumption
            obtain ⟨b, cc, e', rfl, g1, g2, g3, g4, hrow⟩ := ptr_row hw h1 hcs
            have hb := run_bounds2 (P := P) (w := w) (isS := false) (cap := h) hlo hhi rl rh hle1 (Nat.le_refl _)
            have hrun : (execOp a.eval o).run P w = .ok (.value (.slice (some (if h = l then (⟨b, off, none⟩ : Addr) else (⟨b, off, none⟩ : Addr).add (l * sz))) (h - l) (h - l))) w := by
              simp [execOp, ho, hce, Instr.sliceAt, run_underlying hu, Instr.sureAddr, hb, run_sizeOf' hsz]
            refine OpOK.same (w' := w) hw hH (.refl w) hrun (.msl _ _ _ _ _ _ _ _ hst (Nat.le_refl _) (fun _ => rfl) fun cs' hcs' => ?_)
            rw [hcs] at hcs'; cases hcs'
            have e1 : (h - l) * sz = h * sz - l * sz := Nat.sub_mul _ _ _
            have e2 : l * sz ≤ h * sz := Nat.mul_le_mul_right _ hle1
            refine ⟨by omega, (fun he => by cases he), b, cc, e', g1, g2, by omega, ?_⟩
            by_cases hlh : h = l
            · left; omega
            · right
              rw [if_neg hlh, add_none]
              exact ⟨rfl, rfl, rfl⟩
          · cases hs
  · simp at hs
theorem readBytes_spec : ∀ (es : List (List V)) (acc s : ByteArray), readBytes es acc = some s → ∃ ns : List Int, es = ns.map (fun n => [V.int .u8 n]) ∧ s = ns.foldl (fun r n => r.push (UInt8.ofNat n.toNat)) acc
  | [], acc, s, h => by simp only [readBytes, Option.some.injEq] at h; exact ⟨[], rfl, h.symm⟩
  | e :: es, acc, s, h => by
    unfold readBytes at h
    split at h
    · rename_i e0; cases e0
    · rename_i acc' n es' e0
      cases e0
      obtain ⟨ns, h1, h2⟩ := readBytes_spec es _ s h
      exact ⟨n :: ns, by simp [h1], h2⟩
    · cases h
theorem flatten_one : ∀ (ns : List Int), (List.map (fun n => [V.int IntKind.u8 n]) ns).flatten = ns.map (V.int .u8)
  | [] => rfl
  | n :: ns => by simp [flatten_one ns]
theorem ok_b2s (hw : WR X) (hH : X.H = w.heap) (ht : TR X T a.tmps) {x : Opd} {c : Operand} {t u e : TypeId} (ho : o.op = .convert t u c) (hu : P.underlying t = some (.slice e)) (he : P.underlying e = some (.int .u8)) (hu' : P.underlying u = some .string)
    (hc : chkOpd X.lnk x c = true) (hs : stepOp call T X.m (.b2s x) = some (v, m')) : OpOK P o a w X v m' := by
  have h1 := get_VR hc ht
  simp only [stepOp] at hs
  generalize hce : a.eval c = ce at h1
  generalize hxv : x.get T = xv at hs h1
  split at hs
  · cases hs
  · rename_i hns
    cases hes : elemsOf X.m 1 xv with
    | none => simp [hes] at hs
    | some es =>
      cases hrb : readBytes es .empty with
      | none => simp [hes, hrb] at hs
      | some s =>
        simp only [hes, hrb, Option.bind_some, Option.some.injEq, Prod.mk.injEq] at hs
        obtain ⟨rfl, rfl⟩ := hs
        obtain ⟨ns, rfl, rfl⟩ := readBytes_spec es _ s hrb
        have hfit : fitSz 1 (ns.map (fun n => [V.int .u8 n])) = true := by simp [fitSz]
        obtain ⟨vs, k1, k2, k3, k4, k5⟩ := elems_run (P := P) hw hH h1 hes hfit
        have hvs : vs = ns.map (Value.int .u8) := by
          apply List.ext_getElem?
          intro i
          rw [flatten_one] at k2
          simp only [List.length_map, Nat.mul_one] at k1
          by_cases hi : i < ns.length
          · have hv : vs[i]? = some vs[i] := List.getElem?_eq_getElem (by omega)
            have hn : (ns.map (V.int .u8))[i]? = some (V.int .u8 ns[i]) := by simp [List.getElem?_eq_getElem hi]
            have hr := k2.2 i _ _ hn hv
            rw [hv, List.getElem?_map, List.getElem?_eq_getElem hi]
            generalize vs[i] = q at hr
            cases hr
            rfl
          · rw [List.getElem?_eq_none (by omega), List.getElem?_eq_none (by simp; omega)]
        have hr := k5 _ (Nat.le_refl _) w rfl
        have hsl : ∃ ad n cap, ce = .slice ad n cap ∧ n = ns.length := by
          unfold elemsOf at hes
          split at hes
          · obtain ⟨ad, cap, rfl⟩ := sl_value h1; exact ⟨_, _, _, rfl, by cases hes; simp⟩
          · exact absurd rfl (hns _)
          · rename_i id st sz' off len ex
            split at hes
            case isFalse => cases hes
            cases hcs : X.m.cells id st with
            | none => simp [hcs] at hes
            | some cs =>
              simp only [hcs, Option.bind_some] at hes
              split at hes
              · have hl := congrArg (Option.map List.length) hes
                simp only [Option.map_some, chunks_length, List.length_map, Option.some.injEq] at hl
                cases h1; exact ⟨_, _, _, rfl, hl⟩
              · cases hes
          · cases hes
        obtain ⟨ad, n, cap, rfl, rfl⟩ := hsl
        refine OpOK.same (w' := w) hw hH (.refl w) ?_ (.str _)
        have hconv := Go.run_convert_bytes_string (P := P) w t u e ad ns.length cap hu he hu'
        cases ad with
        | none =>
          have : ns = [] := by
            subst hvs
            simp only [Builtin.firstCells, Sem.run_pure, Result.ok.injEq] at hr
            have := congrArg Array.size hr.1
            simp only [List.length_map, Nat.mul_one, List.size_toArray, List.length_take] at this
            exact List.eq_nil_of_length_eq_zero (by simp at this; omega)
          subst this
          simp only [List.length_nil] at hconv hce
          simp [execOp, ho, hce, hconv, Conv.bytesToString]
        | some ad =>
          have hload : (loadCells ad ns.length).run P w = .ok (ns.map (Value.int .u8)).toArray w := by
            simp only [Builtin.firstCells, List.length_map, Nat.mul_one] at hr
            rw [hr, hvs]
            congr 2
            rw [List.take_of_length_le (by simp)]
          have := Go.run_bytesToString (P := P) w ad ns.length cap ns hload
          simp [execOp, ho, hce, hconv, this]
theorem ok_minmax (hw : WR X) (hH : X.H = w.heap) (ht : TR X T a.tmps) {mx : Bool} {xs : List Opd} {cs : Array Operand} {ts : Array TypeId} (ho : o.op = .call { callee := .builtin (if mx then .max else .min), args := cs, argTypes := ts })
    (hc : chkOpds X.lnk xs cs.toList = true) (hs : stepOp call T X.m (.minmax mx xs) = some (v, m')) : OpOK P o a w X v m' := by
  have h1 := gets_VR ht hc
  simp only [stepOp] at hs
  have key : ∀ (l : List V) (vs : List Value) (x u : V) (xv : Value), VR X x xv → VRs X l vs → minmaxV mx x l = some u →
      ∃ cv, (vs.foldlM (if mx then Builtin.max2 else Builtin.min2) xv).run P w = .ok cv w ∧ VR X u cv := by
    intro l
    induction l with
    | nil =>
      intro vs x u xv hx hl hm
      simp only [minmaxV, Option.some.injEq] at hm
      subst hm
      have : vs = [] := List.eq_nil_of_length_eq_zero (by rw [← hl.1]; rfl)
      subst this
      exact ⟨xv, by simp, hx⟩
    | cons y l ih =>
      intro vs x u xv hx hl hm
      cases vs with
      | nil => simp [VRs] at hl
      | cons yv vs =>
        have hy := hl.2 0 y yv rfl rfl
        have hl' : VRs X l vs := ⟨by have := hl.1; simpa using this, fun i c u hc hu => hl.2 (i + 1) c u (by simpa using hc) (by simpa using hu)⟩
        unfold minmaxV at hm
        split at hm
        · rename_i e; cases e
        · rename_i k i k' j l' e
          cases e
          cases hx; cases hy
          split at hm
          · rename_i hk; subst hk
            obtain ⟨cv, r1, r2⟩ := ih vs _ u _ (.int _ _) hl' hm
            refine ⟨cv, ?_, r2⟩
            rw [List.foldlM_cons, Sem.run_bind]
            cases mx
            · simp only [Bool.false_eq_true, if_false, Builtin.min2, Sem.run_pure, Result.andThen_ok]; simpa using r1
            · simp only [if_true, Builtin.max2, Sem.run_pure, Result.andThen_ok]; simpa using r1
          · cases hm
        · cases hm
  split at hs
  · cases hs
  · rename_i x l hx
    rw [hx] at h1
    cases hm : minmaxV mx x l with
    | none => simp [hm] at hs
    | some u =>
      simp only [hm, Option.bind_some, Option.some.injEq, Prod.mk.injEq] at hs
      obtain ⟨rfl, rfl⟩ := hs
      cases hcs : cs.toList.map a.eval with
      | nil => rw [hcs] at h1; simp [VRs] at h1
      | cons xv vs =>
        rw [hcs] at h1
        have hx0 := h1.2 0 x xv rfl rfl
        have hl' : VRs X l vs := ⟨by have := h1.1; simpa using this, fun i c u hc hu => h1.2 (i + 1) c u (by simpa using hc) (by simpa using hu)⟩
        obtain ⟨cv, r1, r2⟩ := key l vs x _ xv hx0 hl' hm
        refine OpOK.same (w' := w) hw hH (.refl w) ?_ r2
        cases mx
        · simp only [execOp, ho, resolve, invoke, Bool.false_eq_true, if_false, Sem.run_bind, Sem.run_pure, Result.andThen_ok, Go.builtin, Builtin.min_, Array.toList_map, hcs]
          simp only [Bool.false_eq_true, if_false] at r1
          simp [r1]
        · simp only [execOp, ho, resolve, invoke, if_true, Sem.run_bind, Sem.run_pure, Result.andThen_ok, Go.builtin, Builtin.max_, Array.toList_map, hcs]
          simp only [if_true] at r1
          simp [r1]
end Go.Rx
