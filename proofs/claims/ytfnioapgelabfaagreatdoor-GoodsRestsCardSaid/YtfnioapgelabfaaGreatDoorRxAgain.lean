/-
A part of the proof: lemmas on the machine that the printed functions run on, or contracts of functions.
-/
import Derived.Test.YtfnioapgelabfaaGreatDoorRxArgs
import Derived.ReadAgain
import Derived.RowKit3
import Derived.ChangeSame
import Derived.RowKit
set_option linter.unusedVariables false
set_option linter.unusedSimpArgs false
namespace Go.Rx
variable {H : Type} {enc : TypeId × Value → H} {P : Program} {w w' : World} {sp : Nat → Bool} {held : Bool}
theorem cells_again (hc : ∀ a v, w.cell? a = some v → w'.cell? a = some v) {base n : Nat} {a : Addr} {cs : List Value} (h : w.cells? base a n = some cs) : w'.cells? base a n = some cs := by
  unfold World.cells? at h ⊢
  split at h
  · rename_i hb
    rw [if_pos hb]
    exact mapM_carry h fun i y _ _ hy => hc _ _ hy
  · cases h
theorem fields_ty {d : Nat} : ∀ {fs : List Field} {us : List Ty}, fs.foldr (fun f acc => acc.bind fun (ts : List Ty) => (tyOf P d f.type).bind fun u => some (u :: ts)) (some []) = some us → ∀ f ∈ fs, ∃ u, tyOf P d f.type = some u
  | [], us, _, f, hf => by simp at hf
  | g :: fs, us, h, f, hf => by
    simp only [List.foldr_cons] at h
    cases hr : fs.foldr (fun f acc => acc.bind fun (ts : List Ty) => (tyOf P d f.type).bind fun u => some (u :: ts)) (some []) with
    | none => simp only [hr, Option.bind_none, reduceCtorEq] at h
    | some ts =>
      cases hu : tyOf P d g.type with
      | none => simp only [hr, hu, Option.bind_some, Option.bind_none, reduceCtorEq] at h
      | some u =>
        rcases List.mem_cons.1 hf with rfl | hf
        · exact ⟨u, hu⟩
        · exact fields_ty hr f hf
theorem trod_again (hc : ∀ a v, w.cell? a = some v → w'.cell? a = some v) : ∀ (fuel d : Nat) (t : TypeId) (ty : Ty) (cs : List Value) (x : DataW H × List MemPlace), tyOf P d t = some ty → DataW.trod enc P w 0 (fun _ => true) held fuel t cs = some x →
    (∀ p ∈ x.2, sp p.block = true) → DataW.trod enc P w' 0 sp held fuel t cs = some x
  | 0, d, t, ty, cs, x, _, h, _ => by simp [DataW.trod] at h
  | fuel + 1, 0, t, ty, cs, x, ht, _, _ => by simp [tyOf] at ht
  | fuel + 1, d + 1, t, ty, cs, x, ht, h, hs => by
    have ih := trod_again hc fuel d
    unfold tyOf at ht
    unfold DataW.trod at h ⊢
    cases hu : P.underlying t with
    | none => simp [hu] at ht
    | some desc =>
      cases desc <;> simp only [hu, reduceCtorEq, Option.some.injEq] at ht
      case bool =>
        simp only [hu] at h ⊢
        split at h <;> first | (cases h; done) | (rename_i heq; cases heq; done) | exact h
      case int k =>
        simp only [hu] at h ⊢
        split at h <;> first | (cases h; done) | (rename_i heq; cases heq; done) | exact h
      case string =>
        simp only [hu] at h ⊢
        split at h <;> first | (cases h; done) | (rename_i heq; cases heq; done) | exact h
      case slice e =>
        cases he : tyOf P d e with
        | none => simp [he] at ht
        | some u =>
          simp only [he, Option.bind_some] at ht
          split at ht
          case isFalse => cases ht
          rename_i hcnd
          simp only [Bool.and_eq_true, decide_eq_true_eq, beq_iff_eq] at hcnd
          obtain ⟨hpos, hsz⟩ := hcnd
          simp only [hu] at h ⊢
          split at h <;> first | (cases h; done) | (rename_i heq; cases heq; done) | skip
          · exact h
          · rename_i e' a len cap heq
            cases heq
            split at h
            case isFalse => cases h
            rename_i hcond
            rw [if_pos hcond]
            simp only [Option.map_eq_some_iff, Option.bind_eq_some_iff] at h ⊢
            obtain ⟨elems, hel, rest, hrest, rfl⟩ := h
            have one : ∀ (i : Nat) (y : DataW H × List MemPlace), y ∈ elems ++ rest → (∃ cs', w.cells? 0 (a.add (i * P.cellsOf e)) (P.cellsOf e) = some cs' ∧ DataW.trod enc P w 0 (fun _ => true) held fuel e cs' = some y) →
                (w'.cells? 0 (a.add (i * P.cellsOf e)) (P.cellsOf e)).bind (DataW.trod enc P w' 0 sp held fuel e) = some y := by
              intro i y hy ⟨cs', hc', hy'⟩
              rw [cells_again hc hc', Option.bind_some]
              refine ih e u cs' y he hy' fun p hp => hs p ?_
              simp only [List.mem_append, List.mem_flatMap]
              exact .inr ⟨y, by simpa using hy, hp⟩
            refine ⟨elems, mapM_carry hel fun i y _ hy hv => one i y (by simp [hy]) (by simpa [Option.bind_eq_some_iff] using hv), rest, ?_, rfl⟩
            simp only [if_true] at hrest
            have hrl : rest.length = cap - len := by simpa using mapM_some_length hrest
            have hcar := mapM_carry hrest (g := fun j => (w'.cells? 0 (a.add ((len + j) * P.cellsOf e)) (P.cellsOf e)).bind (DataW.trod enc P w' 0 sp held fuel e)) fun j y _ hy hv => one (len + j) y (by simp [hy]) (by simpa [Option.bind_eq_some_iff] using hv)
            by_cases h0 : cap - len = 0
            · have hr0 : rest = [] := List.eq_nil_of_length_eq_zero (by omega)
              subst hr0
              split
              · rw [h0]; rfl
              · rfl
            · have hsp : sp a.block = true := hs (.cell a.block a.off) (by
                simp only [List.mem_append]
                left
                refine MemPlace.mem_row.2 ⟨0, Nat.mul_pos (by omega) (by omega), rfl⟩)
              rw [if_pos hsp]
              exact hcar
      case struct fs =>
        cases hf : (fs.toList.foldr (fun f acc => acc.bind fun (ts : List Ty) => (tyOf P d f.type).bind fun u => some (u :: ts)) (some [])) with
        | none => simp only [hf, Option.bind_none, reduceCtorEq] at ht
        | some us =>
          simp only [hu] at h ⊢
          split at h
          case isFalse => cases h
          rename_i hcl
          rw [if_pos hcl]
          simp only [Option.map_eq_some_iff] at h ⊢
          obtain ⟨xs, hm, rfl⟩ := h
          refine ⟨xs, mapM_carry hm fun f y hfm hy hv => ?_, rfl⟩
          obtain ⟨u, hu'⟩ := fields_ty hf f hfm
          exact ih f.type u _ y hu' hv fun p hp => hs p (List.mem_flatMap.2 ⟨y, hy, hp⟩)
      case array n e =>
        cases he : tyOf P d e with
        | none => simp [he] at ht
        | some u =>
          simp only [hu] at h ⊢
          split at h
          case isFalse => cases h
          rename_i hcl
          rw [if_pos hcl]
          simp only [Option.map_eq_some_iff] at h ⊢
          obtain ⟨xs, hm, rfl⟩ := h
          exact ⟨xs, mapM_carry hm fun i y _ hy hv => ih e u _ y he hv fun p hp => hs p (List.mem_flatMap.2 ⟨y, hy, hp⟩), rfl⟩
end Go.Rx
