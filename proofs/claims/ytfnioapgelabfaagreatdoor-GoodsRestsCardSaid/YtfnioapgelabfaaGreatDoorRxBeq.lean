/-
A part of the proof: lemmas on the machine that the printed functions run on, or contracts of functions.
-/
import Derived.Test.YtfnioapgelabfaaGreatDoorRxText
set_option linter.unusedVariables false
set_option linter.unusedSimpArgs false
namespace Go.Rx
mutual
theorem V.beq_eq : ∀ (a b : V), a.beq b = true → a = b
  | a, b, h => by
    cases a <;> cases b <;> simp only [V.beq, Bool.false_eq_true, Bool.and_eq_true, beq_iff_eq] at h
    case undef.undef => rfl
    case bool.bool => rw [h]
    case int.int => rw [h.1, h.2]
    case str.str s t =>
      have : s = t := by
        obtain ⟨s⟩ := s
        obtain ⟨t⟩ := t
        have h' : (s == t) = true := h
        rw [beq_iff_eq] at h'
        rw [h']
      rw [this]
    case nilp.nilp => rfl
    case ptr.ptr => rw [h.1.1, h.1.2, h.2]
    case iptr.iptr c o d q => rw [beqL_eq c d h.1, h.2]
    case sl.sl f c g d => rw [h.1, beqLL_eq c d h.2]
    case msl.msl => obtain ⟨⟨⟨⟨⟨h1, h2⟩, h3⟩, h4⟩, h5⟩, h6⟩ := h; rw [h1, h2, h3, h4, h5, h6]
    case nilf.nilf => rfl
    case fn.fn p c d q e f => rw [h.1.1, beqL_eq c e h.1.2, beqL_eq d f h.2]
    case agg.agg c d => rw [beqL_eq c d h]
    case tup.tup c d => rw [beqL_eq c d h]
    case mapr.mapr => rw [h.1, h.2]
theorem beqL_eq : ∀ (a b : List V), beqL a b = true → a = b
  | [], [], _ => rfl
  | x :: l, y :: k, h => by
    simp only [beqL, Bool.and_eq_true] at h
    rw [V.beq_eq x y h.1, beqL_eq l k h.2]
  | [], _ :: _, h => by simp [beqL] at h
  | _ :: _, [], h => by simp [beqL] at h
theorem beqLL_eq : ∀ (a b : List (List V)), beqLL a b = true → a = b
  | [], [], _ => rfl
  | x :: l, y :: k, h => by
    simp only [beqLL, Bool.and_eq_true] at h
    rw [beqL_eq x y h.1, beqLL_eq l k h.2]
  | [], _ :: _, h => by simp [beqLL] at h
  | _ :: _, [], h => by simp [beqLL] at h
end
end Go.Rx
