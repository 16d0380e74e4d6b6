/-
A part of the proof: lemmas on the machine that the printed functions run on, or contracts of functions.
-/
import Derived.Test.YtfnioapgelabfaaGreatDoorRxRun
set_option linter.unusedVariables false
set_option linter.unusedSimpArgs false
namespace Go.Rx
theorem bin_rules (k : IntKind) (a b : Int) :
    binOp .add (.int k a) (.int k b) = some (.int k (k.wrap (a + b))) ∧ binOp .sub (.int k a) (.int k b) = some (.int k (k.wrap (a - b))) ∧ binOp .mul (.int k a) (.int k b) = some (.int k (k.wrap (a * b))) ∧
    binOp .quo (.int k a) (.int k b) = (if b = 0 then none else some (.int k (k.wrap (a.tdiv b)))) ∧ binOp .rem (.int k a) (.int k b) = (if b = 0 then none else some (.int k (a.tmod b))) ∧
    binOp .and (.int k a) (.int k b) = some (.int k (k.wrap (BitVec.ofInt k.bits a &&& BitVec.ofInt k.bits b).toNat)) ∧ binOp .or (.int k a) (.int k b) = some (.int k (k.wrap (BitVec.ofInt k.bits a ||| BitVec.ofInt k.bits b).toNat)) ∧
    binOp .xor (.int k a) (.int k b) = some (.int k (k.wrap (BitVec.ofInt k.bits a ^^^ BitVec.ofInt k.bits b).toNat)) ∧ binOp .andNot (.int k a) (.int k b) = some (.int k (k.wrap (BitVec.ofInt k.bits a &&& ~~~(BitVec.ofInt k.bits b)).toNat)) ∧
    binOp .eql (.int k a) (.int k b) = some (.bool (a == b)) ∧ binOp .neq (.int k a) (.int k b) = some (.bool (a != b)) ∧
    binOp .lss (.int k a) (.int k b) = some (.bool (decide (a < b))) ∧ binOp .leq (.int k a) (.int k b) = some (.bool (decide (a ≤ b))) ∧ binOp .gtr (.int k a) (.int k b) = some (.bool (decide (a > b))) ∧ binOp .geq (.int k a) (.int k b) = some (.bool (decide (a ≥ b))) := by
  simp [binOp, arith]
theorem binS_rules (a b : ByteArray) : binOp .eql (.str a) (.str b) = some (.bool (a.toList == b.toList)) ∧ binOp .neq (.str a) (.str b) = some (.bool !(a.toList == b.toList)) ∧
    binOp .add (.str a) (.str b) = (if a.size + b.size ≤ 2 ^ 47 then some (.str (a ++ b)) else none) := ⟨rfl, rfl, rfl⟩
theorem shift_rules (k j : IntKind) (a b : Int) : binOp .shl (.int k a) (.int j b) = (if b < 0 then none else some (.int k (k.wrap (a * 2 ^ (min b.toNat k.bits))))) ∧
    binOp .shr (.int k a) (.int j b) = (if b < 0 then none else some (.int k (a.fdiv (2 ^ (min b.toNat k.bits))))) := ⟨rfl, rfl⟩
theorem fits_rules : (∀ b, (V.bool b).fits = true) ∧ (∀ k n, (V.int k n).fits = true) ∧ (∀ s, (V.str s).fits = true) ∧ V.nilp.fits = true ∧ (∀ a b c, (V.ptr a b c).fits = true) ∧ (∀ a b, (V.iptr a b).fits = true) ∧ (∀ a b, (V.sl a b).fits = true) ∧
    (∀ a b c d e f, (V.msl a b c d e f).fits = true) ∧ V.nilf.fits = true ∧ (∀ a b c, (V.fn a b c).fits = true) ∧ (∀ a, (V.agg a).fits = true) := by
  refine ⟨?_, ?_, ?_, ?_, ?_, ?_, ?_, ?_, ?_, ?_, ?_⟩ <;> intros <;> rfl
theorem cells_rules : (∀ b, (V.bool b).cells = [.bool b]) ∧ (∀ k n, (V.int k n).cells = [.int k n]) ∧ (∀ s, (V.str s).cells = [.str s]) ∧ V.nilp.cells = [.nilp] ∧ (∀ a b c, (V.ptr a b c).cells = [.ptr a b c]) ∧ (∀ a b, (V.iptr a b).cells = [.iptr a b]) ∧ (∀ a b, (V.sl a b).cells = [.sl a b]) ∧
    (∀ a b c d e f, (V.msl a b c d e f).cells = [.msl a b c d e f]) ∧ V.nilf.cells = [.nilf] ∧ (∀ a b c, (V.fn a b c).cells = [.fn a b c]) ∧ (∀ a, (V.agg a).cells = a) := by
  refine ⟨?_, ?_, ?_, ?_, ?_, ?_, ?_, ?_, ?_, ?_, ?_⟩ <;> intros <;> rfl
theorem allM_nil {α β : Type} (f : α → Option β) : allM f [] = some [] := rfl
theorem allM_cons {α β : Type} (f : α → Option β) (x : α) (l : List α) : allM f (x :: l) = (f x).bind fun y => (allM f l).bind fun ys => some (y :: ys) := rfl
theorem start_nil (t : Nat) : start [] t = .tup [] := rfl
theorem start_zero (v : V) (l : List V) : start (v :: l) 0 = v := rfl
theorem start_succ (v : V) (l : List V) (t : Nat) : start (v :: l) (t + 1) = start l t := rfl
theorem resV_one (T : Tm) (m : Mem) (t : Nat) : resV [.tmp t] T m = some (T t) := rfl
end Go.Rx
