/-
A part of the proof: lemmas on the machine that the printed functions run on, or contracts of functions.
-/
import Derived.Test.YtfnioapgelabfaaGreatDoorCards
import Derived.Test.YtfnioapgelabfaaGreatDoorTie
import Derived.Test.YtfnioapgelabfaaGreatDoorRxLink
import Derived.Test.YtfnioapgelabfaaGreatDoorRxJoin
import Derived.ProofKit
import Derived.Deep.DeepHandedRow
import Derived.ChangeCalls
import Derived.LaidMore
import Derived.OpenShut
import Derived.Stop.Joined
set_option linter.unusedVariables false
set_option linter.unusedSimpArgs false
namespace Go.Proofs.YtfnioapgelabfaaGreatDoor.rests
open Go.Rx Go.ChangeShapes Go.WideShapes Go.RowKit

theorem own : ownKnob Tryz.prog.godebug = none := by kernel_rfl

noncomputable def tys : List Ty := ((tysOf Tryz.prog Tryz.f3.params.toList).getD [])
theorem tys_eq : tysOf Tryz.prog Tryz.f3.params.toList = some tys := by kernel_rfl

def Law : Prop := ∀ vs, ArgVs tys vs → ∃ n m', callN prog n 1 vs m0 = some (.bool true, m')

set_option maxRecDepth 100000 in
theorem contract (law : Law) (H : Type) (enc : TypeId × Value → H) (W : World) (base : Nat) (args : Array Value) (ds gs : List (DataW H)) (before : List MemPlace)
    (hval : ∀ (j : Nat) t v, Tryz.f3.params[j]? = some t → args[j]? = some v → Value.okWide Tryz.prog W .any base t v)
    (hW : DataW.Whole enc Tryz.prog Tryz.f3.params.toList Rows.goodsRestsSpec.vars false W args.toList ds gs before) :
    Calls Tryz.prog 3 args W fun e W' => ∃ v, e = .returned v ∧ Rows.goodsRestsSpec.post enc Tryz.prog Tryz.f3 false true false false W args v W' := by
  have hgs : gs = [] := by
    obtain ⟨p, q, _, hV, _⟩ := hW
    cases gs with
    | nil => rfl
    | cons _ _ => exact hV.elim
  subst hgs
  have hds : ∃ d1 d2 d3 d4 d5, ds = [d1, d2, d3, d4, d5] := by
    obtain ⟨p, q, hA, _⟩ := hW
    have hl := (trodAll_length hA).2
    have h5 : Tryz.f3.params.toList.length = 5 := by kernel_rfl
    rw [h5] at hl
    match ds, hl with
    | [a, b, c, d, e], _ => exact ⟨a, b, c, d, e, rfl⟩
  obtain ⟨d1, d2, d3, d4, d5, rfl⟩ := hds
  exact law_contract (pid := 1) (tb := 4) carries mixed prog_ok tys_eq law rfl (by kernel_rfl) Tryz.underlying4 rfl hval hW

end Go.Proofs.YtfnioapgelabfaaGreatDoor.rests
