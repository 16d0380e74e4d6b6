/-
GoodsRests answers true at every input: the given card, without any condition.
-/
import Derived.Test.YtfnioapgelabfaaGreatDoorRxCard29d
import Derived.Test.YtfnioapgelabfaaGreatDoorRxKF
set_option linter.unusedVariables false
set_option linter.unusedSimpArgs false
namespace Go.Proofs.YtfnioapgelabfaaGreatDoor.rests
open Go.Rx

set_option maxRecDepth 100000
theorem tys_are : tysOf Tryz.prog Tryz.f3.params.toList = some [Api.Realm.ty, Api.State.ty, Api.Me.ty, Api.Deed.ty, Api.Lab.ty] := by kernel_rfl
theorem law : Law := fun vs h => by
  have e : tys = [Api.Realm.ty, Api.State.ty, Api.Me.ty, Api.Deed.ty, Api.Lab.ty] := by
    have := tys_eq.symm.trans tys_are
    exact Option.some.inj this
  rw [e] at h
  exact Api.goodsRests_law vs h
theorem proved : Rows.GoodsRestsCardSaid := card law
end Go.Proofs.YtfnioapgelabfaaGreatDoor.rests
