/-
  DERIVED. GIVEN WITH THE SEED: THE CARDS: each row of YtfnioapgelabfaaGreatDoorRows.lean that lists a variable, with what it lists TIED to the program's text (the seventh form; the later family's looks); each row that meets fmt, with fmt's text TOLD by the authors' own Lean function (tested against real Go, not proved from fmt's source: count such statements apart). THE CARD IS WHAT COUNTS. Prove the row's statement (the work); the ties are given (YtfnioapgelabfaaGreatDoorTie.lean); close each card by the builder's one call (the guide's Derived/Test/ToyasCard.lean, 'card_holds'). Laid BY PROGRAM, IN A SANDBOX (cutbox-door.mjs). By AI agents, Wed Nov 11 2026. No macro, syntax, notation, axiom, sorry.
-/
import Derived.Test.YtfnioapgelabfaaGreatDoorRows
import GoSem.ClaimSeven
namespace Go.Proofs.YtfnioapgelabfaaGreatDoor
namespace Rows

/-- THE TIED CARD OF 'rialtolaw29.GoodsRests'. -/
def goodsRestsCard : Claim7 := { stood := { row := goodsRestsRow, standIns := [], harness := (true, "9fbbbce042aee8fb247bd7773c7eaab3249b9f505f31419397f65e687bbbb2ae"), looks := false }, kinds := [], alts := [], laidByText := true, laidKinds := [.data, .pinned], laidTests := true, laidLooks := .later }
def GoodsRestsCardSaid : Prop := Claim7.holds Tryz.pinned (.plain (OpenSpec.ofChange goodsRestsSpec)) goodsRestsCard

/-- THE TIED CARD OF 'rialtolaw29.GoodsAlike'. -/
def goodsAlikeCard : Claim7 := { stood := { row := goodsAlikeRow, standIns := [], harness := (true, "9fbbbce042aee8fb247bd7773c7eaab3249b9f505f31419397f65e687bbbb2ae"), looks := false }, kinds := [], alts := [], laidByText := true, laidKinds := [.data, .pinned], laidTests := true, laidLooks := .later }
def GoodsAlikeCardSaid : Prop := Claim7.holds Tryz.pinned (.plain (OpenSpec.ofChange goodsAlikeSpec)) goodsAlikeCard

/-- THE SECOND FORM's CARD OF 'rialtolaw29.GoodsRests'. -/
def goodsRestsUptoCard : Claim7 := { stood := { row := goodsRestsUptoRow, standIns := [], harness := (true, "9fbbbce042aee8fb247bd7773c7eaab3249b9f505f31419397f65e687bbbb2ae"), looks := false }, kinds := [], alts := [], laidByText := true, laidKinds := [.data, .pinned], laidTests := true, laidLooks := .later }
def GoodsRestsUptoCardSaid : Prop := Claim7.holds Tryz.pinned (.plain (OpenSpec.upto goodsRestsSpec)) goodsRestsUptoCard

/-- THE SECOND FORM's CARD OF 'rialtolaw29.GoodsAlike'. -/
def goodsAlikeUptoCard : Claim7 := { stood := { row := goodsAlikeUptoRow, standIns := [], harness := (true, "9fbbbce042aee8fb247bd7773c7eaab3249b9f505f31419397f65e687bbbb2ae"), looks := false }, kinds := [], alts := [], laidByText := true, laidKinds := [.data, .pinned], laidTests := true, laidLooks := .later }
def GoodsAlikeUptoCardSaid : Prop := Claim7.holds Tryz.pinned (.plain (OpenSpec.upto goodsAlikeSpec)) goodsAlikeUptoCard
end Rows
end Go.Proofs.YtfnioapgelabfaaGreatDoor
