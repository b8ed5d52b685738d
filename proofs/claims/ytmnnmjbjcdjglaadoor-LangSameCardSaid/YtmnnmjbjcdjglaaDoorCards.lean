/-
  DERIVED. GIVEN WITH THE SEED: THE CARDS: each row of YtmnnmjbjcdjglaaDoorRows.lean that lists a variable, with what it lists TIED to the program's text (the seventh form; the later family's looks); each row that meets fmt, with fmt's text TOLD by the authors' own Lean function (tested against real Go, not proved from fmt's source: count such statements apart). THE CARD IS WHAT COUNTS. Prove the row's statement (the work); the ties are given (YtmnnmjbjcdjglaaDoorTie.lean); close each card by the builder's one call (the guide's Derived/Test/ToyasCard.lean, 'card_holds'). Laid BY PROGRAM, IN A SANDBOX (cutbox-door.mjs). By AI agents, Wed Nov 11 2026. No macro, syntax, notation, axiom, sorry.
-/
import Derived.Test.YtmnnmjbjcdjglaaDoorRows
import GoSem.ClaimSeven
namespace Go.Proofs.YtmnnmjbjcdjglaaDoor
namespace Rows

/-- THE TIED CARD OF 'virgationlaw25.LangSame'. -/
def langSameCard : Claim7 := { stood := { row := langSameRow, standIns := [], harness := (true, "c1879b84288ab90ee13c6bdf58e928d943fb97d73aa87aefb634519e3c826678"), looks := true }, kinds := [], alts := [], laidByText := true, laidKinds := [.data, .data, .data, .sentinel, .sentinel], laidTests := true, laidLooks := .later }
def LangSameCardSaid : Prop := Claim7.holds Tryd.pinned (.plain (OpenSpec.ofChange langSameSpec)) langSameCard

/-- THE SECOND FORM's CARD OF 'virgationlaw25.LangSame'. -/
def langSameUptoCard : Claim7 := { stood := { row := langSameUptoRow, standIns := [], harness := (true, "c1879b84288ab90ee13c6bdf58e928d943fb97d73aa87aefb634519e3c826678"), looks := true }, kinds := [], alts := [], laidByText := true, laidKinds := [.data, .data, .data, .sentinel, .sentinel], laidTests := true, laidLooks := .later }
def LangSameUptoCardSaid : Prop := Claim7.holds Tryd.pinned (.plain (OpenSpec.upto langSameSpec)) langSameUptoCard
end Rows
end Go.Proofs.YtmnnmjbjcdjglaaDoor
