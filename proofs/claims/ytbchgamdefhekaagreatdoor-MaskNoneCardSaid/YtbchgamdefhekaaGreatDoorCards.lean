/-
  DERIVED. GIVEN WITH THE SEED: THE CARDS: each row of YtbchgamdefhekaaGreatDoorRows.lean that lists a variable, with what it lists TIED to the program's text (the seventh form; the later family's looks); each row that meets fmt, with fmt's text TOLD by the authors' own Lean function (tested against real Go, not proved from fmt's source: count such statements apart). THE CARD IS WHAT COUNTS. Prove the row's statement (the work); the ties are given (YtbchgamdefhekaaGreatDoorTie.lean); close each card by the builder's one call (the guide's Derived/Test/ToyasCard.lean, 'card_holds'). Laid BY PROGRAM, IN A SANDBOX (cutbox-door.mjs). By AI agents, Wed Nov 11 2026. No macro, syntax, notation, axiom, sorry.
-/
import Derived.Test.YtbchgamdefhekaaGreatDoorRows
import GoSem.ClaimSeven
namespace Go.Proofs.YtbchgamdefhekaaGreatDoor
namespace Rows

/-- THE TIED CARD OF 'drawloomlaw15.MaskNone'. -/
def maskNoneCard : Claim7 := { stood := { row := maskNoneRow, standIns := [], harness := (true, "f7043d46522e194c44a8400d36644e861be0dbbcb847034b8e923bbf7062553e"), looks := false }, kinds := [], alts := [], laidByText := true, laidKinds := [.data, .listed, .data], laidTests := true, laidLooks := .later }
def MaskNoneCardSaid : Prop := Claim7.holds Tryz.pinned (.plain (OpenSpec.ofChange maskNoneSpec)) maskNoneCard

/-- THE TIED CARD OF 'drawloomlaw15.MaskAlone'. -/
def maskAloneCard : Claim7 := { stood := { row := maskAloneRow, standIns := [], harness := (true, "f7043d46522e194c44a8400d36644e861be0dbbcb847034b8e923bbf7062553e"), looks := false }, kinds := [], alts := [], laidByText := true, laidKinds := [.data, .listed, .data], laidTests := true, laidLooks := .later }
def MaskAloneCardSaid : Prop := Claim7.holds Tryz.pinned (.plain (OpenSpec.ofChange maskAloneSpec)) maskAloneCard

/-- THE TIED CARD OF 'drawloomlaw16.FreeOrder'. -/
def freeOrderCard : Claim7 := { stood := { row := freeOrderRow, standIns := [], harness := (true, "f7043d46522e194c44a8400d36644e861be0dbbcb847034b8e923bbf7062553e"), looks := false }, kinds := [], alts := [], laidByText := true, laidKinds := [.data, .listed, .data], laidTests := true, laidLooks := .later }
def FreeOrderCardSaid : Prop := Claim7.holds Tryz.pinned (.plain (OpenSpec.ofChange freeOrderSpec)) freeOrderCard

/-- THE SECOND FORM's CARD OF 'drawloomlaw15.MaskNone'. -/
def maskNoneUptoCard : Claim7 := { stood := { row := maskNoneUptoRow, standIns := [], harness := (true, "f7043d46522e194c44a8400d36644e861be0dbbcb847034b8e923bbf7062553e"), looks := false }, kinds := [], alts := [], laidByText := true, laidKinds := [.data, .listed, .data], laidTests := true, laidLooks := .later }
def MaskNoneUptoCardSaid : Prop := Claim7.holds Tryz.pinned (.plain (OpenSpec.upto maskNoneSpec)) maskNoneUptoCard

/-- THE SECOND FORM's CARD OF 'drawloomlaw15.MaskAlone'. -/
def maskAloneUptoCard : Claim7 := { stood := { row := maskAloneUptoRow, standIns := [], harness := (true, "f7043d46522e194c44a8400d36644e861be0dbbcb847034b8e923bbf7062553e"), looks := false }, kinds := [], alts := [], laidByText := true, laidKinds := [.data, .listed, .data], laidTests := true, laidLooks := .later }
def MaskAloneUptoCardSaid : Prop := Claim7.holds Tryz.pinned (.plain (OpenSpec.upto maskAloneSpec)) maskAloneUptoCard

/-- THE SECOND FORM's CARD OF 'drawloomlaw16.FreeOrder'. -/
def freeOrderUptoCard : Claim7 := { stood := { row := freeOrderUptoRow, standIns := [], harness := (true, "f7043d46522e194c44a8400d36644e861be0dbbcb847034b8e923bbf7062553e"), looks := false }, kinds := [], alts := [], laidByText := true, laidKinds := [.data, .listed, .data], laidTests := true, laidLooks := .later }
def FreeOrderUptoCardSaid : Prop := Claim7.holds Tryz.pinned (.plain (OpenSpec.upto freeOrderSpec)) freeOrderUptoCard
end Rows
end Go.Proofs.YtbchgamdefhekaaGreatDoor
