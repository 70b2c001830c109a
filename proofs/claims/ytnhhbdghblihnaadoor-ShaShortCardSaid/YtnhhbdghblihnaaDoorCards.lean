/-
  DERIVED. GIVEN WITH THE SEED: THE CARDS: each row of YtnhhbdghblihnaaDoorRows.lean that lists a variable, with what it lists TIED to the program's text (the seventh form; the later family's looks); each row that meets fmt, with fmt's text TOLD by the authors' own Lean function (tested against real Go, not proved from fmt's source: count such statements apart). THE CARD IS WHAT COUNTS. Prove the row's statement (the work); the ties are given (YtnhhbdghblihnaaDoorTie.lean); close each card by the builder's one call (the guide's Derived/Test/ToyasCard.lean, 'card_holds'). Laid BY PROGRAM, IN A SANDBOX (cutbox-door.mjs). By AI agents, Wed Nov 11 2026. No macro, syntax, notation, axiom, sorry.
-/
import Derived.Test.YtnhhbdghblihnaaDoorRows
import GoSem.ClaimSeven
namespace Go.Proofs.YtnhhbdghblihnaaDoor
namespace Rows

/-- THE TIED CARD OF 'oblivionlaw02.ShaSums'. -/
def shaSumsCard : Claim7 := { stood := { row := shaSumsRow, standIns := [], harness := (true, "fffabb56d98a185f35b1d83ab1d3cdd2cab8888f34c3362baa013a53fdd7ab33"), looks := false }, kinds := [], alts := [], laidByText := true, laidKinds := [.data], laidTests := true, laidLooks := .later }
def ShaSumsCardSaid : Prop := Claim7.holds Tryd.pinned (.plain (OpenSpec.ofChange shaSumsSpec)) shaSumsCard

/-- THE TIED CARD OF 'oblivionlaw02.ShaSteps'. -/
def shaStepsCard : Claim7 := { stood := { row := shaStepsRow, standIns := [], harness := (true, "fffabb56d98a185f35b1d83ab1d3cdd2cab8888f34c3362baa013a53fdd7ab33"), looks := false }, kinds := [], alts := [], laidByText := true, laidKinds := [.data], laidTests := true, laidLooks := .later }
def ShaStepsCardSaid : Prop := Claim7.holds Tryd.pinned (.plain (OpenSpec.ofChange shaStepsSpec)) shaStepsCard

/-- THE TIED CARD OF 'oblivionlaw02.ShaFills'. -/
def shaFillsCard : Claim7 := { stood := { row := shaFillsRow, standIns := [], harness := (true, "fffabb56d98a185f35b1d83ab1d3cdd2cab8888f34c3362baa013a53fdd7ab33"), looks := false }, kinds := [], alts := [], laidByText := true, laidKinds := [.data], laidTests := true, laidLooks := .later }
def ShaFillsCardSaid : Prop := Claim7.holds Tryd.pinned (.plain (OpenSpec.ofChange shaFillsSpec)) shaFillsCard

/-- THE TIED CARD OF 'oblivionlaw02.ShaFolds'. -/
def shaFoldsCard : Claim7 := { stood := { row := shaFoldsRow, standIns := [], harness := (true, "fffabb56d98a185f35b1d83ab1d3cdd2cab8888f34c3362baa013a53fdd7ab33"), looks := false }, kinds := [], alts := [], laidByText := true, laidKinds := [.data], laidTests := true, laidLooks := .later }
def ShaFoldsCardSaid : Prop := Claim7.holds Tryd.pinned (.plain (OpenSpec.ofChange shaFoldsSpec)) shaFoldsCard

/-- THE TIED CARD OF 'oblivionlaw02.ShaParts'. -/
def shaPartsCard : Claim7 := { stood := { row := shaPartsRow, standIns := [], harness := (true, "fffabb56d98a185f35b1d83ab1d3cdd2cab8888f34c3362baa013a53fdd7ab33"), looks := false }, kinds := [], alts := [], laidByText := true, laidKinds := [.data], laidTests := true, laidLooks := .later }
def ShaPartsCardSaid : Prop := Claim7.holds Tryd.pinned (.plain (OpenSpec.ofChange shaPartsSpec)) shaPartsCard

/-- THE TIED CARD OF 'oblivionlaw02.ShaShort'. -/
def shaShortCard : Claim7 := { stood := { row := shaShortRow, standIns := [], harness := (true, "fffabb56d98a185f35b1d83ab1d3cdd2cab8888f34c3362baa013a53fdd7ab33"), looks := false }, kinds := [], alts := [], laidByText := true, laidKinds := [.data], laidTests := true, laidLooks := .later }
def ShaShortCardSaid : Prop := Claim7.holds Tryd.pinned (.plain (OpenSpec.ofChange shaShortSpec)) shaShortCard

/-- THE SECOND FORM's CARD OF 'oblivionlaw02.ShaSums'. -/
def shaSumsUptoCard : Claim7 := { stood := { row := shaSumsUptoRow, standIns := [], harness := (true, "fffabb56d98a185f35b1d83ab1d3cdd2cab8888f34c3362baa013a53fdd7ab33"), looks := false }, kinds := [], alts := [], laidByText := true, laidKinds := [.data], laidTests := true, laidLooks := .later }
def ShaSumsUptoCardSaid : Prop := Claim7.holds Tryd.pinned (.plain (OpenSpec.upto shaSumsSpec)) shaSumsUptoCard

/-- THE SECOND FORM's CARD OF 'oblivionlaw02.ShaSteps'. -/
def shaStepsUptoCard : Claim7 := { stood := { row := shaStepsUptoRow, standIns := [], harness := (true, "fffabb56d98a185f35b1d83ab1d3cdd2cab8888f34c3362baa013a53fdd7ab33"), looks := false }, kinds := [], alts := [], laidByText := true, laidKinds := [.data], laidTests := true, laidLooks := .later }
def ShaStepsUptoCardSaid : Prop := Claim7.holds Tryd.pinned (.plain (OpenSpec.upto shaStepsSpec)) shaStepsUptoCard

/-- THE SECOND FORM's CARD OF 'oblivionlaw02.ShaFills'. -/
def shaFillsUptoCard : Claim7 := { stood := { row := shaFillsUptoRow, standIns := [], harness := (true, "fffabb56d98a185f35b1d83ab1d3cdd2cab8888f34c3362baa013a53fdd7ab33"), looks := false }, kinds := [], alts := [], laidByText := true, laidKinds := [.data], laidTests := true, laidLooks := .later }
def ShaFillsUptoCardSaid : Prop := Claim7.holds Tryd.pinned (.plain (OpenSpec.upto shaFillsSpec)) shaFillsUptoCard

/-- THE SECOND FORM's CARD OF 'oblivionlaw02.ShaFolds'. -/
def shaFoldsUptoCard : Claim7 := { stood := { row := shaFoldsUptoRow, standIns := [], harness := (true, "fffabb56d98a185f35b1d83ab1d3cdd2cab8888f34c3362baa013a53fdd7ab33"), looks := false }, kinds := [], alts := [], laidByText := true, laidKinds := [.data], laidTests := true, laidLooks := .later }
def ShaFoldsUptoCardSaid : Prop := Claim7.holds Tryd.pinned (.plain (OpenSpec.upto shaFoldsSpec)) shaFoldsUptoCard

/-- THE SECOND FORM's CARD OF 'oblivionlaw02.ShaParts'. -/
def shaPartsUptoCard : Claim7 := { stood := { row := shaPartsUptoRow, standIns := [], harness := (true, "fffabb56d98a185f35b1d83ab1d3cdd2cab8888f34c3362baa013a53fdd7ab33"), looks := false }, kinds := [], alts := [], laidByText := true, laidKinds := [.data], laidTests := true, laidLooks := .later }
def ShaPartsUptoCardSaid : Prop := Claim7.holds Tryd.pinned (.plain (OpenSpec.upto shaPartsSpec)) shaPartsUptoCard

/-- THE SECOND FORM's CARD OF 'oblivionlaw02.ShaShort'. -/
def shaShortUptoCard : Claim7 := { stood := { row := shaShortUptoRow, standIns := [], harness := (true, "fffabb56d98a185f35b1d83ab1d3cdd2cab8888f34c3362baa013a53fdd7ab33"), looks := false }, kinds := [], alts := [], laidByText := true, laidKinds := [.data], laidTests := true, laidLooks := .later }
def ShaShortUptoCardSaid : Prop := Claim7.holds Tryd.pinned (.plain (OpenSpec.upto shaShortSpec)) shaShortUptoCard
end Rows
end Go.Proofs.YtnhhbdghblihnaaDoor
