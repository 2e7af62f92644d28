/-
  DERIVED. GIVEN WITH THE SEED: THE CARDS: each row of YtjkofndnhmfnoaaDoorRows.lean that lists a variable, with what it lists TIED to the program's text (the seventh form; the later family's looks); each row that meets fmt, with fmt's text TOLD by the authors' own Lean function (tested against real Go, not proved from fmt's source: count such statements apart). THE CARD IS WHAT COUNTS. Prove the row's statement (the work); the ties are given (YtjkofndnhmfnoaaDoorTie.lean); close each card by the builder's one call (the guide's Derived/Test/ToyasCard.lean, 'card_holds'). Laid BY PROGRAM, IN A SANDBOX (cutbox-door.mjs). By AI agents, Wed Nov 11 2026. No macro, syntax, notation, axiom, sorry.
-/
import Derived.Test.YtjkofndnhmfnoaaDoorRows
import GoSem.ClaimSeven
namespace Go.Proofs.YtjkofndnhmfnoaaDoor
namespace Rows

/-- THE TIED CARD OF 'anamnesislaw05.FormBack'. -/
def formBackCard : Claim7 := { stood := { row := formBackRow, standIns := [], harness := (true, "6500d11d9fcb6236a3af07d95de61fe04a3bbf00088cc8089786a286efdb5833"), looks := false }, kinds := [], alts := [], laidByText := true, laidKinds := [.data, .data, .data], laidTests := true, laidLooks := .later }
def FormBackCardSaid : Prop := Claim7.holds Tryd.pinned (.plain (OpenSpec.ofChange formBackSpec)) formBackCard

/-- THE TIED CARD OF 'anamnesislaw05.FormKnown'. -/
def formKnownCard : Claim7 := { stood := { row := formKnownRow, standIns := [], harness := (true, "6500d11d9fcb6236a3af07d95de61fe04a3bbf00088cc8089786a286efdb5833"), looks := false }, kinds := [], alts := [], laidByText := true, laidKinds := [.data, .data, .data], laidTests := true, laidLooks := .later }
def FormKnownCardSaid : Prop := Claim7.holds Tryd.pinned (.plain (OpenSpec.ofChange formKnownSpec)) formKnownCard

/-- THE TIED CARD OF 'anamnesislaw05.FormPrints'. -/
def formPrintsCard : Claim7 := { stood := { row := formPrintsRow, standIns := [], harness := (true, "6500d11d9fcb6236a3af07d95de61fe04a3bbf00088cc8089786a286efdb5833"), looks := false }, kinds := [], alts := [], laidByText := true, laidKinds := [.data, .data, .data], laidTests := true, laidLooks := .later }
def FormPrintsCardSaid : Prop := Claim7.holds Tryd.pinned (.plain (OpenSpec.ofChange formPrintsSpec)) formPrintsCard

/-- THE TIED CARD OF 'anamnesislaw05.FormFirst'. -/
def formFirstCard : Claim7 := { stood := { row := formFirstRow, standIns := [], harness := (true, "6500d11d9fcb6236a3af07d95de61fe04a3bbf00088cc8089786a286efdb5833"), looks := false }, kinds := [], alts := [], laidByText := true, laidKinds := [.data, .data, .data], laidTests := true, laidLooks := .later }
def FormFirstCardSaid : Prop := Claim7.holds Tryd.pinned (.plain (OpenSpec.ofChange formFirstSpec)) formFirstCard

/-- THE TIED CARD OF 'anamnesislaw20.NamesKnown'. -/
def namesKnownCard : Claim7 := { stood := { row := namesKnownRow, standIns := [], harness := (true, "6500d11d9fcb6236a3af07d95de61fe04a3bbf00088cc8089786a286efdb5833"), looks := false }, kinds := [], alts := [], laidByText := true, laidKinds := [.data, .data, .data], laidTests := true, laidLooks := .later }
def NamesKnownCardSaid : Prop := Claim7.holds Tryd.pinned (.plain (OpenSpec.ofChange namesKnownSpec)) namesKnownCard

/-- THE SECOND FORM's CARD OF 'anamnesislaw05.FormBack'. -/
def formBackUptoCard : Claim7 := { stood := { row := formBackUptoRow, standIns := [], harness := (true, "6500d11d9fcb6236a3af07d95de61fe04a3bbf00088cc8089786a286efdb5833"), looks := false }, kinds := [], alts := [], laidByText := true, laidKinds := [.data, .data, .data], laidTests := true, laidLooks := .later }
def FormBackUptoCardSaid : Prop := Claim7.holds Tryd.pinned (.plain (OpenSpec.upto formBackSpec)) formBackUptoCard

/-- THE SECOND FORM's CARD OF 'anamnesislaw05.FormKnown'. -/
def formKnownUptoCard : Claim7 := { stood := { row := formKnownUptoRow, standIns := [], harness := (true, "6500d11d9fcb6236a3af07d95de61fe04a3bbf00088cc8089786a286efdb5833"), looks := false }, kinds := [], alts := [], laidByText := true, laidKinds := [.data, .data, .data], laidTests := true, laidLooks := .later }
def FormKnownUptoCardSaid : Prop := Claim7.holds Tryd.pinned (.plain (OpenSpec.upto formKnownSpec)) formKnownUptoCard

/-- THE SECOND FORM's CARD OF 'anamnesislaw05.FormPrints'. -/
def formPrintsUptoCard : Claim7 := { stood := { row := formPrintsUptoRow, standIns := [], harness := (true, "6500d11d9fcb6236a3af07d95de61fe04a3bbf00088cc8089786a286efdb5833"), looks := false }, kinds := [], alts := [], laidByText := true, laidKinds := [.data, .data, .data], laidTests := true, laidLooks := .later }
def FormPrintsUptoCardSaid : Prop := Claim7.holds Tryd.pinned (.plain (OpenSpec.upto formPrintsSpec)) formPrintsUptoCard

/-- THE SECOND FORM's CARD OF 'anamnesislaw05.FormFirst'. -/
def formFirstUptoCard : Claim7 := { stood := { row := formFirstUptoRow, standIns := [], harness := (true, "6500d11d9fcb6236a3af07d95de61fe04a3bbf00088cc8089786a286efdb5833"), looks := false }, kinds := [], alts := [], laidByText := true, laidKinds := [.data, .data, .data], laidTests := true, laidLooks := .later }
def FormFirstUptoCardSaid : Prop := Claim7.holds Tryd.pinned (.plain (OpenSpec.upto formFirstSpec)) formFirstUptoCard

/-- THE SECOND FORM's CARD OF 'anamnesislaw20.NamesKnown'. -/
def namesKnownUptoCard : Claim7 := { stood := { row := namesKnownUptoRow, standIns := [], harness := (true, "6500d11d9fcb6236a3af07d95de61fe04a3bbf00088cc8089786a286efdb5833"), looks := false }, kinds := [], alts := [], laidByText := true, laidKinds := [.data, .data, .data], laidTests := true, laidLooks := .later }
def NamesKnownUptoCardSaid : Prop := Claim7.holds Tryd.pinned (.plain (OpenSpec.upto namesKnownSpec)) namesKnownUptoCard
end Rows
end Go.Proofs.YtjkofndnhmfnoaaDoor
