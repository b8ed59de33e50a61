/-
  DERIVED. GIVEN WITH THE SEED: THE CARDS: each row of YtincckopnebceaaDoorRows.lean that lists a variable, with what it lists TIED to the program's text (the seventh form; the later family's looks); each row that meets fmt, with fmt's text TOLD by the authors' own Lean function (tested against real Go, not proved from fmt's source: count such statements apart). THE CARD IS WHAT COUNTS. Prove the row's statement (the work); the ties are given (YtincckopnebceaaDoorTie.lean); close each card by the builder's one call (the guide's Derived/Test/ToyasCard.lean, 'card_holds'). Laid BY PROGRAM, IN A SANDBOX (cutbox-door.mjs). By AI agents, Wed Nov 11 2026. No macro, syntax, notation, axiom, sorry.
-/
import Derived.Test.YtincckopnebceaaDoorRows
import GoSem.ClaimSeven
namespace Go.Proofs.YtincckopnebceaaDoor
namespace Rows

/-- THE TIED CARD OF 'tolllaw5.ChunkLengths'. -/
def chunkLengthsCard : Claim7 := { stood := { row := chunkLengthsRow, standIns := [], harness := (true, "25d30f76638f51acf6afaa310d3af8e7cfe7b95b80ef6292d4e66df6c7f089c8"), looks := true }, kinds := [], alts := [], laidByText := true, laidKinds := [.data, .data, .data], laidTests := true, laidLooks := .later }
def ChunkLengthsCardSaid : Prop := Claim7.holds Tryd.pinned (.plain (OpenSpec.ofChange chunkLengthsSpec)) chunkLengthsCard

/-- THE TIED CARD OF 'tolllaw2.ChunkCuts'. -/
def chunkCutsCard : Claim7 := { stood := { row := chunkCutsRow, standIns := [], harness := (true, "25d30f76638f51acf6afaa310d3af8e7cfe7b95b80ef6292d4e66df6c7f089c8"), looks := true }, kinds := [], alts := [], laidByText := true, laidKinds := [.data, .data, .data, .handle], laidTests := true, laidLooks := .later }
def ChunkCutsCardSaid : Prop := Claim7.holds Tryd.pinned (.plain (OpenSpec.ofChange chunkCutsSpec)) chunkCutsCard

/-- THE TIED CARD OF 'tolllaw2.ChunkBack'. -/
def chunkBackCard : Claim7 := { stood := { row := chunkBackRow, standIns := [], harness := (true, "25d30f76638f51acf6afaa310d3af8e7cfe7b95b80ef6292d4e66df6c7f089c8"), looks := true }, kinds := [], alts := [], laidByText := true, laidKinds := [.data, .data, .data, .handle], laidTests := true, laidLooks := .later }
def ChunkBackCardSaid : Prop := Claim7.holds Tryd.pinned (.plain (OpenSpec.ofChange chunkBackSpec)) chunkBackCard

/-- THE TIED CARD OF 'tolllaw2.LineReads'. -/
def lineReadsCard : Claim7 := { stood := { row := lineReadsRow, standIns := [], harness := (true, "25d30f76638f51acf6afaa310d3af8e7cfe7b95b80ef6292d4e66df6c7f089c8"), looks := true }, kinds := [], alts := [], laidByText := true, laidKinds := [.data, .handle, .pinned], laidTests := true, laidLooks := .later }
def LineReadsCardSaid : Prop := Claim7.holds Tryd.pinned (.plain (OpenSpec.ofChange lineReadsSpec)) lineReadsCard

/-- THE TIED CARD OF 'tolllaw5.LineRow'. -/
def lineRowCard : Claim7 := { stood := { row := lineRowRow, standIns := [], harness := (true, "25d30f76638f51acf6afaa310d3af8e7cfe7b95b80ef6292d4e66df6c7f089c8"), looks := true }, kinds := [], alts := [], laidByText := true, laidKinds := [.data, .data, .data, .data, .pinned], laidTests := true, laidLooks := .later }
def LineRowCardSaid : Prop := Claim7.holds Tryd.pinned (.plain (OpenSpec.ofChange lineRowSpec)) lineRowCard

/-- THE SECOND FORM's CARD OF 'tolllaw5.ChunkLengths'. -/
def chunkLengthsUptoCard : Claim7 := { stood := { row := chunkLengthsUptoRow, standIns := [], harness := (true, "25d30f76638f51acf6afaa310d3af8e7cfe7b95b80ef6292d4e66df6c7f089c8"), looks := true }, kinds := [], alts := [], laidByText := true, laidKinds := [.data, .data, .data], laidTests := true, laidLooks := .later }
def ChunkLengthsUptoCardSaid : Prop := Claim7.holds Tryd.pinned (.plain (OpenSpec.upto chunkLengthsSpec)) chunkLengthsUptoCard

/-- THE SECOND FORM's CARD OF 'tolllaw2.ChunkCuts'. -/
def chunkCutsUptoCard : Claim7 := { stood := { row := chunkCutsUptoRow, standIns := [], harness := (true, "25d30f76638f51acf6afaa310d3af8e7cfe7b95b80ef6292d4e66df6c7f089c8"), looks := true }, kinds := [], alts := [], laidByText := true, laidKinds := [.data, .data, .data, .handle], laidTests := true, laidLooks := .later }
def ChunkCutsUptoCardSaid : Prop := Claim7.holds Tryd.pinned (.plain (OpenSpec.upto chunkCutsSpec)) chunkCutsUptoCard

/-- THE SECOND FORM's CARD OF 'tolllaw2.ChunkBack'. -/
def chunkBackUptoCard : Claim7 := { stood := { row := chunkBackUptoRow, standIns := [], harness := (true, "25d30f76638f51acf6afaa310d3af8e7cfe7b95b80ef6292d4e66df6c7f089c8"), looks := true }, kinds := [], alts := [], laidByText := true, laidKinds := [.data, .data, .data, .handle], laidTests := true, laidLooks := .later }
def ChunkBackUptoCardSaid : Prop := Claim7.holds Tryd.pinned (.plain (OpenSpec.upto chunkBackSpec)) chunkBackUptoCard

/-- THE SECOND FORM's CARD OF 'tolllaw2.LineReads'. -/
def lineReadsUptoCard : Claim7 := { stood := { row := lineReadsUptoRow, standIns := [], harness := (true, "25d30f76638f51acf6afaa310d3af8e7cfe7b95b80ef6292d4e66df6c7f089c8"), looks := true }, kinds := [], alts := [], laidByText := true, laidKinds := [.data, .handle, .pinned], laidTests := true, laidLooks := .later }
def LineReadsUptoCardSaid : Prop := Claim7.holds Tryd.pinned (.plain (OpenSpec.upto lineReadsSpec)) lineReadsUptoCard

/-- THE SECOND FORM's CARD OF 'tolllaw5.LineRow'. -/
def lineRowUptoCard : Claim7 := { stood := { row := lineRowUptoRow, standIns := [], harness := (true, "25d30f76638f51acf6afaa310d3af8e7cfe7b95b80ef6292d4e66df6c7f089c8"), looks := true }, kinds := [], alts := [], laidByText := true, laidKinds := [.data, .data, .data, .data, .pinned], laidTests := true, laidLooks := .later }
def LineRowUptoCardSaid : Prop := Claim7.holds Tryd.pinned (.plain (OpenSpec.upto lineRowSpec)) lineRowUptoCard
end Rows
end Go.Proofs.YtincckopnebceaaDoor
