/-
  DERIVED. GIVEN WITH THE SEED: THE CARDS: each row of YtcdhjbeeehjpiaaDoorRows.lean that lists a variable, with what it lists TIED to the program's text (the seventh form; the later family's looks); each row that meets fmt, with fmt's text TOLD by the authors' own Lean function (tested against real Go, not proved from fmt's source: count such statements apart). THE CARD IS WHAT COUNTS. Prove the row's statement (the work); the ties are given (YtcdhjbeeehjpiaaDoorTie.lean); close each card by the builder's one call (the guide's Derived/Test/ToyasCard.lean, 'card_holds'). Laid BY PROGRAM, IN A SANDBOX (cutbox-door.mjs). By AI agents, Wed Nov 11 2026. No macro, syntax, notation, axiom, sorry.
-/
import Derived.Test.YtcdhjbeeehjpiaaDoorRows
import GoSem.ClaimSeven
namespace Go.Proofs.YtcdhjbeeehjpiaaDoor
namespace Rows

/-- THE TIED CARD OF 'tolllaw3.PoolOnce'. -/
def poolOnceCard : Claim7 := { stood := { row := poolOnceRow, standIns := [], harness := (true, "630bb376ed58f331d5bc30c7db4fa92174dba3be9cfecf13621a0e111453c40e"), looks := true }, kinds := [], alts := [], laidByText := true, laidKinds := [.data, .handle, .pinned], laidTests := true, laidLooks := .later }
def PoolOnceCardSaid : Prop := Claim7.holds Tryd.pinned (.plain (OpenSpec.ofChange poolOnceSpec)) poolOnceCard

/-- THE TIED CARD OF 'tolllaw5.PoolLast'. -/
def poolLastCard : Claim7 := { stood := { row := poolLastRow, standIns := [], harness := (true, "630bb376ed58f331d5bc30c7db4fa92174dba3be9cfecf13621a0e111453c40e"), looks := true }, kinds := [], alts := [], laidByText := true, laidKinds := [.data, .pinned], laidTests := true, laidLooks := .later }
def PoolLastCardSaid : Prop := Claim7.holds Tryd.pinned (.plain (OpenSpec.ofChange poolLastSpec)) poolLastCard

/-- THE TIED CARD OF 'tolllaw3.PoolPlays'. -/
def poolPlaysCard : Claim7 := { stood := { row := poolPlaysRow, standIns := [], harness := (true, "630bb376ed58f331d5bc30c7db4fa92174dba3be9cfecf13621a0e111453c40e"), looks := true }, kinds := [], alts := [], laidByText := true, laidKinds := [.data, .handle, .pinned], laidTests := true, laidLooks := .later }
def PoolPlaysCardSaid : Prop := Claim7.holds Tryd.pinned (.plain (OpenSpec.ofChange poolPlaysSpec)) poolPlaysCard

/-- THE TIED CARD OF 'tolllaw3.StoreTells'. -/
def storeTellsCard : Claim7 := { stood := { row := storeTellsRow, standIns := [], harness := (true, "630bb376ed58f331d5bc30c7db4fa92174dba3be9cfecf13621a0e111453c40e"), looks := true }, kinds := [], alts := [], laidByText := true, laidKinds := [.data, .data, .data, .data, .sentinel, .sentinel, .pinned], laidTests := true, laidLooks := .later }
def StoreTellsCardSaid : Prop := Claim7.holds Tryd.pinned (.plain (OpenSpec.ofChange storeTellsSpec)) storeTellsCard

/-- THE TIED CARD OF 'tolllaw5.StoreVaries'. -/
def storeVariesCard : Claim7 := { stood := { row := storeVariesRow, standIns := [], harness := (true, "630bb376ed58f331d5bc30c7db4fa92174dba3be9cfecf13621a0e111453c40e"), looks := true }, kinds := [], alts := [], laidByText := true, laidKinds := [.data, .data, .data, .data, .sentinel, .sentinel, .pinned], laidTests := true, laidLooks := .later }
def StoreVariesCardSaid : Prop := Claim7.holds Tryd.pinned (.plain (OpenSpec.ofChange storeVariesSpec)) storeVariesCard

/-- THE SECOND FORM's CARD OF 'tolllaw3.PoolOnce'. -/
def poolOnceUptoCard : Claim7 := { stood := { row := poolOnceUptoRow, standIns := [], harness := (true, "630bb376ed58f331d5bc30c7db4fa92174dba3be9cfecf13621a0e111453c40e"), looks := true }, kinds := [], alts := [], laidByText := true, laidKinds := [.data, .handle, .pinned], laidTests := true, laidLooks := .later }
def PoolOnceUptoCardSaid : Prop := Claim7.holds Tryd.pinned (.plain (OpenSpec.upto poolOnceSpec)) poolOnceUptoCard

/-- THE SECOND FORM's CARD OF 'tolllaw5.PoolLast'. -/
def poolLastUptoCard : Claim7 := { stood := { row := poolLastUptoRow, standIns := [], harness := (true, "630bb376ed58f331d5bc30c7db4fa92174dba3be9cfecf13621a0e111453c40e"), looks := true }, kinds := [], alts := [], laidByText := true, laidKinds := [.data, .pinned], laidTests := true, laidLooks := .later }
def PoolLastUptoCardSaid : Prop := Claim7.holds Tryd.pinned (.plain (OpenSpec.upto poolLastSpec)) poolLastUptoCard

/-- THE SECOND FORM's CARD OF 'tolllaw3.PoolPlays'. -/
def poolPlaysUptoCard : Claim7 := { stood := { row := poolPlaysUptoRow, standIns := [], harness := (true, "630bb376ed58f331d5bc30c7db4fa92174dba3be9cfecf13621a0e111453c40e"), looks := true }, kinds := [], alts := [], laidByText := true, laidKinds := [.data, .handle, .pinned], laidTests := true, laidLooks := .later }
def PoolPlaysUptoCardSaid : Prop := Claim7.holds Tryd.pinned (.plain (OpenSpec.upto poolPlaysSpec)) poolPlaysUptoCard

/-- THE SECOND FORM's CARD OF 'tolllaw3.StoreTells'. -/
def storeTellsUptoCard : Claim7 := { stood := { row := storeTellsUptoRow, standIns := [], harness := (true, "630bb376ed58f331d5bc30c7db4fa92174dba3be9cfecf13621a0e111453c40e"), looks := true }, kinds := [], alts := [], laidByText := true, laidKinds := [.data, .data, .data, .data, .sentinel, .sentinel, .pinned], laidTests := true, laidLooks := .later }
def StoreTellsUptoCardSaid : Prop := Claim7.holds Tryd.pinned (.plain (OpenSpec.upto storeTellsSpec)) storeTellsUptoCard

/-- THE SECOND FORM's CARD OF 'tolllaw5.StoreVaries'. -/
def storeVariesUptoCard : Claim7 := { stood := { row := storeVariesUptoRow, standIns := [], harness := (true, "630bb376ed58f331d5bc30c7db4fa92174dba3be9cfecf13621a0e111453c40e"), looks := true }, kinds := [], alts := [], laidByText := true, laidKinds := [.data, .data, .data, .data, .sentinel, .sentinel, .pinned], laidTests := true, laidLooks := .later }
def StoreVariesUptoCardSaid : Prop := Claim7.holds Tryd.pinned (.plain (OpenSpec.upto storeVariesSpec)) storeVariesUptoCard
end Rows
end Go.Proofs.YtcdhjbeeehjpiaaDoor
