/-
  DERIVED. GIVEN WITH THE SEED: THE CARDS: each row of YtchiikfdmogfpaaGreatDoorRows.lean that lists a variable, with what it lists TIED to the program's text (the seventh form; the later family's looks); each row that meets fmt, with fmt's text TOLD by the authors' own Lean function (tested against real Go, not proved from fmt's source: count such statements apart). THE CARD IS WHAT COUNTS. Prove the row's statement (the work); the ties are given (YtchiikfdmogfpaaGreatDoorTie.lean); close each card by the builder's one call (the guide's Derived/Test/ToyasCard.lean, 'card_holds'). Laid BY PROGRAM, IN A SANDBOX (cutbox-door.mjs). By AI agents, Wed Nov 11 2026. No macro, syntax, notation, axiom, sorry.
-/
import Derived.Test.YtchiikfdmogfpaaGreatDoorRows
import GoSem.ClaimSeven
namespace Go.Proofs.YtchiikfdmogfpaaGreatDoor
namespace Rows

/-- THE TIED CARD OF 'despatchlaw17.BoxCalls'. -/
def boxCallsCard : Claim7 := { stood := { row := boxCallsRow, standIns := [], harness := (true, "d58240be89bc9f4f6fbac61eb63133a1529c0c28f2f38e76a58c45a7bf54bd00"), looks := true }, kinds := [], alts := [], laidByText := true, laidKinds := [.data, .data, .data, .sentinel, .sentinel], laidTests := true, laidLooks := .later }
def BoxCallsCardSaid : Prop := Claim7.holds Tryz.pinned (.plain (OpenSpec.ofChange boxCallsSpec)) boxCallsCard

/-- THE TIED CARD OF 'despatchlaw17.BoxFull'. -/
def boxFullCard : Claim7 := { stood := { row := boxFullRow, standIns := [], harness := (true, "d58240be89bc9f4f6fbac61eb63133a1529c0c28f2f38e76a58c45a7bf54bd00"), looks := true }, kinds := [], alts := [], laidByText := true, laidKinds := [.data, .data, .data, .sentinel, .sentinel], laidTests := true, laidLooks := .later }
def BoxFullCardSaid : Prop := Claim7.holds Tryz.pinned (.plain (OpenSpec.ofChange boxFullSpec)) boxFullCard

/-- THE TIED CARD OF 'despatchlaw17.BoxApart'. -/
def boxApartCard : Claim7 := { stood := { row := boxApartRow, standIns := [], harness := (true, "d58240be89bc9f4f6fbac61eb63133a1529c0c28f2f38e76a58c45a7bf54bd00"), looks := true }, kinds := [], alts := [], laidByText := true, laidKinds := [.data, .data, .data, .sentinel, .sentinel], laidTests := true, laidLooks := .later }
def BoxApartCardSaid : Prop := Claim7.holds Tryz.pinned (.plain (OpenSpec.ofChange boxApartSpec)) boxApartCard

/-- THE SECOND FORM's CARD OF 'despatchlaw17.BoxCalls'. -/
def boxCallsUptoCard : Claim7 := { stood := { row := boxCallsUptoRow, standIns := [], harness := (true, "d58240be89bc9f4f6fbac61eb63133a1529c0c28f2f38e76a58c45a7bf54bd00"), looks := true }, kinds := [], alts := [], laidByText := true, laidKinds := [.data, .data, .data, .sentinel, .sentinel], laidTests := true, laidLooks := .later }
def BoxCallsUptoCardSaid : Prop := Claim7.holds Tryz.pinned (.plain (OpenSpec.upto boxCallsSpec)) boxCallsUptoCard

/-- THE SECOND FORM's CARD OF 'despatchlaw17.BoxFull'. -/
def boxFullUptoCard : Claim7 := { stood := { row := boxFullUptoRow, standIns := [], harness := (true, "d58240be89bc9f4f6fbac61eb63133a1529c0c28f2f38e76a58c45a7bf54bd00"), looks := true }, kinds := [], alts := [], laidByText := true, laidKinds := [.data, .data, .data, .sentinel, .sentinel], laidTests := true, laidLooks := .later }
def BoxFullUptoCardSaid : Prop := Claim7.holds Tryz.pinned (.plain (OpenSpec.upto boxFullSpec)) boxFullUptoCard

/-- THE SECOND FORM's CARD OF 'despatchlaw17.BoxApart'. -/
def boxApartUptoCard : Claim7 := { stood := { row := boxApartUptoRow, standIns := [], harness := (true, "d58240be89bc9f4f6fbac61eb63133a1529c0c28f2f38e76a58c45a7bf54bd00"), looks := true }, kinds := [], alts := [], laidByText := true, laidKinds := [.data, .data, .data, .sentinel, .sentinel], laidTests := true, laidLooks := .later }
def BoxApartUptoCardSaid : Prop := Claim7.holds Tryz.pinned (.plain (OpenSpec.upto boxApartSpec)) boxApartUptoCard
end Rows
end Go.Proofs.YtchiikfdmogfpaaGreatDoor
