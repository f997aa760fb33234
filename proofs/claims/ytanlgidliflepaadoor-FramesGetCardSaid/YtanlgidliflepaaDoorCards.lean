/-
  DERIVED. GIVEN WITH THE SEED: THE CARDS: each row of YtanlgidliflepaaDoorRows.lean that lists a variable, with what it lists TIED to the program's text (the seventh form; the later family's looks); each row that meets fmt, with fmt's text TOLD by the authors' own Lean function (tested against real Go, not proved from fmt's source: count such statements apart). THE CARD IS WHAT COUNTS. Prove the row's statement (the work); the ties are given (YtanlgidliflepaaDoorTie.lean); close each card by the builder's one call (the guide's Derived/Test/ToyasCard.lean, 'card_holds'). Laid BY PROGRAM, IN A SANDBOX (cutbox-door.mjs). By AI agents, Wed Nov 11 2026. No macro, syntax, notation, axiom, sorry.
-/
import Derived.Test.YtanlgidliflepaaDoorRows
import GoSem.ClaimSeven
namespace Go.Proofs.YtanlgidliflepaaDoor
namespace Rows

/-- THE TIED CARD OF 'concordatlaw05.FramesPut'. -/
def framesPutCard : Claim7 := { stood := { row := framesPutRow, standIns := [], harness := (true, "6297b377f710efcf10e6be675b317276f7bbe7a2abceb7e89247c42d364d5957"), looks := false }, kinds := [], alts := [], laidByText := true, laidKinds := [.data, .data, .data], laidTests := true, laidLooks := .later }
def FramesPutCardSaid : Prop := Claim7.holds Tryd.pinned (.plain (OpenSpec.ofChange framesPutSpec)) framesPutCard

/-- THE TIED CARD OF 'concordatlaw05.FramesGet'. -/
def framesGetCard : Claim7 := { stood := { row := framesGetRow, standIns := [], harness := (true, "6297b377f710efcf10e6be675b317276f7bbe7a2abceb7e89247c42d364d5957"), looks := false }, kinds := [], alts := [], laidByText := true, laidKinds := [.data, .data, .data], laidTests := true, laidLooks := .later }
def FramesGetCardSaid : Prop := Claim7.holds Tryd.pinned (.plain (OpenSpec.ofChange framesGetSpec)) framesGetCard

/-- THE SECOND FORM's CARD OF 'concordatlaw05.FramesPut'. -/
def framesPutUptoCard : Claim7 := { stood := { row := framesPutUptoRow, standIns := [], harness := (true, "6297b377f710efcf10e6be675b317276f7bbe7a2abceb7e89247c42d364d5957"), looks := false }, kinds := [], alts := [], laidByText := true, laidKinds := [.data, .data, .data], laidTests := true, laidLooks := .later }
def FramesPutUptoCardSaid : Prop := Claim7.holds Tryd.pinned (.plain (OpenSpec.upto framesPutSpec)) framesPutUptoCard

/-- THE SECOND FORM's CARD OF 'concordatlaw05.FramesGet'. -/
def framesGetUptoCard : Claim7 := { stood := { row := framesGetUptoRow, standIns := [], harness := (true, "6297b377f710efcf10e6be675b317276f7bbe7a2abceb7e89247c42d364d5957"), looks := false }, kinds := [], alts := [], laidByText := true, laidKinds := [.data, .data, .data], laidTests := true, laidLooks := .later }
def FramesGetUptoCardSaid : Prop := Claim7.holds Tryd.pinned (.plain (OpenSpec.upto framesGetSpec)) framesGetUptoCard
end Rows
end Go.Proofs.YtanlgidliflepaaDoor
