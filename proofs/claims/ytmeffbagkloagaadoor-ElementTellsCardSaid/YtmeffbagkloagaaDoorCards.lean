/-
  DERIVED. GIVEN WITH THE SEED: THE CARDS: each row of YtmeffbagkloagaaDoorRows.lean that lists a variable, with what it lists TIED to the program's text (the seventh form; the later family's looks); each row that meets fmt, with fmt's text TOLD by the authors' own Lean function (tested against real Go, not proved from fmt's source: count such statements apart). THE CARD IS WHAT COUNTS. Prove the row's statement (the work); the ties are given (YtmeffbagkloagaaDoorTie.lean); close each card by the builder's one call (the guide's Derived/Test/ToyasCard.lean, 'card_holds'). Laid BY PROGRAM, IN A SANDBOX (cutbox-door.mjs). By AI agents, Wed Nov 11 2026. No macro, syntax, notation, axiom, sorry.
-/
import Derived.Test.YtmeffbagkloagaaDoorRows
import GoSem.ClaimSeven
namespace Go.Proofs.YtmeffbagkloagaaDoor
namespace Rows

/-- THE TIED CARD OF 'comptoirlaw16.ElementTells'. -/
def elementTellsCard : Claim7 := { stood := { row := elementTellsRow, standIns := [], harness := (true, "f20f82eb575d5aae696bd9e8ee7dc40f34fa8d06285b949368cf6d6bc7d0d7ba"), looks := false }, kinds := [], alts := [], laidByText := true, laidKinds := [.data, .data, .data], laidTests := true, laidLooks := .later }
def ElementTellsCardSaid : Prop := Claim7.holds Tryd.pinned (.plain (OpenSpec.ofChange elementTellsSpec)) elementTellsCard

/-- THE TIED CARD OF 'comptoirlaw16.ElementBack'. -/
def elementBackCard : Claim7 := { stood := { row := elementBackRow, standIns := [], harness := (true, "f20f82eb575d5aae696bd9e8ee7dc40f34fa8d06285b949368cf6d6bc7d0d7ba"), looks := false }, kinds := [], alts := [], laidByText := true, laidKinds := [.data, .data, .data], laidTests := true, laidLooks := .later }
def ElementBackCardSaid : Prop := Claim7.holds Tryd.pinned (.plain (OpenSpec.ofChange elementBackSpec)) elementBackCard

/-- THE TIED CARD OF 'comptoirlaw16.ElementLengths'. -/
def elementLengthsCard : Claim7 := { stood := { row := elementLengthsRow, standIns := [], harness := (true, "f20f82eb575d5aae696bd9e8ee7dc40f34fa8d06285b949368cf6d6bc7d0d7ba"), looks := false }, kinds := [], alts := [], laidByText := true, laidKinds := [.data, .data, .data], laidTests := true, laidLooks := .later }
def ElementLengthsCardSaid : Prop := Claim7.holds Tryd.pinned (.plain (OpenSpec.ofChange elementLengthsSpec)) elementLengthsCard

/-- THE SECOND FORM's CARD OF 'comptoirlaw16.ElementTells'. -/
def elementTellsUptoCard : Claim7 := { stood := { row := elementTellsUptoRow, standIns := [], harness := (true, "f20f82eb575d5aae696bd9e8ee7dc40f34fa8d06285b949368cf6d6bc7d0d7ba"), looks := false }, kinds := [], alts := [], laidByText := true, laidKinds := [.data, .data, .data], laidTests := true, laidLooks := .later }
def ElementTellsUptoCardSaid : Prop := Claim7.holds Tryd.pinned (.plain (OpenSpec.upto elementTellsSpec)) elementTellsUptoCard

/-- THE SECOND FORM's CARD OF 'comptoirlaw16.ElementBack'. -/
def elementBackUptoCard : Claim7 := { stood := { row := elementBackUptoRow, standIns := [], harness := (true, "f20f82eb575d5aae696bd9e8ee7dc40f34fa8d06285b949368cf6d6bc7d0d7ba"), looks := false }, kinds := [], alts := [], laidByText := true, laidKinds := [.data, .data, .data], laidTests := true, laidLooks := .later }
def ElementBackUptoCardSaid : Prop := Claim7.holds Tryd.pinned (.plain (OpenSpec.upto elementBackSpec)) elementBackUptoCard

/-- THE SECOND FORM's CARD OF 'comptoirlaw16.ElementLengths'. -/
def elementLengthsUptoCard : Claim7 := { stood := { row := elementLengthsUptoRow, standIns := [], harness := (true, "f20f82eb575d5aae696bd9e8ee7dc40f34fa8d06285b949368cf6d6bc7d0d7ba"), looks := false }, kinds := [], alts := [], laidByText := true, laidKinds := [.data, .data, .data], laidTests := true, laidLooks := .later }
def ElementLengthsUptoCardSaid : Prop := Claim7.holds Tryd.pinned (.plain (OpenSpec.upto elementLengthsSpec)) elementLengthsUptoCard
end Rows
end Go.Proofs.YtmeffbagkloagaaDoor
