/-
  DERIVED. GIVEN WITH THE SEED: THE CARDS: each row of YtbcmmecilheicaaGreatDoorRows.lean that lists a variable, with what it lists TIED to the program's text (the seventh form; the later family's looks); each row that meets fmt, with fmt's text TOLD by the authors' own Lean function (tested against real Go, not proved from fmt's source: count such statements apart). THE CARD IS WHAT COUNTS. Prove the row's statement (the work); the ties are given (YtbcmmecilheicaaGreatDoorTie.lean); close each card by the builder's one call (the guide's Derived/Test/ToyasCard.lean, 'card_holds'). Laid BY PROGRAM, IN A SANDBOX (cutbox-door.mjs). By AI agents, Wed Nov 11 2026. No macro, syntax, notation, axiom, sorry.
-/
import Derived.Test.YtbcmmecilheicaaGreatDoorRows
import GoSem.ClaimSeven
namespace Go.Proofs.YtbcmmecilheicaaGreatDoor
namespace Rows

/-- THE TIED CARD OF 'barbicanlaw21.EvalSound'. -/
def evalSoundCard : Claim7 := { stood := { row := evalSoundRow, standIns := [], harness := (true, "ce653752639eca1bb70c764bac2b54c1ef4e77c7489cad5f803cc5f6ea0c2ae0"), looks := true }, kinds := [], alts := [], laidByText := true, laidKinds := [.handle], laidTests := true, laidLooks := .later }
def EvalSoundCardSaid : Prop := Claim7.holds Tryz.pinned (.plain (OpenSpec.ofChange evalSoundSpec)) evalSoundCard

/-- THE TIED CARD OF 'barbicanlaw23.ExecLimits'. -/
def execLimitsCard : Claim7 := { stood := { row := execLimitsRow, standIns := [], harness := (true, "ce653752639eca1bb70c764bac2b54c1ef4e77c7489cad5f803cc5f6ea0c2ae0"), looks := true }, kinds := [], alts := [], laidByText := true, laidKinds := [.handle], laidTests := true, laidLooks := .later }
def ExecLimitsCardSaid : Prop := Claim7.holds Tryz.pinned (.plain (OpenSpec.ofChange execLimitsSpec)) execLimitsCard

/-- THE TIED CARD OF 'barbicanlaw23.ExecChanges'. -/
def execChangesCard : Claim7 := { stood := { row := execChangesRow, standIns := [], harness := (true, "ce653752639eca1bb70c764bac2b54c1ef4e77c7489cad5f803cc5f6ea0c2ae0"), looks := true }, kinds := [], alts := [], laidByText := true, laidKinds := [.handle], laidTests := true, laidLooks := .later }
def ExecChangesCardSaid : Prop := Claim7.holds Tryz.pinned (.plain (OpenSpec.ofChange execChangesSpec)) execChangesCard

/-- THE SECOND FORM's CARD OF 'barbicanlaw21.EvalSound'. -/
def evalSoundUptoCard : Claim7 := { stood := { row := evalSoundUptoRow, standIns := [], harness := (true, "ce653752639eca1bb70c764bac2b54c1ef4e77c7489cad5f803cc5f6ea0c2ae0"), looks := true }, kinds := [], alts := [], laidByText := true, laidKinds := [.handle], laidTests := true, laidLooks := .later }
def EvalSoundUptoCardSaid : Prop := Claim7.holds Tryz.pinned (.plain (OpenSpec.upto evalSoundSpec)) evalSoundUptoCard

/-- THE SECOND FORM's CARD OF 'barbicanlaw23.ExecLimits'. -/
def execLimitsUptoCard : Claim7 := { stood := { row := execLimitsUptoRow, standIns := [], harness := (true, "ce653752639eca1bb70c764bac2b54c1ef4e77c7489cad5f803cc5f6ea0c2ae0"), looks := true }, kinds := [], alts := [], laidByText := true, laidKinds := [.handle], laidTests := true, laidLooks := .later }
def ExecLimitsUptoCardSaid : Prop := Claim7.holds Tryz.pinned (.plain (OpenSpec.upto execLimitsSpec)) execLimitsUptoCard

/-- THE SECOND FORM's CARD OF 'barbicanlaw23.ExecChanges'. -/
def execChangesUptoCard : Claim7 := { stood := { row := execChangesUptoRow, standIns := [], harness := (true, "ce653752639eca1bb70c764bac2b54c1ef4e77c7489cad5f803cc5f6ea0c2ae0"), looks := true }, kinds := [], alts := [], laidByText := true, laidKinds := [.handle], laidTests := true, laidLooks := .later }
def ExecChangesUptoCardSaid : Prop := Claim7.holds Tryz.pinned (.plain (OpenSpec.upto execChangesSpec)) execChangesUptoCard
end Rows
end Go.Proofs.YtbcmmecilheicaaGreatDoor
