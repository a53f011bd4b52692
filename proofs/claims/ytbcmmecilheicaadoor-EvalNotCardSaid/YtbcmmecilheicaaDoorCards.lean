/-
  DERIVED. GIVEN WITH THE SEED: THE CARDS: each row of YtbcmmecilheicaaDoorRows.lean that lists a variable, with what it lists TIED to the program's text (the seventh form; the later family's looks); each row that meets fmt, with fmt's text TOLD by the authors' own Lean function (tested against real Go, not proved from fmt's source: count such statements apart). THE CARD IS WHAT COUNTS. Prove the row's statement (the work); the ties are given (YtbcmmecilheicaaDoorTie.lean); close each card by the builder's one call (the guide's Derived/Test/ToyasCard.lean, 'card_holds'). Laid BY PROGRAM, IN A SANDBOX (cutbox-door.mjs). By AI agents, Wed Nov 11 2026. No macro, syntax, notation, axiom, sorry.
-/
import Derived.Test.YtbcmmecilheicaaDoorRows
import GoSem.ClaimSeven
namespace Go.Proofs.YtbcmmecilheicaaDoor
namespace Rows

/-- THE TIED CARD OF 'barbicanlaw21.EvalNot'. -/
def evalNotCard : Claim7 := { stood := { row := evalNotRow, standIns := [], harness := (true, "6c0ca01bbee2e9ddd387aee464cd49366308544f4ed4ddb926e45d17149d8749"), looks := true }, kinds := [], alts := [], laidByText := true, laidKinds := [.handle], laidTests := true, laidLooks := .later }
def EvalNotCardSaid : Prop := Claim7.holds Tryd.pinned (.plain (OpenSpec.ofChange evalNotSpec)) evalNotCard

/-- THE SECOND FORM's CARD OF 'barbicanlaw21.EvalNot'. -/
def evalNotUptoCard : Claim7 := { stood := { row := evalNotUptoRow, standIns := [], harness := (true, "6c0ca01bbee2e9ddd387aee464cd49366308544f4ed4ddb926e45d17149d8749"), looks := true }, kinds := [], alts := [], laidByText := true, laidKinds := [.handle], laidTests := true, laidLooks := .later }
def EvalNotUptoCardSaid : Prop := Claim7.holds Tryd.pinned (.plain (OpenSpec.upto evalNotSpec)) evalNotUptoCard
end Rows
end Go.Proofs.YtbcmmecilheicaaDoor
