/-
  DERIVED. GIVEN WITH THE SEED: THE CARDS: each row of YtblmikccdhdjlaaGreatDoorRows.lean that lists a variable, with what it lists TIED to the program's text (the seventh form; the later family's looks); each row that meets fmt, with fmt's text TOLD by the authors' own Lean function (tested against real Go, not proved from fmt's source: count such statements apart). THE CARD IS WHAT COUNTS. Prove the row's statement (the work); the ties are given (YtblmikccdhdjlaaGreatDoorTie.lean); close each card by the builder's one call (the guide's Derived/Test/ToyasCard.lean, 'card_holds'). Laid BY PROGRAM, IN A SANDBOX (cutbox-door.mjs). By AI agents, Wed Nov 11 2026. No macro, syntax, notation, axiom, sorry.
-/
import Derived.Test.YtblmikccdhdjlaaGreatDoorRows
import GoSem.ClaimSeven
namespace Go.Proofs.YtblmikccdhdjlaaGreatDoor
namespace Rows

/-- THE TIED CARD OF 'verdigrislaw06.LeastSolves'. -/
def leastSolvesCard : Claim7 := { stood := { row := leastSolvesRow, standIns := [], harness := (true, "2a7f79b7bdf0d342b716cd00dd52945cbe5836de11447efbbe5e9ed44ce9fe6c"), looks := true }, kinds := [], alts := [], laidByText := true, laidKinds := [.data, .data, .data, .sentinel, .sentinel], laidTests := true, laidLooks := .later }
def LeastSolvesCardSaid : Prop := Claim7.holds Tryz.pinned (.plain (OpenSpec.ofChange leastSolvesSpec)) leastSolvesCard

/-- THE TIED CARD OF 'verdigrislaw06.LeastFits'. -/
def leastFitsCard : Claim7 := { stood := { row := leastFitsRow, standIns := [], harness := (true, "2a7f79b7bdf0d342b716cd00dd52945cbe5836de11447efbbe5e9ed44ce9fe6c"), looks := true }, kinds := [], alts := [], laidByText := true, laidKinds := [.data, .data, .data, .sentinel, .sentinel], laidTests := true, laidLooks := .later }
def LeastFitsCardSaid : Prop := Claim7.holds Tryz.pinned (.plain (OpenSpec.ofChange leastFitsSpec)) leastFitsCard

/-- THE TIED CARD OF 'verdigrislaw06.LeastBest'. -/
def leastBestCard : Claim7 := { stood := { row := leastBestRow, standIns := [], harness := (true, "2a7f79b7bdf0d342b716cd00dd52945cbe5836de11447efbbe5e9ed44ce9fe6c"), looks := true }, kinds := [], alts := [], laidByText := true, laidKinds := [.data, .data, .data, .sentinel, .sentinel], laidTests := true, laidLooks := .later }
def LeastBestCardSaid : Prop := Claim7.holds Tryz.pinned (.plain (OpenSpec.ofChange leastBestSpec)) leastBestCard

/-- THE TIED CARD OF 'verdigrislaw06.LeastWeights'. -/
def leastWeightsCard : Claim7 := { stood := { row := leastWeightsRow, standIns := [], harness := (true, "2a7f79b7bdf0d342b716cd00dd52945cbe5836de11447efbbe5e9ed44ce9fe6c"), looks := true }, kinds := [], alts := [], laidByText := true, laidKinds := [.data, .data, .data, .sentinel, .sentinel], laidTests := true, laidLooks := .later }
def LeastWeightsCardSaid : Prop := Claim7.holds Tryz.pinned (.plain (OpenSpec.ofChange leastWeightsSpec)) leastWeightsCard

/-- THE TIED CARD OF 'verdigrislaw06.LeastKnown'. -/
def leastKnownCard : Claim7 := { stood := { row := leastKnownRow, standIns := [], harness := (true, "2a7f79b7bdf0d342b716cd00dd52945cbe5836de11447efbbe5e9ed44ce9fe6c"), looks := true }, kinds := [], alts := [], laidByText := true, laidKinds := [.data, .data, .data, .sentinel, .sentinel], laidTests := true, laidLooks := .later }
def LeastKnownCardSaid : Prop := Claim7.holds Tryz.pinned (.plain (OpenSpec.ofChange leastKnownSpec)) leastKnownCard

/-- THE TIED CARD OF 'verdigrislaw06.LeastRanks'. -/
def leastRanksCard : Claim7 := { stood := { row := leastRanksRow, standIns := [], harness := (true, "2a7f79b7bdf0d342b716cd00dd52945cbe5836de11447efbbe5e9ed44ce9fe6c"), looks := true }, kinds := [], alts := [], laidByText := true, laidKinds := [.data, .data, .data, .sentinel, .sentinel], laidTests := true, laidLooks := .later }
def LeastRanksCardSaid : Prop := Claim7.holds Tryz.pinned (.plain (OpenSpec.ofChange leastRanksSpec)) leastRanksCard

/-- THE TIED CARD OF 'verdigrislaw06.LeastExact'. -/
def leastExactCard : Claim7 := { stood := { row := leastExactRow, standIns := [], harness := (true, "2a7f79b7bdf0d342b716cd00dd52945cbe5836de11447efbbe5e9ed44ce9fe6c"), looks := true }, kinds := [], alts := [], laidByText := true, laidKinds := [.data, .data, .data, .sentinel, .sentinel], laidTests := true, laidLooks := .later }
def LeastExactCardSaid : Prop := Claim7.holds Tryz.pinned (.plain (OpenSpec.ofChange leastExactSpec)) leastExactCard

/-- THE SECOND FORM's CARD OF 'verdigrislaw06.LeastSolves'. -/
def leastSolvesUptoCard : Claim7 := { stood := { row := leastSolvesUptoRow, standIns := [], harness := (true, "2a7f79b7bdf0d342b716cd00dd52945cbe5836de11447efbbe5e9ed44ce9fe6c"), looks := true }, kinds := [], alts := [], laidByText := true, laidKinds := [.data, .data, .data, .sentinel, .sentinel], laidTests := true, laidLooks := .later }
def LeastSolvesUptoCardSaid : Prop := Claim7.holds Tryz.pinned (.plain (OpenSpec.upto leastSolvesSpec)) leastSolvesUptoCard

/-- THE SECOND FORM's CARD OF 'verdigrislaw06.LeastFits'. -/
def leastFitsUptoCard : Claim7 := { stood := { row := leastFitsUptoRow, standIns := [], harness := (true, "2a7f79b7bdf0d342b716cd00dd52945cbe5836de11447efbbe5e9ed44ce9fe6c"), looks := true }, kinds := [], alts := [], laidByText := true, laidKinds := [.data, .data, .data, .sentinel, .sentinel], laidTests := true, laidLooks := .later }
def LeastFitsUptoCardSaid : Prop := Claim7.holds Tryz.pinned (.plain (OpenSpec.upto leastFitsSpec)) leastFitsUptoCard

/-- THE SECOND FORM's CARD OF 'verdigrislaw06.LeastBest'. -/
def leastBestUptoCard : Claim7 := { stood := { row := leastBestUptoRow, standIns := [], harness := (true, "2a7f79b7bdf0d342b716cd00dd52945cbe5836de11447efbbe5e9ed44ce9fe6c"), looks := true }, kinds := [], alts := [], laidByText := true, laidKinds := [.data, .data, .data, .sentinel, .sentinel], laidTests := true, laidLooks := .later }
def LeastBestUptoCardSaid : Prop := Claim7.holds Tryz.pinned (.plain (OpenSpec.upto leastBestSpec)) leastBestUptoCard

/-- THE SECOND FORM's CARD OF 'verdigrislaw06.LeastWeights'. -/
def leastWeightsUptoCard : Claim7 := { stood := { row := leastWeightsUptoRow, standIns := [], harness := (true, "2a7f79b7bdf0d342b716cd00dd52945cbe5836de11447efbbe5e9ed44ce9fe6c"), looks := true }, kinds := [], alts := [], laidByText := true, laidKinds := [.data, .data, .data, .sentinel, .sentinel], laidTests := true, laidLooks := .later }
def LeastWeightsUptoCardSaid : Prop := Claim7.holds Tryz.pinned (.plain (OpenSpec.upto leastWeightsSpec)) leastWeightsUptoCard

/-- THE SECOND FORM's CARD OF 'verdigrislaw06.LeastKnown'. -/
def leastKnownUptoCard : Claim7 := { stood := { row := leastKnownUptoRow, standIns := [], harness := (true, "2a7f79b7bdf0d342b716cd00dd52945cbe5836de11447efbbe5e9ed44ce9fe6c"), looks := true }, kinds := [], alts := [], laidByText := true, laidKinds := [.data, .data, .data, .sentinel, .sentinel], laidTests := true, laidLooks := .later }
def LeastKnownUptoCardSaid : Prop := Claim7.holds Tryz.pinned (.plain (OpenSpec.upto leastKnownSpec)) leastKnownUptoCard

/-- THE SECOND FORM's CARD OF 'verdigrislaw06.LeastRanks'. -/
def leastRanksUptoCard : Claim7 := { stood := { row := leastRanksUptoRow, standIns := [], harness := (true, "2a7f79b7bdf0d342b716cd00dd52945cbe5836de11447efbbe5e9ed44ce9fe6c"), looks := true }, kinds := [], alts := [], laidByText := true, laidKinds := [.data, .data, .data, .sentinel, .sentinel], laidTests := true, laidLooks := .later }
def LeastRanksUptoCardSaid : Prop := Claim7.holds Tryz.pinned (.plain (OpenSpec.upto leastRanksSpec)) leastRanksUptoCard

/-- THE SECOND FORM's CARD OF 'verdigrislaw06.LeastExact'. -/
def leastExactUptoCard : Claim7 := { stood := { row := leastExactUptoRow, standIns := [], harness := (true, "2a7f79b7bdf0d342b716cd00dd52945cbe5836de11447efbbe5e9ed44ce9fe6c"), looks := true }, kinds := [], alts := [], laidByText := true, laidKinds := [.data, .data, .data, .sentinel, .sentinel], laidTests := true, laidLooks := .later }
def LeastExactUptoCardSaid : Prop := Claim7.holds Tryz.pinned (.plain (OpenSpec.upto leastExactSpec)) leastExactUptoCard
end Rows
end Go.Proofs.YtblmikccdhdjlaaGreatDoor
