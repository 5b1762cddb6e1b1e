/-
  DERIVED. GIVEN WITH THE SEED: THE CARDS: each row of YtlgndfckmnninaaDoorRows.lean that lists a variable, with what it lists TIED to the program's text (the seventh form; the later family's looks); each row that meets fmt, with fmt's text TOLD by the authors' own Lean function (tested against real Go, not proved from fmt's source: count such statements apart). THE CARD IS WHAT COUNTS. Prove the row's statement (the work); the ties are given (YtlgndfckmnninaaDoorTie.lean); close each card by the builder's one call (the guide's Derived/Test/ToyasCard.lean, 'card_holds'). Laid BY PROGRAM, IN A SANDBOX (cutbox-door.mjs). By AI agents, Wed Nov 11 2026. No macro, syntax, notation, axiom, sorry.
-/
import Derived.Test.YtlgndfckmnninaaDoorRows
import GoSem.ClaimSeven
namespace Go.Proofs.YtlgndfckmnninaaDoor
namespace Rows

/-- THE TIED CARD OF 'tidepolelaw06.StampSmall'. -/
def stampSmallCard : Claim7 := { stood := { row := stampSmallRow, standIns := [], harness := (true, "be161dddcf822252aefe1cd3c089d2ded8312abac7a911784b1c12d962751af1"), looks := false }, kinds := [], alts := [], laidByText := true, laidKinds := [.data], laidTests := true, laidLooks := .later }
def StampSmallCardSaid : Prop := Claim7.holds Tryd.pinned (.plain (OpenSpec.ofChange stampSmallSpec)) stampSmallCard

/-- THE TIED CARD OF 'tidepolelaw06.StampPuts'. -/
def stampPutsCard : Claim7 := { stood := { row := stampPutsRow, standIns := [], harness := (true, "be161dddcf822252aefe1cd3c089d2ded8312abac7a911784b1c12d962751af1"), looks := false }, kinds := [], alts := [], laidByText := true, laidKinds := [.data], laidTests := true, laidLooks := .later }
def StampPutsCardSaid : Prop := Claim7.holds Tryd.pinned (.plain (OpenSpec.ofChange stampPutsSpec)) stampPutsCard

/-- THE TIED CARD OF 'tidepolelaw07.XorSmall'. -/
def xorSmallCard : Claim7 := { stood := { row := xorSmallRow, standIns := [], harness := (true, "be161dddcf822252aefe1cd3c089d2ded8312abac7a911784b1c12d962751af1"), looks := false }, kinds := [], alts := [], laidByText := true, laidKinds := [.data], laidTests := true, laidLooks := .later }
def XorSmallCardSaid : Prop := Claim7.holds Tryd.pinned (.plain (OpenSpec.ofChange xorSmallSpec)) xorSmallCard

/-- THE TIED CARD OF 'tidepolelaw07.XorPuts'. -/
def xorPutsCard : Claim7 := { stood := { row := xorPutsRow, standIns := [], harness := (true, "be161dddcf822252aefe1cd3c089d2ded8312abac7a911784b1c12d962751af1"), looks := false }, kinds := [], alts := [], laidByText := true, laidKinds := [.data], laidTests := true, laidLooks := .later }
def XorPutsCardSaid : Prop := Claim7.holds Tryd.pinned (.plain (OpenSpec.ofChange xorPutsSpec)) xorPutsCard

/-- THE TIED CARD OF 'tidepolelaw06.StampGets'. -/
def stampGetsCard : Claim7 := { stood := { row := stampGetsRow, standIns := [], harness := (true, "be161dddcf822252aefe1cd3c089d2ded8312abac7a911784b1c12d962751af1"), looks := false }, kinds := [], alts := [], laidByText := true, laidKinds := [.data], laidTests := true, laidLooks := .later }
def StampGetsCardSaid : Prop := Claim7.holds Tryd.pinned (.plain (OpenSpec.ofChange stampGetsSpec)) stampGetsCard

/-- THE TIED CARD OF 'tidepolelaw06.StampOnce'. -/
def stampOnceCard : Claim7 := { stood := { row := stampOnceRow, standIns := [], harness := (true, "be161dddcf822252aefe1cd3c089d2ded8312abac7a911784b1c12d962751af1"), looks := false }, kinds := [], alts := [], laidByText := true, laidKinds := [.data], laidTests := true, laidLooks := .later }
def StampOnceCardSaid : Prop := Claim7.holds Tryd.pinned (.plain (OpenSpec.ofChange stampOnceSpec)) stampOnceCard

/-- THE TIED CARD OF 'tidepolelaw06.StampBytes'. -/
def stampBytesCard : Claim7 := { stood := { row := stampBytesRow, standIns := [], harness := (true, "be161dddcf822252aefe1cd3c089d2ded8312abac7a911784b1c12d962751af1"), looks := false }, kinds := [], alts := [], laidByText := true, laidKinds := [.data], laidTests := true, laidLooks := .later }
def StampBytesCardSaid : Prop := Claim7.holds Tryd.pinned (.plain (OpenSpec.ofChange stampBytesSpec)) stampBytesCard

/-- THE TIED CARD OF 'tidepolelaw06.StampBack'. -/
def stampBackCard : Claim7 := { stood := { row := stampBackRow, standIns := [], harness := (true, "be161dddcf822252aefe1cd3c089d2ded8312abac7a911784b1c12d962751af1"), looks := false }, kinds := [], alts := [], laidByText := true, laidKinds := [.data], laidTests := true, laidLooks := .later }
def StampBackCardSaid : Prop := Claim7.holds Tryd.pinned (.plain (OpenSpec.ofChange stampBackSpec)) stampBackCard

/-- THE TIED CARD OF 'tidepolelaw07.XorGets'. -/
def xorGetsCard : Claim7 := { stood := { row := xorGetsRow, standIns := [], harness := (true, "be161dddcf822252aefe1cd3c089d2ded8312abac7a911784b1c12d962751af1"), looks := false }, kinds := [], alts := [], laidByText := true, laidKinds := [.data], laidTests := true, laidLooks := .later }
def XorGetsCardSaid : Prop := Claim7.holds Tryd.pinned (.plain (OpenSpec.ofChange xorGetsSpec)) xorGetsCard

/-- THE TIED CARD OF 'tidepolelaw07.XorOnce'. -/
def xorOnceCard : Claim7 := { stood := { row := xorOnceRow, standIns := [], harness := (true, "be161dddcf822252aefe1cd3c089d2ded8312abac7a911784b1c12d962751af1"), looks := false }, kinds := [], alts := [], laidByText := true, laidKinds := [.data], laidTests := true, laidLooks := .later }
def XorOnceCardSaid : Prop := Claim7.holds Tryd.pinned (.plain (OpenSpec.ofChange xorOnceSpec)) xorOnceCard

/-- THE TIED CARD OF 'tidepolelaw07.XorBytes'. -/
def xorBytesCard : Claim7 := { stood := { row := xorBytesRow, standIns := [], harness := (true, "be161dddcf822252aefe1cd3c089d2ded8312abac7a911784b1c12d962751af1"), looks := false }, kinds := [], alts := [], laidByText := true, laidKinds := [.data], laidTests := true, laidLooks := .later }
def XorBytesCardSaid : Prop := Claim7.holds Tryd.pinned (.plain (OpenSpec.ofChange xorBytesSpec)) xorBytesCard

/-- THE SECOND FORM's CARD OF 'tidepolelaw06.StampSmall'. -/
def stampSmallUptoCard : Claim7 := { stood := { row := stampSmallUptoRow, standIns := [], harness := (true, "be161dddcf822252aefe1cd3c089d2ded8312abac7a911784b1c12d962751af1"), looks := false }, kinds := [], alts := [], laidByText := true, laidKinds := [.data], laidTests := true, laidLooks := .later }
def StampSmallUptoCardSaid : Prop := Claim7.holds Tryd.pinned (.plain (OpenSpec.upto stampSmallSpec)) stampSmallUptoCard

/-- THE SECOND FORM's CARD OF 'tidepolelaw06.StampPuts'. -/
def stampPutsUptoCard : Claim7 := { stood := { row := stampPutsUptoRow, standIns := [], harness := (true, "be161dddcf822252aefe1cd3c089d2ded8312abac7a911784b1c12d962751af1"), looks := false }, kinds := [], alts := [], laidByText := true, laidKinds := [.data], laidTests := true, laidLooks := .later }
def StampPutsUptoCardSaid : Prop := Claim7.holds Tryd.pinned (.plain (OpenSpec.upto stampPutsSpec)) stampPutsUptoCard

/-- THE SECOND FORM's CARD OF 'tidepolelaw07.XorSmall'. -/
def xorSmallUptoCard : Claim7 := { stood := { row := xorSmallUptoRow, standIns := [], harness := (true, "be161dddcf822252aefe1cd3c089d2ded8312abac7a911784b1c12d962751af1"), looks := false }, kinds := [], alts := [], laidByText := true, laidKinds := [.data], laidTests := true, laidLooks := .later }
def XorSmallUptoCardSaid : Prop := Claim7.holds Tryd.pinned (.plain (OpenSpec.upto xorSmallSpec)) xorSmallUptoCard

/-- THE SECOND FORM's CARD OF 'tidepolelaw07.XorPuts'. -/
def xorPutsUptoCard : Claim7 := { stood := { row := xorPutsUptoRow, standIns := [], harness := (true, "be161dddcf822252aefe1cd3c089d2ded8312abac7a911784b1c12d962751af1"), looks := false }, kinds := [], alts := [], laidByText := true, laidKinds := [.data], laidTests := true, laidLooks := .later }
def XorPutsUptoCardSaid : Prop := Claim7.holds Tryd.pinned (.plain (OpenSpec.upto xorPutsSpec)) xorPutsUptoCard

/-- THE SECOND FORM's CARD OF 'tidepolelaw06.StampGets'. -/
def stampGetsUptoCard : Claim7 := { stood := { row := stampGetsUptoRow, standIns := [], harness := (true, "be161dddcf822252aefe1cd3c089d2ded8312abac7a911784b1c12d962751af1"), looks := false }, kinds := [], alts := [], laidByText := true, laidKinds := [.data], laidTests := true, laidLooks := .later }
def StampGetsUptoCardSaid : Prop := Claim7.holds Tryd.pinned (.plain (OpenSpec.upto stampGetsSpec)) stampGetsUptoCard

/-- THE SECOND FORM's CARD OF 'tidepolelaw06.StampOnce'. -/
def stampOnceUptoCard : Claim7 := { stood := { row := stampOnceUptoRow, standIns := [], harness := (true, "be161dddcf822252aefe1cd3c089d2ded8312abac7a911784b1c12d962751af1"), looks := false }, kinds := [], alts := [], laidByText := true, laidKinds := [.data], laidTests := true, laidLooks := .later }
def StampOnceUptoCardSaid : Prop := Claim7.holds Tryd.pinned (.plain (OpenSpec.upto stampOnceSpec)) stampOnceUptoCard

/-- THE SECOND FORM's CARD OF 'tidepolelaw06.StampBytes'. -/
def stampBytesUptoCard : Claim7 := { stood := { row := stampBytesUptoRow, standIns := [], harness := (true, "be161dddcf822252aefe1cd3c089d2ded8312abac7a911784b1c12d962751af1"), looks := false }, kinds := [], alts := [], laidByText := true, laidKinds := [.data], laidTests := true, laidLooks := .later }
def StampBytesUptoCardSaid : Prop := Claim7.holds Tryd.pinned (.plain (OpenSpec.upto stampBytesSpec)) stampBytesUptoCard

/-- THE SECOND FORM's CARD OF 'tidepolelaw06.StampBack'. -/
def stampBackUptoCard : Claim7 := { stood := { row := stampBackUptoRow, standIns := [], harness := (true, "be161dddcf822252aefe1cd3c089d2ded8312abac7a911784b1c12d962751af1"), looks := false }, kinds := [], alts := [], laidByText := true, laidKinds := [.data], laidTests := true, laidLooks := .later }
def StampBackUptoCardSaid : Prop := Claim7.holds Tryd.pinned (.plain (OpenSpec.upto stampBackSpec)) stampBackUptoCard

/-- THE SECOND FORM's CARD OF 'tidepolelaw07.XorGets'. -/
def xorGetsUptoCard : Claim7 := { stood := { row := xorGetsUptoRow, standIns := [], harness := (true, "be161dddcf822252aefe1cd3c089d2ded8312abac7a911784b1c12d962751af1"), looks := false }, kinds := [], alts := [], laidByText := true, laidKinds := [.data], laidTests := true, laidLooks := .later }
def XorGetsUptoCardSaid : Prop := Claim7.holds Tryd.pinned (.plain (OpenSpec.upto xorGetsSpec)) xorGetsUptoCard

/-- THE SECOND FORM's CARD OF 'tidepolelaw07.XorOnce'. -/
def xorOnceUptoCard : Claim7 := { stood := { row := xorOnceUptoRow, standIns := [], harness := (true, "be161dddcf822252aefe1cd3c089d2ded8312abac7a911784b1c12d962751af1"), looks := false }, kinds := [], alts := [], laidByText := true, laidKinds := [.data], laidTests := true, laidLooks := .later }
def XorOnceUptoCardSaid : Prop := Claim7.holds Tryd.pinned (.plain (OpenSpec.upto xorOnceSpec)) xorOnceUptoCard

/-- THE SECOND FORM's CARD OF 'tidepolelaw07.XorBytes'. -/
def xorBytesUptoCard : Claim7 := { stood := { row := xorBytesUptoRow, standIns := [], harness := (true, "be161dddcf822252aefe1cd3c089d2ded8312abac7a911784b1c12d962751af1"), looks := false }, kinds := [], alts := [], laidByText := true, laidKinds := [.data], laidTests := true, laidLooks := .later }
def XorBytesUptoCardSaid : Prop := Claim7.holds Tryd.pinned (.plain (OpenSpec.upto xorBytesSpec)) xorBytesUptoCard
end Rows
end Go.Proofs.YtlgndfckmnninaaDoor
