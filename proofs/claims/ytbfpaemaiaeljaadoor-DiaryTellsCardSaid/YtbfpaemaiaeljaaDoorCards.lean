/-
  DERIVED. GIVEN WITH THE SEED: THE CARDS: each row of YtbfpaemaiaeljaaDoorRows.lean that lists a variable, with what it lists TIED to the program's text (the seventh form; the later family's looks); each row that meets fmt, with fmt's text TOLD by the authors' own Lean function (tested against real Go, not proved from fmt's source: count such statements apart). THE CARD IS WHAT COUNTS. Prove the row's statement (the work); the ties are given (YtbfpaemaiaeljaaDoorTie.lean); close each card by the builder's one call (the guide's Derived/Test/ToyasCard.lean, 'card_holds'). Laid BY PROGRAM, IN A SANDBOX (cutbox-door.mjs). By AI agents, Wed Nov 11 2026. No macro, syntax, notation, axiom, sorry.
-/
import Derived.Test.YtbfpaemaiaeljaaDoorRows
import GoSem.ClaimSeven
namespace Go.Proofs.YtbfpaemaiaeljaaDoor
namespace Rows

/-- THE TIED CARD OF 'switchyardlaw19.DiaryOwn'. -/
def diaryOwnCard : Claim7 := { stood := { row := diaryOwnRow, standIns := [], harness := (true, "183c8db35b960dd9238bc6d828277e7013ba6e5395117e0ed65dd0f49d517505"), looks := false }, kinds := [], alts := [], laidByText := true, laidKinds := [.data, .data, .data], laidTests := true, laidLooks := .later }
def DiaryOwnCardSaid : Prop := Claim7.holds Tryd.pinned (.plain (OpenSpec.ofChange diaryOwnSpec)) diaryOwnCard

/-- THE TIED CARD OF 'switchyardlaw19.DiaryTells'. -/
def diaryTellsCard : Claim7 := { stood := { row := diaryTellsRow, standIns := [], harness := (true, "183c8db35b960dd9238bc6d828277e7013ba6e5395117e0ed65dd0f49d517505"), looks := false }, kinds := [], alts := [], laidByText := true, laidKinds := [.data, .data, .data], laidTests := true, laidLooks := .later }
def DiaryTellsCardSaid : Prop := Claim7.holds Tryd.pinned (.plain (OpenSpec.ofChange diaryTellsSpec)) diaryTellsCard

/-- THE TIED CARD OF 'switchyardlaw19.DiaryRight'. -/
def diaryRightCard : Claim7 := { stood := { row := diaryRightRow, standIns := [], harness := (true, "183c8db35b960dd9238bc6d828277e7013ba6e5395117e0ed65dd0f49d517505"), looks := false }, kinds := [], alts := [], laidByText := true, laidKinds := [.data, .data, .data], laidTests := true, laidLooks := .later }
def DiaryRightCardSaid : Prop := Claim7.holds Tryd.pinned (.plain (OpenSpec.ofChange diaryRightSpec)) diaryRightCard

/-- THE TIED CARD OF 'switchyardlaw19.DiaryParts'. -/
def diaryPartsCard : Claim7 := { stood := { row := diaryPartsRow, standIns := [], harness := (true, "183c8db35b960dd9238bc6d828277e7013ba6e5395117e0ed65dd0f49d517505"), looks := false }, kinds := [], alts := [], laidByText := true, laidKinds := [.data, .data, .data], laidTests := true, laidLooks := .later }
def DiaryPartsCardSaid : Prop := Claim7.holds Tryd.pinned (.plain (OpenSpec.ofChange diaryPartsSpec)) diaryPartsCard

/-- THE SECOND FORM's CARD OF 'switchyardlaw19.DiaryOwn'. -/
def diaryOwnUptoCard : Claim7 := { stood := { row := diaryOwnUptoRow, standIns := [], harness := (true, "183c8db35b960dd9238bc6d828277e7013ba6e5395117e0ed65dd0f49d517505"), looks := false }, kinds := [], alts := [], laidByText := true, laidKinds := [.data, .data, .data], laidTests := true, laidLooks := .later }
def DiaryOwnUptoCardSaid : Prop := Claim7.holds Tryd.pinned (.plain (OpenSpec.upto diaryOwnSpec)) diaryOwnUptoCard

/-- THE SECOND FORM's CARD OF 'switchyardlaw19.DiaryTells'. -/
def diaryTellsUptoCard : Claim7 := { stood := { row := diaryTellsUptoRow, standIns := [], harness := (true, "183c8db35b960dd9238bc6d828277e7013ba6e5395117e0ed65dd0f49d517505"), looks := false }, kinds := [], alts := [], laidByText := true, laidKinds := [.data, .data, .data], laidTests := true, laidLooks := .later }
def DiaryTellsUptoCardSaid : Prop := Claim7.holds Tryd.pinned (.plain (OpenSpec.upto diaryTellsSpec)) diaryTellsUptoCard

/-- THE SECOND FORM's CARD OF 'switchyardlaw19.DiaryRight'. -/
def diaryRightUptoCard : Claim7 := { stood := { row := diaryRightUptoRow, standIns := [], harness := (true, "183c8db35b960dd9238bc6d828277e7013ba6e5395117e0ed65dd0f49d517505"), looks := false }, kinds := [], alts := [], laidByText := true, laidKinds := [.data, .data, .data], laidTests := true, laidLooks := .later }
def DiaryRightUptoCardSaid : Prop := Claim7.holds Tryd.pinned (.plain (OpenSpec.upto diaryRightSpec)) diaryRightUptoCard

/-- THE SECOND FORM's CARD OF 'switchyardlaw19.DiaryParts'. -/
def diaryPartsUptoCard : Claim7 := { stood := { row := diaryPartsUptoRow, standIns := [], harness := (true, "183c8db35b960dd9238bc6d828277e7013ba6e5395117e0ed65dd0f49d517505"), looks := false }, kinds := [], alts := [], laidByText := true, laidKinds := [.data, .data, .data], laidTests := true, laidLooks := .later }
def DiaryPartsUptoCardSaid : Prop := Claim7.holds Tryd.pinned (.plain (OpenSpec.upto diaryPartsSpec)) diaryPartsUptoCard
end Rows
end Go.Proofs.YtbfpaemaiaeljaaDoor
