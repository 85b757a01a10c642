/-
  DERIVED. GIVEN WITH THE SEED: THE CARDS: each row of YtnfpmiiopiinbaaGreatDoorRows.lean that lists a variable, with what it lists TIED to the program's text (the seventh form; the later family's looks); each row that meets fmt, with fmt's text TOLD by the authors' own Lean function (tested against real Go, not proved from fmt's source: count such statements apart). THE CARD IS WHAT COUNTS. Prove the row's statement (the work); the ties are given (YtnfpmiiopiinbaaGreatDoorTie.lean); close each card by the builder's one call (the guide's Derived/Test/ToyasCard.lean, 'card_holds'). Laid BY PROGRAM, IN A SANDBOX (cutbox-door.mjs). By AI agents, Wed Nov 11 2026. No macro, syntax, notation, axiom, sorry.
-/
import Derived.Test.YtnfpmiiopiinbaaGreatDoorRows
import GoSem.ClaimSeven
namespace Go.Proofs.YtnfpmiiopiinbaaGreatDoor
namespace Rows

/-- THE TIED CARD OF 'ripostelaw02.ParseReads'. -/
def parseReadsCard : Claim7 := { stood := { row := parseReadsRow, standIns := [], harness := (true, "2c276ba2bcf7a791c1ef8ab8c98a8a21e976480ca404c5915ae7b1848dce5b58"), looks := true }, kinds := [], alts := [], laidByText := true, laidKinds := [.data, .data, .data, .data, .sentinel, .sentinel, .listed, .data, .pinned], laidTests := true, laidLooks := .later }
def ParseReadsCardSaid : Prop := Claim7.holds Tryz.pinned (.plain (OpenSpec.ofChange parseReadsSpec)) parseReadsCard

/-- THE TIED CARD OF 'ripostelaw02.ParsePrints'. -/
def parsePrintsCard : Claim7 := { stood := { row := parsePrintsRow, standIns := [], harness := (true, "2c276ba2bcf7a791c1ef8ab8c98a8a21e976480ca404c5915ae7b1848dce5b58"), looks := true }, kinds := [], alts := [], laidByText := true, laidKinds := [.data, .data, .data, .data, .sentinel, .sentinel, .listed, .data, .pinned], laidTests := true, laidLooks := .later }
def ParsePrintsCardSaid : Prop := Claim7.holds Tryz.pinned (.plain (OpenSpec.ofChange parsePrintsSpec)) parsePrintsCard

/-- THE TIED CARD OF 'ripostelaw02.ParseMemory'. -/
def parseMemoryCard : Claim7 := { stood := { row := parseMemoryRow, standIns := [], harness := (true, "2c276ba2bcf7a791c1ef8ab8c98a8a21e976480ca404c5915ae7b1848dce5b58"), looks := true }, kinds := [], alts := [], laidByText := true, laidKinds := [.data, .data, .data, .data, .sentinel, .sentinel, .listed, .data, .pinned], laidTests := true, laidLooks := .later }
def ParseMemoryCardSaid : Prop := Claim7.holds Tryz.pinned (.plain (OpenSpec.ofChange parseMemorySpec)) parseMemoryCard

/-- THE TIED CARD OF 'ripostelaw02.ParseShorter'. -/
def parseShorterCard : Claim7 := { stood := { row := parseShorterRow, standIns := [], harness := (true, "2c276ba2bcf7a791c1ef8ab8c98a8a21e976480ca404c5915ae7b1848dce5b58"), looks := true }, kinds := [], alts := [], laidByText := true, laidKinds := [.data, .data, .data, .data, .sentinel, .sentinel, .listed, .data, .pinned], laidTests := true, laidLooks := .later }
def ParseShorterCardSaid : Prop := Claim7.holds Tryz.pinned (.plain (OpenSpec.ofChange parseShorterSpec)) parseShorterCard

/-- THE TIED CARD OF 'ripostelaw02.ParseRecovers'. -/
def parseRecoversCard : Claim7 := { stood := { row := parseRecoversRow, standIns := [], harness := (true, "2c276ba2bcf7a791c1ef8ab8c98a8a21e976480ca404c5915ae7b1848dce5b58"), looks := true }, kinds := [], alts := [], laidByText := true, laidKinds := [.data, .data, .data, .data, .sentinel, .sentinel, .listed, .data, .pinned], laidTests := true, laidLooks := .later }
def ParseRecoversCardSaid : Prop := Claim7.holds Tryz.pinned (.plain (OpenSpec.ofChange parseRecoversSpec)) parseRecoversCard

/-- THE TIED CARD OF 'ripostelaw02.ParseBack'. -/
def parseBackCard : Claim7 := { stood := { row := parseBackRow, standIns := [], harness := (true, "2c276ba2bcf7a791c1ef8ab8c98a8a21e976480ca404c5915ae7b1848dce5b58"), looks := true }, kinds := [], alts := [], laidByText := true, laidKinds := [.data, .data, .data, .data, .sentinel, .sentinel, .listed, .data, .pinned], laidTests := true, laidLooks := .later }
def ParseBackCardSaid : Prop := Claim7.holds Tryz.pinned (.plain (OpenSpec.ofChange parseBackSpec)) parseBackCard

/-- THE TIED CARD OF 'ripostelaw02.ParseItems'. -/
def parseItemsCard : Claim7 := { stood := { row := parseItemsRow, standIns := [], harness := (true, "2c276ba2bcf7a791c1ef8ab8c98a8a21e976480ca404c5915ae7b1848dce5b58"), looks := true }, kinds := [], alts := [], laidByText := true, laidKinds := [.data, .data, .data, .data, .sentinel, .sentinel, .listed, .data, .pinned], laidTests := true, laidLooks := .later }
def ParseItemsCardSaid : Prop := Claim7.holds Tryz.pinned (.plain (OpenSpec.ofChange parseItemsSpec)) parseItemsCard

/-- THE TIED CARD OF 'ripostelaw02.ParseKin'. -/
def parseKinCard : Claim7 := { stood := { row := parseKinRow, standIns := [], harness := (true, "2c276ba2bcf7a791c1ef8ab8c98a8a21e976480ca404c5915ae7b1848dce5b58"), looks := true }, kinds := [], alts := [], laidByText := true, laidKinds := [.data, .data, .data, .data, .sentinel, .sentinel, .listed, .data, .pinned], laidTests := true, laidLooks := .later }
def ParseKinCardSaid : Prop := Claim7.holds Tryz.pinned (.plain (OpenSpec.ofChange parseKinSpec)) parseKinCard

/-- THE TIED CARD OF 'ripostelaw02.ParseFinds'. -/
def parseFindsCard : Claim7 := { stood := { row := parseFindsRow, standIns := [], harness := (true, "2c276ba2bcf7a791c1ef8ab8c98a8a21e976480ca404c5915ae7b1848dce5b58"), looks := true }, kinds := [], alts := [], laidByText := true, laidKinds := [.data, .data, .data, .data, .sentinel, .sentinel, .listed, .data, .pinned], laidTests := true, laidLooks := .later }
def ParseFindsCardSaid : Prop := Claim7.holds Tryz.pinned (.plain (OpenSpec.ofChange parseFindsSpec)) parseFindsCard

/-- THE TIED CARD OF 'ripostelaw02.ParseFamily'. -/
def parseFamilyCard : Claim7 := { stood := { row := parseFamilyRow, standIns := [], harness := (true, "2c276ba2bcf7a791c1ef8ab8c98a8a21e976480ca404c5915ae7b1848dce5b58"), looks := true }, kinds := [], alts := [], laidByText := true, laidKinds := [.data, .data, .data, .data, .sentinel, .sentinel, .listed, .data, .pinned], laidTests := true, laidLooks := .later }
def ParseFamilyCardSaid : Prop := Claim7.holds Tryz.pinned (.plain (OpenSpec.ofChange parseFamilySpec)) parseFamilyCard

/-- THE TIED CARD OF 'ripostelaw02.ParseBrackets'. -/
def parseBracketsCard : Claim7 := { stood := { row := parseBracketsRow, standIns := [], harness := (true, "2c276ba2bcf7a791c1ef8ab8c98a8a21e976480ca404c5915ae7b1848dce5b58"), looks := true }, kinds := [], alts := [], laidByText := true, laidKinds := [.data, .data, .data, .data, .sentinel, .sentinel, .listed, .data, .pinned], laidTests := true, laidLooks := .later }
def ParseBracketsCardSaid : Prop := Claim7.holds Tryz.pinned (.plain (OpenSpec.ofChange parseBracketsSpec)) parseBracketsCard

/-- THE TIED CARD OF 'ripostelaw02.ParseGrafts'. -/
def parseGraftsCard : Claim7 := { stood := { row := parseGraftsRow, standIns := [], harness := (true, "2c276ba2bcf7a791c1ef8ab8c98a8a21e976480ca404c5915ae7b1848dce5b58"), looks := true }, kinds := [], alts := [], laidByText := true, laidKinds := [.data, .data, .data, .data, .sentinel, .sentinel, .listed, .data, .pinned], laidTests := true, laidLooks := .later }
def ParseGraftsCardSaid : Prop := Claim7.holds Tryz.pinned (.plain (OpenSpec.ofChange parseGraftsSpec)) parseGraftsCard

/-- THE TIED CARD OF 'ripostelaw02.ParseGrafted'. -/
def parseGraftedCard : Claim7 := { stood := { row := parseGraftedRow, standIns := [], harness := (true, "2c276ba2bcf7a791c1ef8ab8c98a8a21e976480ca404c5915ae7b1848dce5b58"), looks := true }, kinds := [], alts := [], laidByText := true, laidKinds := [.data, .data, .data, .data, .sentinel, .sentinel, .listed, .data, .pinned], laidTests := true, laidLooks := .later }
def ParseGraftedCardSaid : Prop := Claim7.holds Tryz.pinned (.plain (OpenSpec.ofChange parseGraftedSpec)) parseGraftedCard

/-- THE TIED CARD OF 'ripostelaw02.ParseNames'. -/
def parseNamesCard : Claim7 := { stood := { row := parseNamesRow, standIns := [], harness := (true, "2c276ba2bcf7a791c1ef8ab8c98a8a21e976480ca404c5915ae7b1848dce5b58"), looks := true }, kinds := [], alts := [], laidByText := true, laidKinds := [.data, .data, .data, .data, .sentinel, .sentinel, .listed, .data, .pinned], laidTests := true, laidLooks := .later }
def ParseNamesCardSaid : Prop := Claim7.holds Tryz.pinned (.plain (OpenSpec.ofChange parseNamesSpec)) parseNamesCard

/-- THE SECOND FORM's CARD OF 'ripostelaw02.ParseReads'. -/
def parseReadsUptoCard : Claim7 := { stood := { row := parseReadsUptoRow, standIns := [], harness := (true, "2c276ba2bcf7a791c1ef8ab8c98a8a21e976480ca404c5915ae7b1848dce5b58"), looks := true }, kinds := [], alts := [], laidByText := true, laidKinds := [.data, .data, .data, .data, .sentinel, .sentinel, .listed, .data, .pinned], laidTests := true, laidLooks := .later }
def ParseReadsUptoCardSaid : Prop := Claim7.holds Tryz.pinned (.plain (OpenSpec.upto parseReadsSpec)) parseReadsUptoCard

/-- THE SECOND FORM's CARD OF 'ripostelaw02.ParsePrints'. -/
def parsePrintsUptoCard : Claim7 := { stood := { row := parsePrintsUptoRow, standIns := [], harness := (true, "2c276ba2bcf7a791c1ef8ab8c98a8a21e976480ca404c5915ae7b1848dce5b58"), looks := true }, kinds := [], alts := [], laidByText := true, laidKinds := [.data, .data, .data, .data, .sentinel, .sentinel, .listed, .data, .pinned], laidTests := true, laidLooks := .later }
def ParsePrintsUptoCardSaid : Prop := Claim7.holds Tryz.pinned (.plain (OpenSpec.upto parsePrintsSpec)) parsePrintsUptoCard

/-- THE SECOND FORM's CARD OF 'ripostelaw02.ParseMemory'. -/
def parseMemoryUptoCard : Claim7 := { stood := { row := parseMemoryUptoRow, standIns := [], harness := (true, "2c276ba2bcf7a791c1ef8ab8c98a8a21e976480ca404c5915ae7b1848dce5b58"), looks := true }, kinds := [], alts := [], laidByText := true, laidKinds := [.data, .data, .data, .data, .sentinel, .sentinel, .listed, .data, .pinned], laidTests := true, laidLooks := .later }
def ParseMemoryUptoCardSaid : Prop := Claim7.holds Tryz.pinned (.plain (OpenSpec.upto parseMemorySpec)) parseMemoryUptoCard

/-- THE SECOND FORM's CARD OF 'ripostelaw02.ParseShorter'. -/
def parseShorterUptoCard : Claim7 := { stood := { row := parseShorterUptoRow, standIns := [], harness := (true, "2c276ba2bcf7a791c1ef8ab8c98a8a21e976480ca404c5915ae7b1848dce5b58"), looks := true }, kinds := [], alts := [], laidByText := true, laidKinds := [.data, .data, .data, .data, .sentinel, .sentinel, .listed, .data, .pinned], laidTests := true, laidLooks := .later }
def ParseShorterUptoCardSaid : Prop := Claim7.holds Tryz.pinned (.plain (OpenSpec.upto parseShorterSpec)) parseShorterUptoCard

/-- THE SECOND FORM's CARD OF 'ripostelaw02.ParseRecovers'. -/
def parseRecoversUptoCard : Claim7 := { stood := { row := parseRecoversUptoRow, standIns := [], harness := (true, "2c276ba2bcf7a791c1ef8ab8c98a8a21e976480ca404c5915ae7b1848dce5b58"), looks := true }, kinds := [], alts := [], laidByText := true, laidKinds := [.data, .data, .data, .data, .sentinel, .sentinel, .listed, .data, .pinned], laidTests := true, laidLooks := .later }
def ParseRecoversUptoCardSaid : Prop := Claim7.holds Tryz.pinned (.plain (OpenSpec.upto parseRecoversSpec)) parseRecoversUptoCard

/-- THE SECOND FORM's CARD OF 'ripostelaw02.ParseBack'. -/
def parseBackUptoCard : Claim7 := { stood := { row := parseBackUptoRow, standIns := [], harness := (true, "2c276ba2bcf7a791c1ef8ab8c98a8a21e976480ca404c5915ae7b1848dce5b58"), looks := true }, kinds := [], alts := [], laidByText := true, laidKinds := [.data, .data, .data, .data, .sentinel, .sentinel, .listed, .data, .pinned], laidTests := true, laidLooks := .later }
def ParseBackUptoCardSaid : Prop := Claim7.holds Tryz.pinned (.plain (OpenSpec.upto parseBackSpec)) parseBackUptoCard

/-- THE SECOND FORM's CARD OF 'ripostelaw02.ParseItems'. -/
def parseItemsUptoCard : Claim7 := { stood := { row := parseItemsUptoRow, standIns := [], harness := (true, "2c276ba2bcf7a791c1ef8ab8c98a8a21e976480ca404c5915ae7b1848dce5b58"), looks := true }, kinds := [], alts := [], laidByText := true, laidKinds := [.data, .data, .data, .data, .sentinel, .sentinel, .listed, .data, .pinned], laidTests := true, laidLooks := .later }
def ParseItemsUptoCardSaid : Prop := Claim7.holds Tryz.pinned (.plain (OpenSpec.upto parseItemsSpec)) parseItemsUptoCard

/-- THE SECOND FORM's CARD OF 'ripostelaw02.ParseKin'. -/
def parseKinUptoCard : Claim7 := { stood := { row := parseKinUptoRow, standIns := [], harness := (true, "2c276ba2bcf7a791c1ef8ab8c98a8a21e976480ca404c5915ae7b1848dce5b58"), looks := true }, kinds := [], alts := [], laidByText := true, laidKinds := [.data, .data, .data, .data, .sentinel, .sentinel, .listed, .data, .pinned], laidTests := true, laidLooks := .later }
def ParseKinUptoCardSaid : Prop := Claim7.holds Tryz.pinned (.plain (OpenSpec.upto parseKinSpec)) parseKinUptoCard

/-- THE SECOND FORM's CARD OF 'ripostelaw02.ParseFinds'. -/
def parseFindsUptoCard : Claim7 := { stood := { row := parseFindsUptoRow, standIns := [], harness := (true, "2c276ba2bcf7a791c1ef8ab8c98a8a21e976480ca404c5915ae7b1848dce5b58"), looks := true }, kinds := [], alts := [], laidByText := true, laidKinds := [.data, .data, .data, .data, .sentinel, .sentinel, .listed, .data, .pinned], laidTests := true, laidLooks := .later }
def ParseFindsUptoCardSaid : Prop := Claim7.holds Tryz.pinned (.plain (OpenSpec.upto parseFindsSpec)) parseFindsUptoCard

/-- THE SECOND FORM's CARD OF 'ripostelaw02.ParseFamily'. -/
def parseFamilyUptoCard : Claim7 := { stood := { row := parseFamilyUptoRow, standIns := [], harness := (true, "2c276ba2bcf7a791c1ef8ab8c98a8a21e976480ca404c5915ae7b1848dce5b58"), looks := true }, kinds := [], alts := [], laidByText := true, laidKinds := [.data, .data, .data, .data, .sentinel, .sentinel, .listed, .data, .pinned], laidTests := true, laidLooks := .later }
def ParseFamilyUptoCardSaid : Prop := Claim7.holds Tryz.pinned (.plain (OpenSpec.upto parseFamilySpec)) parseFamilyUptoCard

/-- THE SECOND FORM's CARD OF 'ripostelaw02.ParseBrackets'. -/
def parseBracketsUptoCard : Claim7 := { stood := { row := parseBracketsUptoRow, standIns := [], harness := (true, "2c276ba2bcf7a791c1ef8ab8c98a8a21e976480ca404c5915ae7b1848dce5b58"), looks := true }, kinds := [], alts := [], laidByText := true, laidKinds := [.data, .data, .data, .data, .sentinel, .sentinel, .listed, .data, .pinned], laidTests := true, laidLooks := .later }
def ParseBracketsUptoCardSaid : Prop := Claim7.holds Tryz.pinned (.plain (OpenSpec.upto parseBracketsSpec)) parseBracketsUptoCard

/-- THE SECOND FORM's CARD OF 'ripostelaw02.ParseGrafts'. -/
def parseGraftsUptoCard : Claim7 := { stood := { row := parseGraftsUptoRow, standIns := [], harness := (true, "2c276ba2bcf7a791c1ef8ab8c98a8a21e976480ca404c5915ae7b1848dce5b58"), looks := true }, kinds := [], alts := [], laidByText := true, laidKinds := [.data, .data, .data, .data, .sentinel, .sentinel, .listed, .data, .pinned], laidTests := true, laidLooks := .later }
def ParseGraftsUptoCardSaid : Prop := Claim7.holds Tryz.pinned (.plain (OpenSpec.upto parseGraftsSpec)) parseGraftsUptoCard

/-- THE SECOND FORM's CARD OF 'ripostelaw02.ParseGrafted'. -/
def parseGraftedUptoCard : Claim7 := { stood := { row := parseGraftedUptoRow, standIns := [], harness := (true, "2c276ba2bcf7a791c1ef8ab8c98a8a21e976480ca404c5915ae7b1848dce5b58"), looks := true }, kinds := [], alts := [], laidByText := true, laidKinds := [.data, .data, .data, .data, .sentinel, .sentinel, .listed, .data, .pinned], laidTests := true, laidLooks := .later }
def ParseGraftedUptoCardSaid : Prop := Claim7.holds Tryz.pinned (.plain (OpenSpec.upto parseGraftedSpec)) parseGraftedUptoCard

/-- THE SECOND FORM's CARD OF 'ripostelaw02.ParseNames'. -/
def parseNamesUptoCard : Claim7 := { stood := { row := parseNamesUptoRow, standIns := [], harness := (true, "2c276ba2bcf7a791c1ef8ab8c98a8a21e976480ca404c5915ae7b1848dce5b58"), looks := true }, kinds := [], alts := [], laidByText := true, laidKinds := [.data, .data, .data, .data, .sentinel, .sentinel, .listed, .data, .pinned], laidTests := true, laidLooks := .later }
def ParseNamesUptoCardSaid : Prop := Claim7.holds Tryz.pinned (.plain (OpenSpec.upto parseNamesSpec)) parseNamesUptoCard
end Rows
end Go.Proofs.YtnfpmiiopiinbaaGreatDoor
