/-
  DERIVED. GIVEN WITH THE SEED: THE CARDS: each row of YtpdhgijeanbmcaaDoorRows.lean that lists a variable, with what it lists TIED to the program's text (the seventh form; the later family's looks); each row that meets fmt, with fmt's text TOLD by the authors' own Lean function (tested against real Go, not proved from fmt's source: count such statements apart). THE CARD IS WHAT COUNTS. Prove the row's statement (the work); the ties are given (YtpdhgijeanbmcaaDoorTie.lean); close each card by the builder's one call (the guide's Derived/Test/ToyasCard.lean, 'card_holds'). Laid BY PROGRAM, IN A SANDBOX (cutbox-door.mjs). By AI agents, Wed Nov 11 2026. No macro, syntax, notation, axiom, sorry.
-/
import Derived.Test.YtpdhgijeanbmcaaDoorRows
import GoSem.ClaimSeven
namespace Go.Proofs.YtpdhgijeanbmcaaDoor
namespace Rows

/-- THE TIED CARD OF 'wicketlaw23.SessionDerives'. -/
def sessionDerivesCard : Claim7 := { stood := { row := sessionDerivesRow, standIns := [], harness := (true, "f451c738ff29ad2715a6e2b8b34cdbd075fefd1f9af850a04b42d711c54bb3f5"), looks := false }, kinds := [], alts := [], laidByText := true, laidKinds := [.data, .data, .data], laidTests := true, laidLooks := .later }
def SessionDerivesCardSaid : Prop := Claim7.holds Tryd.pinned (.plain (OpenSpec.ofChange sessionDerivesSpec)) sessionDerivesCard

/-- THE TIED CARD OF 'wicketlaw25.ChainNames'. -/
def chainNamesCard : Claim7 := { stood := { row := chainNamesRow, standIns := [], harness := (true, "f451c738ff29ad2715a6e2b8b34cdbd075fefd1f9af850a04b42d711c54bb3f5"), looks := false }, kinds := [], alts := [], laidByText := true, laidKinds := [.data, .data, .data], laidTests := true, laidLooks := .later }
def ChainNamesCardSaid : Prop := Claim7.holds Tryd.pinned (.plain (OpenSpec.ofChange chainNamesSpec)) chainNamesCard

/-- THE TIED CARD OF 'wicketlaw25.ChainSums'. -/
def chainSumsCard : Claim7 := { stood := { row := chainSumsRow, standIns := [], harness := (true, "f451c738ff29ad2715a6e2b8b34cdbd075fefd1f9af850a04b42d711c54bb3f5"), looks := false }, kinds := [], alts := [], laidByText := true, laidKinds := [.data, .data, .data], laidTests := true, laidLooks := .later }
def ChainSumsCardSaid : Prop := Claim7.holds Tryd.pinned (.plain (OpenSpec.ofChange chainSumsSpec)) chainSumsCard

/-- THE TIED CARD OF 'wicketlaw25.ChainPaths'. -/
def chainPathsCard : Claim7 := { stood := { row := chainPathsRow, standIns := [], harness := (true, "f451c738ff29ad2715a6e2b8b34cdbd075fefd1f9af850a04b42d711c54bb3f5"), looks := false }, kinds := [], alts := [], laidByText := true, laidKinds := [.data, .data, .data], laidTests := true, laidLooks := .later }
def ChainPathsCardSaid : Prop := Claim7.holds Tryd.pinned (.plain (OpenSpec.ofChange chainPathsSpec)) chainPathsCard

/-- THE TIED CARD OF 'wicketlaw25.ChainClaims'. -/
def chainClaimsCard : Claim7 := { stood := { row := chainClaimsRow, standIns := [], harness := (true, "f451c738ff29ad2715a6e2b8b34cdbd075fefd1f9af850a04b42d711c54bb3f5"), looks := false }, kinds := [], alts := [], laidByText := true, laidKinds := [.data, .data, .data], laidTests := true, laidLooks := .later }
def ChainClaimsCardSaid : Prop := Claim7.holds Tryd.pinned (.plain (OpenSpec.ofChange chainClaimsSpec)) chainClaimsCard

/-- THE TIED CARD OF 'wicketlaw25.ChainHolds'. -/
def chainHoldsCard : Claim7 := { stood := { row := chainHoldsRow, standIns := [], harness := (true, "f451c738ff29ad2715a6e2b8b34cdbd075fefd1f9af850a04b42d711c54bb3f5"), looks := false }, kinds := [], alts := [], laidByText := true, laidKinds := [.data, .data, .data], laidTests := true, laidLooks := .later }
def ChainHoldsCardSaid : Prop := Claim7.holds Tryd.pinned (.plain (OpenSpec.ofChange chainHoldsSpec)) chainHoldsCard

/-- THE TIED CARD OF 'wicketlaw25.ChainSound'. -/
def chainSoundCard : Claim7 := { stood := { row := chainSoundRow, standIns := [], harness := (true, "f451c738ff29ad2715a6e2b8b34cdbd075fefd1f9af850a04b42d711c54bb3f5"), looks := false }, kinds := [], alts := [], laidByText := true, laidKinds := [.data, .data, .data], laidTests := true, laidLooks := .later }
def ChainSoundCardSaid : Prop := Claim7.holds Tryd.pinned (.plain (OpenSpec.ofChange chainSoundSpec)) chainSoundCard

/-- THE TIED CARD OF 'wicketlaw25.ChainBytes'. -/
def chainBytesCard : Claim7 := { stood := { row := chainBytesRow, standIns := [], harness := (true, "f451c738ff29ad2715a6e2b8b34cdbd075fefd1f9af850a04b42d711c54bb3f5"), looks := false }, kinds := [], alts := [], laidByText := true, laidKinds := [.data, .data, .data], laidTests := true, laidLooks := .later }
def ChainBytesCardSaid : Prop := Claim7.holds Tryd.pinned (.plain (OpenSpec.ofChange chainBytesSpec)) chainBytesCard

/-- THE SECOND FORM's CARD OF 'wicketlaw23.SessionDerives'. -/
def sessionDerivesUptoCard : Claim7 := { stood := { row := sessionDerivesUptoRow, standIns := [], harness := (true, "f451c738ff29ad2715a6e2b8b34cdbd075fefd1f9af850a04b42d711c54bb3f5"), looks := false }, kinds := [], alts := [], laidByText := true, laidKinds := [.data, .data, .data], laidTests := true, laidLooks := .later }
def SessionDerivesUptoCardSaid : Prop := Claim7.holds Tryd.pinned (.plain (OpenSpec.upto sessionDerivesSpec)) sessionDerivesUptoCard

/-- THE SECOND FORM's CARD OF 'wicketlaw25.ChainNames'. -/
def chainNamesUptoCard : Claim7 := { stood := { row := chainNamesUptoRow, standIns := [], harness := (true, "f451c738ff29ad2715a6e2b8b34cdbd075fefd1f9af850a04b42d711c54bb3f5"), looks := false }, kinds := [], alts := [], laidByText := true, laidKinds := [.data, .data, .data], laidTests := true, laidLooks := .later }
def ChainNamesUptoCardSaid : Prop := Claim7.holds Tryd.pinned (.plain (OpenSpec.upto chainNamesSpec)) chainNamesUptoCard

/-- THE SECOND FORM's CARD OF 'wicketlaw25.ChainSums'. -/
def chainSumsUptoCard : Claim7 := { stood := { row := chainSumsUptoRow, standIns := [], harness := (true, "f451c738ff29ad2715a6e2b8b34cdbd075fefd1f9af850a04b42d711c54bb3f5"), looks := false }, kinds := [], alts := [], laidByText := true, laidKinds := [.data, .data, .data], laidTests := true, laidLooks := .later }
def ChainSumsUptoCardSaid : Prop := Claim7.holds Tryd.pinned (.plain (OpenSpec.upto chainSumsSpec)) chainSumsUptoCard

/-- THE SECOND FORM's CARD OF 'wicketlaw25.ChainPaths'. -/
def chainPathsUptoCard : Claim7 := { stood := { row := chainPathsUptoRow, standIns := [], harness := (true, "f451c738ff29ad2715a6e2b8b34cdbd075fefd1f9af850a04b42d711c54bb3f5"), looks := false }, kinds := [], alts := [], laidByText := true, laidKinds := [.data, .data, .data], laidTests := true, laidLooks := .later }
def ChainPathsUptoCardSaid : Prop := Claim7.holds Tryd.pinned (.plain (OpenSpec.upto chainPathsSpec)) chainPathsUptoCard

/-- THE SECOND FORM's CARD OF 'wicketlaw25.ChainClaims'. -/
def chainClaimsUptoCard : Claim7 := { stood := { row := chainClaimsUptoRow, standIns := [], harness := (true, "f451c738ff29ad2715a6e2b8b34cdbd075fefd1f9af850a04b42d711c54bb3f5"), looks := false }, kinds := [], alts := [], laidByText := true, laidKinds := [.data, .data, .data], laidTests := true, laidLooks := .later }
def ChainClaimsUptoCardSaid : Prop := Claim7.holds Tryd.pinned (.plain (OpenSpec.upto chainClaimsSpec)) chainClaimsUptoCard

/-- THE SECOND FORM's CARD OF 'wicketlaw25.ChainHolds'. -/
def chainHoldsUptoCard : Claim7 := { stood := { row := chainHoldsUptoRow, standIns := [], harness := (true, "f451c738ff29ad2715a6e2b8b34cdbd075fefd1f9af850a04b42d711c54bb3f5"), looks := false }, kinds := [], alts := [], laidByText := true, laidKinds := [.data, .data, .data], laidTests := true, laidLooks := .later }
def ChainHoldsUptoCardSaid : Prop := Claim7.holds Tryd.pinned (.plain (OpenSpec.upto chainHoldsSpec)) chainHoldsUptoCard

/-- THE SECOND FORM's CARD OF 'wicketlaw25.ChainSound'. -/
def chainSoundUptoCard : Claim7 := { stood := { row := chainSoundUptoRow, standIns := [], harness := (true, "f451c738ff29ad2715a6e2b8b34cdbd075fefd1f9af850a04b42d711c54bb3f5"), looks := false }, kinds := [], alts := [], laidByText := true, laidKinds := [.data, .data, .data], laidTests := true, laidLooks := .later }
def ChainSoundUptoCardSaid : Prop := Claim7.holds Tryd.pinned (.plain (OpenSpec.upto chainSoundSpec)) chainSoundUptoCard

/-- THE SECOND FORM's CARD OF 'wicketlaw25.ChainBytes'. -/
def chainBytesUptoCard : Claim7 := { stood := { row := chainBytesUptoRow, standIns := [], harness := (true, "f451c738ff29ad2715a6e2b8b34cdbd075fefd1f9af850a04b42d711c54bb3f5"), looks := false }, kinds := [], alts := [], laidByText := true, laidKinds := [.data, .data, .data], laidTests := true, laidLooks := .later }
def ChainBytesUptoCardSaid : Prop := Claim7.holds Tryd.pinned (.plain (OpenSpec.upto chainBytesSpec)) chainBytesUptoCard
end Rows
end Go.Proofs.YtpdhgijeanbmcaaDoor
