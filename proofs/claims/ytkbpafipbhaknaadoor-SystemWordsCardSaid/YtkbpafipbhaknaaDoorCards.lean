/-
  DERIVED. GIVEN WITH THE SEED: THE CARDS: each row of YtkbpafipbhaknaaDoorRows.lean that lists a variable, with what it lists TIED to the program's text (the seventh form; the later family's looks); each row that meets fmt, with fmt's text TOLD by the authors' own Lean function (tested against real Go, not proved from fmt's source: count such statements apart). THE CARD IS WHAT COUNTS. Prove the row's statement (the work); the ties are given (YtkbpafipbhaknaaDoorTie.lean); close each card by the builder's one call (the guide's Derived/Test/ToyasCard.lean, 'card_holds'). Laid BY PROGRAM, IN A SANDBOX (cutbox-door.mjs). By AI agents, Wed Nov 11 2026. No macro, syntax, notation, axiom, sorry.
-/
import Derived.Test.YtkbpafipbhaknaaDoorRows
import GoSem.ClaimSeven
namespace Go.Proofs.YtkbpafipbhaknaaDoor
namespace Rows

/-- THE TIED CARD OF 'attestorlaw13.SystemEnvs'. -/
def systemEnvsCard : Claim7 := { stood := { row := systemEnvsRow, standIns := [], harness := (true, "739e6d80e01d55c2b0622cd89a4217fd04b2534c03037acffe542ebc99408936"), looks := false }, kinds := [], alts := [], laidByText := true, laidKinds := [.widerDeep], laidTests := true, laidLooks := .later }
def SystemEnvsCardSaid : Prop := Claim7.holds Tryd.pinned (.plain (OpenSpec.ofChange systemEnvsSpec)) systemEnvsCard

/-- THE TIED CARD OF 'attestorlaw13.SystemWords'. -/
def systemWordsCard : Claim7 := { stood := { row := systemWordsRow, standIns := [], harness := (true, "739e6d80e01d55c2b0622cd89a4217fd04b2534c03037acffe542ebc99408936"), looks := false }, kinds := [], alts := [], laidByText := true, laidKinds := [.widerDeep], laidTests := true, laidLooks := .later }
def SystemWordsCardSaid : Prop := Claim7.holds Tryd.pinned (.plain (OpenSpec.ofChange systemWordsSpec)) systemWordsCard

/-- THE TIED CARD OF 'attestorlaw13.SystemValid'. -/
def systemValidCard : Claim7 := { stood := { row := systemValidRow, standIns := [], harness := (true, "739e6d80e01d55c2b0622cd89a4217fd04b2534c03037acffe542ebc99408936"), looks := false }, kinds := [], alts := [], laidByText := true, laidKinds := [.widerDeep], laidTests := true, laidLooks := .later }
def SystemValidCardSaid : Prop := Claim7.holds Tryd.pinned (.plain (OpenSpec.ofChange systemValidSpec)) systemValidCard

/-- THE TIED CARD OF 'attestorlaw14.ArgumentCloses'. -/
def argumentClosesCard : Claim7 := { stood := { row := argumentClosesRow, standIns := [], harness := (true, "739e6d80e01d55c2b0622cd89a4217fd04b2534c03037acffe542ebc99408936"), looks := false }, kinds := [], alts := [], laidByText := true, laidKinds := [.widerDeep], laidTests := true, laidLooks := .later }
def ArgumentClosesCardSaid : Prop := Claim7.holds Tryd.pinned (.plain (OpenSpec.ofChange argumentClosesSpec)) argumentClosesCard

/-- THE TIED CARD OF 'attestorlaw14.ArgumentProduct'. -/
def argumentProductCard : Claim7 := { stood := { row := argumentProductRow, standIns := [], harness := (true, "739e6d80e01d55c2b0622cd89a4217fd04b2534c03037acffe542ebc99408936"), looks := false }, kinds := [], alts := [], laidByText := true, laidKinds := [.widerDeep], laidTests := true, laidLooks := .later }
def ArgumentProductCardSaid : Prop := Claim7.holds Tryd.pinned (.plain (OpenSpec.ofChange argumentProductSpec)) argumentProductCard

/-- THE TIED CARD OF 'attestorlaw14.ArgumentValues'. -/
def argumentValuesCard : Claim7 := { stood := { row := argumentValuesRow, standIns := [], harness := (true, "739e6d80e01d55c2b0622cd89a4217fd04b2534c03037acffe542ebc99408936"), looks := false }, kinds := [], alts := [], laidByText := true, laidKinds := [.widerDeep], laidTests := true, laidLooks := .later }
def ArgumentValuesCardSaid : Prop := Claim7.holds Tryd.pinned (.plain (OpenSpec.ofChange argumentValuesSpec)) argumentValuesCard

/-- THE SECOND FORM's CARD OF 'attestorlaw13.SystemEnvs'. -/
def systemEnvsUptoCard : Claim7 := { stood := { row := systemEnvsUptoRow, standIns := [], harness := (true, "739e6d80e01d55c2b0622cd89a4217fd04b2534c03037acffe542ebc99408936"), looks := false }, kinds := [], alts := [], laidByText := true, laidKinds := [.widerDeep], laidTests := true, laidLooks := .later }
def SystemEnvsUptoCardSaid : Prop := Claim7.holds Tryd.pinned (.plain (OpenSpec.upto systemEnvsSpec)) systemEnvsUptoCard

/-- THE SECOND FORM's CARD OF 'attestorlaw13.SystemWords'. -/
def systemWordsUptoCard : Claim7 := { stood := { row := systemWordsUptoRow, standIns := [], harness := (true, "739e6d80e01d55c2b0622cd89a4217fd04b2534c03037acffe542ebc99408936"), looks := false }, kinds := [], alts := [], laidByText := true, laidKinds := [.widerDeep], laidTests := true, laidLooks := .later }
def SystemWordsUptoCardSaid : Prop := Claim7.holds Tryd.pinned (.plain (OpenSpec.upto systemWordsSpec)) systemWordsUptoCard

/-- THE SECOND FORM's CARD OF 'attestorlaw13.SystemValid'. -/
def systemValidUptoCard : Claim7 := { stood := { row := systemValidUptoRow, standIns := [], harness := (true, "739e6d80e01d55c2b0622cd89a4217fd04b2534c03037acffe542ebc99408936"), looks := false }, kinds := [], alts := [], laidByText := true, laidKinds := [.widerDeep], laidTests := true, laidLooks := .later }
def SystemValidUptoCardSaid : Prop := Claim7.holds Tryd.pinned (.plain (OpenSpec.upto systemValidSpec)) systemValidUptoCard

/-- THE SECOND FORM's CARD OF 'attestorlaw14.ArgumentCloses'. -/
def argumentClosesUptoCard : Claim7 := { stood := { row := argumentClosesUptoRow, standIns := [], harness := (true, "739e6d80e01d55c2b0622cd89a4217fd04b2534c03037acffe542ebc99408936"), looks := false }, kinds := [], alts := [], laidByText := true, laidKinds := [.widerDeep], laidTests := true, laidLooks := .later }
def ArgumentClosesUptoCardSaid : Prop := Claim7.holds Tryd.pinned (.plain (OpenSpec.upto argumentClosesSpec)) argumentClosesUptoCard

/-- THE SECOND FORM's CARD OF 'attestorlaw14.ArgumentProduct'. -/
def argumentProductUptoCard : Claim7 := { stood := { row := argumentProductUptoRow, standIns := [], harness := (true, "739e6d80e01d55c2b0622cd89a4217fd04b2534c03037acffe542ebc99408936"), looks := false }, kinds := [], alts := [], laidByText := true, laidKinds := [.widerDeep], laidTests := true, laidLooks := .later }
def ArgumentProductUptoCardSaid : Prop := Claim7.holds Tryd.pinned (.plain (OpenSpec.upto argumentProductSpec)) argumentProductUptoCard

/-- THE SECOND FORM's CARD OF 'attestorlaw14.ArgumentValues'. -/
def argumentValuesUptoCard : Claim7 := { stood := { row := argumentValuesUptoRow, standIns := [], harness := (true, "739e6d80e01d55c2b0622cd89a4217fd04b2534c03037acffe542ebc99408936"), looks := false }, kinds := [], alts := [], laidByText := true, laidKinds := [.widerDeep], laidTests := true, laidLooks := .later }
def ArgumentValuesUptoCardSaid : Prop := Claim7.holds Tryd.pinned (.plain (OpenSpec.upto argumentValuesSpec)) argumentValuesUptoCard
end Rows
end Go.Proofs.YtkbpafipbhaknaaDoor
