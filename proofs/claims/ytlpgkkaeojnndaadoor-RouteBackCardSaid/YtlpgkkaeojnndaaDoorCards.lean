/-
  DERIVED. GIVEN WITH THE SEED: THE CARDS: each row of YtlpgkkaeojnndaaDoorRows.lean that lists a variable, with what it lists TIED to the program's text (the seventh form; the later family's looks); each row that meets fmt, with fmt's text TOLD by the authors' own Lean function (tested against real Go, not proved from fmt's source: count such statements apart). THE CARD IS WHAT COUNTS. Prove the row's statement (the work); the ties are given (YtlpgkkaeojnndaaDoorTie.lean); close each card by the builder's one call (the guide's Derived/Test/ToyasCard.lean, 'card_holds'). Laid BY PROGRAM, IN A SANDBOX (cutbox-door.mjs). By AI agents, Wed Nov 11 2026. No macro, syntax, notation, axiom, sorry.
-/
import Derived.Test.YtlpgkkaeojnndaaDoorRows
import GoSem.ClaimSeven
namespace Go.Proofs.YtlpgkkaeojnndaaDoor
namespace Rows

/-- THE TIED CARD OF 'hamperlaw17.RouteOrders'. -/
def routeOrdersCard : Claim7 := { stood := { row := routeOrdersRow, standIns := [], harness := (true, "198d8f01f36e64a6073a2b1c7d3431aac83c7749c2fa5236fc94655e4d2ebc92"), looks := false }, kinds := [], alts := [], laidByText := true, laidKinds := [.data, .pinned], laidTests := true, laidLooks := .later }
def RouteOrdersCardSaid : Prop := Claim7.holds Tryd.pinned (.plain (OpenSpec.ofChange routeOrdersSpec)) routeOrdersCard

/-- THE TIED CARD OF 'hamperlaw17.RouteBetween'. -/
def routeBetweenCard : Claim7 := { stood := { row := routeBetweenRow, standIns := [], harness := (true, "198d8f01f36e64a6073a2b1c7d3431aac83c7749c2fa5236fc94655e4d2ebc92"), looks := false }, kinds := [], alts := [], laidByText := true, laidKinds := [.data, .pinned], laidTests := true, laidLooks := .later }
def RouteBetweenCardSaid : Prop := Claim7.holds Tryd.pinned (.plain (OpenSpec.ofChange routeBetweenSpec)) routeBetweenCard

/-- THE TIED CARD OF 'hamperlaw17.RouteTells'. -/
def routeTellsCard : Claim7 := { stood := { row := routeTellsRow, standIns := [], harness := (true, "198d8f01f36e64a6073a2b1c7d3431aac83c7749c2fa5236fc94655e4d2ebc92"), looks := false }, kinds := [], alts := [], laidByText := true, laidKinds := [.data, .pinned], laidTests := true, laidLooks := .later }
def RouteTellsCardSaid : Prop := Claim7.holds Tryd.pinned (.plain (OpenSpec.ofChange routeTellsSpec)) routeTellsCard

/-- THE TIED CARD OF 'hamperlaw17.RouteDeep'. -/
def routeDeepCard : Claim7 := { stood := { row := routeDeepRow, standIns := [], harness := (true, "198d8f01f36e64a6073a2b1c7d3431aac83c7749c2fa5236fc94655e4d2ebc92"), looks := false }, kinds := [], alts := [], laidByText := true, laidKinds := [.data, .pinned], laidTests := true, laidLooks := .later }
def RouteDeepCardSaid : Prop := Claim7.holds Tryd.pinned (.plain (OpenSpec.ofChange routeDeepSpec)) routeDeepCard

/-- THE TIED CARD OF 'hamperlaw17.RouteBack'. -/
def routeBackCard : Claim7 := { stood := { row := routeBackRow, standIns := [], harness := (true, "198d8f01f36e64a6073a2b1c7d3431aac83c7749c2fa5236fc94655e4d2ebc92"), looks := false }, kinds := [], alts := [], laidByText := true, laidKinds := [.data, .pinned], laidTests := true, laidLooks := .later }
def RouteBackCardSaid : Prop := Claim7.holds Tryd.pinned (.plain (OpenSpec.ofChange routeBackSpec)) routeBackCard

/-- THE SECOND FORM's CARD OF 'hamperlaw17.RouteOrders'. -/
def routeOrdersUptoCard : Claim7 := { stood := { row := routeOrdersUptoRow, standIns := [], harness := (true, "198d8f01f36e64a6073a2b1c7d3431aac83c7749c2fa5236fc94655e4d2ebc92"), looks := false }, kinds := [], alts := [], laidByText := true, laidKinds := [.data, .pinned], laidTests := true, laidLooks := .later }
def RouteOrdersUptoCardSaid : Prop := Claim7.holds Tryd.pinned (.plain (OpenSpec.upto routeOrdersSpec)) routeOrdersUptoCard

/-- THE SECOND FORM's CARD OF 'hamperlaw17.RouteBetween'. -/
def routeBetweenUptoCard : Claim7 := { stood := { row := routeBetweenUptoRow, standIns := [], harness := (true, "198d8f01f36e64a6073a2b1c7d3431aac83c7749c2fa5236fc94655e4d2ebc92"), looks := false }, kinds := [], alts := [], laidByText := true, laidKinds := [.data, .pinned], laidTests := true, laidLooks := .later }
def RouteBetweenUptoCardSaid : Prop := Claim7.holds Tryd.pinned (.plain (OpenSpec.upto routeBetweenSpec)) routeBetweenUptoCard

/-- THE SECOND FORM's CARD OF 'hamperlaw17.RouteTells'. -/
def routeTellsUptoCard : Claim7 := { stood := { row := routeTellsUptoRow, standIns := [], harness := (true, "198d8f01f36e64a6073a2b1c7d3431aac83c7749c2fa5236fc94655e4d2ebc92"), looks := false }, kinds := [], alts := [], laidByText := true, laidKinds := [.data, .pinned], laidTests := true, laidLooks := .later }
def RouteTellsUptoCardSaid : Prop := Claim7.holds Tryd.pinned (.plain (OpenSpec.upto routeTellsSpec)) routeTellsUptoCard

/-- THE SECOND FORM's CARD OF 'hamperlaw17.RouteDeep'. -/
def routeDeepUptoCard : Claim7 := { stood := { row := routeDeepUptoRow, standIns := [], harness := (true, "198d8f01f36e64a6073a2b1c7d3431aac83c7749c2fa5236fc94655e4d2ebc92"), looks := false }, kinds := [], alts := [], laidByText := true, laidKinds := [.data, .pinned], laidTests := true, laidLooks := .later }
def RouteDeepUptoCardSaid : Prop := Claim7.holds Tryd.pinned (.plain (OpenSpec.upto routeDeepSpec)) routeDeepUptoCard

/-- THE SECOND FORM's CARD OF 'hamperlaw17.RouteBack'. -/
def routeBackUptoCard : Claim7 := { stood := { row := routeBackUptoRow, standIns := [], harness := (true, "198d8f01f36e64a6073a2b1c7d3431aac83c7749c2fa5236fc94655e4d2ebc92"), looks := false }, kinds := [], alts := [], laidByText := true, laidKinds := [.data, .pinned], laidTests := true, laidLooks := .later }
def RouteBackUptoCardSaid : Prop := Claim7.holds Tryd.pinned (.plain (OpenSpec.upto routeBackSpec)) routeBackUptoCard
end Rows
end Go.Proofs.YtlpgkkaeojnndaaDoor
