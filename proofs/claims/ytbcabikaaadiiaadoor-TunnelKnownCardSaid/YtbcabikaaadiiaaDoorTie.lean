/-
  DERIVED. GIVEN WITH THE SEED: THE PROGRAM's TIES (one call each: nine closed facts by the kernel) AND EACH ROW's TIE, after the 31st guide's Derived/Test/Toyas{Tie, Card}.lean. No idea stands in it: it is a product of the set-up. Laid BY PROGRAM, IN A SANDBOX (cutbox-door.mjs). By AI agents, Wed Nov 11 2026. No macro, syntax, notation, axiom, sorry.
-/
import Derived.Test.YtbcabikaaadiiaaDoorRows
import Derived.LaidByTextLater
import Derived.SevenTiedAt
import Derived.LaidSub
import Derived.LaidOnce
namespace Go.Proofs.YtbcabikaaadiiaaDoor
open Go
set_option maxRecDepth 100000
theorem seatTie1 : Tryd.prog.laidByTextLater [("lucifer/peel.ends", Rows.laid_lucifer_peel_ends), ("lucifer/fill.ends", Rows.laid_lucifer_fill_ends), ("lucifer/tunnel.none", Rows.laid_lucifer_tunnel_none), ("lucifer/tunnel.ends", Rows.laid_lucifer_tunnel_ends), ("lucifer/yard.wants", Rows.laid_lucifer_yard_wants), ("lucifer/insure.causes", Rows.laid_lucifer_insure_causes)] [.funcs, .funcs, .data, .funcs, .funcs, .funcs] true :=
  Program.laidByTextLater_by_one 39 8 6 (by kernel_rfl) (by kernel_rfl) (by kernel_rfl) (by kernel_rfl) (by kernel_rfl) (by kernel_rfl) (fun _ _ => by kernel_rfl)
theorem noOwnUnsafe : Tryd.pinned.checked.prog.headLifts.contains "ownunsafe" = false := by kernel_rfl
theorem tie : Tryd.prog.laidByTextLater [("lucifer/tunnel.none", Rows.laid_lucifer_tunnel_none), ("lucifer/tunnel.ends", Rows.laid_lucifer_tunnel_ends)] [.data, .funcs] true :=
  Program.laidByTextLater.sub seatTie1 ["lucifer/tunnel.none", "lucifer/tunnel.ends"] (by kernel_rfl) (by kernel_rfl)
theorem tunnelDries_row_tie : Rows.tunnelDriesRow.laidByTextAt .later Tryd.pinned [.data, .funcs] true :=
  OpenClaim.laidByTextAt_later rfl rfl tie noOwnUnsafe
theorem tunnelBests_row_tie : Rows.tunnelBestsRow.laidByTextAt .later Tryd.pinned [.data, .funcs] true :=
  OpenClaim.laidByTextAt_later rfl rfl tie noOwnUnsafe
theorem tunnelAsks_row_tie : Rows.tunnelAsksRow.laidByTextAt .later Tryd.pinned [.data, .funcs] true :=
  OpenClaim.laidByTextAt_later rfl rfl tie noOwnUnsafe
theorem tunnelTrue_row_tie : Rows.tunnelTrueRow.laidByTextAt .later Tryd.pinned [.data, .funcs] true :=
  OpenClaim.laidByTextAt_later rfl rfl tie noOwnUnsafe
theorem tunnelEnds_row_tie : Rows.tunnelEndsRow.laidByTextAt .later Tryd.pinned [.data, .funcs] true :=
  OpenClaim.laidByTextAt_later rfl rfl tie noOwnUnsafe
theorem tunnelBest_row_tie : Rows.tunnelBestRow.laidByTextAt .later Tryd.pinned [.data, .funcs] true :=
  OpenClaim.laidByTextAt_later rfl rfl tie noOwnUnsafe
theorem tunnelClash_row_tie : Rows.tunnelClashRow.laidByTextAt .later Tryd.pinned [.data, .funcs] true :=
  OpenClaim.laidByTextAt_later rfl rfl tie noOwnUnsafe
theorem tunnelLess_row_tie : Rows.tunnelLessRow.laidByTextAt .later Tryd.pinned [.data, .funcs] true :=
  OpenClaim.laidByTextAt_later rfl rfl tie noOwnUnsafe
theorem tunnelLonger_row_tie : Rows.tunnelLongerRow.laidByTextAt .later Tryd.pinned [.data, .funcs] true :=
  OpenClaim.laidByTextAt_later rfl rfl tie noOwnUnsafe
theorem tunnelHotter_row_tie : Rows.tunnelHotterRow.laidByTextAt .later Tryd.pinned [.data, .funcs] true :=
  OpenClaim.laidByTextAt_later rfl rfl tie noOwnUnsafe
theorem tunnelAsk_row_tie : Rows.tunnelAskRow.laidByTextAt .later Tryd.pinned [.data, .funcs] true :=
  OpenClaim.laidByTextAt_later rfl rfl tie noOwnUnsafe
theorem tunnelKnown_row_tie : Rows.tunnelKnownRow.laidByTextAt .later Tryd.pinned [.data, .funcs] true :=
  OpenClaim.laidByTextAt_later rfl rfl tie noOwnUnsafe
theorem tie2 : Tryd.prog.laidByTextLater [("lucifer/peel.ends", Rows.laid_lucifer_peel_ends), ("lucifer/fill.ends", Rows.laid_lucifer_fill_ends), ("lucifer/tunnel.none", Rows.laid_lucifer_tunnel_none), ("lucifer/tunnel.ends", Rows.laid_lucifer_tunnel_ends)] [.funcs, .funcs, .data, .funcs] true :=
  Program.laidByTextLater.sub seatTie1 ["lucifer/peel.ends", "lucifer/fill.ends", "lucifer/tunnel.none", "lucifer/tunnel.ends"] (by kernel_rfl) (by kernel_rfl)
theorem topFrames_row_tie : Rows.topFramesRow.laidByTextAt .later Tryd.pinned [.funcs, .funcs, .data, .funcs] true :=
  OpenClaim.laidByTextAt_later rfl rfl tie2 noOwnUnsafe
theorem tie3 : Tryd.prog.laidByTextLater [("lucifer/tunnel.none", Rows.laid_lucifer_tunnel_none), ("lucifer/tunnel.ends", Rows.laid_lucifer_tunnel_ends), ("lucifer/yard.wants", Rows.laid_lucifer_yard_wants), ("lucifer/insure.causes", Rows.laid_lucifer_insure_causes)] [.data, .funcs, .funcs, .funcs] true :=
  Program.laidByTextLater.sub seatTie1 ["lucifer/tunnel.none", "lucifer/tunnel.ends", "lucifer/yard.wants", "lucifer/insure.causes"] (by kernel_rfl) (by kernel_rfl)
theorem topCool_row_tie : Rows.topCoolRow.laidByTextAt .later Tryd.pinned [.data, .funcs, .funcs, .funcs] true :=
  OpenClaim.laidByTextAt_later rfl rfl tie3 noOwnUnsafe
theorem topAlone_row_tie : Rows.topAloneRow.laidByTextAt .later Tryd.pinned [.data, .funcs, .funcs, .funcs] true :=
  OpenClaim.laidByTextAt_later rfl rfl tie3 noOwnUnsafe
theorem topFits_row_tie : Rows.topFitsRow.laidByTextAt .later Tryd.pinned [.data, .funcs, .funcs, .funcs] true :=
  OpenClaim.laidByTextAt_later rfl rfl tie3 noOwnUnsafe
theorem tunnelDriesUpto_row_tie : Rows.tunnelDriesUptoRow.laidByTextAt .later Tryd.pinned [.data, .funcs] true :=
  OpenClaim.laidByTextAt_later rfl rfl tie noOwnUnsafe
theorem tunnelBestsUpto_row_tie : Rows.tunnelBestsUptoRow.laidByTextAt .later Tryd.pinned [.data, .funcs] true :=
  OpenClaim.laidByTextAt_later rfl rfl tie noOwnUnsafe
theorem tunnelAsksUpto_row_tie : Rows.tunnelAsksUptoRow.laidByTextAt .later Tryd.pinned [.data, .funcs] true :=
  OpenClaim.laidByTextAt_later rfl rfl tie noOwnUnsafe
theorem tunnelTrueUpto_row_tie : Rows.tunnelTrueUptoRow.laidByTextAt .later Tryd.pinned [.data, .funcs] true :=
  OpenClaim.laidByTextAt_later rfl rfl tie noOwnUnsafe
theorem tunnelEndsUpto_row_tie : Rows.tunnelEndsUptoRow.laidByTextAt .later Tryd.pinned [.data, .funcs] true :=
  OpenClaim.laidByTextAt_later rfl rfl tie noOwnUnsafe
theorem tunnelBestUpto_row_tie : Rows.tunnelBestUptoRow.laidByTextAt .later Tryd.pinned [.data, .funcs] true :=
  OpenClaim.laidByTextAt_later rfl rfl tie noOwnUnsafe
theorem tunnelClashUpto_row_tie : Rows.tunnelClashUptoRow.laidByTextAt .later Tryd.pinned [.data, .funcs] true :=
  OpenClaim.laidByTextAt_later rfl rfl tie noOwnUnsafe
theorem topFramesUpto_row_tie : Rows.topFramesUptoRow.laidByTextAt .later Tryd.pinned [.funcs, .funcs, .data, .funcs] true :=
  OpenClaim.laidByTextAt_later rfl rfl tie2 noOwnUnsafe
theorem tunnelLessUpto_row_tie : Rows.tunnelLessUptoRow.laidByTextAt .later Tryd.pinned [.data, .funcs] true :=
  OpenClaim.laidByTextAt_later rfl rfl tie noOwnUnsafe
theorem tunnelLongerUpto_row_tie : Rows.tunnelLongerUptoRow.laidByTextAt .later Tryd.pinned [.data, .funcs] true :=
  OpenClaim.laidByTextAt_later rfl rfl tie noOwnUnsafe
theorem topCoolUpto_row_tie : Rows.topCoolUptoRow.laidByTextAt .later Tryd.pinned [.data, .funcs, .funcs, .funcs] true :=
  OpenClaim.laidByTextAt_later rfl rfl tie3 noOwnUnsafe
theorem tunnelHotterUpto_row_tie : Rows.tunnelHotterUptoRow.laidByTextAt .later Tryd.pinned [.data, .funcs] true :=
  OpenClaim.laidByTextAt_later rfl rfl tie noOwnUnsafe
theorem tunnelAskUpto_row_tie : Rows.tunnelAskUptoRow.laidByTextAt .later Tryd.pinned [.data, .funcs] true :=
  OpenClaim.laidByTextAt_later rfl rfl tie noOwnUnsafe
theorem tunnelKnownUpto_row_tie : Rows.tunnelKnownUptoRow.laidByTextAt .later Tryd.pinned [.data, .funcs] true :=
  OpenClaim.laidByTextAt_later rfl rfl tie noOwnUnsafe
theorem topAloneUpto_row_tie : Rows.topAloneUptoRow.laidByTextAt .later Tryd.pinned [.data, .funcs, .funcs, .funcs] true :=
  OpenClaim.laidByTextAt_later rfl rfl tie3 noOwnUnsafe
theorem topFitsUpto_row_tie : Rows.topFitsUptoRow.laidByTextAt .later Tryd.pinned [.data, .funcs, .funcs, .funcs] true :=
  OpenClaim.laidByTextAt_later rfl rfl tie3 noOwnUnsafe
end Go.Proofs.YtbcabikaaadiiaaDoor
