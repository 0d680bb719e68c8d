/-
  SenderNewsLives: merkle.Node of sixteen digests of no rows: the numbers.
-/
import Derived.KernelRfl
import Derived.Test.YtokhollghednaaaGreatDoorSenderNewsNodsSt
import Derived.Test.YtokhollghednaaaGreatDoorSenderNewsLivesSt
namespace Go.Proofs.YtokhollghednaaaGreatDoor.senderNewsLives
open Go.Eng Go.Proofs.YtokhollghednaaaGreatDoor.senderNews
set_option maxRecDepth 1000000
set_option linter.unusedVariables false
set_option linter.unusedSimpArgs false
set_option linter.unusedSectionVars false
namespace node
def digs : List Int := [110, 52, 11, 156, 255, 179, 122, 152, 156, 165, 68, 230, 187, 120, 10, 44, 120, 144, 29, 63, 179, 55, 56, 118, 133, 17, 163, 6, 23, 175, 160, 29]
def dL (i : Nat) : Int := digs.getD (i % 32) 0
/-- The hasher's words behind each block. -/
def wds : List (List Int) := [[3596565334, 3826950271, 869692091, 3942351484, 1415850056, 2128932247, 834307987, 2881300066], [3133337662, 4034695950, 2495019294, 2080280279, 1051200840, 3028760898, 1455435498, 3722353435], [1493161632, 1499041240, 4133821882, 392417925, 3870877601, 2038408725, 3464824024, 1298513975], [4039889633, 2506346398, 865923936, 2567996836, 3452819996, 3108243104, 1076728712, 3325278110], [967499676, 2720803940, 3680180268, 2553454913, 3788916083, 1902750958, 2554180278, 728765942], [261474260, 3036225917, 1013869476, 2494454709, 3466937728, 910455540, 2310738655, 3198740542], [335912519, 472572715, 2019988679, 3068070111, 3098552569, 372939503, 2047398104, 2278957523], [3535359943, 2191083292, 4154254165, 468665053, 403857926, 379623552, 358989825, 3214340826]]
def W (k i : Nat) : Int := (wds.getD k []).getD i 0
end node
end Go.Proofs.YtokhollghednaaaGreatDoor.senderNewsLives
namespace Go.Proofs.YtokhollghednaaaGreatDoor.senderNewsLives
open Go.Eng Go.Proofs.YtokhollghednaaaGreatDoor.senderNews
set_option maxRecDepth 1000000
set_option linter.unusedVariables false
set_option linter.unusedSimpArgs false
set_option linter.unusedSectionVars false
namespace node
theorem piece0 : (krun Tryz.prog nods.R 583 (nods.start dL)).map (St.snap nods.keys) = some (nods.at1 dL (W 9) (W 9)) := by kernel_rfl
theorem piece1 : (krun Tryz.prog nods.R 1 ((nods.at1 dL (W 9) (W 9)).st nods.keys)).map (St.snap nods.keys) = some (nods.at2 dL (W 9) (W 0)) := by kernel_rfl
theorem piece2 : (krun Tryz.prog nods.R 18 ((nods.at2 dL (W 9) (W 0)).st nods.keys)).map (St.snap nods.keys) = some (nods.at3 dL (W 9) (W 0)) := by kernel_rfl
end node
end Go.Proofs.YtokhollghednaaaGreatDoor.senderNewsLives
namespace Go.Proofs.YtokhollghednaaaGreatDoor.senderNewsLives
open Go.Eng Go.Proofs.YtokhollghednaaaGreatDoor.senderNews
set_option maxRecDepth 1000000
set_option linter.unusedVariables false
set_option linter.unusedSimpArgs false
set_option linter.unusedSectionVars false
namespace node
theorem piece3 : (krun Tryz.prog nods.R 1 ((nods.at3 dL (W 9) (W 0)).st nods.keys)).map (St.snap nods.keys) = some (nods.atE 0 dL (W 0) (W 1)) := by kernel_rfl
theorem piece4 : (krun Tryz.prog nods.R 18 ((nods.atE 0 dL (W 0) (W 1)).st nods.keys)).map (St.snap nods.keys) = some (nods.atO 0 dL (W 0) (W 1)) := by kernel_rfl
theorem piece5 : (krun Tryz.prog nods.R 1 ((nods.atO 0 dL (W 0) (W 1)).st nods.keys)).map (St.snap nods.keys) = some (nods.atE 1 dL (W 1) (W 2)) := by kernel_rfl
end node
end Go.Proofs.YtokhollghednaaaGreatDoor.senderNewsLives
namespace Go.Proofs.YtokhollghednaaaGreatDoor.senderNewsLives
open Go.Eng Go.Proofs.YtokhollghednaaaGreatDoor.senderNews
set_option maxRecDepth 1000000
set_option linter.unusedVariables false
set_option linter.unusedSimpArgs false
set_option linter.unusedSectionVars false
namespace node
theorem piece6 : (krun Tryz.prog nods.R 18 ((nods.atE 1 dL (W 1) (W 2)).st nods.keys)).map (St.snap nods.keys) = some (nods.atO 1 dL (W 1) (W 2)) := by kernel_rfl
theorem piece7 : (krun Tryz.prog nods.R 1 ((nods.atO 1 dL (W 1) (W 2)).st nods.keys)).map (St.snap nods.keys) = some (nods.atE 2 dL (W 2) (W 3)) := by kernel_rfl
theorem piece8 : (krun Tryz.prog nods.R 18 ((nods.atE 2 dL (W 2) (W 3)).st nods.keys)).map (St.snap nods.keys) = some (nods.atO 2 dL (W 2) (W 3)) := by kernel_rfl
end node
end Go.Proofs.YtokhollghednaaaGreatDoor.senderNewsLives
