/- StdOf2 -/
import Derived.Test.YtccjncflbbhldaaGreatDoorPkD
import Derived.Test.YtccjncflbbhldaaGreatDoorRows
import Derived.Test.YtccjncflbbhldaaGreatDoorPkF
/-! ## StdOf2 -/
namespace Go.Proofs.YtccjncflbbhldaaGreatDoor
open Go.Sh Go.RowKit Go.ChangeShapes Go.WideShapes
def cubesZ : List Int := [4794697086780616226, 8158064640168781261, 13096744586834688815, 16840607885511220156, 4131703408338449720, 6480981068601479193, 10538285296894168987, 12329834152419229976, 15566598209576043074, 1334009975649890238, 2608012711638119052, 6128411473006802146, 8268148722764581231, 9286055187155687089, 11230858885718282805, 13951009754708518548, 16472876342353939154, 17275323862435702243, 1135362057144423861, 2597628984639134821, 3308224258029322869, 5365058923640841347, 6679025012923562964, 8573033837759648693, 10970295158949994411, 12119686244451234320, 12683024718118986047, 13788192230050041572, 14330467153632333762, 15395433587784984357, 489312712824947311, 1452737877330783856, 2861767655752347644, 3322285676063803686, 5560940570517711597, 5996557281743188959, 7280758554555802590, 8532644243296465576, 9350256976987008742, 10552545826968843579, 11727347734174303076, 12113106623233404929, 14000437183269869457, 14369950271660146224, 15101387698204529176, 15463397548674623760, 17586052441742319658, 1182934255886127544, 1847814050463011016, 2177327727835720531, 2830643537854262169, 3796741975233480872, 4115178125766777443, 5681478168544905931, 6601373596472566643, 7507060721942968483, 8399075790359081724, 8693463985226723168, 9568029438360202098, 10144078919501101548, 10430055236837252648, 11840083180663258601, 13761210420658862357, 14299343276471374635, 14566680578165727644, 15097957966210449927, 16922976911328602910, 17689382322260857208, 500013540394364858, 748580250866718886, 1242879168328830382, 1977374033974150939, 2944078676154940804, 3659926193048069267, 4368137639120453308, 4836135668995329356, 5532061633213252278, 6448918945643986474, 6902733635092675308, 7801388544844847127]
/-- the list that TileBytes has -/
def laidB : List (String × DataW Unit) := [("ledger/ledgerref01.squares", Rows.laid_ledger_ledgerref01_squares), ("ledger/ledgerref01.cubes", Rows.laid_ledger_ledgerref01_cubes), ("ledger/ledgerref01.turns", Rows.laid_ledger_ledgerref01_turns), ("ledger/sha.turns256", Rows.laid_ledger_sha_turns256), ("ledger/sha.turns512", Rows.laid_ledger_sha_turns512), ("ledger/sha.starts", Rows.laid_ledger_sha_starts), ("ledger/sha.rounds256", Rows.laid_ledger_sha_rounds256), ("ledger/sha.rounds512", Rows.laid_ledger_sha_rounds512)]
theorem laidB_plain : (laidB.all fun x => x.2.handleName?.isNone) = true := by kernel_rfl
theorem squaresB_data : laidB[0]? = some ("ledger/ledgerref01.squares", Lib.tabData .u64 startsZ) := by kernel_rfl
theorem cubesB_data : laidB[1]? = some ("ledger/ledgerref01.cubes", Lib.tabData .u64 cubesZ) := by kernel_rfl
theorem rturnsB_data : laidB[2]? = some ("ledger/ledgerref01.turns", .agg [Lib.tabData .u64 [0, 0, 0, 0, 0, 0, 0, 0, 0, 0, 0, 0], Lib.tabData .u64 rturnsZ, Lib.tabData .u64 [28, 34, 39, 14, 18, 41, 1, 8, 7, 19, 61, 6]]) := by kernel_rfl
theorem startsB_data : laidB[5]? = some ("ledger/sha.starts", Lib.tabData .u64 startsZ) := by kernel_rfl
theorem roundsB_data : laidB[6]? = some ("ledger/sha.rounds256", Lib.tabData .u32 (kaTab.map iw)) := by kernel_rfl
theorem turnsB_data : laidB[3]? = some ("ledger/sha.turns256", .agg [Lib.tabData .i64 [2, 13, 22], Lib.tabData .i64 [6, 11, 25], Lib.tabData .i64 [7, 18, 3], Lib.tabData .i64 [17, 19, 10]]) := by kernel_rfl
set_option maxRecDepth 100000 in
theorem shastd_ofB {W : World} (hL : laidMetH Tryz.prog laidB W) : ShaStd W := by
  have hg4 : Tryz.prog.globalNamed "ledger/sha.starts" = some 0 := by kernel_rfl
  have hg5 : Tryz.prog.globalNamed "ledger/sha.rounds256" = some 1 := by kernel_rfl
  have hg6 : Tryz.prog.globalNamed "ledger/sha.turns256" = some 2 := by kernel_rfl
  refine ⟨fun j z hz => ?_, fun j x hx => ?_, fun j v hv => ?_⟩
  · exact tab_cell hg4 (laid_tab hL laidB_plain 5 startsB_data (g := 0) (t := 156) hg4 (by kernel_rfl) Tryz.underlying156 Tryz.underlying124 (by kernel_rfl) (by kernel_rfl)) hz
  · exact tab_cell hg5 (laid_tab hL laidB_plain 6 roundsB_data (g := 1) (t := 170) hg5 (by kernel_rfl) Tryz.underlying170 Tryz.underlying142 (by kernel_rfl) (by kernel_rfl)) (z := iw x) (by rw [List.getElem?_map, hx]; rfl)
  · have t6 : (Tryz.prog.globals[2]?).map (·.type) = some 177 := by kernel_rfl
    have k0 := laid_struct_tab hL laidB_plain 3 turnsB_data (g := 2) (t := 177) hg6 t6 Tryz.underlying177 0 rfl (k := .i64) (zs := [2, 13, 22]) rfl Tryz.underlying175 Tryz.underlying3 (by kernel_rfl) (by kernel_rfl) rfl
    have k1 := laid_struct_tab hL laidB_plain 3 turnsB_data (g := 2) (t := 177) hg6 t6 Tryz.underlying177 1 rfl (k := .i64) (zs := [6, 11, 25]) rfl Tryz.underlying175 Tryz.underlying3 (by kernel_rfl) (by kernel_rfl) rfl
    have k2 := laid_struct_tab hL laidB_plain 3 turnsB_data (g := 2) (t := 177) hg6 t6 Tryz.underlying177 2 rfl (k := .i64) (zs := [7, 18, 3]) rfl Tryz.underlying175 Tryz.underlying3 (by kernel_rfl) (by kernel_rfl) rfl
    have k3 := laid_struct_tab hL laidB_plain 3 turnsB_data (g := 2) (t := 177) hg6 t6 Tryz.underlying177 3 rfl (k := .i64) (zs := [17, 19, 10]) rfl Tryz.underlying175 Tryz.underlying3 (by kernel_rfl) (by kernel_rfl) rfl
    have hj : j < 12 := (List.getElem?_eq_some_iff.1 hv).1
    match j, hj, hv with
    | 0, _, hv => cases hv; exact k0 0 _ rfl
    | 1, _, hv => cases hv; exact k0 1 _ rfl
    | 2, _, hv => cases hv; exact k0 2 _ rfl
    | 3, _, hv => cases hv; exact k1 0 _ rfl
    | 4, _, hv => cases hv; exact k1 1 _ rfl
    | 5, _, hv => cases hv; exact k1 2 _ rfl
    | 6, _, hv => cases hv; exact k2 0 _ rfl
    | 7, _, hv => cases hv; exact k2 1 _ rfl
    | 8, _, hv => cases hv; exact k2 2 _ rfl
    | 9, _, hv => cases hv; exact k3 0 _ rfl
    | 10, _, hv => cases hv; exact k3 1 _ rfl
    | 11, _, hv => cases hv; exact k3 2 _ rfl
    | j + 12, hj, _ => omega
theorem rshastd_ofB {W : World} (hL : laidMetH Tryz.prog laidB W) : RShaStd W := by
  have hg3 : Tryz.prog.globalNamed "ledger/ledgerref01.squares" = some 5 := by kernel_rfl
  have hg14 : Tryz.prog.globalNamed "ledger/ledgerref01.cubes" = some 6 := by kernel_rfl
  have hg15 : Tryz.prog.globalNamed "ledger/ledgerref01.turns" = some 7 := by kernel_rfl
  have hcb : ∀ j : Fin 64, (cubesZ[j.val]?).map (fun z => shrI .u64 z 32) = (kaTab[j.val]?).map iw := by decide +kernel
  refine ⟨fun j z hz => ?_, fun j x hx => ?_, fun j v hv => ?_⟩
  · exact tab_cell hg3 (laid_tab hL laidB_plain 0 squaresB_data (g := 5) (t := 156) hg3 (by kernel_rfl) Tryz.underlying156 Tryz.underlying124 (by kernel_rfl) (by kernel_rfl)) hz
  · have hj : j < 64 := (List.getElem?_eq_some_iff.1 hx).1
    have h1 := hcb ⟨j, hj⟩
    rw [show kaTab[(⟨j, hj⟩ : Fin 64).val]? = some x from hx] at h1
    obtain ⟨z, hz, he⟩ := Option.map_eq_some_iff.1 h1
    exact ⟨z, tab_cell hg14 (laid_tab hL laidB_plain 1 cubesB_data (g := 6) (t := 178) hg14 (by kernel_rfl) Tryz.underlying178 Tryz.underlying124 (by kernel_rfl) (by kernel_rfl)) hz, he⟩
  · have ht : (Tryz.prog.globals[7]?).map (·.type) = some 193 := by kernel_rfl
    unfold rturnsV at hv
    obtain ⟨z, hz, rfl⟩ := Option.map_eq_some_iff.1 (by rw [List.getElem?_map] at hv; exact hv)
    exact laid_arr_tab hL laidB_plain 2 rturnsB_data (g := 7) (t := 193) hg15 ht Tryz.underlying193 1 (by decide) (k := .u64) (zs := rturnsZ) rfl Tryz.underlying192 Tryz.underlying113 (by kernel_rfl) (by kernel_rfl) rfl j z hz
end Go.Proofs.YtccjncflbbhldaaGreatDoor
