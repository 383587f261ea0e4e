/- Closed facts on the loaded program's types and functions, by program. -/
import Derived.Test.YtkolcbjghphjeaaDoorE6
import Derived.Test.YtkolcbjghphjeaaDoorProg
namespace Go.Proofs.YtkolcbjghphjeaaDoor
open Go Go.Sy
theorem Tryd.follows : Tryd.prog.follows .mixedOrders = true := by kernel_rfl
theorem Tryd.ae_106 : arrayElem Tryd.prog 106 = some (32, 5, 1) := by kernel_rfl
theorem Tryd.ae_107 : arrayElem Tryd.prog 107 = some (64, 5, 1) := by kernel_rfl
theorem Tryd.ae_86 : arrayElem Tryd.prog 86 = some (2, 3, 1) := by kernel_rfl
theorem Tryd.ae_87 : arrayElem Tryd.prog 87 = some (10, 86, 2) := by kernel_rfl
theorem Tryd.ag_24 : aggB Tryd.prog 24 = some 5 := by kernel_rfl
theorem Tryd.ag_39 : aggB Tryd.prog 39 = some 3 := by kernel_rfl
theorem Tryd.ag_62 : aggB Tryd.prog 62 = some 3 := by kernel_rfl
theorem Tryd.ba_86 : arrayB Tryd.prog 86 = some ([(.int .i64 0), (.int .i64 0)], 1) := by kernel_rfl
theorem Tryd.bl_104_2 : sliceB Tryd.prog 104 2 = some (54, 1, [(.int .u64 0), (.int .u64 0)]) := by kernel_rfl
theorem Tryd.bl_22_0 : sliceB Tryd.prog 22 0 = some (39, 3, []) := by kernel_rfl
theorem Tryd.bl_22_1 : sliceB Tryd.prog 22 1 = some (39, 3, [(.int .i64 0), (.int .i64 0), (.int .i64 0)]) := by kernel_rfl
theorem Tryd.bl_22_3 : sliceB Tryd.prog 22 3 = some (39, 3, [(.int .i64 0), (.int .i64 0), (.int .i64 0), (.int .i64 0), (.int .i64 0), (.int .i64 0), (.int .i64 0), (.int .i64 0), (.int .i64 0)]) := by kernel_rfl
theorem Tryd.bl_45_1 : sliceB Tryd.prog 45 1 = some (3, 1, [(.int .i64 0)]) := by kernel_rfl
theorem Tryd.bl_45_2 : sliceB Tryd.prog 45 2 = some (3, 1, [(.int .i64 0), (.int .i64 0)]) := by kernel_rfl
theorem Tryd.bl_45_3 : sliceB Tryd.prog 45 3 = some (3, 1, [(.int .i64 0), (.int .i64 0), (.int .i64 0)]) := by kernel_rfl
theorem Tryd.bl_59_1 : sliceB Tryd.prog 59 1 = some (62, 3, [(.int .i64 0), (.int .i64 0), (.int .i64 0)]) := by kernel_rfl
theorem Tryd.bl_97_2 : sliceB Tryd.prog 97 2 = some (56, 1, [(.int .u64 0), (.int .u64 0)]) := by kernel_rfl
theorem Tryd.bs_24 : structB Tryd.prog 24 = some ([(.int .i64 0), (.int .i64 0), (.int .i64 0), (.int .i64 0), (.slice none 0 0)], [(0, 1), (1, 1), (2, 1), (3, 1), (4, 1)]) := by kernel_rfl
theorem Tryd.bs_39 : structB Tryd.prog 39 = some ([(.int .i64 0), (.int .i64 0), (.int .i64 0)], [(0, 1), (1, 1), (2, 1)]) := by kernel_rfl
theorem Tryd.bs_62 : structB Tryd.prog 62 = some ([(.int .i64 0), (.int .i64 0), (.int .i64 0)], [(0, 1), (1, 1), (2, 1)]) := by kernel_rfl
theorem Tryd.bs_90 : structB Tryd.prog 90 = some ([(.int .i64 0), (.int .i64 0), (.int .i64 0), (.int .i64 0), (.slice none 0 0), (.int .i64 0), (.int .i64 0), (.int .i64 0), (.int .i64 0), (.int .i64 0), (.int .i64 0), (.int .i64 0), (.int .i64 0), (.int .i64 0), (.int .i64 0), (.int .i64 0), (.int .i64 0), (.int .i64 0), (.int .i64 0), (.int .i64 0), (.int .i64 0), (.int .i64 0), (.int .i64 0), (.int .i64 0), (.int .i64 0), (.map none)], [(0, 5), (5, 20), (25, 1)]) := by kernel_rfl
theorem Tryd.eb_22 : elemB Tryd.prog 22 = some (39, 3, 24, (.agg #[(.int .i64 0), (.int .i64 0), (.int .i64 0)])) := by kernel_rfl
theorem Tryd.eb_45 : elemB Tryd.prog 45 = some (3, 1, 8, (.int .i64 0)) := by kernel_rfl
theorem Tryd.eb_59 : elemB Tryd.prog 59 = some (62, 3, 24, (.agg #[(.int .i64 0), (.int .i64 0), (.int .i64 0)])) := by kernel_rfl
theorem Tryd.en_10 : Enters Tryd.prog 10 := enters_of Tryd.func10 (by kernel_rfl) rfl
theorem Tryd.en_11 : Enters Tryd.prog 11 := enters_of Tryd.func11 (by kernel_rfl) rfl
theorem Tryd.en_12 : Enters Tryd.prog 12 := enters_of Tryd.func12 (by kernel_rfl) rfl
theorem Tryd.en_13 : Enters Tryd.prog 13 := enters_of Tryd.func13 (by kernel_rfl) rfl
theorem Tryd.en_14 : Enters Tryd.prog 14 := enters_of Tryd.func14 (by kernel_rfl) rfl
theorem Tryd.en_15 : Enters Tryd.prog 15 := enters_of Tryd.func15 (by kernel_rfl) rfl
theorem Tryd.en_16 : Enters Tryd.prog 16 := enters_of Tryd.func16 (by kernel_rfl) rfl
theorem Tryd.en_17 : Enters Tryd.prog 17 := enters_of Tryd.func17 (by kernel_rfl) rfl
theorem Tryd.en_18 : Enters Tryd.prog 18 := enters_of Tryd.func18 (by kernel_rfl) rfl
theorem Tryd.en_19 : Enters Tryd.prog 19 := enters_of Tryd.func19 (by kernel_rfl) rfl
theorem Tryd.en_20 : Enters Tryd.prog 20 := enters_of Tryd.func20 (by kernel_rfl) rfl
theorem Tryd.en_21 : Enters Tryd.prog 21 := enters_of Tryd.func21 (by kernel_rfl) rfl
theorem Tryd.en_22 : Enters Tryd.prog 22 := enters_of Tryd.func22 (by kernel_rfl) rfl
theorem Tryd.en_23 : Enters Tryd.prog 23 := enters_of Tryd.func23 (by kernel_rfl) rfl
theorem Tryd.en_24 : Enters Tryd.prog 24 := enters_of Tryd.func24 (by kernel_rfl) rfl
theorem Tryd.en_25 : Enters Tryd.prog 25 := enters_of Tryd.func25 (by kernel_rfl) rfl
theorem Tryd.en_26 : Enters Tryd.prog 26 := enters_of Tryd.func26 (by kernel_rfl) rfl
theorem Tryd.en_27 : Enters Tryd.prog 27 := enters_of Tryd.func27 (by kernel_rfl) rfl
theorem Tryd.en_28 : Enters Tryd.prog 28 := enters_of Tryd.func28 (by kernel_rfl) rfl
theorem Tryd.en_29 : Enters Tryd.prog 29 := enters_of Tryd.func29 (by kernel_rfl) rfl
theorem Tryd.en_3 : Enters Tryd.prog 3 := enters_of Tryd.func3 (by kernel_rfl) rfl
theorem Tryd.en_30 : Enters Tryd.prog 30 := enters_of Tryd.func30 (by kernel_rfl) rfl
theorem Tryd.en_31 : Enters Tryd.prog 31 := enters_of Tryd.func31 (by kernel_rfl) rfl
theorem Tryd.en_32 : Enters Tryd.prog 32 := enters_of Tryd.func32 (by kernel_rfl) rfl
theorem Tryd.en_33 : Enters Tryd.prog 33 := enters_of Tryd.func33 (by kernel_rfl) rfl
theorem Tryd.en_34 : Enters Tryd.prog 34 := enters_of Tryd.func34 (by kernel_rfl) rfl
theorem Tryd.en_35 : Enters Tryd.prog 35 := enters_of Tryd.func35 (by kernel_rfl) rfl
theorem Tryd.en_36 : Enters Tryd.prog 36 := enters_of Tryd.func36 (by kernel_rfl) rfl
theorem Tryd.en_37 : Enters Tryd.prog 37 := enters_of Tryd.func37 (by kernel_rfl) rfl
theorem Tryd.en_38 : Enters Tryd.prog 38 := enters_of Tryd.func38 (by kernel_rfl) rfl
theorem Tryd.en_39 : Enters Tryd.prog 39 := enters_of Tryd.func39 (by kernel_rfl) rfl
theorem Tryd.en_4 : Enters Tryd.prog 4 := enters_of Tryd.func4 (by kernel_rfl) rfl
theorem Tryd.en_40 : Enters Tryd.prog 40 := enters_of Tryd.func40 (by kernel_rfl) rfl
theorem Tryd.en_41 : Enters Tryd.prog 41 := enters_of Tryd.func41 (by kernel_rfl) rfl
theorem Tryd.en_42 : Enters Tryd.prog 42 := enters_of Tryd.func42 (by kernel_rfl) rfl
theorem Tryd.en_43 : Enters Tryd.prog 43 := enters_of Tryd.func43 (by kernel_rfl) rfl
theorem Tryd.en_44 : Enters Tryd.prog 44 := enters_of Tryd.func44 (by kernel_rfl) rfl
theorem Tryd.en_45 : Enters Tryd.prog 45 := enters_of Tryd.func45 (by kernel_rfl) rfl
theorem Tryd.en_46 : Enters Tryd.prog 46 := enters_of Tryd.func46 (by kernel_rfl) rfl
theorem Tryd.en_47 : Enters Tryd.prog 47 := enters_of Tryd.func47 (by kernel_rfl) rfl
theorem Tryd.en_48 : Enters Tryd.prog 48 := enters_of Tryd.func48 (by kernel_rfl) rfl
theorem Tryd.en_49 : Enters Tryd.prog 49 := enters_of Tryd.func49 (by kernel_rfl) rfl
theorem Tryd.en_5 : Enters Tryd.prog 5 := enters_of Tryd.func5 (by kernel_rfl) rfl
theorem Tryd.en_50 : Enters Tryd.prog 50 := enters_of Tryd.func50 (by kernel_rfl) rfl
theorem Tryd.en_51 : Enters Tryd.prog 51 := enters_of Tryd.func51 (by kernel_rfl) rfl
theorem Tryd.en_52 : Enters Tryd.prog 52 := enters_of Tryd.func52 (by kernel_rfl) rfl
theorem Tryd.en_53 : Enters Tryd.prog 53 := enters_of Tryd.func53 (by kernel_rfl) rfl
theorem Tryd.en_54 : Enters Tryd.prog 54 := enters_of Tryd.func54 (by kernel_rfl) rfl
theorem Tryd.en_55 : Enters Tryd.prog 55 := enters_of Tryd.func55 (by kernel_rfl) rfl
theorem Tryd.en_56 : Enters Tryd.prog 56 := enters_of Tryd.func56 (by kernel_rfl) rfl
theorem Tryd.en_57 : Enters Tryd.prog 57 := enters_of Tryd.func57 (by kernel_rfl) rfl
theorem Tryd.en_58 : Enters Tryd.prog 58 := enters_of Tryd.func58 (by kernel_rfl) rfl
theorem Tryd.en_59 : Enters Tryd.prog 59 := enters_of Tryd.func59 (by kernel_rfl) rfl
theorem Tryd.en_6 : Enters Tryd.prog 6 := enters_of Tryd.func6 (by kernel_rfl) rfl
theorem Tryd.en_60 : Enters Tryd.prog 60 := enters_of Tryd.func60 (by kernel_rfl) rfl
theorem Tryd.en_61 : Enters Tryd.prog 61 := enters_of Tryd.func61 (by kernel_rfl) rfl
theorem Tryd.en_62 : Enters Tryd.prog 62 := enters_of Tryd.func62 (by kernel_rfl) rfl
theorem Tryd.en_63 : Enters Tryd.prog 63 := enters_of Tryd.func63 (by kernel_rfl) rfl
theorem Tryd.en_64 : Enters Tryd.prog 64 := enters_of Tryd.func64 (by kernel_rfl) rfl
theorem Tryd.en_65 : Enters Tryd.prog 65 := enters_of Tryd.func65 (by kernel_rfl) rfl
theorem Tryd.en_66 : Enters Tryd.prog 66 := enters_of Tryd.func66 (by kernel_rfl) rfl
theorem Tryd.en_67 : Enters Tryd.prog 67 := enters_of Tryd.func67 (by kernel_rfl) rfl
theorem Tryd.en_68 : Enters Tryd.prog 68 := enters_of Tryd.func68 (by kernel_rfl) rfl
theorem Tryd.en_69 : Enters Tryd.prog 69 := enters_of Tryd.func69 (by kernel_rfl) rfl
theorem Tryd.en_7 : Enters Tryd.prog 7 := enters_of Tryd.func7 (by kernel_rfl) rfl
theorem Tryd.en_70 : Enters Tryd.prog 70 := enters_of Tryd.func70 (by kernel_rfl) rfl
theorem Tryd.en_71 : Enters Tryd.prog 71 := enters_of Tryd.func71 (by kernel_rfl) rfl
theorem Tryd.en_72 : Enters Tryd.prog 72 := enters_of Tryd.func72 (by kernel_rfl) rfl
theorem Tryd.en_73 : Enters Tryd.prog 73 := enters_of Tryd.func73 (by kernel_rfl) rfl
theorem Tryd.en_74 : Enters Tryd.prog 74 := enters_of Tryd.func74 (by kernel_rfl) rfl
theorem Tryd.en_75 : Enters Tryd.prog 75 := enters_of Tryd.func75 (by kernel_rfl) rfl
theorem Tryd.en_76 : Enters Tryd.prog 76 := enters_of Tryd.func76 (by kernel_rfl) rfl
theorem Tryd.en_77 : Enters Tryd.prog 77 := enters_of Tryd.func77 (by kernel_rfl) rfl
theorem Tryd.en_78 : Enters Tryd.prog 78 := enters_of Tryd.func78 (by kernel_rfl) rfl
theorem Tryd.en_8 : Enters Tryd.prog 8 := enters_of Tryd.func8 (by kernel_rfl) rfl
theorem Tryd.en_9 : Enters Tryd.prog 9 := enters_of Tryd.func9 (by kernel_rfl) rfl
theorem Tryd.fo_24_0 : fieldOff Tryd.prog 24 0 = some 0 := by kernel_rfl
theorem Tryd.fo_24_1 : fieldOff Tryd.prog 24 1 = some 1 := by kernel_rfl
theorem Tryd.fo_24_2 : fieldOff Tryd.prog 24 2 = some 2 := by kernel_rfl
theorem Tryd.fo_24_3 : fieldOff Tryd.prog 24 3 = some 3 := by kernel_rfl
theorem Tryd.fo_24_4 : fieldOff Tryd.prog 24 4 = some 4 := by kernel_rfl
theorem Tryd.fo_39_0 : fieldOff Tryd.prog 39 0 = some 0 := by kernel_rfl
theorem Tryd.fo_39_1 : fieldOff Tryd.prog 39 1 = some 1 := by kernel_rfl
theorem Tryd.fo_39_2 : fieldOff Tryd.prog 39 2 = some 2 := by kernel_rfl
theorem Tryd.fo_62_0 : fieldOff Tryd.prog 62 0 = some 0 := by kernel_rfl
theorem Tryd.fo_62_1 : fieldOff Tryd.prog 62 1 = some 1 := by kernel_rfl
theorem Tryd.fo_62_2 : fieldOff Tryd.prog 62 2 = some 2 := by kernel_rfl
theorem Tryd.fo_90_0 : fieldOff Tryd.prog 90 0 = some 0 := by kernel_rfl
theorem Tryd.fo_90_1 : fieldOff Tryd.prog 90 1 = some 5 := by kernel_rfl
theorem Tryd.fo_90_2 : fieldOff Tryd.prog 90 2 = some 25 := by kernel_rfl
theorem Tryd.mt_88 : mapTypes Tryd.prog 88 = some (56, 54, .u64) := by kernel_rfl
theorem Tryd.sc_22 : scalB Tryd.prog 22 = true := by kernel_rfl
theorem Tryd.sc_3 : scalB Tryd.prog 3 = true := by kernel_rfl
theorem Tryd.sc_5 : scalB Tryd.prog 5 = true := by kernel_rfl
theorem Tryd.sc_50 : scalB Tryd.prog 50 = true := by kernel_rfl
theorem Tryd.sc_54 : scalB Tryd.prog 54 = true := by kernel_rfl
theorem Tryd.sc_56 : scalB Tryd.prog 56 = true := by kernel_rfl
theorem Tryd.sc_59 : scalB Tryd.prog 59 = true := by kernel_rfl
theorem Tryd.sc_74 : scalB Tryd.prog 74 = true := by kernel_rfl
theorem Tryd.sc_80 : scalB Tryd.prog 80 = true := by kernel_rfl
theorem Tryd.sc_88 : scalB Tryd.prog 88 = true := by kernel_rfl
theorem Tryd.se_104 : sliceElem Tryd.prog 104 = some (54, 1) := by kernel_rfl
theorem Tryd.se_22 : sliceElem Tryd.prog 22 = some (39, 3) := by kernel_rfl
theorem Tryd.se_45 : sliceElem Tryd.prog 45 = some (3, 1) := by kernel_rfl
theorem Tryd.se_59 : sliceElem Tryd.prog 59 = some (62, 3) := by kernel_rfl
theorem Tryd.se_97 : sliceElem Tryd.prog 97 = some (56, 1) := by kernel_rfl
theorem Tryd.sz_22 : (Tryd.prog.info? 22).map (·.size) = some 1 := by kernel_rfl
theorem Tryd.sz_24 : (Tryd.prog.info? 24).map (·.size) = some 5 := by kernel_rfl
theorem Tryd.sz_3 : (Tryd.prog.info? 3).map (·.size) = some 1 := by kernel_rfl
theorem Tryd.sz_39 : (Tryd.prog.info? 39).map (·.size) = some 3 := by kernel_rfl
theorem Tryd.sz_4 : (Tryd.prog.info? 4).map (·.size) = some 1 := by kernel_rfl
theorem Tryd.sz_50 : (Tryd.prog.info? 50).map (·.size) = some 1 := by kernel_rfl
theorem Tryd.sz_54 : (Tryd.prog.info? 54).map (·.size) = some 1 := by kernel_rfl
theorem Tryd.sz_56 : (Tryd.prog.info? 56).map (·.size) = some 1 := by kernel_rfl
theorem Tryd.sz_59 : (Tryd.prog.info? 59).map (·.size) = some 1 := by kernel_rfl
theorem Tryd.sz_62 : (Tryd.prog.info? 62).map (·.size) = some 3 := by kernel_rfl
theorem Tryd.sz_74 : (Tryd.prog.info? 74).map (·.size) = some 1 := by kernel_rfl
theorem Tryd.sz_80 : (Tryd.prog.info? 80).map (·.size) = some 1 := by kernel_rfl
theorem Tryd.sz_86 : (Tryd.prog.info? 86).map (·.size) = some 2 := by kernel_rfl
theorem Tryd.un_3 : Tryd.prog.underlying 3 = some (.int .i64) := by kernel_rfl
theorem Tryd.un_56 : Tryd.prog.underlying 56 = some (.int .u64) := by kernel_rfl
theorem Tryd.un_99 : Tryd.prog.underlying 99 = some (.int .u32) := by kernel_rfl
theorem Tryd.ze_24 : zeroOf Tryd.prog 24 = some (.agg #[(.int .i64 0), (.int .i64 0), (.int .i64 0), (.int .i64 0), (.slice none 0 0)]) := by kernel_rfl
theorem Tryd.ze_3 : zeroOf Tryd.prog 3 = some (.int .i64 0) := by kernel_rfl
theorem Tryd.ze_39 : zeroOf Tryd.prog 39 = some (.agg #[(.int .i64 0), (.int .i64 0), (.int .i64 0)]) := by kernel_rfl
theorem Tryd.ze_4 : zeroOf Tryd.prog 4 = some (.bool false) := by kernel_rfl
theorem Tryd.ze_50 : zeroOf Tryd.prog 50 = some (.pointer none) := by kernel_rfl
theorem Tryd.ze_54 : zeroOf Tryd.prog 54 = some (.int .u64 0) := by kernel_rfl
theorem Tryd.ze_56 : zeroOf Tryd.prog 56 = some (.int .u64 0) := by kernel_rfl
theorem Tryd.ze_62 : zeroOf Tryd.prog 62 = some (.agg #[(.int .i64 0), (.int .i64 0), (.int .i64 0)]) := by kernel_rfl
theorem Tryd.ze_74 : zeroOf Tryd.prog 74 = some .nilFunc := by kernel_rfl
theorem Tryd.ze_80 : zeroOf Tryd.prog 80 = some .nilFunc := by kernel_rfl
end Go.Proofs.YtkolcbjghphjeaaDoor
