/- Lemmas, in order: Closed facts on the loaded program's types and functions, by program.. -/
import Derived.Test.YtemmhdgaagaglaaDoorQ1
import Derived.Test.YtemmhdgaagaglaaDoorProg
namespace Go.Proofs.YtemmhdgaagaglaaDoor
open Go Go.Sy
theorem Tryd.follows : Tryd.prog.follows .mixedOrders = true := by kernel_rfl
theorem Tryd.ae_136 : arrayElem Tryd.prog 136 = some (32, 5, 1) := by kernel_rfl
theorem Tryd.ae_137 : arrayElem Tryd.prog 137 = some (64, 5, 1) := by kernel_rfl
theorem Tryd.ae_45 : arrayElem Tryd.prog 45 = some (2, 3, 1) := by kernel_rfl
theorem Tryd.ae_70 : arrayElem Tryd.prog 70 = some (10, 4, 1) := by kernel_rfl
theorem Tryd.ae_71 : arrayElem Tryd.prog 71 = some (10, 70, 10) := by kernel_rfl
theorem Tryd.ae_81 : arrayElem Tryd.prog 81 = some (11, 3, 1) := by kernel_rfl
theorem Tryd.ae_82 : arrayElem Tryd.prog 82 = some (11, 81, 11) := by kernel_rfl
theorem Tryd.ag_115 : aggB Tryd.prog 115 = some 2 := by kernel_rfl
theorem Tryd.ag_122 : aggB Tryd.prog 122 = some 3 := by kernel_rfl
theorem Tryd.ag_24 : aggB Tryd.prog 24 = some 2 := by kernel_rfl
theorem Tryd.ag_26 : aggB Tryd.prog 26 = some 5 := by kernel_rfl
theorem Tryd.ag_45 : aggB Tryd.prog 45 = some 2 := by kernel_rfl
theorem Tryd.ag_53 : aggB Tryd.prog 53 = some 4 := by kernel_rfl
theorem Tryd.ag_73 : aggB Tryd.prog 73 = some 106 := by kernel_rfl
theorem Tryd.ag_81 : aggB Tryd.prog 81 = some 11 := by kernel_rfl
theorem Tryd.ag_82 : aggB Tryd.prog 82 = some 121 := by kernel_rfl
theorem Tryd.ba_45 : arrayB Tryd.prog 45 = some ([(.int .i64 0), (.int .i64 0)], 1) := by kernel_rfl
theorem Tryd.bl_116_2 : sliceB Tryd.prog 116 2 = some (115, 2, [.nilFunc, .nilFunc, .nilFunc, .nilFunc]) := by kernel_rfl
theorem Tryd.bl_131_2 : sliceB Tryd.prog 131 2 = some (92, 1, [(.int .i64 0), (.int .i64 0)]) := by kernel_rfl
theorem Tryd.bl_133_2 : sliceB Tryd.prog 133 2 = some (22, 1, [(.slice none 0 0), (.slice none 0 0)]) := by kernel_rfl
theorem Tryd.bl_22_0 : sliceB Tryd.prog 22 0 = some (53, 4, []) := by kernel_rfl
theorem Tryd.bl_22_1 : sliceB Tryd.prog 22 1 = some (53, 4, [(.int .i64 0), (.int .i64 0), (.int .i64 0), (.int .i64 0)]) := by kernel_rfl
theorem Tryd.bl_22_3 : sliceB Tryd.prog 22 3 = some (53, 4, [(.int .i64 0), (.int .i64 0), (.int .i64 0), (.int .i64 0), (.int .i64 0), (.int .i64 0), (.int .i64 0), (.int .i64 0), (.int .i64 0), (.int .i64 0), (.int .i64 0), (.int .i64 0)]) := by kernel_rfl
theorem Tryd.bl_22_4 : sliceB Tryd.prog 22 4 = some (53, 4, [(.int .i64 0), (.int .i64 0), (.int .i64 0), (.int .i64 0), (.int .i64 0), (.int .i64 0), (.int .i64 0), (.int .i64 0), (.int .i64 0), (.int .i64 0), (.int .i64 0), (.int .i64 0), (.int .i64 0), (.int .i64 0), (.int .i64 0), (.int .i64 0)]) := by kernel_rfl
theorem Tryd.bl_34_0 : sliceB Tryd.prog 34 0 = some (45, 2, []) := by kernel_rfl
theorem Tryd.bl_34_1 : sliceB Tryd.prog 34 1 = some (45, 2, [(.int .i64 0), (.int .i64 0)]) := by kernel_rfl
theorem Tryd.bl_34_3 : sliceB Tryd.prog 34 3 = some (45, 2, [(.int .i64 0), (.int .i64 0), (.int .i64 0), (.int .i64 0), (.int .i64 0), (.int .i64 0)]) := by kernel_rfl
theorem Tryd.bl_55_1 : sliceB Tryd.prog 55 1 = some (3, 1, [(.int .i64 0)]) := by kernel_rfl
theorem Tryd.bl_55_3 : sliceB Tryd.prog 55 3 = some (3, 1, [(.int .i64 0), (.int .i64 0), (.int .i64 0)]) := by kernel_rfl
theorem Tryd.bl_58_3 : sliceB Tryd.prog 58 3 = some (26, 5, [(.slice none 0 0), (.slice none 0 0), (.int .i64 0), (.int .i64 0), (.int .i64 0), (.slice none 0 0), (.slice none 0 0), (.int .i64 0), (.int .i64 0), (.int .i64 0), (.slice none 0 0), (.slice none 0 0), (.int .i64 0), (.int .i64 0), (.int .i64 0)]) := by kernel_rfl
theorem Tryd.bl_77_1 : sliceB Tryd.prog 77 1 = some (34, 1, [(.slice none 0 0)]) := by kernel_rfl
theorem Tryd.bs_115 : structB Tryd.prog 115 = some ([.nilFunc, .nilFunc], [(0, 1), (1, 1)]) := by kernel_rfl
theorem Tryd.bs_122 : structB Tryd.prog 122 = some ([(.int .i64 0), (.int .i64 0), (.int .i64 0)], [(0, 1), (1, 1), (2, 1)]) := by kernel_rfl
theorem Tryd.bs_24 : structB Tryd.prog 24 = some ([(.int .i64 0), (.int .i64 0)], [(0, 1), (1, 1)]) := by kernel_rfl
theorem Tryd.bs_26 : structB Tryd.prog 26 = some ([(.slice none 0 0), (.slice none 0 0), (.int .i64 0), (.int .i64 0), (.int .i64 0)], [(0, 1), (1, 1), (2, 2), (4, 1)]) := by kernel_rfl
theorem Tryd.bs_53 : structB Tryd.prog 53 = some ([(.int .i64 0), (.int .i64 0), (.int .i64 0), (.int .i64 0)], [(0, 2), (2, 2)]) := by kernel_rfl
theorem Tryd.bs_73 : structB Tryd.prog 73 = some ([(.slice none 0 0), (.slice none 0 0), (.int .i64 0), (.int .i64 0), (.int .i64 0), (.bool false), (.bool false), (.bool false), (.bool false), (.bool false), (.bool false), (.bool false), (.bool false), (.bool false), (.bool false), (.bool false), (.bool false), (.bool false), (.bool false), (.bool false), (.bool false), (.bool false), (.bool false), (.bool false), (.bool false), (.bool false), (.bool false), (.bool false), (.bool false), (.bool false), (.bool false), (.bool false), (.bool false), (.bool false), (.bool false), (.bool false), (.bool false), (.bool false), (.bool false), (.bool false), (.bool false), (.bool false), (.bool false), (.bool false), (.bool false), (.bool false), (.bool false), (.bool false), (.bool false), (.bool false), (.bool false), (.bool false), (.bool false), (.bool false), (.bool false), (.bool false), (.bool false), (.bool false), (.bool false), (.bool false), (.bool false), (.bool false), (.bool false), (.bool false), (.bool false), (.bool false), (.bool false), (.bool false), (.bool false), (.bool false), (.bool false), (.bool false), (.bool false), (.bool false), (.bool false), (.bool false), (.bool false), (.bool false), (.bool false), (.bool false), (.bool false), (.bool false), (.bool false), (.bool false), (.bool false), (.bool false), (.bool false), (.bool false), (.bool false), (.bool false), (.bool false), (.bool false), (.bool false), (.bool false), (.bool false), (.bool false), (.bool false), (.bool false), (.bool false), (.bool false), (.bool false), (.bool false), (.bool false), (.bool false), (.bool false), (.int .i64 0)], [(0, 5), (5, 100), (105, 1)]) := by kernel_rfl
theorem Tryd.eb_22 : elemB Tryd.prog 22 = some (53, 4, 32, (.agg #[(.int .i64 0), (.int .i64 0), (.int .i64 0), (.int .i64 0)])) := by kernel_rfl
theorem Tryd.eb_34 : elemB Tryd.prog 34 = some (45, 2, 16, (.agg #[(.int .i64 0), (.int .i64 0)])) := by kernel_rfl
theorem Tryd.eb_55 : elemB Tryd.prog 55 = some (3, 1, 8, (.int .i64 0)) := by kernel_rfl
theorem Tryd.eb_77 : elemB Tryd.prog 77 = some (34, 1, 24, (.slice none 0 0)) := by kernel_rfl
theorem Tryd.en_10 : Enters Tryd.prog 10 := enters_of Tryd.func10 (by kernel_rfl) rfl
theorem Tryd.en_100 : Enters Tryd.prog 100 := enters_of Tryd.func100 (by kernel_rfl) rfl
theorem Tryd.en_11 : Enters Tryd.prog 11 := enters_of Tryd.func11 (by kernel_rfl) rfl
theorem Tryd.en_12 : Enters Tryd.prog 12 := enters_of Tryd.func12 (by kernel_rfl) rfl
theorem Tryd.en_13 : Enters Tryd.prog 13 := enters_of Tryd.func13 (by kernel_rfl) rfl
theorem Tryd.en_14 : Enters Tryd.prog 14 := enters_of Tryd.func14 (by kernel_rfl) rfl
theorem Tryd.en_15 : Enters Tryd.prog 15 := enters_of Tryd.func15 (by kernel_rfl) rfl
theorem Tryd.en_16 : Enters Tryd.prog 16 := enters_of Tryd.func16 (by kernel_rfl) rfl
theorem Tryd.en_17 : Enters Tryd.prog 17 := enters_of Tryd.func17 (by kernel_rfl) rfl
theorem Tryd.en_18 : Enters Tryd.prog 18 := enters_of Tryd.func18 (by kernel_rfl) rfl
theorem Tryd.en_19 : Enters Tryd.prog 19 := enters_of Tryd.func19 (by kernel_rfl) rfl
theorem Tryd.en_20 : Enters Tryd.prog 20 := enters_of Tryd.func20 (by kernel_rfl) rfl
theorem Tryd.en_21 : Enters Tryd.prog 21 := enters_of Tryd.func21 (by kernel_rfl) rfl
theorem Tryd.en_22 : Enters Tryd.prog 22 := enters_of Tryd.func22 (by kernel_rfl) rfl
theorem Tryd.en_23 : Enters Tryd.prog 23 := enters_of Tryd.func23 (by kernel_rfl) rfl
theorem Tryd.en_24 : Enters Tryd.prog 24 := enters_of Tryd.func24 (by kernel_rfl) rfl
theorem Tryd.en_25 : Enters Tryd.prog 25 := enters_of Tryd.func25 (by kernel_rfl) rfl
theorem Tryd.en_26 : Enters Tryd.prog 26 := enters_of Tryd.func26 (by kernel_rfl) rfl
theorem Tryd.en_27 : Enters Tryd.prog 27 := enters_of Tryd.func27 (by kernel_rfl) rfl
theorem Tryd.en_28 : Enters Tryd.prog 28 := enters_of Tryd.func28 (by kernel_rfl) rfl
theorem Tryd.en_29 : Enters Tryd.prog 29 := enters_of Tryd.func29 (by kernel_rfl) rfl
theorem Tryd.en_3 : Enters Tryd.prog 3 := enters_of Tryd.func3 (by kernel_rfl) rfl
theorem Tryd.en_30 : Enters Tryd.prog 30 := enters_of Tryd.func30 (by kernel_rfl) rfl
theorem Tryd.en_31 : Enters Tryd.prog 31 := enters_of Tryd.func31 (by kernel_rfl) rfl
theorem Tryd.en_32 : Enters Tryd.prog 32 := enters_of Tryd.func32 (by kernel_rfl) rfl
theorem Tryd.en_33 : Enters Tryd.prog 33 := enters_of Tryd.func33 (by kernel_rfl) rfl
theorem Tryd.en_34 : Enters Tryd.prog 34 := enters_of Tryd.func34 (by kernel_rfl) rfl
theorem Tryd.en_35 : Enters Tryd.prog 35 := enters_of Tryd.func35 (by kernel_rfl) rfl
theorem Tryd.en_36 : Enters Tryd.prog 36 := enters_of Tryd.func36 (by kernel_rfl) rfl
theorem Tryd.en_37 : Enters Tryd.prog 37 := enters_of Tryd.func37 (by kernel_rfl) rfl
theorem Tryd.en_38 : Enters Tryd.prog 38 := enters_of Tryd.func38 (by kernel_rfl) rfl
theorem Tryd.en_39 : Enters Tryd.prog 39 := enters_of Tryd.func39 (by kernel_rfl) rfl
theorem Tryd.en_4 : Enters Tryd.prog 4 := enters_of Tryd.func4 (by kernel_rfl) rfl
theorem Tryd.en_40 : Enters Tryd.prog 40 := enters_of Tryd.func40 (by kernel_rfl) rfl
theorem Tryd.en_41 : Enters Tryd.prog 41 := enters_of Tryd.func41 (by kernel_rfl) rfl
theorem Tryd.en_42 : Enters Tryd.prog 42 := enters_of Tryd.func42 (by kernel_rfl) rfl
theorem Tryd.en_43 : Enters Tryd.prog 43 := enters_of Tryd.func43 (by kernel_rfl) rfl
theorem Tryd.en_44 : Enters Tryd.prog 44 := enters_of Tryd.func44 (by kernel_rfl) rfl
theorem Tryd.en_45 : Enters Tryd.prog 45 := enters_of Tryd.func45 (by kernel_rfl) rfl
theorem Tryd.en_46 : Enters Tryd.prog 46 := enters_of Tryd.func46 (by kernel_rfl) rfl
theorem Tryd.en_47 : Enters Tryd.prog 47 := enters_of Tryd.func47 (by kernel_rfl) rfl
theorem Tryd.en_48 : Enters Tryd.prog 48 := enters_of Tryd.func48 (by kernel_rfl) rfl
theorem Tryd.en_49 : Enters Tryd.prog 49 := enters_of Tryd.func49 (by kernel_rfl) rfl
theorem Tryd.en_5 : Enters Tryd.prog 5 := enters_of Tryd.func5 (by kernel_rfl) rfl
theorem Tryd.en_50 : Enters Tryd.prog 50 := enters_of Tryd.func50 (by kernel_rfl) rfl
theorem Tryd.en_51 : Enters Tryd.prog 51 := enters_of Tryd.func51 (by kernel_rfl) rfl
theorem Tryd.en_52 : Enters Tryd.prog 52 := enters_of Tryd.func52 (by kernel_rfl) rfl
theorem Tryd.en_53 : Enters Tryd.prog 53 := enters_of Tryd.func53 (by kernel_rfl) rfl
theorem Tryd.en_54 : Enters Tryd.prog 54 := enters_of Tryd.func54 (by kernel_rfl) rfl
theorem Tryd.en_55 : Enters Tryd.prog 55 := enters_of Tryd.func55 (by kernel_rfl) rfl
theorem Tryd.en_56 : Enters Tryd.prog 56 := enters_of Tryd.func56 (by kernel_rfl) rfl
theorem Tryd.en_57 : Enters Tryd.prog 57 := enters_of Tryd.func57 (by kernel_rfl) rfl
theorem Tryd.en_58 : Enters Tryd.prog 58 := enters_of Tryd.func58 (by kernel_rfl) rfl
theorem Tryd.en_59 : Enters Tryd.prog 59 := enters_of Tryd.func59 (by kernel_rfl) rfl
theorem Tryd.en_6 : Enters Tryd.prog 6 := enters_of Tryd.func6 (by kernel_rfl) rfl
theorem Tryd.en_60 : Enters Tryd.prog 60 := enters_of Tryd.func60 (by kernel_rfl) rfl
theorem Tryd.en_61 : Enters Tryd.prog 61 := enters_of Tryd.func61 (by kernel_rfl) rfl
theorem Tryd.en_62 : Enters Tryd.prog 62 := enters_of Tryd.func62 (by kernel_rfl) rfl
theorem Tryd.en_63 : Enters Tryd.prog 63 := enters_of Tryd.func63 (by kernel_rfl) rfl
theorem Tryd.en_64 : Enters Tryd.prog 64 := enters_of Tryd.func64 (by kernel_rfl) rfl
theorem Tryd.en_65 : Enters Tryd.prog 65 := enters_of Tryd.func65 (by kernel_rfl) rfl
theorem Tryd.en_66 : Enters Tryd.prog 66 := enters_of Tryd.func66 (by kernel_rfl) rfl
theorem Tryd.en_67 : Enters Tryd.prog 67 := enters_of Tryd.func67 (by kernel_rfl) rfl
theorem Tryd.en_68 : Enters Tryd.prog 68 := enters_of Tryd.func68 (by kernel_rfl) rfl
theorem Tryd.en_69 : Enters Tryd.prog 69 := enters_of Tryd.func69 (by kernel_rfl) rfl
theorem Tryd.en_7 : Enters Tryd.prog 7 := enters_of Tryd.func7 (by kernel_rfl) rfl
theorem Tryd.en_70 : Enters Tryd.prog 70 := enters_of Tryd.func70 (by kernel_rfl) rfl
theorem Tryd.en_71 : Enters Tryd.prog 71 := enters_of Tryd.func71 (by kernel_rfl) rfl
theorem Tryd.en_72 : Enters Tryd.prog 72 := enters_of Tryd.func72 (by kernel_rfl) rfl
theorem Tryd.en_73 : Enters Tryd.prog 73 := enters_of Tryd.func73 (by kernel_rfl) rfl
theorem Tryd.en_74 : Enters Tryd.prog 74 := enters_of Tryd.func74 (by kernel_rfl) rfl
theorem Tryd.en_75 : Enters Tryd.prog 75 := enters_of Tryd.func75 (by kernel_rfl) rfl
theorem Tryd.en_76 : Enters Tryd.prog 76 := enters_of Tryd.func76 (by kernel_rfl) rfl
theorem Tryd.en_77 : Enters Tryd.prog 77 := enters_of Tryd.func77 (by kernel_rfl) rfl
theorem Tryd.en_78 : Enters Tryd.prog 78 := enters_of Tryd.func78 (by kernel_rfl) rfl
theorem Tryd.en_79 : Enters Tryd.prog 79 := enters_of Tryd.func79 (by kernel_rfl) rfl
theorem Tryd.en_8 : Enters Tryd.prog 8 := enters_of Tryd.func8 (by kernel_rfl) rfl
theorem Tryd.en_80 : Enters Tryd.prog 80 := enters_of Tryd.func80 (by kernel_rfl) rfl
theorem Tryd.en_81 : Enters Tryd.prog 81 := enters_of Tryd.func81 (by kernel_rfl) rfl
theorem Tryd.en_82 : Enters Tryd.prog 82 := enters_of Tryd.func82 (by kernel_rfl) rfl
theorem Tryd.en_83 : Enters Tryd.prog 83 := enters_of Tryd.func83 (by kernel_rfl) rfl
theorem Tryd.en_84 : Enters Tryd.prog 84 := enters_of Tryd.func84 (by kernel_rfl) rfl
theorem Tryd.en_85 : Enters Tryd.prog 85 := enters_of Tryd.func85 (by kernel_rfl) rfl
theorem Tryd.en_86 : Enters Tryd.prog 86 := enters_of Tryd.func86 (by kernel_rfl) rfl
theorem Tryd.en_87 : Enters Tryd.prog 87 := enters_of Tryd.func87 (by kernel_rfl) rfl
theorem Tryd.en_88 : Enters Tryd.prog 88 := enters_of Tryd.func88 (by kernel_rfl) rfl
theorem Tryd.en_89 : Enters Tryd.prog 89 := enters_of Tryd.func89 (by kernel_rfl) rfl
theorem Tryd.en_9 : Enters Tryd.prog 9 := enters_of Tryd.func9 (by kernel_rfl) rfl
theorem Tryd.en_90 : Enters Tryd.prog 90 := enters_of Tryd.func90 (by kernel_rfl) rfl
theorem Tryd.en_91 : Enters Tryd.prog 91 := enters_of Tryd.func91 (by kernel_rfl) rfl
theorem Tryd.en_92 : Enters Tryd.prog 92 := enters_of Tryd.func92 (by kernel_rfl) rfl
theorem Tryd.en_93 : Enters Tryd.prog 93 := enters_of Tryd.func93 (by kernel_rfl) rfl
theorem Tryd.en_94 : Enters Tryd.prog 94 := enters_of Tryd.func94 (by kernel_rfl) rfl
theorem Tryd.en_95 : Enters Tryd.prog 95 := enters_of Tryd.func95 (by kernel_rfl) rfl
theorem Tryd.en_96 : Enters Tryd.prog 96 := enters_of Tryd.func96 (by kernel_rfl) rfl
theorem Tryd.en_97 : Enters Tryd.prog 97 := enters_of Tryd.func97 (by kernel_rfl) rfl
theorem Tryd.en_98 : Enters Tryd.prog 98 := enters_of Tryd.func98 (by kernel_rfl) rfl
theorem Tryd.en_99 : Enters Tryd.prog 99 := enters_of Tryd.func99 (by kernel_rfl) rfl
theorem Tryd.fo_115_0 : fieldOff Tryd.prog 115 0 = some 0 := by kernel_rfl
theorem Tryd.fo_115_1 : fieldOff Tryd.prog 115 1 = some 1 := by kernel_rfl
theorem Tryd.fo_122_0 : fieldOff Tryd.prog 122 0 = some 0 := by kernel_rfl
theorem Tryd.fo_122_1 : fieldOff Tryd.prog 122 1 = some 1 := by kernel_rfl
theorem Tryd.fo_122_2 : fieldOff Tryd.prog 122 2 = some 2 := by kernel_rfl
theorem Tryd.fo_24_0 : fieldOff Tryd.prog 24 0 = some 0 := by kernel_rfl
theorem Tryd.fo_24_1 : fieldOff Tryd.prog 24 1 = some 1 := by kernel_rfl
theorem Tryd.fo_26_0 : fieldOff Tryd.prog 26 0 = some 0 := by kernel_rfl
theorem Tryd.fo_26_1 : fieldOff Tryd.prog 26 1 = some 1 := by kernel_rfl
theorem Tryd.fo_26_2 : fieldOff Tryd.prog 26 2 = some 2 := by kernel_rfl
theorem Tryd.fo_26_3 : fieldOff Tryd.prog 26 3 = some 4 := by kernel_rfl
theorem Tryd.fo_53_0 : fieldOff Tryd.prog 53 0 = some 0 := by kernel_rfl
theorem Tryd.fo_53_1 : fieldOff Tryd.prog 53 1 = some 2 := by kernel_rfl
theorem Tryd.fo_73_0 : fieldOff Tryd.prog 73 0 = some 0 := by kernel_rfl
theorem Tryd.fo_73_1 : fieldOff Tryd.prog 73 1 = some 5 := by kernel_rfl
theorem Tryd.fo_73_2 : fieldOff Tryd.prog 73 2 = some 105 := by kernel_rfl
theorem Tryd.fo_91_0 : fieldOff Tryd.prog 91 0 = some 0 := by kernel_rfl
theorem Tryd.fo_91_1 : fieldOff Tryd.prog 91 1 = some 1 := by kernel_rfl
theorem Tryd.fo_91_2 : fieldOff Tryd.prog 91 2 = some 2 := by kernel_rfl
theorem Tryd.sc_108 : scalB Tryd.prog 108 = true := by kernel_rfl
theorem Tryd.sc_113 : scalB Tryd.prog 113 = true := by kernel_rfl
theorem Tryd.sc_119 : scalB Tryd.prog 119 = true := by kernel_rfl
theorem Tryd.sc_120 : scalB Tryd.prog 120 = true := by kernel_rfl
theorem Tryd.sc_22 : scalB Tryd.prog 22 = true := by kernel_rfl
theorem Tryd.sc_3 : scalB Tryd.prog 3 = true := by kernel_rfl
theorem Tryd.sc_34 : scalB Tryd.prog 34 = true := by kernel_rfl
theorem Tryd.sc_4 : scalB Tryd.prog 4 = true := by kernel_rfl
theorem Tryd.sc_49 : scalB Tryd.prog 49 = true := by kernel_rfl
theorem Tryd.sc_5 : scalB Tryd.prog 5 = true := by kernel_rfl
theorem Tryd.sc_62 : scalB Tryd.prog 62 = true := by kernel_rfl
theorem Tryd.sc_74 : scalB Tryd.prog 74 = true := by kernel_rfl
theorem Tryd.sc_92 : scalB Tryd.prog 92 = true := by kernel_rfl
theorem Tryd.se_116 : sliceElem Tryd.prog 116 = some (115, 2) := by kernel_rfl
theorem Tryd.se_131 : sliceElem Tryd.prog 131 = some (92, 1) := by kernel_rfl
theorem Tryd.se_133 : sliceElem Tryd.prog 133 = some (22, 1) := by kernel_rfl
theorem Tryd.se_22 : sliceElem Tryd.prog 22 = some (53, 4) := by kernel_rfl
theorem Tryd.se_34 : sliceElem Tryd.prog 34 = some (45, 2) := by kernel_rfl
theorem Tryd.se_43 : sliceElem Tryd.prog 43 = some (5, 1) := by kernel_rfl
theorem Tryd.se_55 : sliceElem Tryd.prog 55 = some (3, 1) := by kernel_rfl
theorem Tryd.se_58 : sliceElem Tryd.prog 58 = some (26, 5) := by kernel_rfl
theorem Tryd.se_62 : sliceElem Tryd.prog 62 = some (108, 1) := by kernel_rfl
theorem Tryd.se_77 : sliceElem Tryd.prog 77 = some (34, 1) := by kernel_rfl
theorem Tryd.sz_119 : (Tryd.prog.info? 119).map (·.size) = some 1 := by kernel_rfl
theorem Tryd.sz_120 : (Tryd.prog.info? 120).map (·.size) = some 1 := by kernel_rfl
theorem Tryd.sz_22 : (Tryd.prog.info? 22).map (·.size) = some 1 := by kernel_rfl
theorem Tryd.sz_24 : (Tryd.prog.info? 24).map (·.size) = some 2 := by kernel_rfl
theorem Tryd.sz_26 : (Tryd.prog.info? 26).map (·.size) = some 5 := by kernel_rfl
theorem Tryd.sz_3 : (Tryd.prog.info? 3).map (·.size) = some 1 := by kernel_rfl
theorem Tryd.sz_34 : (Tryd.prog.info? 34).map (·.size) = some 1 := by kernel_rfl
theorem Tryd.sz_4 : (Tryd.prog.info? 4).map (·.size) = some 1 := by kernel_rfl
theorem Tryd.sz_45 : (Tryd.prog.info? 45).map (·.size) = some 2 := by kernel_rfl
theorem Tryd.sz_53 : (Tryd.prog.info? 53).map (·.size) = some 4 := by kernel_rfl
theorem Tryd.sz_73 : (Tryd.prog.info? 73).map (·.size) = some 106 := by kernel_rfl
theorem Tryd.sz_82 : (Tryd.prog.info? 82).map (·.size) = some 121 := by kernel_rfl
theorem Tryd.sz_91 : (Tryd.prog.info? 91).map (·.size) = some 3 := by kernel_rfl
theorem Tryd.ub_4 : Tryd.prog.underlying 4 = some .bool := by kernel_rfl
theorem Tryd.un_104 : Tryd.prog.underlying 104 = some (.int .u64) := by kernel_rfl
theorem Tryd.un_128 : Tryd.prog.underlying 128 = some (.int .u32) := by kernel_rfl
theorem Tryd.un_3 : Tryd.prog.underlying 3 = some (.int .i64) := by kernel_rfl
theorem Tryd.ze_119 : zeroOf Tryd.prog 119 = some (.map none) := by kernel_rfl
theorem Tryd.ze_120 : zeroOf Tryd.prog 120 = some .nilFunc := by kernel_rfl
theorem Tryd.ze_24 : zeroOf Tryd.prog 24 = some (.agg #[(.int .i64 0), (.int .i64 0)]) := by kernel_rfl
theorem Tryd.ze_26 : zeroOf Tryd.prog 26 = some (.agg #[(.slice none 0 0), (.slice none 0 0), (.int .i64 0), (.int .i64 0), (.int .i64 0)]) := by kernel_rfl
theorem Tryd.ze_3 : zeroOf Tryd.prog 3 = some (.int .i64 0) := by kernel_rfl
theorem Tryd.ze_34 : zeroOf Tryd.prog 34 = some (.slice none 0 0) := by kernel_rfl
theorem Tryd.ze_45 : zeroOf Tryd.prog 45 = some (.agg #[(.int .i64 0), (.int .i64 0)]) := by kernel_rfl
theorem Tryd.ze_53 : zeroOf Tryd.prog 53 = some (.agg #[(.int .i64 0), (.int .i64 0), (.int .i64 0), (.int .i64 0)]) := by kernel_rfl
theorem Tryd.ze_73 : zeroOf Tryd.prog 73 = some (.agg #[(.slice none 0 0), (.slice none 0 0), (.int .i64 0), (.int .i64 0), (.int .i64 0), (.bool false), (.bool false), (.bool false), (.bool false), (.bool false), (.bool false), (.bool false), (.bool false), (.bool false), (.bool false), (.bool false), (.bool false), (.bool false), (.bool false), (.bool false), (.bool false), (.bool false), (.bool false), (.bool false), (.bool false), (.bool false), (.bool false), (.bool false), (.bool false), (.bool false), (.bool false), (.bool false), (.bool false), (.bool false), (.bool false), (.bool false), (.bool false), (.bool false), (.bool false), (.bool false), (.bool false), (.bool false), (.bool false), (.bool false), (.bool false), (.bool false), (.bool false), (.bool false), (.bool false), (.bool false), (.bool false), (.bool false), (.bool false), (.bool false), (.bool false), (.bool false), (.bool false), (.bool false), (.bool false), (.bool false), (.bool false), (.bool false), (.bool false), (.bool false), (.bool false), (.bool false), (.bool false), (.bool false), (.bool false), (.bool false), (.bool false), (.bool false), (.bool false), (.bool false), (.bool false), (.bool false), (.bool false), (.bool false), (.bool false), (.bool false), (.bool false), (.bool false), (.bool false), (.bool false), (.bool false), (.bool false), (.bool false), (.bool false), (.bool false), (.bool false), (.bool false), (.bool false), (.bool false), (.bool false), (.bool false), (.bool false), (.bool false), (.bool false), (.bool false), (.bool false), (.bool false), (.bool false), (.bool false), (.bool false), (.bool false), (.int .i64 0)]) := by kernel_rfl
theorem Tryd.ze_82 : zeroOf Tryd.prog 82 = some (.agg #[(.int .i64 0), (.int .i64 0), (.int .i64 0), (.int .i64 0), (.int .i64 0), (.int .i64 0), (.int .i64 0), (.int .i64 0), (.int .i64 0), (.int .i64 0), (.int .i64 0), (.int .i64 0), (.int .i64 0), (.int .i64 0), (.int .i64 0), (.int .i64 0), (.int .i64 0), (.int .i64 0), (.int .i64 0), (.int .i64 0), (.int .i64 0), (.int .i64 0), (.int .i64 0), (.int .i64 0), (.int .i64 0), (.int .i64 0), (.int .i64 0), (.int .i64 0), (.int .i64 0), (.int .i64 0), (.int .i64 0), (.int .i64 0), (.int .i64 0), (.int .i64 0), (.int .i64 0), (.int .i64 0), (.int .i64 0), (.int .i64 0), (.int .i64 0), (.int .i64 0), (.int .i64 0), (.int .i64 0), (.int .i64 0), (.int .i64 0), (.int .i64 0), (.int .i64 0), (.int .i64 0), (.int .i64 0), (.int .i64 0), (.int .i64 0), (.int .i64 0), (.int .i64 0), (.int .i64 0), (.int .i64 0), (.int .i64 0), (.int .i64 0), (.int .i64 0), (.int .i64 0), (.int .i64 0), (.int .i64 0), (.int .i64 0), (.int .i64 0), (.int .i64 0), (.int .i64 0), (.int .i64 0), (.int .i64 0), (.int .i64 0), (.int .i64 0), (.int .i64 0), (.int .i64 0), (.int .i64 0), (.int .i64 0), (.int .i64 0), (.int .i64 0), (.int .i64 0), (.int .i64 0), (.int .i64 0), (.int .i64 0), (.int .i64 0), (.int .i64 0), (.int .i64 0), (.int .i64 0), (.int .i64 0), (.int .i64 0), (.int .i64 0), (.int .i64 0), (.int .i64 0), (.int .i64 0), (.int .i64 0), (.int .i64 0), (.int .i64 0), (.int .i64 0), (.int .i64 0), (.int .i64 0), (.int .i64 0), (.int .i64 0), (.int .i64 0), (.int .i64 0), (.int .i64 0), (.int .i64 0), (.int .i64 0), (.int .i64 0), (.int .i64 0), (.int .i64 0), (.int .i64 0), (.int .i64 0), (.int .i64 0), (.int .i64 0), (.int .i64 0), (.int .i64 0), (.int .i64 0), (.int .i64 0), (.int .i64 0), (.int .i64 0), (.int .i64 0), (.int .i64 0), (.int .i64 0), (.int .i64 0), (.int .i64 0), (.int .i64 0), (.int .i64 0)]) := by kernel_rfl
theorem Tryd.ze_91 : zeroOf Tryd.prog 91 = some (.agg #[(.int .i64 0), (.int .i64 0), (.bool false)]) := by kernel_rfl
end Go.Proofs.YtemmhdgaagaglaaDoor
