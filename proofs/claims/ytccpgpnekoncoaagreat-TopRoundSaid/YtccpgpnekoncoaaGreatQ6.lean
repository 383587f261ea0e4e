/- Lemmas, in order: Closed facts on the loaded program's types and functions, by program. Panics, and what becomes of them. The first that is not valid. Shares, terms and reports that are valid. Royalties that are valid. Royalties that are opened. Plain laws: all truths; the least of them, and the first that reaches it. Claims, counts and spans as they lie in memory. Claims. Commissions, counts, spans. Plain laws: pence that are left, one after the other, as the document shares them. Numbers in a block of one's own; parts in their row. Parts in their row. Pence are shared. What the exported functions tell, in terms of values. Split, Commission, Claims. Twice. Owes.. -/
import Derived.Test.YtccpgpnekoncoaaGreatQ5
import Derived.Test.YtccpgpnekoncoaaGreatProg
namespace Go.Proofs.YtccpgpnekoncoaaGreat
open Go Go.Sy
theorem Tryz.follows : Tryz.prog.follows .mixedOrders = true := by kernel_rfl
theorem Tryz.ae_101 : arrayElem Tryz.prog 101 = some (4, 3, 1) := by kernel_rfl
theorem Tryz.ae_148 : arrayElem Tryz.prog 148 = some (6, 4, 1) := by kernel_rfl
theorem Tryz.ae_155 : arrayElem Tryz.prog 155 = some (4, 91, 1) := by kernel_rfl
theorem Tryz.ag_101 : aggB Tryz.prog 101 = some 4 := by kernel_rfl
theorem Tryz.ag_131 : aggB Tryz.prog 131 = some 2 := by kernel_rfl
theorem Tryz.ag_140 : aggB Tryz.prog 140 = some 3 := by kernel_rfl
theorem Tryz.ag_155 : aggB Tryz.prog 155 = some 4 := by kernel_rfl
theorem Tryz.ag_189 : aggB Tryz.prog 189 = some 1 := by kernel_rfl
theorem Tryz.ag_25 : aggB Tryz.prog 25 = some 5 := by kernel_rfl
theorem Tryz.ag_27 : aggB Tryz.prog 27 = some 3 := by kernel_rfl
theorem Tryz.ag_45 : aggB Tryz.prog 45 = some 5 := by kernel_rfl
theorem Tryz.ag_47 : aggB Tryz.prog 47 = some 4 := by kernel_rfl
theorem Tryz.ag_49 : aggB Tryz.prog 49 = some 2 := by kernel_rfl
theorem Tryz.ag_74 : aggB Tryz.prog 74 = some 2 := by kernel_rfl
theorem Tryz.ba_101 : arrayB Tryz.prog 101 = some ([(.int .i64 0), (.int .i64 0), (.int .i64 0), (.int .i64 0)], 1) := by kernel_rfl
theorem Tryz.bl_142_1 : sliceB Tryz.prog 142 1 = some (74, 2, [(.slice none 0 0), (.int .i64 0)]) := by kernel_rfl
theorem Tryz.bl_185_2 : sliceB Tryz.prog 185 2 = some (189, 1, [.nilFunc, .nilFunc]) := by kernel_rfl
theorem Tryz.bl_22_3 : sliceB Tryz.prog 22 3 = some (49, 2, [(.int .i64 0), (.int .i64 0), (.int .i64 0), (.int .i64 0), (.int .i64 0), (.int .i64 0)]) := by kernel_rfl
theorem Tryz.bl_23_0 : sliceB Tryz.prog 23 0 = some (22, 1, []) := by kernel_rfl
theorem Tryz.bl_23_3 : sliceB Tryz.prog 23 3 = some (22, 1, [(.slice none 0 0), (.slice none 0 0), (.slice none 0 0)]) := by kernel_rfl
theorem Tryz.bl_28_0 : sliceB Tryz.prog 28 0 = some (3, 1, []) := by kernel_rfl
theorem Tryz.bl_28_1 : sliceB Tryz.prog 28 1 = some (3, 1, [(.int .i64 0)]) := by kernel_rfl
theorem Tryz.bl_28_3 : sliceB Tryz.prog 28 3 = some (3, 1, [(.int .i64 0), (.int .i64 0), (.int .i64 0)]) := by kernel_rfl
theorem Tryz.bl_41_1 : sliceB Tryz.prog 41 1 = some (27, 3, [(.int .i64 0), (.int .i64 0), (.int .i64 0)]) := by kernel_rfl
theorem Tryz.bl_42_1 : sliceB Tryz.prog 42 1 = some (28, 1, [(.slice none 0 0)]) := by kernel_rfl
theorem Tryz.bl_43_1 : sliceB Tryz.prog 43 1 = some (47, 4, [(.int .i64 0), (.int .i64 0), (.int .i64 0), (.int .i64 0)]) := by kernel_rfl
theorem Tryz.bs_131 : structB Tryz.prog 131 = some ([(.int .i64 0), (.int .i64 0)], [(0, 1), (1, 1)]) := by kernel_rfl
theorem Tryz.bs_133 : structB Tryz.prog 133 = some ([(.int .i64 0)], [(0, 1)]) := by kernel_rfl
theorem Tryz.bs_136 : structB Tryz.prog 136 = some ([(.int .i64 0), (.slice none 0 0), (.slice none 0 0), (.slice none 0 0), (.slice none 0 0), (.int .i64 0)], [(0, 5), (5, 1)]) := by kernel_rfl
theorem Tryz.bs_140 : structB Tryz.prog 140 = some ([(.int .i64 0), (.int .i64 0), (.int .i64 0)], [(0, 1), (1, 1), (2, 1)]) := by kernel_rfl
theorem Tryz.bs_152 : structB Tryz.prog 152 = some ([(.int .i64 0)], [(0, 1)]) := by kernel_rfl
theorem Tryz.bs_165 : structB Tryz.prog 165 = some ([(.slice none 0 0), .nilFunc], [(0, 1), (1, 1)]) := by kernel_rfl
theorem Tryz.bs_189 : structB Tryz.prog 189 = some ([.nilFunc], [(0, 1)]) := by kernel_rfl
theorem Tryz.bs_25 : structB Tryz.prog 25 = some ([(.int .i64 0), (.slice none 0 0), (.slice none 0 0), (.slice none 0 0), (.slice none 0 0)], [(0, 1), (1, 1), (2, 1), (3, 1), (4, 1)]) := by kernel_rfl
theorem Tryz.bs_27 : structB Tryz.prog 27 = some ([(.int .i64 0), (.int .i64 0), (.int .i64 0)], [(0, 1), (1, 1), (2, 1)]) := by kernel_rfl
theorem Tryz.bs_45 : structB Tryz.prog 45 = some ([(.slice none 0 0), (.slice none 0 0), (.slice none 0 0), (.slice none 0 0), (.slice none 0 0)], [(0, 1), (1, 1), (2, 1), (3, 1), (4, 1)]) := by kernel_rfl
theorem Tryz.bs_47 : structB Tryz.prog 47 = some ([(.int .i64 0), (.int .i64 0), (.int .i64 0), (.int .i64 0)], [(0, 1), (1, 1), (2, 1), (3, 1)]) := by kernel_rfl
theorem Tryz.bs_49 : structB Tryz.prog 49 = some ([(.int .i64 0), (.int .i64 0)], [(0, 1), (1, 1)]) := by kernel_rfl
theorem Tryz.bs_74 : structB Tryz.prog 74 = some ([(.slice none 0 0), (.int .i64 0)], [(0, 1), (1, 1)]) := by kernel_rfl
theorem Tryz.bs_82 : structB Tryz.prog 82 = some ([], []) := by kernel_rfl
theorem Tryz.bs_83 : structB Tryz.prog 83 = some ([], []) := by kernel_rfl
theorem Tryz.bs_89 : structB Tryz.prog 89 = some ([(.slice none 0 0), (.slice none 0 0), (.slice none 0 0), (.slice none 0 0), (.slice none 0 0)], [(0, 5)]) := by kernel_rfl
theorem Tryz.eb_142 : elemB Tryz.prog 142 = some (74, 2, 32, (.agg #[(.slice none 0 0), (.int .i64 0)])) := by kernel_rfl
theorem Tryz.eb_23 : elemB Tryz.prog 23 = some (22, 1, 24, (.slice none 0 0)) := by kernel_rfl
theorem Tryz.eb_28 : elemB Tryz.prog 28 = some (3, 1, 8, (.int .i64 0)) := by kernel_rfl
theorem Tryz.eb_43 : elemB Tryz.prog 43 = some (47, 4, 32, (.agg #[(.int .i64 0), (.int .i64 0), (.int .i64 0), (.int .i64 0)])) := by kernel_rfl
theorem Tryz.en_10 : Enters Tryz.prog 10 := enters_of Tryz.func10 (by kernel_rfl) rfl
theorem Tryz.en_100 : Enters Tryz.prog 100 := enters_of Tryz.func100 (by kernel_rfl) rfl
theorem Tryz.en_101 : Enters Tryz.prog 101 := enters_of Tryz.func101 (by kernel_rfl) rfl
theorem Tryz.en_102 : Enters Tryz.prog 102 := enters_of Tryz.func102 (by kernel_rfl) rfl
theorem Tryz.en_103 : Enters Tryz.prog 103 := enters_of Tryz.func103 (by kernel_rfl) rfl
theorem Tryz.en_104 : Enters Tryz.prog 104 := enters_of Tryz.func104 (by kernel_rfl) rfl
theorem Tryz.en_105 : Enters Tryz.prog 105 := enters_of Tryz.func105 (by kernel_rfl) rfl
theorem Tryz.en_106 : Enters Tryz.prog 106 := enters_of Tryz.func106 (by kernel_rfl) rfl
theorem Tryz.en_107 : Enters Tryz.prog 107 := enters_of Tryz.func107 (by kernel_rfl) rfl
theorem Tryz.en_108 : Enters Tryz.prog 108 := enters_of Tryz.func108 (by kernel_rfl) rfl
theorem Tryz.en_109 : Enters Tryz.prog 109 := enters_of Tryz.func109 (by kernel_rfl) rfl
theorem Tryz.en_11 : Enters Tryz.prog 11 := enters_of Tryz.func11 (by kernel_rfl) rfl
theorem Tryz.en_110 : Enters Tryz.prog 110 := enters_of Tryz.func110 (by kernel_rfl) rfl
theorem Tryz.en_111 : Enters Tryz.prog 111 := enters_of Tryz.func111 (by kernel_rfl) rfl
theorem Tryz.en_112 : Enters Tryz.prog 112 := enters_of Tryz.func112 (by kernel_rfl) rfl
theorem Tryz.en_113 : Enters Tryz.prog 113 := enters_of Tryz.func113 (by kernel_rfl) rfl
theorem Tryz.en_114 : Enters Tryz.prog 114 := enters_of Tryz.func114 (by kernel_rfl) rfl
theorem Tryz.en_115 : Enters Tryz.prog 115 := enters_of Tryz.func115 (by kernel_rfl) rfl
theorem Tryz.en_116 : Enters Tryz.prog 116 := enters_of Tryz.func116 (by kernel_rfl) rfl
theorem Tryz.en_117 : Enters Tryz.prog 117 := enters_of Tryz.func117 (by kernel_rfl) rfl
theorem Tryz.en_119 : Enters Tryz.prog 119 := enters_of Tryz.func119 (by kernel_rfl) rfl
theorem Tryz.en_12 : Enters Tryz.prog 12 := enters_of Tryz.func12 (by kernel_rfl) rfl
theorem Tryz.en_120 : Enters Tryz.prog 120 := enters_of Tryz.func120 (by kernel_rfl) rfl
theorem Tryz.en_121 : Enters Tryz.prog 121 := enters_of Tryz.func121 (by kernel_rfl) rfl
theorem Tryz.en_122 : Enters Tryz.prog 122 := enters_of Tryz.func122 (by kernel_rfl) rfl
theorem Tryz.en_13 : Enters Tryz.prog 13 := enters_of Tryz.func13 (by kernel_rfl) rfl
theorem Tryz.en_135 : Enters Tryz.prog 135 := enters_of Tryz.func135 (by kernel_rfl) rfl
theorem Tryz.en_136 : Enters Tryz.prog 136 := enters_of Tryz.func136 (by kernel_rfl) rfl
theorem Tryz.en_137 : Enters Tryz.prog 137 := enters_of Tryz.func137 (by kernel_rfl) rfl
theorem Tryz.en_138 : Enters Tryz.prog 138 := enters_of Tryz.func138 (by kernel_rfl) rfl
theorem Tryz.en_139 : Enters Tryz.prog 139 := enters_of Tryz.func139 (by kernel_rfl) rfl
theorem Tryz.en_14 : Enters Tryz.prog 14 := enters_of Tryz.func14 (by kernel_rfl) rfl
theorem Tryz.en_140 : Enters Tryz.prog 140 := enters_of Tryz.func140 (by kernel_rfl) rfl
theorem Tryz.en_141 : Enters Tryz.prog 141 := enters_of Tryz.func141 (by kernel_rfl) rfl
theorem Tryz.en_142 : Enters Tryz.prog 142 := enters_of Tryz.func142 (by kernel_rfl) rfl
theorem Tryz.en_143 : Enters Tryz.prog 143 := enters_of Tryz.func143 (by kernel_rfl) rfl
theorem Tryz.en_144 : Enters Tryz.prog 144 := enters_of Tryz.func144 (by kernel_rfl) rfl
theorem Tryz.en_145 : Enters Tryz.prog 145 := enters_of Tryz.func145 (by kernel_rfl) rfl
theorem Tryz.en_15 : Enters Tryz.prog 15 := enters_of Tryz.func15 (by kernel_rfl) rfl
theorem Tryz.en_158 : Enters Tryz.prog 158 := enters_of Tryz.func158 (by kernel_rfl) rfl
theorem Tryz.en_16 : Enters Tryz.prog 16 := enters_of Tryz.func16 (by kernel_rfl) rfl
theorem Tryz.en_194 : Enters Tryz.prog 194 := enters_of Tryz.func194 (by kernel_rfl) rfl
theorem Tryz.en_23 : Enters Tryz.prog 23 := enters_of Tryz.func23 (by kernel_rfl) rfl
theorem Tryz.en_24 : Enters Tryz.prog 24 := enters_of Tryz.func24 (by kernel_rfl) rfl
theorem Tryz.en_25 : Enters Tryz.prog 25 := enters_of Tryz.func25 (by kernel_rfl) rfl
theorem Tryz.en_26 : Enters Tryz.prog 26 := enters_of Tryz.func26 (by kernel_rfl) rfl
theorem Tryz.en_27 : Enters Tryz.prog 27 := enters_of Tryz.func27 (by kernel_rfl) rfl
theorem Tryz.en_28 : Enters Tryz.prog 28 := enters_of Tryz.func28 (by kernel_rfl) rfl
theorem Tryz.en_29 : Enters Tryz.prog 29 := enters_of Tryz.func29 (by kernel_rfl) rfl
theorem Tryz.en_30 : Enters Tryz.prog 30 := enters_of Tryz.func30 (by kernel_rfl) rfl
theorem Tryz.en_31 : Enters Tryz.prog 31 := enters_of Tryz.func31 (by kernel_rfl) rfl
theorem Tryz.en_32 : Enters Tryz.prog 32 := enters_of Tryz.func32 (by kernel_rfl) rfl
theorem Tryz.en_33 : Enters Tryz.prog 33 := enters_of Tryz.func33 (by kernel_rfl) rfl
theorem Tryz.en_34 : Enters Tryz.prog 34 := enters_of Tryz.func34 (by kernel_rfl) rfl
theorem Tryz.en_35 : Enters Tryz.prog 35 := enters_of Tryz.func35 (by kernel_rfl) rfl
theorem Tryz.en_36 : Enters Tryz.prog 36 := enters_of Tryz.func36 (by kernel_rfl) rfl
theorem Tryz.en_37 : Enters Tryz.prog 37 := enters_of Tryz.func37 (by kernel_rfl) rfl
theorem Tryz.en_38 : Enters Tryz.prog 38 := enters_of Tryz.func38 (by kernel_rfl) rfl
theorem Tryz.en_39 : Enters Tryz.prog 39 := enters_of Tryz.func39 (by kernel_rfl) rfl
theorem Tryz.en_40 : Enters Tryz.prog 40 := enters_of Tryz.func40 (by kernel_rfl) rfl
theorem Tryz.en_41 : Enters Tryz.prog 41 := enters_of Tryz.func41 (by kernel_rfl) rfl
theorem Tryz.en_42 : Enters Tryz.prog 42 := enters_of Tryz.func42 (by kernel_rfl) rfl
theorem Tryz.en_43 : Enters Tryz.prog 43 := enters_of Tryz.func43 (by kernel_rfl) rfl
theorem Tryz.en_44 : Enters Tryz.prog 44 := enters_of Tryz.func44 (by kernel_rfl) rfl
theorem Tryz.en_45 : Enters Tryz.prog 45 := enters_of Tryz.func45 (by kernel_rfl) rfl
theorem Tryz.en_46 : Enters Tryz.prog 46 := enters_of Tryz.func46 (by kernel_rfl) rfl
theorem Tryz.en_47 : Enters Tryz.prog 47 := enters_of Tryz.func47 (by kernel_rfl) rfl
theorem Tryz.en_48 : Enters Tryz.prog 48 := enters_of Tryz.func48 (by kernel_rfl) rfl
theorem Tryz.en_49 : Enters Tryz.prog 49 := enters_of Tryz.func49 (by kernel_rfl) rfl
theorem Tryz.en_5 : Enters Tryz.prog 5 := enters_of Tryz.func5 (by kernel_rfl) rfl
theorem Tryz.en_50 : Enters Tryz.prog 50 := enters_of Tryz.func50 (by kernel_rfl) rfl
theorem Tryz.en_51 : Enters Tryz.prog 51 := enters_of Tryz.func51 (by kernel_rfl) rfl
theorem Tryz.en_52 : Enters Tryz.prog 52 := enters_of Tryz.func52 (by kernel_rfl) rfl
theorem Tryz.en_53 : Enters Tryz.prog 53 := enters_of Tryz.func53 (by kernel_rfl) rfl
theorem Tryz.en_54 : Enters Tryz.prog 54 := enters_of Tryz.func54 (by kernel_rfl) rfl
theorem Tryz.en_55 : Enters Tryz.prog 55 := enters_of Tryz.func55 (by kernel_rfl) rfl
theorem Tryz.en_56 : Enters Tryz.prog 56 := enters_of Tryz.func56 (by kernel_rfl) rfl
theorem Tryz.en_6 : Enters Tryz.prog 6 := enters_of Tryz.func6 (by kernel_rfl) rfl
theorem Tryz.en_67 : Enters Tryz.prog 67 := enters_of Tryz.func67 (by kernel_rfl) rfl
theorem Tryz.en_7 : Enters Tryz.prog 7 := enters_of Tryz.func7 (by kernel_rfl) rfl
theorem Tryz.en_70 : Enters Tryz.prog 70 := enters_of Tryz.func70 (by kernel_rfl) rfl
theorem Tryz.en_71 : Enters Tryz.prog 71 := enters_of Tryz.func71 (by kernel_rfl) rfl
theorem Tryz.en_72 : Enters Tryz.prog 72 := enters_of Tryz.func72 (by kernel_rfl) rfl
theorem Tryz.en_73 : Enters Tryz.prog 73 := enters_of Tryz.func73 (by kernel_rfl) rfl
theorem Tryz.en_74 : Enters Tryz.prog 74 := enters_of Tryz.func74 (by kernel_rfl) rfl
theorem Tryz.en_75 : Enters Tryz.prog 75 := enters_of Tryz.func75 (by kernel_rfl) rfl
theorem Tryz.en_76 : Enters Tryz.prog 76 := enters_of Tryz.func76 (by kernel_rfl) rfl
theorem Tryz.en_77 : Enters Tryz.prog 77 := enters_of Tryz.func77 (by kernel_rfl) rfl
theorem Tryz.en_78 : Enters Tryz.prog 78 := enters_of Tryz.func78 (by kernel_rfl) rfl
theorem Tryz.en_79 : Enters Tryz.prog 79 := enters_of Tryz.func79 (by kernel_rfl) rfl
theorem Tryz.en_8 : Enters Tryz.prog 8 := enters_of Tryz.func8 (by kernel_rfl) rfl
theorem Tryz.en_80 : Enters Tryz.prog 80 := enters_of Tryz.func80 (by kernel_rfl) rfl
theorem Tryz.en_81 : Enters Tryz.prog 81 := enters_of Tryz.func81 (by kernel_rfl) rfl
theorem Tryz.en_82 : Enters Tryz.prog 82 := enters_of Tryz.func82 (by kernel_rfl) rfl
theorem Tryz.en_83 : Enters Tryz.prog 83 := enters_of Tryz.func83 (by kernel_rfl) rfl
theorem Tryz.en_84 : Enters Tryz.prog 84 := enters_of Tryz.func84 (by kernel_rfl) rfl
theorem Tryz.en_85 : Enters Tryz.prog 85 := enters_of Tryz.func85 (by kernel_rfl) rfl
theorem Tryz.en_86 : Enters Tryz.prog 86 := enters_of Tryz.func86 (by kernel_rfl) rfl
theorem Tryz.en_87 : Enters Tryz.prog 87 := enters_of Tryz.func87 (by kernel_rfl) rfl
theorem Tryz.en_88 : Enters Tryz.prog 88 := enters_of Tryz.func88 (by kernel_rfl) rfl
theorem Tryz.en_9 : Enters Tryz.prog 9 := enters_of Tryz.func9 (by kernel_rfl) rfl
theorem Tryz.en_97 : Enters Tryz.prog 97 := enters_of Tryz.func97 (by kernel_rfl) rfl
theorem Tryz.en_99 : Enters Tryz.prog 99 := enters_of Tryz.func99 (by kernel_rfl) rfl
theorem Tryz.fo_131_0 : fieldOff Tryz.prog 131 0 = some 0 := by kernel_rfl
theorem Tryz.fo_131_1 : fieldOff Tryz.prog 131 1 = some 1 := by kernel_rfl
theorem Tryz.fo_133_0 : fieldOff Tryz.prog 133 0 = some 0 := by kernel_rfl
theorem Tryz.fo_136_0 : fieldOff Tryz.prog 136 0 = some 0 := by kernel_rfl
theorem Tryz.fo_136_1 : fieldOff Tryz.prog 136 1 = some 5 := by kernel_rfl
theorem Tryz.fo_140_0 : fieldOff Tryz.prog 140 0 = some 0 := by kernel_rfl
theorem Tryz.fo_140_1 : fieldOff Tryz.prog 140 1 = some 1 := by kernel_rfl
theorem Tryz.fo_140_2 : fieldOff Tryz.prog 140 2 = some 2 := by kernel_rfl
theorem Tryz.fo_152_0 : fieldOff Tryz.prog 152 0 = some 0 := by kernel_rfl
theorem Tryz.fo_165_0 : fieldOff Tryz.prog 165 0 = some 0 := by kernel_rfl
theorem Tryz.fo_165_1 : fieldOff Tryz.prog 165 1 = some 1 := by kernel_rfl
theorem Tryz.fo_189_0 : fieldOff Tryz.prog 189 0 = some 0 := by kernel_rfl
theorem Tryz.fo_25_0 : fieldOff Tryz.prog 25 0 = some 0 := by kernel_rfl
theorem Tryz.fo_25_1 : fieldOff Tryz.prog 25 1 = some 1 := by kernel_rfl
theorem Tryz.fo_25_2 : fieldOff Tryz.prog 25 2 = some 2 := by kernel_rfl
theorem Tryz.fo_25_3 : fieldOff Tryz.prog 25 3 = some 3 := by kernel_rfl
theorem Tryz.fo_25_4 : fieldOff Tryz.prog 25 4 = some 4 := by kernel_rfl
theorem Tryz.fo_27_0 : fieldOff Tryz.prog 27 0 = some 0 := by kernel_rfl
theorem Tryz.fo_27_1 : fieldOff Tryz.prog 27 1 = some 1 := by kernel_rfl
theorem Tryz.fo_27_2 : fieldOff Tryz.prog 27 2 = some 2 := by kernel_rfl
theorem Tryz.fo_45_0 : fieldOff Tryz.prog 45 0 = some 0 := by kernel_rfl
theorem Tryz.fo_45_1 : fieldOff Tryz.prog 45 1 = some 1 := by kernel_rfl
theorem Tryz.fo_45_2 : fieldOff Tryz.prog 45 2 = some 2 := by kernel_rfl
theorem Tryz.fo_45_3 : fieldOff Tryz.prog 45 3 = some 3 := by kernel_rfl
theorem Tryz.fo_45_4 : fieldOff Tryz.prog 45 4 = some 4 := by kernel_rfl
theorem Tryz.fo_47_0 : fieldOff Tryz.prog 47 0 = some 0 := by kernel_rfl
theorem Tryz.fo_47_1 : fieldOff Tryz.prog 47 1 = some 1 := by kernel_rfl
theorem Tryz.fo_47_2 : fieldOff Tryz.prog 47 2 = some 2 := by kernel_rfl
theorem Tryz.fo_47_3 : fieldOff Tryz.prog 47 3 = some 3 := by kernel_rfl
theorem Tryz.fo_49_0 : fieldOff Tryz.prog 49 0 = some 0 := by kernel_rfl
theorem Tryz.fo_49_1 : fieldOff Tryz.prog 49 1 = some 1 := by kernel_rfl
theorem Tryz.fo_74_0 : fieldOff Tryz.prog 74 0 = some 0 := by kernel_rfl
theorem Tryz.fo_74_1 : fieldOff Tryz.prog 74 1 = some 1 := by kernel_rfl
theorem Tryz.fo_89_0 : fieldOff Tryz.prog 89 0 = some 0 := by kernel_rfl
theorem Tryz.fo_97_0 : fieldOff Tryz.prog 97 0 = some 0 := by kernel_rfl
theorem Tryz.fo_97_1 : fieldOff Tryz.prog 97 1 = some 1 := by kernel_rfl
theorem Tryz.fo_97_2 : fieldOff Tryz.prog 97 2 = some 2 := by kernel_rfl
theorem Tryz.fs_131_1 : fieldS Tryz.prog 131 1 = some 1 := by kernel_rfl
theorem Tryz.fs_74_0 : fieldS Tryz.prog 74 0 = some 0 := by kernel_rfl
theorem Tryz.sc_137 : scalB Tryz.prog 137 = true := by kernel_rfl
theorem Tryz.sc_138 : scalB Tryz.prog 138 = true := by kernel_rfl
theorem Tryz.sc_150 : scalB Tryz.prog 150 = true := by kernel_rfl
theorem Tryz.sc_163 : scalB Tryz.prog 163 = true := by kernel_rfl
theorem Tryz.sc_187 : scalB Tryz.prog 187 = true := by kernel_rfl
theorem Tryz.sc_22 : scalB Tryz.prog 22 = true := by kernel_rfl
theorem Tryz.sc_23 : scalB Tryz.prog 23 = true := by kernel_rfl
theorem Tryz.sc_28 : scalB Tryz.prog 28 = true := by kernel_rfl
theorem Tryz.sc_3 : scalB Tryz.prog 3 = true := by kernel_rfl
theorem Tryz.sc_34 : scalB Tryz.prog 34 = true := by kernel_rfl
theorem Tryz.sc_4 : scalB Tryz.prog 4 = true := by kernel_rfl
theorem Tryz.sc_41 : scalB Tryz.prog 41 = true := by kernel_rfl
theorem Tryz.sc_42 : scalB Tryz.prog 42 = true := by kernel_rfl
theorem Tryz.sc_43 : scalB Tryz.prog 43 = true := by kernel_rfl
theorem Tryz.sc_5 : scalB Tryz.prog 5 = true := by kernel_rfl
theorem Tryz.sc_75 : scalB Tryz.prog 75 = true := by kernel_rfl
theorem Tryz.sc_84 : scalB Tryz.prog 84 = true := by kernel_rfl
theorem Tryz.sc_91 : scalB Tryz.prog 91 = true := by kernel_rfl
theorem Tryz.sc_98 : scalB Tryz.prog 98 = true := by kernel_rfl
theorem Tryz.se_142 : sliceElem Tryz.prog 142 = some (74, 2) := by kernel_rfl
theorem Tryz.se_185 : sliceElem Tryz.prog 185 = some (189, 1) := by kernel_rfl
theorem Tryz.se_22 : sliceElem Tryz.prog 22 = some (49, 2) := by kernel_rfl
theorem Tryz.se_23 : sliceElem Tryz.prog 23 = some (22, 1) := by kernel_rfl
theorem Tryz.se_28 : sliceElem Tryz.prog 28 = some (3, 1) := by kernel_rfl
theorem Tryz.se_29 : sliceElem Tryz.prog 29 = some (5, 1) := by kernel_rfl
theorem Tryz.se_41 : sliceElem Tryz.prog 41 = some (27, 3) := by kernel_rfl
theorem Tryz.se_42 : sliceElem Tryz.prog 42 = some (28, 1) := by kernel_rfl
theorem Tryz.se_43 : sliceElem Tryz.prog 43 = some (47, 4) := by kernel_rfl
theorem Tryz.sz_101 : (Tryz.prog.info? 101).map (·.size) = some 4 := by kernel_rfl
theorem Tryz.sz_131 : (Tryz.prog.info? 131).map (·.size) = some 2 := by kernel_rfl
theorem Tryz.sz_133 : (Tryz.prog.info? 133).map (·.size) = some 1 := by kernel_rfl
theorem Tryz.sz_137 : (Tryz.prog.info? 137).map (·.size) = some 1 := by kernel_rfl
theorem Tryz.sz_138 : (Tryz.prog.info? 138).map (·.size) = some 1 := by kernel_rfl
theorem Tryz.sz_152 : (Tryz.prog.info? 152).map (·.size) = some 1 := by kernel_rfl
theorem Tryz.sz_155 : (Tryz.prog.info? 155).map (·.size) = some 4 := by kernel_rfl
theorem Tryz.sz_165 : (Tryz.prog.info? 165).map (·.size) = some 2 := by kernel_rfl
theorem Tryz.sz_189 : (Tryz.prog.info? 189).map (·.size) = some 1 := by kernel_rfl
theorem Tryz.sz_25 : (Tryz.prog.info? 25).map (·.size) = some 5 := by kernel_rfl
theorem Tryz.sz_27 : (Tryz.prog.info? 27).map (·.size) = some 3 := by kernel_rfl
theorem Tryz.sz_28 : (Tryz.prog.info? 28).map (·.size) = some 1 := by kernel_rfl
theorem Tryz.sz_3 : (Tryz.prog.info? 3).map (·.size) = some 1 := by kernel_rfl
theorem Tryz.sz_34 : (Tryz.prog.info? 34).map (·.size) = some 1 := by kernel_rfl
theorem Tryz.sz_4 : (Tryz.prog.info? 4).map (·.size) = some 1 := by kernel_rfl
theorem Tryz.sz_43 : (Tryz.prog.info? 43).map (·.size) = some 1 := by kernel_rfl
theorem Tryz.sz_45 : (Tryz.prog.info? 45).map (·.size) = some 5 := by kernel_rfl
theorem Tryz.sz_47 : (Tryz.prog.info? 47).map (·.size) = some 4 := by kernel_rfl
theorem Tryz.sz_49 : (Tryz.prog.info? 49).map (·.size) = some 2 := by kernel_rfl
theorem Tryz.sz_74 : (Tryz.prog.info? 74).map (·.size) = some 2 := by kernel_rfl
theorem Tryz.sz_91 : (Tryz.prog.info? 91).map (·.size) = some 1 := by kernel_rfl
theorem Tryz.sz_98 : (Tryz.prog.info? 98).map (·.size) = some 1 := by kernel_rfl
theorem Tryz.un_3 : Tryz.prog.underlying 3 = some (.int .i64) := by kernel_rfl
theorem Tryz.ze_101 : zeroOf Tryz.prog 101 = some (.agg #[(.int .i64 0), (.int .i64 0), (.int .i64 0), (.int .i64 0)]) := by kernel_rfl
theorem Tryz.ze_131 : zeroOf Tryz.prog 131 = some (.agg #[(.int .i64 0), (.int .i64 0)]) := by kernel_rfl
theorem Tryz.ze_133 : zeroOf Tryz.prog 133 = some (.agg #[(.int .i64 0)]) := by kernel_rfl
theorem Tryz.ze_137 : zeroOf Tryz.prog 137 = some (.map none) := by kernel_rfl
theorem Tryz.ze_138 : zeroOf Tryz.prog 138 = some .nilFunc := by kernel_rfl
theorem Tryz.ze_148 : zeroOf Tryz.prog 148 = some (.agg #[(.bool false), (.bool false), (.bool false), (.bool false), (.bool false), (.bool false)]) := by kernel_rfl
theorem Tryz.ze_152 : zeroOf Tryz.prog 152 = some (.agg #[(.int .i64 0)]) := by kernel_rfl
theorem Tryz.ze_155 : zeroOf Tryz.prog 155 = some (.agg #[(.int .u64 0), (.int .u64 0), (.int .u64 0), (.int .u64 0)]) := by kernel_rfl
theorem Tryz.ze_165 : zeroOf Tryz.prog 165 = some (.agg #[(.slice none 0 0), .nilFunc]) := by kernel_rfl
theorem Tryz.ze_189 : zeroOf Tryz.prog 189 = some (.agg #[.nilFunc]) := by kernel_rfl
theorem Tryz.ze_25 : zeroOf Tryz.prog 25 = some (.agg #[(.int .i64 0), (.slice none 0 0), (.slice none 0 0), (.slice none 0 0), (.slice none 0 0)]) := by kernel_rfl
theorem Tryz.ze_27 : zeroOf Tryz.prog 27 = some (.agg #[(.int .i64 0), (.int .i64 0), (.int .i64 0)]) := by kernel_rfl
theorem Tryz.ze_3 : zeroOf Tryz.prog 3 = some (.int .i64 0) := by kernel_rfl
theorem Tryz.ze_34 : zeroOf Tryz.prog 34 = some (.int .i64 0) := by kernel_rfl
theorem Tryz.ze_4 : zeroOf Tryz.prog 4 = some (.bool false) := by kernel_rfl
theorem Tryz.ze_45 : zeroOf Tryz.prog 45 = some (.agg #[(.slice none 0 0), (.slice none 0 0), (.slice none 0 0), (.slice none 0 0), (.slice none 0 0)]) := by kernel_rfl
theorem Tryz.ze_47 : zeroOf Tryz.prog 47 = some (.agg #[(.int .i64 0), (.int .i64 0), (.int .i64 0), (.int .i64 0)]) := by kernel_rfl
theorem Tryz.ze_49 : zeroOf Tryz.prog 49 = some (.agg #[(.int .i64 0), (.int .i64 0)]) := by kernel_rfl
theorem Tryz.ze_74 : zeroOf Tryz.prog 74 = some (.agg #[(.slice none 0 0), (.int .i64 0)]) := by kernel_rfl
theorem Tryz.ze_97 : zeroOf Tryz.prog 97 = some (.agg #[(.int .i64 0), (.int .i64 0), (.bool false)]) := by kernel_rfl
theorem Tryz.ze_98 : zeroOf Tryz.prog 98 = some (.map none) := by kernel_rfl
end Go.Proofs.YtccpgpnekoncoaaGreat

namespace Go.Proofs.YtccpgpnekoncoaaGreat
set_option maxRecDepth 100000
open Go Go.Sy Go.RoyM
/-- The panic of what cannot be told. -/
abbrev misfit (e : Int) : List PanicEntry := [{ v := .iface 152 (.agg #[.int .i64 e]), recovered := false }]
theorem p94 (b : Bool) (e : Int) (u : World) : Calls Tryz.prog 79 #[.bool b, .int .i64 e] u (RetX (fun v w' => b = true ∧ Ext [] u w') (fun ch w' => b = false ∧ ch = misfit e ∧ Ext [] u w')) := by
  refine calls_ofX Tryz.func79 rfl rfl (fun a hf => ?_)
  have hh := Hp.init u []
  refine sy_sq ?_
  refine o_v hf hh (yv_move rfl) ?_; clear hf a; intro a hf
  refine o_v hf hh (yv_not rfl) ?_; clear hf a; intro a hf
  refine o_end ?_
  refine sy_cond hf rfl (fun hg2 => ?_) (fun hg2 => ?_)
  ·have hG2 := hg2; try simp only [gS] at hG2
   refine sy_ops ?_
   refine o_v hf hh (yv_move rfl) ?_; clear hf a; intro a hf
   refine o_v hf hh (yv_buildS Tryz.bs_152 rfl rfl) ?_; clear hf a; intro a hf
   refine o_v hf hh (yv_makeIface (by kernel_rfl) rfl) ?_; clear hf a; intro a hf
   refine o_panic hf fun hf => ?_
   refine pan_x hf ?_
   exact ⟨by simp_all, rfl, hh.ext⟩
  ·have hG2 := hg2; try simp only [gS] at hG2
   refine sy_skip ?_
   refine ret_xn ?_
   refine ret_n hf rfl rfl ?_
   exact ⟨by simp_all, hh.ext⟩
theorem p48 (n l h : Int) (w : World) : Calls Tryz.prog 34 #[.int .i64 n, .int .i64 l, .int .i64 h] w (Ret fun v w' => v = .bool (inI n l h) ∧ Ext [] w w') := by
  refine calls_of Tryz.func34 rfl rfl (fun a hf => ?_)
  have hh := Hp.init w []
  refine sy_sq ?_
  refine o_v hf hh (yv_assign rfl) ?_; clear hf a; intro a hf
  refine o_end ?_
  refine sy_sq ?_
  refine o_v hf hh (yv_move rfl) ?_; clear hf a; intro a hf
  refine o_v hf hh (yv_move rfl) ?_; clear hf a; intro a hf
  refine o_v hf hh (yv_bin rfl rfl rfl) ?_; clear hf a; intro a hf
  refine o_v hf hh (yv_move rfl) ?_; clear hf a; intro a hf
  refine guard_split hf (t := 10) rfl (fun hg2 => ?_) (fun hg2 => ?_)
  ·have hG2 := hg2; try simp only [gS] at hG2
   refine o_v hf hh (yv_move rfl) ?_; clear hf a; intro a hf
   refine o_v hf hh (yv_move rfl) ?_; clear hf a; intro a hf
   refine o_v hf hh (yv_bin rfl rfl rfl) ?_; clear hf a; intro a hf
   refine o_v hf hh (y_pt rfl rfl) ?_; clear hf a; intro a hf
   refine o_v hf hh (yv_assign rfl) ?_; clear hf a; intro a hf
   refine o_end ?_
   refine sy_ret ?_
   refine ret_r hf rfl rfl ?_
   unfold inI
   first
     | (rw [decide_eq_true (show l ≤ n by omega), Bool.true_and]; exact ⟨rfl, hh.ext⟩)
     | (rw [decide_eq_false (show ¬ l ≤ n by omega), Bool.false_and]; exact ⟨rfl, hh.ext⟩)
  ·have hG2 := hg2; try simp only [gS] at hG2
   refine o_off hf ?_; clear hf a; intro a hf
   refine o_off hf ?_; clear hf a; intro a hf
   refine o_off hf ?_; clear hf a; intro a hf
   refine o_v hf hh (y_pf rfl rfl) ?_; clear hf a; intro a hf
   refine o_v hf hh (yv_assign rfl) ?_; clear hf a; intro a hf
   refine o_end ?_
   refine sy_ret ?_
   refine ret_r hf rfl rfl ?_
   unfold inI
   first
     | (rw [decide_eq_true (show l ≤ n by omega), Bool.true_and]; exact ⟨rfl, hh.ext⟩)
     | (rw [decide_eq_false (show ¬ l ≤ n by omega), Bool.false_and]; exact ⟨rfl, hh.ext⟩)
theorem p56n (Be : Nat) (u : World) : Calls Tryz.prog 41 #[.nilIface, ptr Be 0] u (Ret fun v w' => Ext [] u w') := by
  refine calls_of Tryz.func41 rfl rfl (fun a hf => ?_)
  have hh := Hp.init u []
  refine sy_seq ?_
  refine sy_sq ?_
  refine o_v hf hh (yv_move rfl) ?_; clear hf a; intro a hf
  refine o_v hf hh (yv_isNil (by kernel_rfl) rfl rfl) ?_; clear hf a; intro a hf
  refine o_end ?_
  refine c_t hf ?_
  refine sy_ret ?_
  refine then_r ?_
  refine ret_r hf rfl rfl ?_
  exact hh.ext
theorem p56s (Be : Nat) (e x : Int) (u : World) (hb : u.heap[Be]? = some (.cells #[.int .i64 x] 34 (0, 0))) : Calls Tryz.prog 41 #[.iface 152 (.agg #[.int .i64 e]), ptr Be 0] u (Ret fun v w' => Hp u [Be] [(Be, .cells #[.int .i64 e] 34)] w') := by
  refine calls_of Tryz.func41 rfl rfl (fun a hf => ?_)
  have hh := Hp.init1 hb
  refine sy_seq ?_
  refine sy_sq ?_
  refine o_v hf hh (yv_move rfl) ?_; clear hf a; intro a hf
  refine o_v hf hh (yv_notNil (by kernel_rfl) rfl rfl) ?_; clear hf a; intro a hf
  refine o_end ?_
  refine c_f hf ?_
  refine sy_skip ?_
  refine then_n ?_
  refine sy_sq ?_
  refine o_v hf hh (yv_move rfl) ?_; clear hf a; intro a hf
  refine o_v hf hh (yv_assert (by kernel_rfl) rfl) ?_; clear hf a; intro a hf
  refine o_v hf hh (yv_move rfl) ?_; clear hf a; intro a hf
  refine o_v hf hh (yv_extract rfl rfl) ?_; clear hf a; intro a hf
  refine o_v hf hh (yv_extract rfl rfl) ?_; clear hf a; intro a hf
  refine o_alloc hf hh Tryz.ze_152 ?_; clear hf hh a; intro B4 a w hf hh
  refine o_store hf hh Tryz.sz_152 fun w hh => ?_
  refine o_v hf hh (yv_assign rfl) ?_; clear hf a; intro a hf
  refine o_end ?_
  refine sy_seq ?_
  refine sy_sq ?_
  refine o_v hf hh (yv_move rfl) ?_; clear hf a; intro a hf
  refine o_v hf hh (yv_not rfl) ?_; clear hf a; intro a hf
  refine o_end ?_
  refine c_f hf ?_
  refine sy_skip ?_
  refine then_n ?_
  refine sy_ops ?_
  refine o_v hf hh (yv_move rfl) ?_; clear hf a; intro a hf
  refine o_v hf hh (yv_fieldAddr Tryz.fo_152_0 rfl) ?_; clear hf a; intro a hf
  refine o_v hf hh (y_ld Tryz.sc_34 rfl) ?_; clear hf a; intro a hf
  refine o_v hf hh (yv_nilCheck rfl) ?_; clear hf a; intro a hf
  refine o_store hf hh Tryz.sz_34 fun w hh => ?_
  refine ops_end ?_
  refine ret_n hf rfl rfl ?_
  exact hh.less (.cons _ (.cons_cons _ (.refl _)))
theorem d69r (Be : Nat) (w : World) : CallsDIn (FR none) 0 Tryz.prog 40 #[ptr Be 0] .returning w (fun e u' w' => (∃ v, e = .returned v) ∧ u' = .returning ∧ Ext [] w w') := by
  refine callsDIn_of_wpSIn Tryz.func40 rfl trivial fun c₀ cs hu => ?_
  refine wpSIn_recover (v := .nilIface) (cs' := c₀ :: cs) rfl rfl (.inr ⟨by simp [recoverD, hu], rfl, rfl⟩) ?_
  have hf := (Fr.enter [ptr Be 0] Tryz.f40.ntmps (Nat.le_of_ble_eq_true rfl)).put (d := 1) (blt_lt rfl) .nilIface
  refine o_call hf Tryz.en_41 rfl rfl rfl (p56n Be w) ?_; clear hf; intro v a w' hR hf
  refine ops_end ?_
  exact ends_s hf rfl (frame_same hu) ⟨⟨_, rfl⟩, rfl, hR⟩
theorem d69p (Be : Nat) (e x : Int) (w : World) (hb : w.heap[Be]? = some (.cells #[.int .i64 x] 34 (0, 0))) : CallsDIn (FR none) 0 Tryz.prog 40 #[ptr Be 0] (.panicking (misfit e)) w (fun e' u' w' => (∃ v, e' = .returned v) ∧ u' = .panicking [{ v := .iface 152 (.agg #[.int .i64 e]), recovered := true }] ∧ Hp w [Be] [(Be, .cells #[.int .i64 e] 34)] w') := by
  refine callsDIn_of_wpSIn Tryz.func40 rfl trivial fun c₀ cs hu => ?_
  refine wpSIn_recover (v := .iface 152 (.agg #[.int .i64 e])) (cs' := { c₀ with mode := .panicking [{ v := .iface 152 (.agg #[.int .i64 e]), recovered := true }] } :: cs) rfl rfl (.inl (by simp [recoverD, hu])) ?_
  have hf := (Fr.enter [ptr Be 0] Tryz.f40.ntmps (Nat.le_of_ble_eq_true rfl)).put (d := 1) (blt_lt rfl) (.iface 152 (.agg #[.int .i64 e]))
  refine o_call hf Tryz.en_41 rfl rfl rfl (p56s Be e x w hb) ?_; clear hf; intro v a w' hR hf
  refine ops_end ?_
  exact ends_s hf rfl rfl ⟨⟨_, rfl⟩, rfl, hR⟩
theorem d74r (Be : Nat) (w : World) : CallsDIn (FR none) 0 Tryz.prog 48 #[ptr Be 0] .returning w (fun e u' w' => (∃ v, e = .returned v) ∧ u' = .returning ∧ Ext [] w w') := by
  refine callsDIn_of_wpSIn Tryz.func48 rfl trivial fun c₀ cs hu => ?_
  refine wpSIn_recover (v := .nilIface) (cs' := c₀ :: cs) rfl rfl (.inr ⟨by simp [recoverD, hu], rfl, rfl⟩) ?_
  have hf := (Fr.enter [ptr Be 0] Tryz.f48.ntmps (Nat.le_of_ble_eq_true rfl)).put (d := 1) (blt_lt rfl) .nilIface
  refine o_call hf Tryz.en_41 rfl rfl rfl (p56n Be w) ?_; clear hf; intro v a w' hR hf
  refine ops_end ?_
  exact ends_s hf rfl (frame_same hu) ⟨⟨_, rfl⟩, rfl, hR⟩
theorem d74p (Be : Nat) (e x : Int) (w : World) (hb : w.heap[Be]? = some (.cells #[.int .i64 x] 34 (0, 0))) : CallsDIn (FR none) 0 Tryz.prog 48 #[ptr Be 0] (.panicking (misfit e)) w (fun e' u' w' => (∃ v, e' = .returned v) ∧ u' = .panicking [{ v := .iface 152 (.agg #[.int .i64 e]), recovered := true }] ∧ Hp w [Be] [(Be, .cells #[.int .i64 e] 34)] w') := by
  refine callsDIn_of_wpSIn Tryz.func48 rfl trivial fun c₀ cs hu => ?_
  refine wpSIn_recover (v := .iface 152 (.agg #[.int .i64 e])) (cs' := { c₀ with mode := .panicking [{ v := .iface 152 (.agg #[.int .i64 e]), recovered := true }] } :: cs) rfl rfl (.inl (by simp [recoverD, hu])) ?_
  have hf := (Fr.enter [ptr Be 0] Tryz.f48.ntmps (Nat.le_of_ble_eq_true rfl)).put (d := 1) (blt_lt rfl) (.iface 152 (.agg #[.int .i64 e]))
  refine o_call hf Tryz.en_41 rfl rfl rfl (p56s Be e x w hb) ?_; clear hf; intro v a w' hR hf
  refine ops_end ?_
  exact ends_s hf rfl rfl ⟨⟨_, rfl⟩, rfl, hR⟩
theorem d86r (Be : Nat) (w : World) : CallsDIn (FR none) 0 Tryz.prog 54 #[ptr Be 0] .returning w (fun e u' w' => (∃ v, e = .returned v) ∧ u' = .returning ∧ Ext [] w w') := by
  refine callsDIn_of_wpSIn Tryz.func54 rfl trivial fun c₀ cs hu => ?_
  refine wpSIn_recover (v := .nilIface) (cs' := c₀ :: cs) rfl rfl (.inr ⟨by simp [recoverD, hu], rfl, rfl⟩) ?_
  have hf := (Fr.enter [ptr Be 0] Tryz.f54.ntmps (Nat.le_of_ble_eq_true rfl)).put (d := 1) (blt_lt rfl) .nilIface
  refine o_call hf Tryz.en_41 rfl rfl rfl (p56n Be w) ?_; clear hf; intro v a w' hR hf
  refine ops_end ?_
  exact ends_s hf rfl (frame_same hu) ⟨⟨_, rfl⟩, rfl, hR⟩
theorem d86p (Be : Nat) (e x : Int) (w : World) (hb : w.heap[Be]? = some (.cells #[.int .i64 x] 34 (0, 0))) : CallsDIn (FR none) 0 Tryz.prog 54 #[ptr Be 0] (.panicking (misfit e)) w (fun e' u' w' => (∃ v, e' = .returned v) ∧ u' = .panicking [{ v := .iface 152 (.agg #[.int .i64 e]), recovered := true }] ∧ Hp w [Be] [(Be, .cells #[.int .i64 e] 34)] w') := by
  refine callsDIn_of_wpSIn Tryz.func54 rfl trivial fun c₀ cs hu => ?_
  refine wpSIn_recover (v := .iface 152 (.agg #[.int .i64 e])) (cs' := { c₀ with mode := .panicking [{ v := .iface 152 (.agg #[.int .i64 e]), recovered := true }] } :: cs) rfl rfl (.inl (by simp [recoverD, hu])) ?_
  have hf := (Fr.enter [ptr Be 0] Tryz.f54.ntmps (Nat.le_of_ble_eq_true rfl)).put (d := 1) (blt_lt rfl) (.iface 152 (.agg #[.int .i64 e]))
  refine o_call hf Tryz.en_41 rfl rfl rfl (p56s Be e x w hb) ?_; clear hf; intro v a w' hR hf
  refine ops_end ?_
  exact ends_s hf rfl rfl ⟨⟨_, rfl⟩, rfl, hR⟩
end Go.Proofs.YtccpgpnekoncoaaGreat

namespace Go.Proofs.YtccpgpnekoncoaaGreat
set_option maxRecDepth 100000
open Go Go.Sy Go.RoyM
theorem p101 (ok : Int → Bool) (l : List (Int)) (sa : Option Addr) (c0 : Nat) (f : Nat) (fcs : Array Value) (u : World) (hM : IAt u sa l) (hl : l.length ≤ 1000) (hE : Enters Tryz.prog f) (hcall : ∀ (x : Int), x ∈ l → ∀ (w1 : World), Ext [] u w1 → Calls Tryz.prog f (#[] ++ [.int .i64 x].toArray ++ fcs) w1 (Ret fun v w'' => v = .bool (!ok x) ∧ Ext [] w1 w'')) : Calls Tryz.prog 142 #[.slice sa l.length c0, .func (.func f) #[] fcs] u (Ret fun v w' => v = .int .i64 (fbad ok l 0) ∧ Ext [] u w') := by
  refine calls_of Tryz.func142 rfl rfl (fun a hf => ?_)
  have hh := Hp.init u []
  refine sy_sq ?_
  refine o_v hf hh (yv_assign rfl) ?_; clear hf a; intro a hf
  refine o_end ?_
  refine sy_seq ?_
  refine sy_sq ?_
  refine o_v hf hh (yv_move rfl) ?_; clear hf a; intro a hf
  refine o_v hf hh (yv_len Tryz.se_28 rfl) ?_; clear hf a; intro a hf
  refine o_v hf hh (yv_move rfl) ?_; clear hf a; intro a hf
  refine o_end ?_
  refine sy_block ?_
  refine sy_loopF (σ := Nat) [4, 5, 8, 9, 10, 11, 12, 13, 14, 15, 16, 17, 18] (fun i => [(8, .int .i64 i)]) (fun i => i ≤ l.length ∧ fbad ok l 0 = fbad ok (l.drop i) i) (fun i => l.length - i) (0) hf hh ?_ ?_ ?_
  · repeat' (first | exact True.intro | refine And.intro rfl ?_)
  · exact ⟨Nat.zero_le _, rfl⟩
  ·rintro i a w ⟨hi, hq⟩ hf hh
   refine sy_sq ?_
   refine o_v hf hh (yv_bin rfl rfl rfl) ?_; clear hf a; intro a hf
   refine o_end ?_
   refine sy_seq ?_
   refine sy_cond hf rfl (fun hg2 => ?_) (fun hg2 => ?_)
   ·have hG2 := hg2; try simp only [gS] at hG2
    refine sy_skip ?_
    refine then_n ?_
    refine sy_seq ?_
    refine sy_block ?_
    refine sy_seq ?_
    obtain ⟨m, hm⟩ := ex_of (l := l) (i := i) (by omega)
    obtain ⟨blk, off, cc, T, fr, e, hb, hc⟩ := hM i m hm; subst e
    refine sy_ops ?_
    refine o_v hf hh (yv_move rfl) ?_; clear hf a; intro a hf
    refine o_v hf hh (yv_assign rfl) ?_; clear hf a; intro a hf
    refine o_end ?_
    refine sy_sq ?_
    refine o_v hf hh (yv_move rfl) ?_; clear hf a; intro a hf
    refine o_v hf hh (yv_move rfl) ?_; clear hf a; intro a hf
    refine o_v hf hh (yv_move rfl) ?_; clear hf a; intro a hf
    refine o_v hf hh (y_ix Tryz.se_28 rfl rfl) ?_; clear hf a; intro a hf
    refine o_v hf hh (y_ld Tryz.sc_3 rfl) ?_; clear hf a; intro a hf
    refine o_call hf hE rfl rfl rfl (hcall m (List.mem_of_getElem? hm) _ hh.ext) ?_; clear hf a; intro v a w hR hf
    obtain ⟨rfl, hx⟩ := hR; replace hh := hh.more hx; clear hx
    refine o_end ?_
    refine sy_cond hf rfl (fun hg4 => ?_) (fun hg4 => ?_)
    ·have hG4 := hg4; try simp only [gS] at hG4
     refine sy_sq ?_
     refine o_v hf hh (yv_move rfl) ?_; clear hf a; intro a hf
     refine o_v hf hh (yv_assign rfl) ?_; clear hf a; intro a hf
     refine o_end ?_
     refine sy_ret ?_
     refine blk_r ?_
     refine then_r ?_
     refine then_r ?_
     refine blk_r ?_
     refine then_r ?_
     refine ret_r hf rfl rfl ?_
     exact ⟨congrArg (Value.int .i64) (by rw [hq, fbad_drop hm, if_neg (by simp_all)]), hh.ext⟩
    ·have hG4 := hg4; try simp only [gS] at hG4
     refine sy_skip ?_
     refine blk_n ?_
     refine then_n ?_
     refine sy_ops ?_
     refine o_v hf hh (y_add rfl rfl) ?_; clear hf a; intro a hf
     refine o_v hf hh (yv_move rfl) ?_; clear hf a; intro a hf
     refine ops_end ?_
     refine then_n ?_
     refine ⟨i + 1, ⟨⟨by omega, by rw [hq, fbad_drop hm, if_pos (by simp_all)]⟩, (hf.head (by repeat' (first | exact True.intro | refine And.intro rfl ?_)) (Keep.cons rfl (Keep.cons rfl (Keep.cons rfl (Keep.cons rfl (Keep.cons rfl (Keep.cons rfl (Keep.cons rfl (Keep.cons rfl (Keep.cons rfl (Keep.cons rfl (Keep.cons rfl (Keep.app rfl (Keep.rm rfl Keep.base)))))))))))))), hh⟩, by omega⟩
   ·have hG2 := hg2; try simp only [gS] at hG2
    refine sy_exit ?_
    refine then_e ?_
    refine then_e ?_
    refine blk_e ?_
    refine then_n ?_
    refine sy_sq ?_
    refine o_v hf hh (yv_assign rfl) ?_; clear hf a; intro a hf
    refine o_end ?_
    refine sy_ret ?_
    refine ret_r hf rfl rfl ?_
    exact ⟨congrArg (Value.int .i64) (by rw [hq, List.drop_eq_nil_of_le (by omega)]; rfl), hh.ext⟩
theorem p90 (ok : Int → Bool) (l : List (Int)) (sa : Option Addr) (c0 : Nat) (f : Nat) (fcs : Array Value) (u : World) (hM : IAt u sa l) (hl : l.length ≤ 1000) (hE : Enters Tryz.prog f) (hcall : ∀ (x : Int), x ∈ l → ∀ (w1 : World), Ext [] u w1 → Calls Tryz.prog f (#[] ++ [.int .i64 x].toArray ++ fcs) w1 (Ret fun v w'' => v = .bool (!ok x) ∧ Ext [] w1 w'')) : Calls Tryz.prog 114 #[.slice sa l.length c0, .func (.func f) #[] fcs] u (Ret fun v w' => v = .bool (!l.all ok) ∧ Ext [] u w') := by
  refine calls_of Tryz.func114 rfl rfl (fun a hf => ?_)
  have hh := Hp.init u []
  refine sy_sq ?_
  refine o_v hf hh (yv_assign rfl) ?_; clear hf a; intro a hf
  refine o_end ?_
  refine sy_sq ?_
  refine o_v hf hh (yv_move rfl) ?_; clear hf a; intro a hf
  refine o_v hf hh (yv_move rfl) ?_; clear hf a; intro a hf
  refine o_call hf Tryz.en_142 rfl rfl rfl (p101 ok l sa c0 f fcs _ (hM.ext hh.ext) hl hE (fun x hx w1 e => hcall x hx w1 (hh.ext.trans e))) ?_; clear hf a; intro v a w hR hf
  obtain ⟨rfl, hx⟩ := hR; replace hh := hh.more hx; clear hx
  refine o_v hf hh (yv_bin rfl rfl rfl) ?_; clear hf a; intro a hf
  refine o_v hf hh (yv_assign rfl) ?_; clear hf a; intro a hf
  refine o_end ?_
  refine sy_ret ?_
  refine ret_r hf rfl rfl ?_
  exact ⟨congrArg Value.bool (fbad_all ok l 0), hh.ext⟩
theorem p116 (ok : TermD → Bool) (l : List (TermD)) (sa : Option Addr) (c0 : Nat) (f : Nat) (fcs : Array Value) (u : World) (hM : TAt 3 tmC u sa l) (hl : l.length ≤ 1000) (hE : Enters Tryz.prog f) (hcall : ∀ (x : TermD), x ∈ l → ∀ (w1 : World), Ext [] u w1 → Calls Tryz.prog f (#[] ++ [tmV x].toArray ++ fcs) w1 (Ret fun v w'' => v = .bool (!ok x) ∧ Ext [] w1 w'')) : Calls Tryz.prog 141 #[.slice sa l.length c0, .func (.func f) #[] fcs] u (Ret fun v w' => v = .int .i64 (fbad ok l 0) ∧ Ext [] u w') := by
  refine calls_of Tryz.func141 rfl rfl (fun a hf => ?_)
  have hh := Hp.init u []
  refine sy_sq ?_
  refine o_v hf hh (yv_assign rfl) ?_; clear hf a; intro a hf
  refine o_end ?_
  refine sy_seq ?_
  refine sy_sq ?_
  refine o_v hf hh (yv_move rfl) ?_; clear hf a; intro a hf
  refine o_v hf hh (yv_len Tryz.se_41 rfl) ?_; clear hf a; intro a hf
  refine o_v hf hh (yv_move rfl) ?_; clear hf a; intro a hf
  refine o_end ?_
  refine sy_block ?_
  refine sy_loopF (σ := Nat) [4, 5, 8, 9, 10, 11, 12, 13, 14, 15, 16, 17, 18] (fun i => [(8, .int .i64 i)]) (fun i => i ≤ l.length ∧ fbad ok l 0 = fbad ok (l.drop i) i) (fun i => l.length - i) (0) hf hh ?_ ?_ ?_
  · repeat' (first | exact True.intro | refine And.intro rfl ?_)
  · exact ⟨Nat.zero_le _, rfl⟩
  ·rintro i a w ⟨hi, hq⟩ hf hh
   refine sy_sq ?_
   refine o_v hf hh (yv_bin rfl rfl rfl) ?_; clear hf a; intro a hf
   refine o_end ?_
   refine sy_seq ?_
   refine sy_cond hf rfl (fun hg2 => ?_) (fun hg2 => ?_)
   ·have hG2 := hg2; try simp only [gS] at hG2
    refine sy_skip ?_
    refine then_n ?_
    refine sy_seq ?_
    refine sy_block ?_
    refine sy_seq ?_
    obtain ⟨m, hm⟩ := ex_of (l := l) (i := i) (by omega)
    obtain ⟨blk, off, cc, T, fr, e, hb, hc⟩ := hM i m hm; subst e
    refine sy_ops ?_
    refine o_v hf hh (yv_move rfl) ?_; clear hf a; intro a hf
    refine o_v hf hh (yv_assign rfl) ?_; clear hf a; intro a hf
    refine o_end ?_
    refine sy_sq ?_
    refine o_v hf hh (yv_move rfl) ?_; clear hf a; intro a hf
    refine o_v hf hh (yv_move rfl) ?_; clear hf a; intro a hf
    refine o_v hf hh (yv_move rfl) ?_; clear hf a; intro a hf
    refine o_v hf hh (y_ix Tryz.se_41 rfl rfl) ?_; clear hf a; intro a hf
    refine o_v hf hh (y_lds Tryz.ag_27 rfl) ?_; clear hf a; intro a hf
    refine o_call hf hE rfl rfl rfl (hcall m (List.mem_of_getElem? hm) _ hh.ext) ?_; clear hf a; intro v a w hR hf
    obtain ⟨rfl, hx⟩ := hR; replace hh := hh.more hx; clear hx
    refine o_end ?_
    refine sy_cond hf rfl (fun hg4 => ?_) (fun hg4 => ?_)
    ·have hG4 := hg4; try simp only [gS] at hG4
     refine sy_sq ?_
     refine o_v hf hh (yv_move rfl) ?_; clear hf a; intro a hf
     refine o_v hf hh (yv_assign rfl) ?_; clear hf a; intro a hf
     refine o_end ?_
     refine sy_ret ?_
     refine blk_r ?_
     refine then_r ?_
     refine then_r ?_
     refine blk_r ?_
     refine then_r ?_
     refine ret_r hf rfl rfl ?_
     exact ⟨congrArg (Value.int .i64) (by rw [hq, fbad_drop hm, if_neg (by simp_all)]), hh.ext⟩
    ·have hG4 := hg4; try simp only [gS] at hG4
     refine sy_skip ?_
     refine blk_n ?_
     refine then_n ?_
     refine sy_ops ?_
     refine o_v hf hh (y_add rfl rfl) ?_; clear hf a; intro a hf
     refine o_v hf hh (yv_move rfl) ?_; clear hf a; intro a hf
     refine ops_end ?_
     refine then_n ?_
     refine ⟨i + 1, ⟨⟨by omega, by rw [hq, fbad_drop hm, if_pos (by simp_all)]⟩, (hf.head (by repeat' (first | exact True.intro | refine And.intro rfl ?_)) (Keep.cons rfl (Keep.cons rfl (Keep.cons rfl (Keep.cons rfl (Keep.cons rfl (Keep.cons rfl (Keep.cons rfl (Keep.cons rfl (Keep.cons rfl (Keep.cons rfl (Keep.cons rfl (Keep.app rfl (Keep.rm rfl Keep.base)))))))))))))), hh⟩, by omega⟩
   ·have hG2 := hg2; try simp only [gS] at hG2
    refine sy_exit ?_
    refine then_e ?_
    refine then_e ?_
    refine blk_e ?_
    refine then_n ?_
    refine sy_sq ?_
    refine o_v hf hh (yv_assign rfl) ?_; clear hf a; intro a hf
    refine o_end ?_
    refine sy_ret ?_
    refine ret_r hf rfl rfl ?_
    exact ⟨congrArg (Value.int .i64) (by rw [hq, List.drop_eq_nil_of_le (by omega)]; rfl), hh.ext⟩
theorem p109 (ok : TermD → Bool) (l : List (TermD)) (sa : Option Addr) (c0 : Nat) (f : Nat) (fcs : Array Value) (u : World) (hM : TAt 3 tmC u sa l) (hl : l.length ≤ 1000) (hE : Enters Tryz.prog f) (hcall : ∀ (x : TermD), x ∈ l → ∀ (w1 : World), Ext [] u w1 → Calls Tryz.prog f (#[] ++ [tmV x].toArray ++ fcs) w1 (Ret fun v w'' => v = .bool (!ok x) ∧ Ext [] w1 w'')) : Calls Tryz.prog 113 #[.slice sa l.length c0, .func (.func f) #[] fcs] u (Ret fun v w' => v = .bool (!l.all ok) ∧ Ext [] u w') := by
  refine calls_of Tryz.func113 rfl rfl (fun a hf => ?_)
  have hh := Hp.init u []
  refine sy_sq ?_
  refine o_v hf hh (yv_assign rfl) ?_; clear hf a; intro a hf
  refine o_end ?_
  refine sy_sq ?_
  refine o_v hf hh (yv_move rfl) ?_; clear hf a; intro a hf
  refine o_v hf hh (yv_move rfl) ?_; clear hf a; intro a hf
  refine o_call hf Tryz.en_141 rfl rfl rfl (p116 ok l sa c0 f fcs _ (hM.ext hh.ext) hl hE (fun x hx w1 e => hcall x hx w1 (hh.ext.trans e))) ?_; clear hf a; intro v a w hR hf
  obtain ⟨rfl, hx⟩ := hR; replace hh := hh.more hx; clear hx
  refine o_v hf hh (yv_bin rfl rfl rfl) ?_; clear hf a; intro a hf
  refine o_v hf hh (yv_assign rfl) ?_; clear hf a; intro a hf
  refine o_end ?_
  refine sy_ret ?_
  refine ret_r hf rfl rfl ?_
  exact ⟨congrArg Value.bool (fbad_all ok l 0), hh.ext⟩
theorem p117 (ok : List Int → Bool) (l : List (List Int)) (sa : Option Addr) (c0 : Nat) (f : Nat) (fcs : Array Value) (u : World) (hM : LAt u sa l) (hl : l.length ≤ 1000) (hE : Enters Tryz.prog f) (hcall : ∀ (x : List Int), x ∈ l → ∀ (sb : Option Addr) (cb : Nat) (w1 : World), Ext [] u w1 → IAt w1 sb x → Calls Tryz.prog f (#[] ++ [.slice sb x.length cb].toArray ++ fcs) w1 (Ret fun v w'' => v = .bool (!ok x) ∧ Ext [] w1 w'')) : Calls Tryz.prog 143 #[.slice sa l.length c0, .func (.func f) #[] fcs] u (Ret fun v w' => v = .int .i64 (fbad ok l 0) ∧ Ext [] u w') := by
  refine calls_of Tryz.func143 rfl rfl (fun a hf => ?_)
  have hh := Hp.init u []
  refine sy_sq ?_
  refine o_v hf hh (yv_assign rfl) ?_; clear hf a; intro a hf
  refine o_end ?_
  refine sy_seq ?_
  refine sy_sq ?_
  refine o_v hf hh (yv_move rfl) ?_; clear hf a; intro a hf
  refine o_v hf hh (yv_len Tryz.se_42 rfl) ?_; clear hf a; intro a hf
  refine o_v hf hh (yv_move rfl) ?_; clear hf a; intro a hf
  refine o_end ?_
  refine sy_block ?_
  refine sy_loopF (σ := Nat) [4, 5, 8, 9, 10, 11, 12, 13, 14, 15, 16, 17, 18] (fun i => [(8, .int .i64 i)]) (fun i => i ≤ l.length ∧ fbad ok l 0 = fbad ok (l.drop i) i) (fun i => l.length - i) (0) hf hh ?_ ?_ ?_
  · repeat' (first | exact True.intro | refine And.intro rfl ?_)
  · exact ⟨Nat.zero_le _, rfl⟩
  ·rintro i a w ⟨hi, hq⟩ hf hh
   refine sy_sq ?_
   refine o_v hf hh (yv_bin rfl rfl rfl) ?_; clear hf a; intro a hf
   refine o_end ?_
   refine sy_seq ?_
   refine sy_cond hf rfl (fun hg2 => ?_) (fun hg2 => ?_)
   ·have hG2 := hg2; try simp only [gS] at hG2
    refine sy_skip ?_
    refine then_n ?_
    refine sy_seq ?_
    refine sy_block ?_
    refine sy_seq ?_
    obtain ⟨m, hm⟩ := ex_of (l := l) (i := i) (by omega)
    obtain ⟨blk, off, cc, T, fr, sb, cb, e, hb, hc, hI⟩ := hM i m hm; subst e
    refine sy_ops ?_
    refine o_v hf hh (yv_move rfl) ?_; clear hf a; intro a hf
    refine o_v hf hh (yv_assign rfl) ?_; clear hf a; intro a hf
    refine o_end ?_
    refine sy_sq ?_
    refine o_v hf hh (yv_move rfl) ?_; clear hf a; intro a hf
    refine o_v hf hh (yv_move rfl) ?_; clear hf a; intro a hf
    refine o_v hf hh (yv_move rfl) ?_; clear hf a; intro a hf
    refine o_v hf hh (y_ix Tryz.se_42 rfl rfl) ?_; clear hf a; intro a hf
    refine o_v hf hh (y_ld Tryz.sc_28 rfl) ?_; clear hf a; intro a hf
    refine o_call hf hE rfl rfl rfl (hcall m (List.mem_of_getElem? hm) sb cb _ hh.ext (hI.ext hh.ext)) ?_; clear hf a; intro v a w hR hf
    obtain ⟨rfl, hx⟩ := hR; replace hh := hh.more hx; clear hx
    refine o_end ?_
    refine sy_cond hf rfl (fun hg4 => ?_) (fun hg4 => ?_)
    ·have hG4 := hg4; try simp only [gS] at hG4
     refine sy_sq ?_
     refine o_v hf hh (yv_move rfl) ?_; clear hf a; intro a hf
     refine o_v hf hh (yv_assign rfl) ?_; clear hf a; intro a hf
     refine o_end ?_
     refine sy_ret ?_
     refine blk_r ?_
     refine then_r ?_
     refine then_r ?_
     refine blk_r ?_
     refine then_r ?_
     refine ret_r hf rfl rfl ?_
     exact ⟨congrArg (Value.int .i64) (by rw [hq, fbad_drop hm, if_neg (by simp_all)]), hh.ext⟩
    ·have hG4 := hg4; try simp only [gS] at hG4
     refine sy_skip ?_
     refine blk_n ?_
     refine then_n ?_
     refine sy_ops ?_
     refine o_v hf hh (y_add rfl rfl) ?_; clear hf a; intro a hf
     refine o_v hf hh (yv_move rfl) ?_; clear hf a; intro a hf
     refine ops_end ?_
     refine then_n ?_
     refine ⟨i + 1, ⟨⟨by omega, by rw [hq, fbad_drop hm, if_pos (by simp_all)]⟩, (hf.head (by repeat' (first | exact True.intro | refine And.intro rfl ?_)) (Keep.cons rfl (Keep.cons rfl (Keep.cons rfl (Keep.cons rfl (Keep.cons rfl (Keep.cons rfl (Keep.cons rfl (Keep.cons rfl (Keep.cons rfl (Keep.cons rfl (Keep.cons rfl (Keep.app rfl (Keep.rm rfl Keep.base)))))))))))))), hh⟩, by omega⟩
   ·have hG2 := hg2; try simp only [gS] at hG2
    refine sy_exit ?_
    refine then_e ?_
    refine then_e ?_
    refine blk_e ?_
    refine then_n ?_
    refine sy_sq ?_
    refine o_v hf hh (yv_assign rfl) ?_; clear hf a; intro a hf
    refine o_end ?_
    refine sy_ret ?_
    refine ret_r hf rfl rfl ?_
    exact ⟨congrArg (Value.int .i64) (by rw [hq, List.drop_eq_nil_of_le (by omega)]; rfl), hh.ext⟩
theorem p110 (ok : List Int → Bool) (l : List (List Int)) (sa : Option Addr) (c0 : Nat) (f : Nat) (fcs : Array Value) (u : World) (hM : LAt u sa l) (hl : l.length ≤ 1000) (hE : Enters Tryz.prog f) (hcall : ∀ (x : List Int), x ∈ l → ∀ (sb : Option Addr) (cb : Nat) (w1 : World), Ext [] u w1 → IAt w1 sb x → Calls Tryz.prog f (#[] ++ [.slice sb x.length cb].toArray ++ fcs) w1 (Ret fun v w'' => v = .bool (!ok x) ∧ Ext [] w1 w'')) : Calls Tryz.prog 115 #[.slice sa l.length c0, .func (.func f) #[] fcs] u (Ret fun v w' => v = .bool (!l.all ok) ∧ Ext [] u w') := by
  refine calls_of Tryz.func115 rfl rfl (fun a hf => ?_)
  have hh := Hp.init u []
  refine sy_sq ?_
  refine o_v hf hh (yv_assign rfl) ?_; clear hf a; intro a hf
  refine o_end ?_
  refine sy_sq ?_
  refine o_v hf hh (yv_move rfl) ?_; clear hf a; intro a hf
  refine o_v hf hh (yv_move rfl) ?_; clear hf a; intro a hf
  refine o_call hf Tryz.en_143 rfl rfl rfl (p117 ok l sa c0 f fcs _ (hM.ext hh.ext) hl hE (fun x hx sb cb w1 e => hcall x hx sb cb w1 (hh.ext.trans e))) ?_; clear hf a; intro v a w hR hf
  obtain ⟨rfl, hx⟩ := hR; replace hh := hh.more hx; clear hx
  refine o_v hf hh (yv_bin rfl rfl rfl) ?_; clear hf a; intro a hf
  refine o_v hf hh (yv_assign rfl) ?_; clear hf a; intro a hf
  refine o_end ?_
  refine sy_ret ?_
  refine ret_r hf rfl rfl ?_
  exact ⟨congrArg Value.bool (fbad_all ok l 0), hh.ext⟩
theorem p118 (ok : RepD → Bool) (l : List (RepD)) (sa : Option Addr) (c0 : Nat) (f : Nat) (fcs : Array Value) (u : World) (hM : TAt 4 rpC u sa l) (hl : l.length ≤ 1000) (hE : Enters Tryz.prog f) (hcall : ∀ (x : RepD), x ∈ l → ∀ (w1 : World), Ext [] u w1 → Calls Tryz.prog f (#[] ++ [rpV x].toArray ++ fcs) w1 (Ret fun v w'' => v = .bool (!ok x) ∧ Ext [] w1 w'')) : Calls Tryz.prog 144 #[.slice sa l.length c0, .func (.func f) #[] fcs] u (Ret fun v w' => v = .int .i64 (fbad ok l 0) ∧ Ext [] u w') := by
  refine calls_of Tryz.func144 rfl rfl (fun a hf => ?_)
  have hh := Hp.init u []
  refine sy_sq ?_
  refine o_v hf hh (yv_assign rfl) ?_; clear hf a; intro a hf
  refine o_end ?_
  refine sy_seq ?_
  refine sy_sq ?_
  refine o_v hf hh (yv_move rfl) ?_; clear hf a; intro a hf
  refine o_v hf hh (yv_len Tryz.se_43 rfl) ?_; clear hf a; intro a hf
  refine o_v hf hh (yv_move rfl) ?_; clear hf a; intro a hf
  refine o_end ?_
  refine sy_block ?_
  refine sy_loopF (σ := Nat) [4, 5, 8, 9, 10, 11, 12, 13, 14, 15, 16, 17, 18] (fun i => [(8, .int .i64 i)]) (fun i => i ≤ l.length ∧ fbad ok l 0 = fbad ok (l.drop i) i) (fun i => l.length - i) (0) hf hh ?_ ?_ ?_
  · repeat' (first | exact True.intro | refine And.intro rfl ?_)
  · exact ⟨Nat.zero_le _, rfl⟩
  ·rintro i a w ⟨hi, hq⟩ hf hh
   refine sy_sq ?_
   refine o_v hf hh (yv_bin rfl rfl rfl) ?_; clear hf a; intro a hf
   refine o_end ?_
   refine sy_seq ?_
   refine sy_cond hf rfl (fun hg2 => ?_) (fun hg2 => ?_)
   ·have hG2 := hg2; try simp only [gS] at hG2
    refine sy_skip ?_
    refine then_n ?_
    refine sy_seq ?_
    refine sy_block ?_
    refine sy_seq ?_
    obtain ⟨m, hm⟩ := ex_of (l := l) (i := i) (by omega)
    obtain ⟨blk, off, cc, T, fr, e, hb, hc⟩ := hM i m hm; subst e
    refine sy_ops ?_
    refine o_v hf hh (yv_move rfl) ?_; clear hf a; intro a hf
    refine o_v hf hh (yv_assign rfl) ?_; clear hf a; intro a hf
    refine o_end ?_
    refine sy_sq ?_
    refine o_v hf hh (yv_move rfl) ?_; clear hf a; intro a hf
    refine o_v hf hh (yv_move rfl) ?_; clear hf a; intro a hf
    refine o_v hf hh (yv_move rfl) ?_; clear hf a; intro a hf
    refine o_v hf hh (y_ix Tryz.se_43 rfl rfl) ?_; clear hf a; intro a hf
    refine o_v hf hh (y_lds Tryz.ag_47 rfl) ?_; clear hf a; intro a hf
    refine o_call hf hE rfl rfl rfl (hcall m (List.mem_of_getElem? hm) _ hh.ext) ?_; clear hf a; intro v a w hR hf
    obtain ⟨rfl, hx⟩ := hR; replace hh := hh.more hx; clear hx
    refine o_end ?_
    refine sy_cond hf rfl (fun hg4 => ?_) (fun hg4 => ?_)
    ·have hG4 := hg4; try simp only [gS] at hG4
     refine sy_sq ?_
     refine o_v hf hh (yv_move rfl) ?_; clear hf a; intro a hf
     refine o_v hf hh (yv_assign rfl) ?_; clear hf a; intro a hf
     refine o_end ?_
     refine sy_ret ?_
     refine blk_r ?_
     refine then_r ?_
     refine then_r ?_
     refine blk_r ?_
     refine then_r ?_
     refine ret_r hf rfl rfl ?_
     exact ⟨congrArg (Value.int .i64) (by rw [hq, fbad_drop hm, if_neg (by simp_all)]), hh.ext⟩
    ·have hG4 := hg4; try simp only [gS] at hG4
     refine sy_skip ?_
     refine blk_n ?_
     refine then_n ?_
     refine sy_ops ?_
     refine o_v hf hh (y_add rfl rfl) ?_; clear hf a; intro a hf
     refine o_v hf hh (yv_move rfl) ?_; clear hf a; intro a hf
     refine ops_end ?_
     refine then_n ?_
     refine ⟨i + 1, ⟨⟨by omega, by rw [hq, fbad_drop hm, if_pos (by simp_all)]⟩, (hf.head (by repeat' (first | exact True.intro | refine And.intro rfl ?_)) (Keep.cons rfl (Keep.cons rfl (Keep.cons rfl (Keep.cons rfl (Keep.cons rfl (Keep.cons rfl (Keep.cons rfl (Keep.cons rfl (Keep.cons rfl (Keep.cons rfl (Keep.cons rfl (Keep.app rfl (Keep.rm rfl Keep.base)))))))))))))), hh⟩, by omega⟩
   ·have hG2 := hg2; try simp only [gS] at hG2
    refine sy_exit ?_
    refine then_e ?_
    refine then_e ?_
    refine blk_e ?_
    refine then_n ?_
    refine sy_sq ?_
    refine o_v hf hh (yv_assign rfl) ?_; clear hf a; intro a hf
    refine o_end ?_
    refine sy_ret ?_
    refine ret_r hf rfl rfl ?_
    exact ⟨congrArg (Value.int .i64) (by rw [hq, List.drop_eq_nil_of_le (by omega)]; rfl), hh.ext⟩
theorem p111 (ok : RepD → Bool) (l : List (RepD)) (sa : Option Addr) (c0 : Nat) (f : Nat) (fcs : Array Value) (u : World) (hM : TAt 4 rpC u sa l) (hl : l.length ≤ 1000) (hE : Enters Tryz.prog f) (hcall : ∀ (x : RepD), x ∈ l → ∀ (w1 : World), Ext [] u w1 → Calls Tryz.prog f (#[] ++ [rpV x].toArray ++ fcs) w1 (Ret fun v w'' => v = .bool (!ok x) ∧ Ext [] w1 w'')) : Calls Tryz.prog 116 #[.slice sa l.length c0, .func (.func f) #[] fcs] u (Ret fun v w' => v = .bool (!l.all ok) ∧ Ext [] u w') := by
  refine calls_of Tryz.func116 rfl rfl (fun a hf => ?_)
  have hh := Hp.init u []
  refine sy_sq ?_
  refine o_v hf hh (yv_assign rfl) ?_; clear hf a; intro a hf
  refine o_end ?_
  refine sy_sq ?_
  refine o_v hf hh (yv_move rfl) ?_; clear hf a; intro a hf
  refine o_v hf hh (yv_move rfl) ?_; clear hf a; intro a hf
  refine o_call hf Tryz.en_144 rfl rfl rfl (p118 ok l sa c0 f fcs _ (hM.ext hh.ext) hl hE (fun x hx w1 e => hcall x hx w1 (hh.ext.trans e))) ?_; clear hf a; intro v a w hR hf
  obtain ⟨rfl, hx⟩ := hR; replace hh := hh.more hx; clear hx
  refine o_v hf hh (yv_bin rfl rfl rfl) ?_; clear hf a; intro a hf
  refine o_v hf hh (yv_assign rfl) ?_; clear hf a; intro a hf
  refine o_end ?_
  refine sy_ret ?_
  refine ret_r hf rfl rfl ?_
  exact ⟨congrArg Value.bool (fbad_all ok l 0), hh.ext⟩
end Go.Proofs.YtccpgpnekoncoaaGreat

namespace Go.Proofs.YtccpgpnekoncoaaGreat
set_option maxRecDepth 100000
open Go Go.Sy Go.RoyM
theorem p89 (n : Int) (w : World) : Calls Tryz.prog 140 #[.int .i64 n] w (Ret fun v w' => v = .bool (!inI n 0 1000) ∧ Ext [] w w') := by
  refine calls_of Tryz.func140 rfl rfl (fun a hf => ?_)
  have hh := Hp.init w []
  refine sy_sq ?_
  refine o_v hf hh (yv_assign rfl) ?_; clear hf a; intro a hf
  refine o_end ?_
  refine sy_sq ?_
  refine o_v hf hh (yv_move rfl) ?_; clear hf a; intro a hf
  refine o_call hf Tryz.en_34 rfl rfl rfl (p48 _ _ _ _) ?_; clear hf a; intro v a w hR hf
  obtain ⟨rfl, hx⟩ := hR; replace hh := hh.more hx; clear hx
  refine o_v hf hh (yv_not rfl) ?_; clear hf a; intro a hf
  refine o_v hf hh (yv_assign rfl) ?_; clear hf a; intro a hf
  refine o_end ?_
  refine sy_ret ?_
  refine ret_r hf rfl rfl ?_
  exact ⟨rfl, hh.ext⟩
theorem p105 (n : Int) (w : World) : Calls Tryz.prog 108 #[.int .i64 n] w (Ret fun v w' => v = .bool (!inI n 0 1099511627776) ∧ Ext [] w w') := by
  refine calls_of Tryz.func108 rfl rfl (fun a hf => ?_)
  have hh := Hp.init w []
  refine sy_sq ?_
  refine o_v hf hh (yv_assign rfl) ?_; clear hf a; intro a hf
  refine o_end ?_
  refine sy_sq ?_
  refine o_v hf hh (yv_move rfl) ?_; clear hf a; intro a hf
  refine o_call hf Tryz.en_34 rfl rfl rfl (p48 _ _ _ _) ?_; clear hf a; intro v a w hR hf
  obtain ⟨rfl, hx⟩ := hR; replace hh := hh.more hx; clear hx
  refine o_v hf hh (yv_not rfl) ?_; clear hf a; intro a hf
  refine o_v hf hh (yv_assign rfl) ?_; clear hf a; intro a hf
  refine o_end ?_
  refine sy_ret ?_
  refine ret_r hf rfl rfl ?_
  exact ⟨rfl, hh.ext⟩
theorem p106 (n : Int) (w : World) : Calls Tryz.prog 109 #[.int .i64 n] w (Ret fun v w' => v = .bool (!inI n 0 1048576) ∧ Ext [] w w') := by
  refine calls_of Tryz.func109 rfl rfl (fun a hf => ?_)
  have hh := Hp.init w []
  refine sy_sq ?_
  refine o_v hf hh (yv_assign rfl) ?_; clear hf a; intro a hf
  refine o_end ?_
  refine sy_sq ?_
  refine o_v hf hh (yv_move rfl) ?_; clear hf a; intro a hf
  refine o_call hf Tryz.en_34 rfl rfl rfl (p48 _ _ _ _) ?_; clear hf a; intro v a w hR hf
  obtain ⟨rfl, hx⟩ := hR; replace hh := hh.more hx; clear hx
  refine o_v hf hh (yv_not rfl) ?_; clear hf a; intro a hf
  refine o_v hf hh (yv_assign rfl) ?_; clear hf a; intro a hf
  refine o_end ?_
  refine sy_ret ?_
  refine ret_r hf rfl rfl ?_
  exact ⟨rfl, hh.ext⟩
theorem termB_in (t : TermD) : termB t = (inI t.f 0 100 && inI t.b 0 100 && inI t.u 0 12) := rfl
theorem p52 (t : TermD) (w : World) : Calls Tryz.prog 33 #[tmV t] w (Ret fun v w' => v = .bool (termB t) ∧ Ext [] w w') := by
  refine calls_of Tryz.func33 rfl rfl (fun a hf => ?_)
  have hh := Hp.init w []
  rw [termB_in]
  refine sy_sq ?_
  refine o_box hf hh ?_; clear hf hh a; intro B1 a w hf hh
  refine o_v hf hh (yv_assign rfl) ?_; clear hf a; intro a hf
  refine o_end ?_
  refine sy_sq ?_
  refine o_v hf hh (yv_fieldAddr Tryz.fo_27_0 rfl) ?_; clear hf a; intro a hf
  refine o_v hf hh (y_ld Tryz.sc_3 rfl) ?_; clear hf a; intro a hf
  refine o_call hf Tryz.en_34 rfl rfl rfl (p48 _ _ _ _) ?_; clear hf a; intro v a w hR hf
  obtain ⟨rfl, hx⟩ := hR; replace hh := hh.more hx; clear hx
  refine o_v hf hh (yv_move rfl) ?_; clear hf a; intro a hf
  refine guard_split hf (t := 6) rfl (fun hg2 => ?_) (fun hg2 => ?_)
  ·have hG2 := hg2; try simp only [gS] at hG2
   refine o_v hf hh (yv_fieldAddr Tryz.fo_27_2 rfl) ?_; clear hf a; intro a hf
   refine o_v hf hh (y_ld Tryz.sc_3 rfl) ?_; clear hf a; intro a hf
   refine o_call hf Tryz.en_34 rfl rfl rfl (p48 _ _ _ _) ?_; clear hf a; intro v a w hR hf
   obtain ⟨rfl, hx⟩ := hR; replace hh := hh.more hx; clear hx
   refine o_v hf hh (y_pt rfl rfl) ?_; clear hf a; intro a hf
   refine o_v hf hh (yv_move rfl) ?_; clear hf a; intro a hf
   refine guard_split hf (t := 11) rfl (fun hg4 => ?_) (fun hg4 => ?_)
   ·have hG4 := hg4; try simp only [gS] at hG4
    refine o_v hf hh (yv_fieldAddr Tryz.fo_27_1 rfl) ?_; clear hf a; intro a hf
    refine o_v hf hh (y_ld Tryz.sc_3 rfl) ?_; clear hf a; intro a hf
    refine o_call hf Tryz.en_34 rfl rfl rfl (p48 _ _ _ _) ?_; clear hf a; intro v a w hR hf
    obtain ⟨rfl, hx⟩ := hR; replace hh := hh.more hx; clear hx
    refine o_v hf hh (y_pt rfl rfl) ?_; clear hf a; intro a hf
    refine o_v hf hh (yv_assign rfl) ?_; clear hf a; intro a hf
    refine o_end ?_
    refine sy_ret ?_
    refine ret_r hf rfl rfl ?_
    refine ⟨congrArg Value.bool ?_, hh.ext⟩
    clear hf hh
    first
      | (simp_all; done)
      | (simp only [*, Bool.false_and, Bool.and_false, Bool.true_and, Bool.and_true, Bool.not_true, Bool.not_false]; done)
      | (rw [Bool.eq_iff_iff]; simp_all <;> omega)
   ·have hG4 := hg4; try simp only [gS] at hG4
    refine o_off hf ?_; clear hf a; intro a hf
    refine o_off hf ?_; clear hf a; intro a hf
    refine o_off hf ?_; clear hf a; intro a hf
    refine o_v hf hh (y_pf rfl rfl) ?_; clear hf a; intro a hf
    refine o_v hf hh (yv_assign rfl) ?_; clear hf a; intro a hf
    refine o_end ?_
    refine sy_ret ?_
    refine ret_r hf rfl rfl ?_
    refine ⟨congrArg Value.bool ?_, hh.ext⟩
    clear hf hh
    first
      | (simp_all; done)
      | (simp only [*, Bool.false_and, Bool.and_false, Bool.true_and, Bool.and_true, Bool.not_true, Bool.not_false]; done)
      | (rw [Bool.eq_iff_iff]; simp_all <;> omega)
  ·have hG2 := hg2; try simp only [gS] at hG2
   refine o_off hf ?_; clear hf a; intro a hf
   refine o_off hf ?_; clear hf a; intro a hf
   refine o_off hf ?_; clear hf a; intro a hf
   refine o_v hf hh (y_pf rfl rfl) ?_; clear hf a; intro a hf
   refine o_v hf hh (yv_move rfl) ?_; clear hf a; intro a hf
   refine o_off hf ?_; clear hf a; intro a hf
   refine o_off hf ?_; clear hf a; intro a hf
   refine o_off hf ?_; clear hf a; intro a hf
   refine o_v hf hh (y_pf rfl rfl) ?_; clear hf a; intro a hf
   refine o_v hf hh (yv_assign rfl) ?_; clear hf a; intro a hf
   refine o_end ?_
   refine sy_ret ?_
   refine ret_r hf rfl rfl ?_
   refine ⟨congrArg Value.bool ?_, hh.ext⟩
   clear hf hh
   first
     | (simp_all; done)
     | (simp only [*, Bool.false_and, Bool.and_false, Bool.true_and, Bool.and_true, Bool.not_true, Bool.not_false]; done)
     | (rw [Bool.eq_iff_iff]; simp_all <;> omega)
theorem p104 (t : TermD) (w : World) : Calls Tryz.prog 107 #[tmV t] w (Ret fun v w' => v = .bool (!termB t) ∧ Ext [] w w') := by
  refine calls_of Tryz.func107 rfl rfl (fun a hf => ?_)
  have hh := Hp.init w []
  refine sy_sq ?_
  refine o_box hf hh ?_; clear hf hh a; intro B1 a w hf hh
  refine o_v hf hh (yv_assign rfl) ?_; clear hf a; intro a hf
  refine o_end ?_
  refine sy_sq ?_
  refine o_v hf hh (y_lds Tryz.ag_27 rfl) ?_; clear hf a; intro a hf
  refine o_call hf Tryz.en_33 rfl rfl rfl (p52 _ _) ?_; clear hf a; intro v a w hR hf
  obtain ⟨rfl, hx⟩ := hR; replace hh := hh.more hx; clear hx
  refine o_v hf hh (yv_not rfl) ?_; clear hf a; intro a hf
  refine o_v hf hh (yv_assign rfl) ?_; clear hf a; intro a hf
  refine o_end ?_
  refine sy_ret ?_
  refine ret_r hf rfl rfl ?_
  exact ⟨rfl, hh.ext⟩
theorem p72 (l : List Int) (sa : Option Addr) (c0 : Nat) (u : World) (hA : IAt u sa l) (hl : l.length ≤ 1000) (hb : ∀ i, -4611686018427387904 ≤ sumI (l.take i) ∧ sumI (l.take i) ≤ 4611686018427387904) : Calls Tryz.prog 47 #[.slice sa l.length c0] u (Ret fun v w' => v = .int .i64 (sumI l) ∧ Ext [] u w') := by
  refine calls_of Tryz.func47 rfl rfl (fun a hf => ?_)
  have hh := Hp.init u []
  refine sy_sq ?_
  refine o_v hf hh (yv_assign rfl) ?_; clear hf a; intro a hf
  refine o_end ?_
  refine sy_seq ?_
  refine sy_sq ?_
  refine o_v hf hh (yv_move rfl) ?_; clear hf a; intro a hf
  refine o_v hf hh (yv_len Tryz.se_28 rfl) ?_; clear hf a; intro a hf
  refine o_v hf hh (yv_move rfl) ?_; clear hf a; intro a hf
  refine o_end ?_
  refine sy_block ?_
  refine sy_loopF (σ := Nat) [2, 4, 7, 8, 9, 10, 11, 12, 13, 14] (fun i => [(2, .int .i64 (sumI (l.take i))), (7, .int .i64 i)]) (fun i => i ≤ l.length) (fun i => l.length - i) (0) hf hh ?_ ?_ ?_
  · repeat' (first | exact True.intro | refine And.intro rfl ?_)
  · exact Nat.zero_le _
  ·rintro i a w hi hf hh
   refine sy_sq ?_
   refine o_v hf hh (yv_bin rfl rfl rfl) ?_; clear hf a; intro a hf
   refine o_end ?_
   refine sy_seq ?_
   refine sy_cond hf rfl (fun hg2 => ?_) (fun hg2 => ?_)
   ·have hG2 := hg2; try simp only [gS] at hG2
    refine sy_skip ?_
    refine then_n ?_
    refine sy_seq ?_
    refine sy_block ?_
    refine sy_seq ?_
    obtain ⟨m, hm⟩ := ex_of (l := l) (i := i) (by omega)
    obtain ⟨blk, off, cc, T, fr, e, hB, hc⟩ := hA i m hm; subst e
    have hb1 := hb i
    have hb2 := hb (i + 1)
    rw [sumI_take hm] at hb2
    refine sy_ops ?_
    refine o_v hf hh (y_ix Tryz.se_28 rfl rfl) ?_; clear hf a; intro a hf
    refine o_v hf hh (y_ld Tryz.sc_3 rfl) ?_; clear hf a; intro a hf
    refine o_v hf hh (yv_assign rfl) ?_; clear hf a; intro a hf
    refine o_end ?_
    refine sy_ops ?_
    refine o_v hf hh (yv_move rfl) ?_; clear hf a; intro a hf
    refine o_v hf hh (yv_move rfl) ?_; clear hf a; intro a hf
    refine o_v hf hh (y_add rfl rfl) ?_; clear hf a; intro a hf
    refine o_v hf hh (yv_assign rfl) ?_; clear hf a; intro a hf
    refine ops_end ?_
    refine blk_n ?_
    refine then_n ?_
    refine sy_ops ?_
    refine o_v hf hh (y_add rfl rfl) ?_; clear hf a; intro a hf
    refine o_v hf hh (yv_move rfl) ?_; clear hf a; intro a hf
    refine ops_end ?_
    refine then_n ?_
    refine ⟨i + 1, ⟨by omega, hf.head ⟨congrArg some (intv (sumI_take hm).symm), rfl, True.intro⟩ (Keep.cons rfl (Keep.cons rfl (Keep.cons rfl (Keep.cons rfl (Keep.cons rfl (Keep.cons rfl (Keep.cons rfl (Keep.cons rfl (Keep.cons rfl (Keep.cons rfl (Keep.app rfl (Keep.rm rfl Keep.base)))))))))))), hh⟩, by omega⟩
   ·have hG2 := hg2; try simp only [gS] at hG2
    refine sy_exit ?_
    refine then_e ?_
    refine then_e ?_
    refine blk_e ?_
    refine then_n ?_
    refine sy_sq ?_
    refine o_v hf hh (yv_move rfl) ?_; clear hf a; intro a hf
    refine o_v hf hh (yv_assign rfl) ?_; clear hf a; intro a hf
    refine o_end ?_
    refine sy_ret ?_
    refine ret_r hf rfl rfl ?_
    exact ⟨intv (by rw [List.take_of_length_le (by omega)]), hh.ext⟩
theorem p49 (l : List Int) (sa : Option Addr) (c0 : Nat) (u : World) (hA : IAt u sa l) (hl : l.length ≤ 1000) : Calls Tryz.prog 111 #[.slice sa l.length c0] u (Ret fun v w' => v = .bool (shB l) ∧ Ext [] u w') := by
  refine calls_of Tryz.func111 rfl rfl (fun a hf => ?_)
  have hh := Hp.init u []
  rw [shB]
  refine sy_sq ?_
  refine o_v hf hh (yv_assign rfl) ?_; clear hf a; intro a hf
  refine o_end ?_
  refine sy_sq ?_
  refine o_v hf hh (yv_assign rfl) ?_; clear hf a; intro a hf
  refine o_end ?_
  refine sy_sq ?_
  refine o_v hf hh (yv_move rfl) ?_; clear hf a; intro a hf
  refine o_v hf hh (yv_len Tryz.se_28 rfl) ?_; clear hf a; intro a hf
  refine o_call hf Tryz.en_34 rfl rfl rfl (p48 _ _ _ _) ?_; clear hf a; intro v a w hR hf
  obtain ⟨rfl, hx⟩ := hR; replace hh := hh.more hx; clear hx
  refine o_v hf hh (yv_move rfl) ?_; clear hf a; intro a hf
  refine guard_split hf (t := 7) rfl (fun hg2 => ?_) (fun hg2 => ?_)
  ·have hG2 := hg2; try simp only [gS] at hG2
   refine o_v hf hh (yv_move rfl) ?_; clear hf a; intro a hf
   refine o_v hf hh (yv_move rfl) ?_; clear hf a; intro a hf
   refine o_call hf Tryz.en_114 rfl rfl rfl (p90 (fun s => inI s 0 1000) l sa c0 140 #[] _ (hA.ext hh.ext) hl Tryz.en_140 (fun x _ w1 _ => p89 x w1)) ?_; clear hf a; intro v a w hR hf
   obtain ⟨rfl, hx⟩ := hR; replace hh := hh.more hx; clear hx
   refine o_v hf hh (yv_not rfl) ?_; clear hf a; intro a hf
   refine o_v hf hh (y_pt rfl rfl) ?_; clear hf a; intro a hf
   refine o_v hf hh (yv_move rfl) ?_; clear hf a; intro a hf
   refine guard_split hf (t := 13) rfl (fun hg4 => ?_) (fun hg4 => ?_)
   ·have hG4 := hg4; try simp only [gS] at hG4
    refine o_v hf hh (yv_move rfl) ?_; clear hf a; intro a hf
    refine o_call hf Tryz.en_47 rfl rfl rfl (p72 l sa c0 _ (hA.ext hh.ext) hl (sh_take (by simp_all))) ?_; clear hf a; intro v a w hR hf
    obtain ⟨rfl, hx⟩ := hR; replace hh := hh.more hx; clear hx
    refine o_v hf hh (yv_bin rfl rfl rfl) ?_; clear hf a; intro a hf
    refine o_v hf hh (y_pt rfl rfl) ?_; clear hf a; intro a hf
    refine o_v hf hh (yv_assign rfl) ?_; clear hf a; intro a hf
    refine o_end ?_
    refine sy_ret ?_
    refine ret_r hf rfl rfl ?_
    refine ⟨congrArg Value.bool ?_, hh.ext⟩
    clear hf hh
    first
      | (simp_all; done)
      | (simp only [*, Bool.false_and, Bool.and_false, Bool.true_and, Bool.and_true, Bool.not_true, Bool.not_false]; done)
      | (rw [Bool.eq_iff_iff]; simp_all <;> omega)
   ·have hG4 := hg4; try simp only [gS] at hG4
    refine o_off hf ?_; clear hf a; intro a hf
    refine o_off hf ?_; clear hf a; intro a hf
    refine o_off hf ?_; clear hf a; intro a hf
    refine o_v hf hh (y_pf rfl rfl) ?_; clear hf a; intro a hf
    refine o_v hf hh (yv_assign rfl) ?_; clear hf a; intro a hf
    refine o_end ?_
    refine sy_ret ?_
    refine ret_r hf rfl rfl ?_
    refine ⟨congrArg Value.bool ?_, hh.ext⟩
    clear hf hh
    first
      | (simp_all; done)
      | (simp only [*, Bool.false_and, Bool.and_false, Bool.true_and, Bool.and_true, Bool.not_true, Bool.not_false]; done)
      | (rw [Bool.eq_iff_iff]; simp_all <;> omega)
  ·have hG2 := hg2; try simp only [gS] at hG2
   refine o_off hf ?_; clear hf a; intro a hf
   refine o_off hf ?_; clear hf a; intro a hf
   refine o_off hf ?_; clear hf a; intro a hf
   refine o_off hf ?_; clear hf a; intro a hf
   refine o_v hf hh (y_pf rfl rfl) ?_; clear hf a; intro a hf
   refine o_v hf hh (yv_move rfl) ?_; clear hf a; intro a hf
   refine o_off hf ?_; clear hf a; intro a hf
   refine o_off hf ?_; clear hf a; intro a hf
   refine o_off hf ?_; clear hf a; intro a hf
   refine o_v hf hh (y_pf rfl rfl) ?_; clear hf a; intro a hf
   refine o_v hf hh (yv_assign rfl) ?_; clear hf a; intro a hf
   refine o_end ?_
   refine sy_ret ?_
   refine ret_r hf rfl rfl ?_
   refine ⟨congrArg Value.bool ?_, hh.ext⟩
   clear hf hh
   first
     | (simp_all; done)
     | (simp only [*, Bool.false_and, Bool.and_false, Bool.true_and, Bool.and_true, Bool.not_true, Bool.not_false]; done)
     | (rw [Bool.eq_iff_iff]; simp_all <;> omega)
theorem repB_in (d : RoyD) (x : RepD) : repB d x = (inI x.ag 0 ((d.terms.length : Int) - 1) && (inI x.kd 0 ((d.prices.length : Int) - 1) && (inI x.fi 0 x.la && decide (x.la < 12)))) := rfl
theorem p107 (l : List Int) (sa : Option Addr) (c0 : Nat) (u : World) (hA : IAt u sa l) (hl : l.length ≤ 1000) : Calls Tryz.prog 110 #[.slice sa l.length c0] u (Ret fun v w' => v = .bool (!shB l) ∧ Ext [] u w') := by
  refine calls_of Tryz.func110 rfl rfl (fun a hf => ?_)
  have hh := Hp.init u []
  refine sy_sq ?_
  refine o_v hf hh (yv_assign rfl) ?_; clear hf a; intro a hf
  refine o_end ?_
  refine sy_sq ?_
  refine o_v hf hh (yv_move rfl) ?_; clear hf a; intro a hf
  refine o_call hf Tryz.en_111 rfl rfl rfl (p49 l sa c0 _ (hA.ext hh.ext) hl) ?_; clear hf a; intro v a w hR hf
  obtain ⟨rfl, hx⟩ := hR; replace hh := hh.more hx; clear hx
  refine o_v hf hh (yv_not rfl) ?_; clear hf a; intro a hf
  refine o_v hf hh (yv_assign rfl) ?_; clear hf a; intro a hf
  refine o_end ?_
  refine sy_ret ?_
  refine ret_r hf rfl rfl ?_
  exact ⟨rfl, hh.ext⟩
theorem p108 (d : RoyD) (p : Pl) (x : RepD) (B : Nat) (u : World) (hB : u.heap[B]? = some (.cells (royC d p) 45 (0, 0))) (h1 : d.terms.length ≤ 1000) (h2 : d.prices.length ≤ 1000) : Calls Tryz.prog 112 #[rpV x, ptr B 0] u (Ret fun v w' => v = .bool (!repB d x) ∧ Ext [] u w') := by
  refine calls_of Tryz.func112 rfl rfl (fun a hf => ?_)
  have hh := Hp.init u []
  rw [repB_in]
  refine sy_sq ?_
  refine o_box hf hh ?_; clear hf hh a; intro B2 a w hf hh
  refine o_v hf hh (yv_assign rfl) ?_; clear hf a; intro a hf
  refine o_end ?_
  refine sy_sq ?_
  refine o_v hf hh (yv_fieldAddr Tryz.fo_47_0 rfl) ?_; clear hf a; intro a hf
  refine o_v hf hh (y_ld Tryz.sc_3 rfl) ?_; clear hf a; intro a hf
  refine o_v hf hh (yv_fieldAddr Tryz.fo_45_0 rfl) ?_; clear hf a; intro a hf
  refine o_v hf hh (y_ld Tryz.sc_41 rfl) ?_; clear hf a; intro a hf
  refine o_v hf hh (yv_len Tryz.se_41 rfl) ?_; clear hf a; intro a hf
  refine o_v hf hh (y_sub rfl rfl) ?_; clear hf a; intro a hf
  refine o_call hf Tryz.en_34 rfl rfl rfl (p48 _ _ _ _) ?_; clear hf a; intro v a w hR hf
  obtain ⟨rfl, hx⟩ := hR; replace hh := hh.more hx; clear hx
  refine o_v hf hh (yv_not rfl) ?_; clear hf a; intro a hf
  refine o_v hf hh (yv_move rfl) ?_; clear hf a; intro a hf
  refine guard_split hf (t := 12) rfl (fun hg2 => ?_) (fun hg2 => ?_)
  ·have hG2 := hg2; try simp only [gS] at hG2
   refine o_off hf ?_; clear hf a; intro a hf
   refine o_off hf ?_; clear hf a; intro a hf
   refine o_off hf ?_; clear hf a; intro a hf
   refine o_off hf ?_; clear hf a; intro a hf
   refine o_off hf ?_; clear hf a; intro a hf
   refine o_off hf ?_; clear hf a; intro a hf
   refine o_off hf ?_; clear hf a; intro a hf
   refine o_off hf ?_; clear hf a; intro a hf
   refine o_v hf hh (y_pt rfl rfl) ?_; clear hf a; intro a hf
   refine o_v hf hh (yv_move rfl) ?_; clear hf a; intro a hf
   refine o_off hf ?_; clear hf a; intro a hf
   refine o_off hf ?_; clear hf a; intro a hf
   refine o_off hf ?_; clear hf a; intro a hf
   refine o_off hf ?_; clear hf a; intro a hf
   refine o_off hf ?_; clear hf a; intro a hf
   refine o_off hf ?_; clear hf a; intro a hf
   refine o_v hf hh (y_pt rfl rfl) ?_; clear hf a; intro a hf
   refine o_v hf hh (yv_move rfl) ?_; clear hf a; intro a hf
   refine o_off hf ?_; clear hf a; intro a hf
   refine o_off hf ?_; clear hf a; intro a hf
   refine o_off hf ?_; clear hf a; intro a hf
   refine o_v hf hh (y_pt rfl rfl) ?_; clear hf a; intro a hf
   refine o_v hf hh (yv_assign rfl) ?_; clear hf a; intro a hf
   refine o_end ?_
   refine sy_ret ?_
   refine ret_r hf rfl rfl ?_
   refine ⟨congrArg Value.bool ?_, hh.ext⟩
   clear hf hh
   first
     | (simp_all; done)
     | (simp only [*, Bool.false_and, Bool.and_false, Bool.true_and, Bool.and_true, Bool.not_true, Bool.not_false]; done)
     | (rw [Bool.eq_iff_iff]; simp_all <;> omega)
  ·have hG2 := hg2; try simp only [gS] at hG2
   refine o_v hf hh (yv_fieldAddr Tryz.fo_47_1 rfl) ?_; clear hf a; intro a hf
   refine o_v hf hh (y_ld Tryz.sc_3 rfl) ?_; clear hf a; intro a hf
   refine o_v hf hh (yv_fieldAddr Tryz.fo_45_1 rfl) ?_; clear hf a; intro a hf
   refine o_v hf hh (y_ld Tryz.sc_28 rfl) ?_; clear hf a; intro a hf
   refine o_v hf hh (yv_len Tryz.se_28 rfl) ?_; clear hf a; intro a hf
   refine o_v hf hh (y_sub rfl rfl) ?_; clear hf a; intro a hf
   refine o_call hf Tryz.en_34 rfl rfl rfl (p48 _ _ _ _) ?_; clear hf a; intro v a w hR hf
   obtain ⟨rfl, hx⟩ := hR; replace hh := hh.more hx; clear hx
   refine o_v hf hh (yv_not rfl) ?_; clear hf a; intro a hf
   refine o_v hf hh (y_pf rfl rfl) ?_; clear hf a; intro a hf
   refine o_v hf hh (yv_move rfl) ?_; clear hf a; intro a hf
   refine guard_split hf (t := 22) rfl (fun hg4 => ?_) (fun hg4 => ?_)
   ·have hG4 := hg4; try simp only [gS] at hG4
    refine o_off hf ?_; clear hf a; intro a hf
    refine o_off hf ?_; clear hf a; intro a hf
    refine o_off hf ?_; clear hf a; intro a hf
    refine o_off hf ?_; clear hf a; intro a hf
    refine o_off hf ?_; clear hf a; intro a hf
    refine o_off hf ?_; clear hf a; intro a hf
    refine o_v hf hh (y_pt rfl rfl) ?_; clear hf a; intro a hf
    refine o_v hf hh (yv_move rfl) ?_; clear hf a; intro a hf
    refine o_off hf ?_; clear hf a; intro a hf
    refine o_off hf ?_; clear hf a; intro a hf
    refine o_off hf ?_; clear hf a; intro a hf
    refine o_v hf hh (y_pt rfl rfl) ?_; clear hf a; intro a hf
    refine o_v hf hh (yv_assign rfl) ?_; clear hf a; intro a hf
    refine o_end ?_
    refine sy_ret ?_
    refine ret_r hf rfl rfl ?_
    refine ⟨congrArg Value.bool ?_, hh.ext⟩
    clear hf hh
    first
      | (simp_all; done)
      | (simp only [*, Bool.false_and, Bool.and_false, Bool.true_and, Bool.and_true, Bool.not_true, Bool.not_false]; done)
      | (rw [Bool.eq_iff_iff]; simp_all <;> omega)
   ·have hG4 := hg4; try simp only [gS] at hG4
    refine o_v hf hh (yv_fieldAddr Tryz.fo_47_2 rfl) ?_; clear hf a; intro a hf
    refine o_v hf hh (y_ld Tryz.sc_3 rfl) ?_; clear hf a; intro a hf
    refine o_v hf hh (yv_fieldAddr Tryz.fo_47_3 rfl) ?_; clear hf a; intro a hf
    refine o_v hf hh (y_ld Tryz.sc_3 rfl) ?_; clear hf a; intro a hf
    refine o_call hf Tryz.en_34 rfl rfl rfl (p48 _ _ _ _) ?_; clear hf a; intro v a w hR hf
    obtain ⟨rfl, hx⟩ := hR; replace hh := hh.more hx; clear hx
    refine o_v hf hh (yv_not rfl) ?_; clear hf a; intro a hf
    refine o_v hf hh (y_pf rfl rfl) ?_; clear hf a; intro a hf
    refine o_v hf hh (yv_move rfl) ?_; clear hf a; intro a hf
    refine guard_split hf (t := 30) rfl (fun hg6 => ?_) (fun hg6 => ?_)
    ·have hG6 := hg6; try simp only [gS] at hG6
     refine o_off hf ?_; clear hf a; intro a hf
     refine o_off hf ?_; clear hf a; intro a hf
     refine o_off hf ?_; clear hf a; intro a hf
     refine o_v hf hh (y_pt rfl rfl) ?_; clear hf a; intro a hf
     refine o_v hf hh (yv_assign rfl) ?_; clear hf a; intro a hf
     refine o_end ?_
     refine sy_ret ?_
     refine ret_r hf rfl rfl ?_
     refine ⟨congrArg Value.bool ?_, hh.ext⟩
     clear hf hh
     first
       | (simp_all; done)
       | (simp only [*, Bool.false_and, Bool.and_false, Bool.true_and, Bool.and_true, Bool.not_true, Bool.not_false]; done)
       | (rw [Bool.eq_iff_iff]; simp_all <;> omega)
    ·have hG6 := hg6; try simp only [gS] at hG6
     refine o_v hf hh (yv_fieldAddr Tryz.fo_47_3 rfl) ?_; clear hf a; intro a hf
     refine o_v hf hh (y_ld Tryz.sc_3 rfl) ?_; clear hf a; intro a hf
     refine o_v hf hh (yv_bin rfl rfl rfl) ?_; clear hf a; intro a hf
     refine o_v hf hh (y_pf rfl rfl) ?_; clear hf a; intro a hf
     refine o_v hf hh (yv_assign rfl) ?_; clear hf a; intro a hf
     refine o_end ?_
     refine sy_ret ?_
     refine ret_r hf rfl rfl ?_
     refine ⟨congrArg Value.bool ?_, hh.ext⟩
     clear hf hh
     first
       | (simp_all; done)
       | (simp only [*, Bool.false_and, Bool.and_false, Bool.true_and, Bool.and_true, Bool.not_true, Bool.not_false]; done)
       | (rw [Bool.eq_iff_iff]; simp_all <;> omega)
end Go.Proofs.YtccpgpnekoncoaaGreat

namespace Go.Proofs.YtccpgpnekoncoaaGreat
set_option maxRecDepth 100000
open Go Go.Sy Go.RoyM
def sizeB (d : RoyD) : Bool := decide (d.terms.length ≤ 4) && (decide (d.prices.length ≤ 4) && (decide (d.shares.length = d.prices.length) && (decide (d.reps.length ≤ 20) && decide (d.paid.length = d.terms.length))))
def monB (d : RoyD) : Bool := d.terms.all termB && (d.paid.all (fun n => inI n 0 1099511627776) && d.prices.all (fun n => inI n 0 1048576))
theorem royB_eq (d : RoyD) : royB d = (sizeB d && (monB d && (d.shares.all shB && d.reps.all (repB d)))) := by
  rfl
theorem p95 (d : RoyD) (p : Pl) (u : World) (hR : RoyAt u d p) : Calls Tryz.prog 80 #[.agg (royC d p)] u (Ret fun v w' => v = .bool (royB d) ∧ Ext [] u w') := by
  refine calls_of Tryz.func80 rfl rfl (fun a hf => ?_)
  have hh := Hp.init u []
  have hn1 := hR.n1; have hn2 := hR.n2; have hn3 := hR.n3; have hn4 := hR.n4; have hn5 := hR.n5
  refine sy_sq ?_
  refine o_box hf hh ?_; clear hf hh a; intro B1 a w hf hh
  refine o_v hf hh (yv_assign rfl) ?_; clear hf a; intro a hf
  refine o_end ?_
  refine sy_cut (σ := Unit) [3, 10, 11, 12, 13, 14, 15, 16, 17, 18, 19, 20, 21, 22, 23, 24, 25, 26, 27, 28, 29, 30, 31, 32, 33, 34, 35, 36, 37, 38, 39, 40, 41, 42, 43] (fun z => [(3, .bool (sizeB d))]) (fun z => fun w' => Hp u [] [(B1, .cells (royC d p) 45)] w') hf ?_ ?_
  ·refine sy_ops ?_
   refine o_v hf hh (yv_fieldAddr Tryz.fo_45_0 rfl) ?_; clear hf a; intro a hf
   refine o_v hf hh (y_ld Tryz.sc_41 rfl) ?_; clear hf a; intro a hf
   refine o_v hf hh (yv_len Tryz.se_41 rfl) ?_; clear hf a; intro a hf
   refine o_v hf hh (yv_bin rfl rfl rfl) ?_; clear hf a; intro a hf
   refine o_v hf hh (yv_move rfl) ?_; clear hf a; intro a hf
   refine guard_split hf (t := 14) rfl (fun hg2 => ?_) (fun hg2 => ?_)
   ·have hG2 := hg2; try simp only [gS] at hG2
    refine o_v hf hh (yv_fieldAddr Tryz.fo_45_1 rfl) ?_; clear hf a; intro a hf
    refine o_v hf hh (y_ld Tryz.sc_28 rfl) ?_; clear hf a; intro a hf
    refine o_v hf hh (yv_len Tryz.se_28 rfl) ?_; clear hf a; intro a hf
    refine o_v hf hh (yv_bin rfl rfl rfl) ?_; clear hf a; intro a hf
    refine o_v hf hh (y_pt rfl rfl) ?_; clear hf a; intro a hf
    refine o_v hf hh (yv_move rfl) ?_; clear hf a; intro a hf
    refine guard_split hf (t := 20) rfl (fun hg4 => ?_) (fun hg4 => ?_)
    ·have hG4 := hg4; try simp only [gS] at hG4
     refine o_v hf hh (yv_fieldAddr Tryz.fo_45_2 rfl) ?_; clear hf a; intro a hf
     refine o_v hf hh (y_ld Tryz.sc_42 rfl) ?_; clear hf a; intro a hf
     refine o_v hf hh (yv_len Tryz.se_42 rfl) ?_; clear hf a; intro a hf
     refine o_v hf hh (yv_fieldAddr Tryz.fo_45_1 rfl) ?_; clear hf a; intro a hf
     refine o_v hf hh (y_ld Tryz.sc_28 rfl) ?_; clear hf a; intro a hf
     refine o_v hf hh (yv_len Tryz.se_28 rfl) ?_; clear hf a; intro a hf
     refine o_v hf hh (yv_bin rfl rfl rfl) ?_; clear hf a; intro a hf
     refine o_v hf hh (y_pt rfl rfl) ?_; clear hf a; intro a hf
     refine o_v hf hh (yv_move rfl) ?_; clear hf a; intro a hf
     refine guard_split hf (t := 29) rfl (fun hg6 => ?_) (fun hg6 => ?_)
     ·have hG6 := hg6; try simp only [gS] at hG6
      refine o_v hf hh (yv_fieldAddr Tryz.fo_45_3 rfl) ?_; clear hf a; intro a hf
      refine o_v hf hh (y_ld Tryz.sc_43 rfl) ?_; clear hf a; intro a hf
      refine o_v hf hh (yv_len Tryz.se_43 rfl) ?_; clear hf a; intro a hf
      refine o_v hf hh (yv_bin rfl rfl rfl) ?_; clear hf a; intro a hf
      refine o_v hf hh (y_pt rfl rfl) ?_; clear hf a; intro a hf
      refine o_v hf hh (yv_move rfl) ?_; clear hf a; intro a hf
      refine guard_split hf (t := 35) rfl (fun hg8 => ?_) (fun hg8 => ?_)
      ·have hG8 := hg8; try simp only [gS] at hG8
       refine o_v hf hh (yv_fieldAddr Tryz.fo_45_4 rfl) ?_; clear hf a; intro a hf
       refine o_v hf hh (y_ld Tryz.sc_28 rfl) ?_; clear hf a; intro a hf
       refine o_v hf hh (yv_len Tryz.se_28 rfl) ?_; clear hf a; intro a hf
       refine o_v hf hh (yv_fieldAddr Tryz.fo_45_0 rfl) ?_; clear hf a; intro a hf
       refine o_v hf hh (y_ld Tryz.sc_41 rfl) ?_; clear hf a; intro a hf
       refine o_v hf hh (yv_len Tryz.se_41 rfl) ?_; clear hf a; intro a hf
       refine o_v hf hh (yv_bin rfl rfl rfl) ?_; clear hf a; intro a hf
       refine o_v hf hh (y_pt rfl rfl) ?_; clear hf a; intro a hf
       refine o_v hf hh (yv_assign rfl) ?_; clear hf a; intro a hf
       refine ops_end ?_
       refine then_n ?_
       exact ⟨(), hh, hf.head ⟨congrArg (fun z => some (Value.bool z)) (by unfold sizeB; exact (by
         clear hf hh
         first
         | (simp_all; done)
         | (simp only [*, Bool.false_and, Bool.and_false, Bool.true_and, Bool.and_true, Bool.not_true, Bool.not_false, Bool.not_not]; done)
         | (simp only [decide_eq_true_eq, decide_eq_false_iff_not] at *; rw [Bool.eq_iff_iff]; simp only [Bool.and_eq_true, decide_eq_true_eq, Bool.false_eq_true, false_iff, true_iff, *]; omega)
         | omega)), True.intro⟩ (Keep.cons rfl (Keep.cons rfl (Keep.cons rfl (Keep.cons rfl (Keep.cons rfl (Keep.cons rfl (Keep.cons rfl (Keep.cons rfl (Keep.cons rfl (Keep.cons rfl (Keep.cons rfl (Keep.cons rfl (Keep.cons rfl (Keep.cons rfl (Keep.cons rfl (Keep.cons rfl (Keep.cons rfl (Keep.cons rfl (Keep.cons rfl (Keep.cons rfl (Keep.cons rfl (Keep.cons rfl (Keep.cons rfl (Keep.cons rfl (Keep.cons rfl (Keep.cons rfl (Keep.cons rfl (Keep.cons rfl (Keep.cons rfl (Keep.cons rfl (Keep.cons rfl (Keep.cons rfl (Keep.cons rfl (Keep.cons rfl (Keep.cons rfl (Keep.base))))))))))))))))))))))))))))))))))))⟩
      ·have hG8 := hg8; try simp only [gS] at hG8
       refine o_off hf ?_; clear hf a; intro a hf
       refine o_off hf ?_; clear hf a; intro a hf
       refine o_off hf ?_; clear hf a; intro a hf
       refine o_off hf ?_; clear hf a; intro a hf
       refine o_off hf ?_; clear hf a; intro a hf
       refine o_off hf ?_; clear hf a; intro a hf
       refine o_off hf ?_; clear hf a; intro a hf
       refine o_v hf hh (y_pf rfl rfl) ?_; clear hf a; intro a hf
       refine o_v hf hh (yv_assign rfl) ?_; clear hf a; intro a hf
       refine ops_end ?_
       refine then_n ?_
       exact ⟨(), hh, hf.head ⟨congrArg (fun z => some (Value.bool z)) (by unfold sizeB; exact (by
         clear hf hh
         first
         | (simp_all; done)
         | (simp only [*, Bool.false_and, Bool.and_false, Bool.true_and, Bool.and_true, Bool.not_true, Bool.not_false, Bool.not_not]; done)
         | (simp only [decide_eq_true_eq, decide_eq_false_iff_not] at *; rw [Bool.eq_iff_iff]; simp only [Bool.and_eq_true, decide_eq_true_eq, Bool.false_eq_true, false_iff, true_iff, *]; omega)
         | omega)), True.intro⟩ (Keep.cons rfl (Keep.cons rfl (Keep.cons rfl (Keep.cons rfl (Keep.cons rfl (Keep.cons rfl (Keep.cons rfl (Keep.cons rfl (Keep.cons rfl (Keep.cons rfl (Keep.cons rfl (Keep.cons rfl (Keep.cons rfl (Keep.cons rfl (Keep.cons rfl (Keep.cons rfl (Keep.cons rfl (Keep.cons rfl (Keep.cons rfl (Keep.cons rfl (Keep.cons rfl (Keep.cons rfl (Keep.cons rfl (Keep.cons rfl (Keep.cons rfl (Keep.cons rfl (Keep.cons rfl (Keep.cons rfl (Keep.cons rfl (Keep.cons rfl (Keep.cons rfl (Keep.cons rfl (Keep.cons rfl (Keep.cons rfl (Keep.cons rfl (Keep.base))))))))))))))))))))))))))))))))))))⟩
     ·have hG6 := hg6; try simp only [gS] at hG6
      refine o_off hf ?_; clear hf a; intro a hf
      refine o_off hf ?_; clear hf a; intro a hf
      refine o_off hf ?_; clear hf a; intro a hf
      refine o_off hf ?_; clear hf a; intro a hf
      refine o_v hf hh (y_pf rfl rfl) ?_; clear hf a; intro a hf
      refine o_v hf hh (yv_move rfl) ?_; clear hf a; intro a hf
      refine o_off hf ?_; clear hf a; intro a hf
      refine o_off hf ?_; clear hf a; intro a hf
      refine o_off hf ?_; clear hf a; intro a hf
      refine o_off hf ?_; clear hf a; intro a hf
      refine o_off hf ?_; clear hf a; intro a hf
      refine o_off hf ?_; clear hf a; intro a hf
      refine o_off hf ?_; clear hf a; intro a hf
      refine o_v hf hh (y_pf rfl rfl) ?_; clear hf a; intro a hf
      refine o_v hf hh (yv_assign rfl) ?_; clear hf a; intro a hf
      refine ops_end ?_
      refine then_n ?_
      exact ⟨(), hh, hf.head ⟨congrArg (fun z => some (Value.bool z)) (by unfold sizeB; exact (by
        clear hf hh
        first
        | (simp_all; done)
        | (simp only [*, Bool.false_and, Bool.and_false, Bool.true_and, Bool.and_true, Bool.not_true, Bool.not_false, Bool.not_not]; done)
        | (simp only [decide_eq_true_eq, decide_eq_false_iff_not] at *; rw [Bool.eq_iff_iff]; simp only [Bool.and_eq_true, decide_eq_true_eq, Bool.false_eq_true, false_iff, true_iff, *]; omega)
        | omega)), True.intro⟩ (Keep.cons rfl (Keep.cons rfl (Keep.cons rfl (Keep.cons rfl (Keep.cons rfl (Keep.cons rfl (Keep.cons rfl (Keep.cons rfl (Keep.cons rfl (Keep.cons rfl (Keep.cons rfl (Keep.cons rfl (Keep.cons rfl (Keep.cons rfl (Keep.cons rfl (Keep.cons rfl (Keep.cons rfl (Keep.cons rfl (Keep.cons rfl (Keep.cons rfl (Keep.cons rfl (Keep.cons rfl (Keep.cons rfl (Keep.cons rfl (Keep.cons rfl (Keep.cons rfl (Keep.cons rfl (Keep.cons rfl (Keep.cons rfl (Keep.cons rfl (Keep.cons rfl (Keep.cons rfl (Keep.cons rfl (Keep.cons rfl (Keep.cons rfl (Keep.base))))))))))))))))))))))))))))))))))))⟩
    ·have hG4 := hg4; try simp only [gS] at hG4
     refine o_off hf ?_; clear hf a; intro a hf
     refine o_off hf ?_; clear hf a; intro a hf
     refine o_off hf ?_; clear hf a; intro a hf
     refine o_off hf ?_; clear hf a; intro a hf
     refine o_off hf ?_; clear hf a; intro a hf
     refine o_off hf ?_; clear hf a; intro a hf
     refine o_off hf ?_; clear hf a; intro a hf
     refine o_v hf hh (y_pf rfl rfl) ?_; clear hf a; intro a hf
     refine o_v hf hh (yv_move rfl) ?_; clear hf a; intro a hf
     refine o_off hf ?_; clear hf a; intro a hf
     refine o_off hf ?_; clear hf a; intro a hf
     refine o_off hf ?_; clear hf a; intro a hf
     refine o_off hf ?_; clear hf a; intro a hf
     refine o_v hf hh (y_pf rfl rfl) ?_; clear hf a; intro a hf
     refine o_v hf hh (yv_move rfl) ?_; clear hf a; intro a hf
     refine o_off hf ?_; clear hf a; intro a hf
     refine o_off hf ?_; clear hf a; intro a hf
     refine o_off hf ?_; clear hf a; intro a hf
     refine o_off hf ?_; clear hf a; intro a hf
     refine o_off hf ?_; clear hf a; intro a hf
     refine o_off hf ?_; clear hf a; intro a hf
     refine o_off hf ?_; clear hf a; intro a hf
     refine o_v hf hh (y_pf rfl rfl) ?_; clear hf a; intro a hf
     refine o_v hf hh (yv_assign rfl) ?_; clear hf a; intro a hf
     refine ops_end ?_
     refine then_n ?_
     exact ⟨(), hh, hf.head ⟨congrArg (fun z => some (Value.bool z)) (by unfold sizeB; exact (by
       clear hf hh
       first
       | (simp_all; done)
       | (simp only [*, Bool.false_and, Bool.and_false, Bool.true_and, Bool.and_true, Bool.not_true, Bool.not_false, Bool.not_not]; done)
       | (simp only [decide_eq_true_eq, decide_eq_false_iff_not] at *; rw [Bool.eq_iff_iff]; simp only [Bool.and_eq_true, decide_eq_true_eq, Bool.false_eq_true, false_iff, true_iff, *]; omega)
       | omega)), True.intro⟩ (Keep.cons rfl (Keep.cons rfl (Keep.cons rfl (Keep.cons rfl (Keep.cons rfl (Keep.cons rfl (Keep.cons rfl (Keep.cons rfl (Keep.cons rfl (Keep.cons rfl (Keep.cons rfl (Keep.cons rfl (Keep.cons rfl (Keep.cons rfl (Keep.cons rfl (Keep.cons rfl (Keep.cons rfl (Keep.cons rfl (Keep.cons rfl (Keep.cons rfl (Keep.cons rfl (Keep.cons rfl (Keep.cons rfl (Keep.cons rfl (Keep.cons rfl (Keep.cons rfl (Keep.cons rfl (Keep.cons rfl (Keep.cons rfl (Keep.cons rfl (Keep.cons rfl (Keep.cons rfl (Keep.cons rfl (Keep.cons rfl (Keep.cons rfl (Keep.base))))))))))))))))))))))))))))))))))))⟩
   ·have hG2 := hg2; try simp only [gS] at hG2
    refine o_off hf ?_; clear hf a; intro a hf
    refine o_off hf ?_; clear hf a; intro a hf
    refine o_off hf ?_; clear hf a; intro a hf
    refine o_off hf ?_; clear hf a; intro a hf
    refine o_v hf hh (y_pf rfl rfl) ?_; clear hf a; intro a hf
    refine o_v hf hh (yv_move rfl) ?_; clear hf a; intro a hf
    refine o_off hf ?_; clear hf a; intro a hf
    refine o_off hf ?_; clear hf a; intro a hf
    refine o_off hf ?_; clear hf a; intro a hf
    refine o_off hf ?_; clear hf a; intro a hf
    refine o_off hf ?_; clear hf a; intro a hf
    refine o_off hf ?_; clear hf a; intro a hf
    refine o_off hf ?_; clear hf a; intro a hf
    refine o_v hf hh (y_pf rfl rfl) ?_; clear hf a; intro a hf
    refine o_v hf hh (yv_move rfl) ?_; clear hf a; intro a hf
    refine o_off hf ?_; clear hf a; intro a hf
    refine o_off hf ?_; clear hf a; intro a hf
    refine o_off hf ?_; clear hf a; intro a hf
    refine o_off hf ?_; clear hf a; intro a hf
    refine o_v hf hh (y_pf rfl rfl) ?_; clear hf a; intro a hf
    refine o_v hf hh (yv_move rfl) ?_; clear hf a; intro a hf
    refine o_off hf ?_; clear hf a; intro a hf
    refine o_off hf ?_; clear hf a; intro a hf
    refine o_off hf ?_; clear hf a; intro a hf
    refine o_off hf ?_; clear hf a; intro a hf
    refine o_off hf ?_; clear hf a; intro a hf
    refine o_off hf ?_; clear hf a; intro a hf
    refine o_off hf ?_; clear hf a; intro a hf
    refine o_v hf hh (y_pf rfl rfl) ?_; clear hf a; intro a hf
    refine o_v hf hh (yv_assign rfl) ?_; clear hf a; intro a hf
    refine ops_end ?_
    refine then_n ?_
    exact ⟨(), hh, hf.head ⟨congrArg (fun z => some (Value.bool z)) (by unfold sizeB; exact (by
      clear hf hh
      first
      | (simp_all; done)
      | (simp only [*, Bool.false_and, Bool.and_false, Bool.true_and, Bool.and_true, Bool.not_true, Bool.not_false, Bool.not_not]; done)
      | (simp only [decide_eq_true_eq, decide_eq_false_iff_not] at *; rw [Bool.eq_iff_iff]; simp only [Bool.and_eq_true, decide_eq_true_eq, Bool.false_eq_true, false_iff, true_iff, *]; omega)
      | omega)), True.intro⟩ (Keep.cons rfl (Keep.cons rfl (Keep.cons rfl (Keep.cons rfl (Keep.cons rfl (Keep.cons rfl (Keep.cons rfl (Keep.cons rfl (Keep.cons rfl (Keep.cons rfl (Keep.cons rfl (Keep.cons rfl (Keep.cons rfl (Keep.cons rfl (Keep.cons rfl (Keep.cons rfl (Keep.cons rfl (Keep.cons rfl (Keep.cons rfl (Keep.cons rfl (Keep.cons rfl (Keep.cons rfl (Keep.cons rfl (Keep.cons rfl (Keep.cons rfl (Keep.cons rfl (Keep.cons rfl (Keep.cons rfl (Keep.cons rfl (Keep.cons rfl (Keep.cons rfl (Keep.cons rfl (Keep.cons rfl (Keep.cons rfl (Keep.cons rfl (Keep.base))))))))))))))))))))))))))))))))))))⟩
  ·rintro z a w hh hf
   refine sy_sq ?_
   refine o_v hf hh (yv_assign rfl) ?_; clear hf a; intro a hf
   refine o_end ?_
   refine sy_sq ?_
   refine o_v hf hh (yv_assign rfl) ?_; clear hf a; intro a hf
   refine o_end ?_
   refine sy_sq ?_
   refine o_v hf hh (yv_assign rfl) ?_; clear hf a; intro a hf
   refine o_end ?_
   refine sy_sq ?_
   refine o_v hf hh (yv_assign rfl) ?_; clear hf a; intro a hf
   refine o_end ?_
   refine sy_sq ?_
   refine o_v hf hh (yv_makeFunc rfl rfl) ?_; clear hf a; intro a hf
   refine o_v hf hh (yv_assign rfl) ?_; clear hf a; intro a hf
   refine o_end ?_
   refine sy_cut (σ := Unit) [9, 45, 46, 47, 48, 49, 50, 51, 52, 53, 54, 55, 56, 57, 58, 59, 60, 61, 62, 63] (fun z => [(9, .bool (monB d))]) (fun z => fun w' => Hp u [] [(B1, .cells (royC d p) 45)] w') hf ?_ ?_
   ·refine sy_ops ?_
    refine o_v hf hh (yv_fieldAddr Tryz.fo_45_0 rfl) ?_; clear hf a; intro a hf
    refine o_v hf hh (y_ld Tryz.sc_41 rfl) ?_; clear hf a; intro a hf
    refine o_v hf hh (yv_move rfl) ?_; clear hf a; intro a hf
    refine o_call hf Tryz.en_113 rfl rfl rfl (p109 termB d.terms p.st p.ct 107 #[] _ (hR.tm.ext hh.ext) hn1 Tryz.en_107 (fun x _ w1 _ => p104 x w1)) ?_; clear hf a; intro v a w hR hf
    obtain ⟨rfl, hx⟩ := hR; replace hh := hh.more hx; clear hx
    refine o_v hf hh (yv_not rfl) ?_; clear hf a; intro a hf
    refine o_v hf hh (yv_move rfl) ?_; clear hf a; intro a hf
    refine guard_split hf (t := 50) rfl (fun hg11 => ?_) (fun hg11 => ?_)
    ·have hG11 := hg11; try simp only [gS] at hG11
     refine o_v hf hh (yv_fieldAddr Tryz.fo_45_4 rfl) ?_; clear hf a; intro a hf
     refine o_v hf hh (y_ld Tryz.sc_28 rfl) ?_; clear hf a; intro a hf
     refine o_v hf hh (yv_move rfl) ?_; clear hf a; intro a hf
     refine o_call hf Tryz.en_114 rfl rfl rfl (p90 (fun n => inI n 0 1099511627776) d.paid p.sd p.cd 108 #[] _ (hR.pd.ext hh.ext) hn5 Tryz.en_108 (fun x _ w1 _ => p105 x w1)) ?_; clear hf a; intro v a w hR hf
     obtain ⟨rfl, hx⟩ := hR; replace hh := hh.more hx; clear hx
     refine o_v hf hh (yv_not rfl) ?_; clear hf a; intro a hf
     refine o_v hf hh (y_pt rfl rfl) ?_; clear hf a; intro a hf
     refine o_v hf hh (yv_move rfl) ?_; clear hf a; intro a hf
     refine guard_split hf (t := 57) rfl (fun hg13 => ?_) (fun hg13 => ?_)
     ·have hG13 := hg13; try simp only [gS] at hG13
      refine o_v hf hh (yv_fieldAddr Tryz.fo_45_1 rfl) ?_; clear hf a; intro a hf
      refine o_v hf hh (y_ld Tryz.sc_28 rfl) ?_; clear hf a; intro a hf
      refine o_v hf hh (yv_move rfl) ?_; clear hf a; intro a hf
      refine o_call hf Tryz.en_114 rfl rfl rfl (p90 (fun n => inI n 0 1048576) d.prices p.sp p.cp 109 #[] _ (hR.pr.ext hh.ext) hn2 Tryz.en_109 (fun x _ w1 _ => p106 x w1)) ?_; clear hf a; intro v a w hR hf
      obtain ⟨rfl, hx⟩ := hR; replace hh := hh.more hx; clear hx
      refine o_v hf hh (yv_not rfl) ?_; clear hf a; intro a hf
      refine o_v hf hh (y_pt rfl rfl) ?_; clear hf a; intro a hf
      refine o_v hf hh (yv_assign rfl) ?_; clear hf a; intro a hf
      refine ops_end ?_
      refine then_n ?_
      exact ⟨(), hh, hf.head ⟨congrArg (fun z => some (Value.bool z)) (by unfold monB; exact (by
        clear hf hh
        first
        | (simp_all; done)
        | (simp only [*, Bool.false_and, Bool.and_false, Bool.true_and, Bool.and_true, Bool.not_true, Bool.not_false, Bool.not_not]; done)
        | (simp only [decide_eq_true_eq, decide_eq_false_iff_not] at *; rw [Bool.eq_iff_iff]; simp only [Bool.and_eq_true, decide_eq_true_eq, Bool.false_eq_true, false_iff, true_iff, *]; omega)
        | omega)), True.intro⟩ (Keep.cons rfl (Keep.cons rfl (Keep.cons rfl (Keep.cons rfl (Keep.cons rfl (Keep.cons rfl (Keep.cons rfl (Keep.cons rfl (Keep.cons rfl (Keep.cons rfl (Keep.cons rfl (Keep.cons rfl (Keep.cons rfl (Keep.cons rfl (Keep.cons rfl (Keep.cons rfl (Keep.cons rfl (Keep.cons rfl (Keep.cons rfl (Keep.cons rfl (Keep.base)))))))))))))))))))))⟩
     ·have hG13 := hg13; try simp only [gS] at hG13
      refine o_off hf ?_; clear hf a; intro a hf
      refine o_off hf ?_; clear hf a; intro a hf
      refine o_off hf ?_; clear hf a; intro a hf
      refine o_off hf ?_; clear hf a; intro a hf
      refine o_off hf ?_; clear hf a; intro a hf
      refine o_v hf hh (y_pf rfl rfl) ?_; clear hf a; intro a hf
      refine o_v hf hh (yv_assign rfl) ?_; clear hf a; intro a hf
      refine ops_end ?_
      refine then_n ?_
      exact ⟨(), hh, hf.head ⟨congrArg (fun z => some (Value.bool z)) (by unfold monB; exact (by
        clear hf hh
        first
        | (simp_all; done)
        | (simp only [*, Bool.false_and, Bool.and_false, Bool.true_and, Bool.and_true, Bool.not_true, Bool.not_false, Bool.not_not]; done)
        | (simp only [decide_eq_true_eq, decide_eq_false_iff_not] at *; rw [Bool.eq_iff_iff]; simp only [Bool.and_eq_true, decide_eq_true_eq, Bool.false_eq_true, false_iff, true_iff, *]; omega)
        | omega)), True.intro⟩ (Keep.cons rfl (Keep.cons rfl (Keep.cons rfl (Keep.cons rfl (Keep.cons rfl (Keep.cons rfl (Keep.cons rfl (Keep.cons rfl (Keep.cons rfl (Keep.cons rfl (Keep.cons rfl (Keep.cons rfl (Keep.cons rfl (Keep.cons rfl (Keep.cons rfl (Keep.cons rfl (Keep.cons rfl (Keep.cons rfl (Keep.cons rfl (Keep.cons rfl (Keep.base)))))))))))))))))))))⟩
    ·have hG11 := hg11; try simp only [gS] at hG11
     refine o_off hf ?_; clear hf a; intro a hf
     refine o_off hf ?_; clear hf a; intro a hf
     refine o_off hf ?_; clear hf a; intro a hf
     refine o_off hf ?_; clear hf a; intro a hf
     refine o_off hf ?_; clear hf a; intro a hf
     refine o_v hf hh (y_pf rfl rfl) ?_; clear hf a; intro a hf
     refine o_v hf hh (yv_move rfl) ?_; clear hf a; intro a hf
     refine o_off hf ?_; clear hf a; intro a hf
     refine o_off hf ?_; clear hf a; intro a hf
     refine o_off hf ?_; clear hf a; intro a hf
     refine o_off hf ?_; clear hf a; intro a hf
     refine o_off hf ?_; clear hf a; intro a hf
     refine o_v hf hh (y_pf rfl rfl) ?_; clear hf a; intro a hf
     refine o_v hf hh (yv_assign rfl) ?_; clear hf a; intro a hf
     refine ops_end ?_
     refine then_n ?_
     exact ⟨(), hh, hf.head ⟨congrArg (fun z => some (Value.bool z)) (by unfold monB; exact (by
       clear hf hh
       first
       | (simp_all; done)
       | (simp only [*, Bool.false_and, Bool.and_false, Bool.true_and, Bool.and_true, Bool.not_true, Bool.not_false, Bool.not_not]; done)
       | (simp only [decide_eq_true_eq, decide_eq_false_iff_not] at *; rw [Bool.eq_iff_iff]; simp only [Bool.and_eq_true, decide_eq_true_eq, Bool.false_eq_true, false_iff, true_iff, *]; omega)
       | omega)), True.intro⟩ (Keep.cons rfl (Keep.cons rfl (Keep.cons rfl (Keep.cons rfl (Keep.cons rfl (Keep.cons rfl (Keep.cons rfl (Keep.cons rfl (Keep.cons rfl (Keep.cons rfl (Keep.cons rfl (Keep.cons rfl (Keep.cons rfl (Keep.cons rfl (Keep.cons rfl (Keep.cons rfl (Keep.cons rfl (Keep.cons rfl (Keep.cons rfl (Keep.cons rfl (Keep.base)))))))))))))))))))))⟩
   ·rintro z a w hh hf
    refine sy_sq ?_
    refine o_v hf hh (yv_move rfl) ?_; clear hf a; intro a hf
    refine o_v hf hh (yv_move rfl) ?_; clear hf a; intro a hf
    refine guard_split hf (t := 65) rfl (fun hg16 => ?_) (fun hg16 => ?_)
    ·have hG16 := hg16; try simp only [gS] at hG16
     refine o_v hf hh (yv_move rfl) ?_; clear hf a; intro a hf
     refine o_v hf hh (y_pt rfl rfl) ?_; clear hf a; intro a hf
     refine o_v hf hh (yv_move rfl) ?_; clear hf a; intro a hf
     refine guard_split hf (t := 68) rfl (fun hg18 => ?_) (fun hg18 => ?_)
     ·have hG18 := hg18; try simp only [gS] at hG18
      refine o_v hf hh (yv_fieldAddr Tryz.fo_45_2 rfl) ?_; clear hf a; intro a hf
      refine o_v hf hh (y_ld Tryz.sc_42 rfl) ?_; clear hf a; intro a hf
      refine o_v hf hh (yv_move rfl) ?_; clear hf a; intro a hf
      refine o_call hf Tryz.en_115 rfl rfl rfl (p110 shB d.shares p.ss p.cs 110 #[] _ (hR.sh.ext hh.ext) hn3 Tryz.en_110 (fun x hx sb cb w1 _ hI => p107 x sb cb w1 hI (hR.n6 x hx))) ?_; clear hf a; intro v a w hR hf
      obtain ⟨rfl, hx⟩ := hR; replace hh := hh.more hx; clear hx
      refine o_v hf hh (yv_not rfl) ?_; clear hf a; intro a hf
      refine o_v hf hh (y_pt rfl rfl) ?_; clear hf a; intro a hf
      refine o_v hf hh (yv_move rfl) ?_; clear hf a; intro a hf
      refine guard_split hf (t := 75) rfl (fun hg20 => ?_) (fun hg20 => ?_)
      ·have hG20 := hg20; try simp only [gS] at hG20
       refine o_v hf hh (yv_fieldAddr Tryz.fo_45_3 rfl) ?_; clear hf a; intro a hf
       refine o_v hf hh (y_ld Tryz.sc_43 rfl) ?_; clear hf a; intro a hf
       refine o_v hf hh (yv_move rfl) ?_; clear hf a; intro a hf
       refine o_call hf Tryz.en_116 rfl rfl rfl (p111 (repB d) d.reps p.sr p.cr 112 #[ptr B1 0] _ (hR.rp.ext hh.ext) hn4 Tryz.en_112 (fun x hx w1 e => p108 d p x B1 w1 (e.get (hh.at (i := 0) rfl)) hn1 hn2)) ?_; clear hf a; intro v a w hR hf
       obtain ⟨rfl, hx⟩ := hR; replace hh := hh.more hx; clear hx
       refine o_v hf hh (yv_not rfl) ?_; clear hf a; intro a hf
       refine o_v hf hh (y_pt rfl rfl) ?_; clear hf a; intro a hf
       refine o_v hf hh (yv_assign rfl) ?_; clear hf a; intro a hf
       refine o_end ?_
       refine sy_ret ?_
       refine ret_r hf rfl rfl ?_
       refine ⟨?_, hh.ext⟩
       rw [royB_eq]
       exact congrArg Value.bool (by
         clear hf hh
         first
         | (simp_all; done)
         | (simp only [*, Bool.false_and, Bool.and_false, Bool.true_and, Bool.and_true, Bool.not_true, Bool.not_false, Bool.not_not]; done)
         | (simp only [decide_eq_true_eq, decide_eq_false_iff_not] at *; rw [Bool.eq_iff_iff]; simp only [Bool.and_eq_true, decide_eq_true_eq, Bool.false_eq_true, false_iff, true_iff, *]; omega)
         | omega)
      ·have hG20 := hg20; try simp only [gS] at hG20
       refine o_off hf ?_; clear hf a; intro a hf
       refine o_off hf ?_; clear hf a; intro a hf
       refine o_off hf ?_; clear hf a; intro a hf
       refine o_off hf ?_; clear hf a; intro a hf
       refine o_off hf ?_; clear hf a; intro a hf
       refine o_v hf hh (y_pf rfl rfl) ?_; clear hf a; intro a hf
       refine o_v hf hh (yv_assign rfl) ?_; clear hf a; intro a hf
       refine o_end ?_
       refine sy_ret ?_
       refine ret_r hf rfl rfl ?_
       refine ⟨?_, hh.ext⟩
       rw [royB_eq]
       exact congrArg Value.bool (by
         clear hf hh
         first
         | (simp_all; done)
         | (simp only [*, Bool.false_and, Bool.and_false, Bool.true_and, Bool.and_true, Bool.not_true, Bool.not_false, Bool.not_not]; done)
         | (simp only [decide_eq_true_eq, decide_eq_false_iff_not] at *; rw [Bool.eq_iff_iff]; simp only [Bool.and_eq_true, decide_eq_true_eq, Bool.false_eq_true, false_iff, true_iff, *]; omega)
         | omega)
     ·have hG18 := hg18; try simp only [gS] at hG18
      refine o_off hf ?_; clear hf a; intro a hf
      refine o_off hf ?_; clear hf a; intro a hf
      refine o_off hf ?_; clear hf a; intro a hf
      refine o_off hf ?_; clear hf a; intro a hf
      refine o_off hf ?_; clear hf a; intro a hf
      refine o_v hf hh (y_pf rfl rfl) ?_; clear hf a; intro a hf
      refine o_v hf hh (yv_move rfl) ?_; clear hf a; intro a hf
      refine o_off hf ?_; clear hf a; intro a hf
      refine o_off hf ?_; clear hf a; intro a hf
      refine o_off hf ?_; clear hf a; intro a hf
      refine o_off hf ?_; clear hf a; intro a hf
      refine o_off hf ?_; clear hf a; intro a hf
      refine o_v hf hh (y_pf rfl rfl) ?_; clear hf a; intro a hf
      refine o_v hf hh (yv_assign rfl) ?_; clear hf a; intro a hf
      refine o_end ?_
      refine sy_ret ?_
      refine ret_r hf rfl rfl ?_
      refine ⟨?_, hh.ext⟩
      rw [royB_eq]
      exact congrArg Value.bool (by
        clear hf hh
        first
        | (simp_all; done)
        | (simp only [*, Bool.false_and, Bool.and_false, Bool.true_and, Bool.and_true, Bool.not_true, Bool.not_false, Bool.not_not]; done)
        | (simp only [decide_eq_true_eq, decide_eq_false_iff_not] at *; rw [Bool.eq_iff_iff]; simp only [Bool.and_eq_true, decide_eq_true_eq, Bool.false_eq_true, false_iff, true_iff, *]; omega)
        | omega)
    ·have hG16 := hg16; try simp only [gS] at hG16
     refine o_off hf ?_; clear hf a; intro a hf
     refine o_v hf hh (y_pf rfl rfl) ?_; clear hf a; intro a hf
     refine o_v hf hh (yv_move rfl) ?_; clear hf a; intro a hf
     refine o_off hf ?_; clear hf a; intro a hf
     refine o_off hf ?_; clear hf a; intro a hf
     refine o_off hf ?_; clear hf a; intro a hf
     refine o_off hf ?_; clear hf a; intro a hf
     refine o_off hf ?_; clear hf a; intro a hf
     refine o_v hf hh (y_pf rfl rfl) ?_; clear hf a; intro a hf
     refine o_v hf hh (yv_move rfl) ?_; clear hf a; intro a hf
     refine o_off hf ?_; clear hf a; intro a hf
     refine o_off hf ?_; clear hf a; intro a hf
     refine o_off hf ?_; clear hf a; intro a hf
     refine o_off hf ?_; clear hf a; intro a hf
     refine o_off hf ?_; clear hf a; intro a hf
     refine o_v hf hh (y_pf rfl rfl) ?_; clear hf a; intro a hf
     refine o_v hf hh (yv_assign rfl) ?_; clear hf a; intro a hf
     refine o_end ?_
     refine sy_ret ?_
     refine ret_r hf rfl rfl ?_
     refine ⟨?_, hh.ext⟩
     rw [royB_eq]
     exact congrArg Value.bool (by
       clear hf hh
       first
       | (simp_all; done)
       | (simp only [*, Bool.false_and, Bool.and_false, Bool.true_and, Bool.and_true, Bool.not_true, Bool.not_false, Bool.not_not]; done)
       | (simp only [decide_eq_true_eq, decide_eq_false_iff_not] at *; rw [Bool.eq_iff_iff]; simp only [Bool.and_eq_true, decide_eq_true_eq, Bool.false_eq_true, false_iff, true_iff, *]; omega)
       | omega)
end Go.Proofs.YtccpgpnekoncoaaGreat

namespace Go.Proofs.YtccpgpnekoncoaaGreat
set_option maxRecDepth 100000
open Go Go.Sy Go.RoyM
theorem p63 (d : RoyD) (p : Pl) (Bc : Nat) (u : World) (hB : u.heap[Bc]? = some (.cells (royC d p) 89 (0, 0))) (g : Int) (hn : d.terms.length ≤ 1000) : Calls Tryz.prog 44 #[ptr Bc 0, .int .i64 g] u (Ret fun v w' => v = .bool (isAg d g) ∧ Ext [] u w') := by
  refine calls_of Tryz.func44 rfl rfl (fun a hf => ?_)
  have hh := Hp.init u []
  refine sy_sq ?_
  refine o_v hf hh (yv_assign rfl) ?_; clear hf a; intro a hf
  refine o_end ?_
  refine sy_sq ?_
  refine o_v hf hh (yv_move rfl) ?_; clear hf a; intro a hf
  refine o_v hf hh (yv_move rfl) ?_; clear hf a; intro a hf
  refine o_v hf hh (yv_nilCheck rfl) ?_; clear hf a; intro a hf
  refine o_v hf hh (yv_fieldAddr Tryz.fo_89_0 rfl) ?_; clear hf a; intro a hf
  refine o_v hf hh (yv_fieldAddr Tryz.fo_45_0 rfl) ?_; clear hf a; intro a hf
  refine o_v hf hh (y_ld Tryz.sc_41 rfl) ?_; clear hf a; intro a hf
  refine o_v hf hh (yv_len Tryz.se_41 rfl) ?_; clear hf a; intro a hf
  refine o_v hf hh (y_sub rfl rfl) ?_; clear hf a; intro a hf
  refine o_call hf Tryz.en_34 rfl rfl rfl (p48 _ _ _ _) ?_; clear hf a; intro v a w hR hf
  obtain ⟨rfl, hx⟩ := hR; replace hh := hh.more hx; clear hx
  refine o_v hf hh (yv_assign rfl) ?_; clear hf a; intro a hf
  refine o_end ?_
  refine sy_ret ?_
  refine ret_r hf rfl rfl ?_
  exact ⟨rfl, hh.ext⟩
theorem p64 (d : RoyD) (p : Pl) (Bc : Nat) (u : World) (hB : u.heap[Bc]? = some (.cells (royC d p) 89 (0, 0))) (g : Int) (hn : d.prices.length ≤ 1000) : Calls Tryz.prog 50 #[ptr Bc 0, .int .i64 g] u (Ret fun v w' => v = .bool (isKd d g) ∧ Ext [] u w') := by
  refine calls_of Tryz.func50 rfl rfl (fun a hf => ?_)
  have hh := Hp.init u []
  refine sy_sq ?_
  refine o_v hf hh (yv_assign rfl) ?_; clear hf a; intro a hf
  refine o_end ?_
  refine sy_sq ?_
  refine o_v hf hh (yv_move rfl) ?_; clear hf a; intro a hf
  refine o_v hf hh (yv_move rfl) ?_; clear hf a; intro a hf
  refine o_v hf hh (yv_nilCheck rfl) ?_; clear hf a; intro a hf
  refine o_v hf hh (yv_fieldAddr Tryz.fo_89_0 rfl) ?_; clear hf a; intro a hf
  refine o_v hf hh (yv_fieldAddr Tryz.fo_45_1 rfl) ?_; clear hf a; intro a hf
  refine o_v hf hh (y_ld Tryz.sc_28 rfl) ?_; clear hf a; intro a hf
  refine o_v hf hh (yv_len Tryz.se_28 rfl) ?_; clear hf a; intro a hf
  refine o_v hf hh (y_sub rfl rfl) ?_; clear hf a; intro a hf
  refine o_call hf Tryz.en_34 rfl rfl rfl (p48 _ _ _ _) ?_; clear hf a; intro v a w hR hf
  obtain ⟨rfl, hx⟩ := hR; replace hh := hh.more hx; clear hx
  refine o_v hf hh (yv_assign rfl) ?_; clear hf a; intro a hf
  refine o_end ?_
  refine sy_ret ?_
  refine ret_r hf rfl rfl ?_
  exact ⟨rfl, hh.ext⟩
theorem p75 (d : RoyD) (p : Pl) (Bc : Nat) (u : World) (hB : u.heap[Bc]? = some (.cells (royC d p) 89 (0, 0))) (Bk : Nat) (k : Int) (hk : u.heap[Bk]? = some (.cells #[.int .i64 k] 3 (0, 0))) (hn : d.prices.length ≤ 1000) : Calls Tryz.prog 49 #[ptr Bc 0, ptr Bk 0] u (Ret fun v w' => v = .bool (isKd d k) ∧ Ext [] u w') := by
  refine calls_of Tryz.func49 rfl rfl (fun a hf => ?_)
  have hh := Hp.init u []
  refine sy_sq ?_
  refine o_v hf hh (yv_assign rfl) ?_; clear hf a; intro a hf
  refine o_end ?_
  refine sy_sq ?_
  refine o_v hf hh (yv_move rfl) ?_; clear hf a; intro a hf
  refine o_v hf hh (y_ld Tryz.sc_3 rfl) ?_; clear hf a; intro a hf
  refine o_call hf Tryz.en_50 rfl rfl rfl (p64 d p Bc _ (hh.old hB) _ hn) ?_; clear hf a; intro v a w hR hf
  obtain ⟨rfl, hx⟩ := hR; replace hh := hh.more hx; clear hx
  refine o_v hf hh (yv_assign rfl) ?_; clear hf a; intro a hf
  refine o_end ?_
  refine sy_ret ?_
  refine ret_r hf rfl rfl ?_
  exact ⟨rfl, hh.ext⟩
theorem p70 (d : RoyD) (p : Pl) (Bc : Nat) (u : World) (hB : u.heap[Bc]? = some (.cells (royC d p) 89 (0, 0))) (Bk : Nat) (k : Int) (hk : u.heap[Bk]? = some (.cells #[.int .i64 k] 3 (0, 0))) (hn : d.terms.length ≤ 1000) : Calls Tryz.prog 43 #[ptr Bc 0, ptr Bk 0] u (Ret fun v w' => v = .bool (isAg d k) ∧ Ext [] u w') := by
  refine calls_of Tryz.func43 rfl rfl (fun a hf => ?_)
  have hh := Hp.init u []
  refine sy_sq ?_
  refine o_v hf hh (yv_assign rfl) ?_; clear hf a; intro a hf
  refine o_end ?_
  refine sy_sq ?_
  refine o_v hf hh (yv_move rfl) ?_; clear hf a; intro a hf
  refine o_v hf hh (y_ld Tryz.sc_3 rfl) ?_; clear hf a; intro a hf
  refine o_call hf Tryz.en_44 rfl rfl rfl (p63 d p Bc _ (hh.old hB) _ hn) ?_; clear hf a; intro v a w hR hf
  obtain ⟨rfl, hx⟩ := hR; replace hh := hh.more hx; clear hx
  refine o_v hf hh (yv_assign rfl) ?_; clear hf a; intro a hf
  refine o_end ?_
  refine sy_ret ?_
  refine ret_r hf rfl rfl ?_
  exact ⟨rfl, hh.ext⟩
theorem sharesN_at {d : RoyD} {k : Int} (h : isKd d k = true) (hn : d.shares.length = d.prices.length) : ∃ m, d.shares[k.toNat]? = some m ∧ 0 ≤ k ∧ k < d.shares.length ∧ sharesN d k = m := by
  unfold isKd inI at h
  simp only [Bool.and_eq_true, decide_eq_true_eq] at h
  obtain ⟨m, hm⟩ := ex_of (l := d.shares) (i := k.toNat) (by omega)
  exact ⟨m, hm, h.1, by omega, by unfold sharesN; exact getD_at hm⟩
theorem p87 (d : RoyD) (p : Pl) (Bc : Nat) (u : World) (hB : u.heap[Bc]? = some (.cells (royC d p) 89 (0, 0))) (Bk Bp : Nat) (k part : Int) (hk : u.heap[Bk]? = some (.cells #[.int .i64 k] 3 (0, 0))) (hp : u.heap[Bp]? = some (.cells #[.int .i64 part] 3 (0, 0))) (hm : d.prices.length ≤ 1000) (hS : LAt u p.ss d.shares) (hns : d.shares.length = d.prices.length) (hl : ∀ l ∈ d.shares, l.length ≤ 1000) : Calls Tryz.prog 55 #[ptr Bc 0, ptr Bk 0, ptr Bp 0] u (Ret fun v w' => v = .bool (isKd d k && inI part 0 (((sharesN d k).length : Int) - 1)) ∧ Ext [] u w') := by
  refine calls_of Tryz.func55 rfl rfl (fun a hf => ?_)
  have hh := Hp.init u []
  obtain ⟨st, sp, ss, sr, sd, ct, cp, cs, cr, cd⟩ := p
  refine sy_sq ?_
  refine o_v hf hh (yv_assign rfl) ?_; clear hf a; intro a hf
  refine o_end ?_
  refine sy_seq ?_
  refine sy_tree1 (.p 0 (.q 0 1 (.e1 2 (.p 3 (.q 0 4 (.p 5 (.p 6 (.p 7 (.p 8 (.q 0 9 (.q 0 10 (.p 11 (.q 0 12 (.p 13 (.p 14 (.e1 15 (.p 16 (.p 17 (.fin))))))))))))))))))) [] Tryz.follows (by kernel_rfl) hh (fun w hh => ?_)
  refine mc_p rfl   hf (yv_move rfl) (.inl rfl) rfl rfl ?_; clear hf a; intro a hf
  refine mc_q rfl rfl hh hf (y_ld Tryz.sc_3 rfl) (.inl rfl) rfl rfl ?_; clear hf a; intro a hf
  refine mc_e rfl fun Q1 => ?_
  refine o_call hf Tryz.en_50 rfl rfl rfl (p64 d _ Bc _ (hh.old hB) _ hm) ?_; clear hf a; intro v a w hR hf
  obtain ⟨rfl, hx⟩ := hR; replace hh := hh.more hx; clear hx
  refine ops_end ?_
  refine then_n ⟨⟨fun _ _ => hh, trivial⟩, ?_⟩
  refine mc_p rfl   hf (yv_move rfl) (.inl rfl) rfl rfl ?_; clear hf a; intro a hf
  refine guard_any hf (t := 8) rfl (fun hg2 => ?_) (fun hg2 => ?_)
  ·have hG2 := hg2; try simp only [gS] at hG2
   refine mc_q rfl rfl hh hf (y_ld Tryz.sc_3 rfl) (gon rfl rfl rfl (by first | assumption | rfl | (simp; done) | (simp; omega))) rfl rfl ?_; clear hf a; intro a hf
   refine mc_p rfl   hf (yv_move rfl) (gon rfl rfl rfl (by first | assumption | rfl | (simp; done) | (simp; omega))) rfl rfl ?_; clear hf a; intro a hf
   refine mc_p rfl   hf (yv_nilCheck rfl) (gon rfl rfl rfl (by first | assumption | rfl | (simp; done) | (simp; omega))) rfl rfl ?_; clear hf a; intro a hf
   refine mc_p rfl   hf (yv_fieldAddr Tryz.fo_89_0 rfl) (gon rfl rfl rfl (by first | assumption | rfl | (simp; done) | (simp; omega))) rfl rfl ?_; clear hf a; intro a hf
   refine mc_p rfl   hf (yv_fieldAddr Tryz.fo_45_2 rfl) (gon rfl rfl rfl (by first | assumption | rfl | (simp; done) | (simp; omega))) rfl rfl ?_; clear hf a; intro a hf
   have hkd : isKd d k = true := by assumption
   obtain ⟨m, hm, hk0, hk1, e9⟩ := sharesN_at (d := d) (k := k) hkd hns
   obtain ⟨q, rfl⟩ : ∃ q : Nat, k = q := ⟨k.toNat, by omega⟩
   rw [Int.toNat_natCast] at hm
   obtain ⟨blk, off, cc, T, fr, sb, cb, e, hb, hc, hI⟩ := hS q m hm
   dsimp only at e; subst e
   have hml := hl m (List.mem_of_getElem? hm)
   rw [e9]
   refine mc_q rfl rfl hh hf (y_ld Tryz.sc_42 rfl) (gon rfl rfl rfl (by first | assumption | rfl | (simp; done) | (simp; omega))) rfl rfl ?_; clear hf a; intro a hf
   refine mc_q rfl rfl hh hf (y_ld Tryz.sc_3 rfl) (gon rfl rfl rfl (by first | assumption | rfl | (simp; done) | (simp; omega))) rfl rfl ?_; clear hf a; intro a hf
   refine mc_p rfl   hf (y_ix Tryz.se_42 rfl rfl) (gon rfl rfl rfl (by first | assumption | rfl | (simp; done) | (simp; omega))) rfl rfl ?_; clear hf a; intro a hf
   refine mc_q rfl rfl hh hf (y_ld Tryz.sc_28 rfl) (gon rfl rfl rfl (by first | assumption | rfl | (simp; done) | (simp; omega))) rfl rfl ?_; clear hf a; intro a hf
   refine mc_p rfl   hf (yv_len Tryz.se_28 rfl) (gon rfl rfl rfl (by first | assumption | rfl | (simp; done) | (simp; omega))) rfl rfl ?_; clear hf a; intro a hf
   refine mc_p rfl   hf (y_sub rfl rfl) (gon rfl rfl rfl (by first | assumption | rfl | (simp; done) | (simp; omega))) rfl rfl ?_; clear hf a; intro a hf
   refine mc_e rfl fun Q1 => ?_
   refine o_call hf Tryz.en_34 rfl rfl rfl (p48 _ _ _ _) ?_; clear hf a; intro v a w hR hf
   obtain ⟨rfl, hx⟩ := hR; replace hh := hh.more hx; clear hx
   refine ops_end ?_
   refine then_n ⟨⟨fun _ _ => hh, trivial⟩, ?_⟩
   refine mc_p rfl   hf (y_pt rfl rfl) (.inl rfl) rfl rfl ?_; clear hf a; intro a hf
   refine mc_p rfl   hf (yv_assign rfl) (.inl rfl) rfl rfl ?_; clear hf a; intro a hf
   refine mc_end ?_
   refine then_n ?_
   refine sy_ret ?_
   refine ret_r hf rfl rfl ?_
   exact ⟨congrArg Value.bool (by
     clear hf hh
     first
     | (simp_all; done)
     | (simp only [*, Bool.false_and, Bool.and_false, Bool.true_and, Bool.and_true, Bool.not_true, Bool.not_false, Bool.not_not]; done)
     | omega), hh.ext⟩
  ·have hG2 := hg2; try simp only [gS] at hG2
   refine mc_offq rfl rfl hh hf (goff rfl rfl rfl (by first | assumption | rfl | (simp; done) | (simp; omega))) rfl rfl ?_; clear hf a; intro a hf
   refine mc_off rfl hf (goff rfl rfl rfl (by first | assumption | rfl | (simp; done) | (simp; omega))) rfl rfl ?_; clear hf a; intro a hf
   refine mc_off rfl hf (goff rfl rfl rfl (by first | assumption | rfl | (simp; done) | (simp; omega))) rfl rfl ?_; clear hf a; intro a hf
   refine mc_off rfl hf (goff rfl rfl rfl (by first | assumption | rfl | (simp; done) | (simp; omega))) rfl rfl ?_; clear hf a; intro a hf
   refine mc_off rfl hf (goff rfl rfl rfl (by first | assumption | rfl | (simp; done) | (simp; omega))) rfl rfl ?_; clear hf a; intro a hf
   refine mc_offq rfl rfl hh hf (goff rfl rfl rfl (by first | assumption | rfl | (simp; done) | (simp; omega))) rfl rfl ?_; clear hf a; intro a hf
   refine mc_offq rfl rfl hh hf (goff rfl rfl rfl (by first | assumption | rfl | (simp; done) | (simp; omega))) rfl rfl ?_; clear hf a; intro a hf
   refine mc_off rfl hf (goff rfl rfl rfl (by first | assumption | rfl | (simp; done) | (simp; omega))) rfl rfl ?_; clear hf a; intro a hf
   refine mc_offq rfl rfl hh hf (goff rfl rfl rfl (by first | assumption | rfl | (simp; done) | (simp; omega))) rfl rfl ?_; clear hf a; intro a hf
   refine mc_off rfl hf (goff rfl rfl rfl (by first | assumption | rfl | (simp; done) | (simp; omega))) rfl rfl ?_; clear hf a; intro a hf
   refine mc_off rfl hf (goff rfl rfl rfl (by first | assumption | rfl | (simp; done) | (simp; omega))) rfl rfl ?_; clear hf a; intro a hf
   refine mc_e rfl fun Q1 => ?_
   refine o_off hf ?_; clear hf a; intro a hf
   refine ops_end ?_
   refine then_n ⟨⟨fun _ _ => hh, trivial⟩, ?_⟩
   refine mc_p rfl   hf (y_pf rfl rfl) (.inl rfl) rfl rfl ?_; clear hf a; intro a hf
   refine mc_p rfl   hf (yv_assign rfl) (.inl rfl) rfl rfl ?_; clear hf a; intro a hf
   refine mc_end ?_
   refine then_n ?_
   refine sy_ret ?_
   refine ret_r hf rfl rfl ?_
   exact ⟨congrArg Value.bool (by
     clear hf hh
     first
     | (simp_all; done)
     | (simp only [*, Bool.false_and, Bool.and_false, Bool.true_and, Bool.and_true, Bool.not_true, Bool.not_false, Bool.not_not]; done)
     | omega), hh.ext⟩
theorem openE_zero {d : RoyD} {b : Bool} : openE d b = 0 ↔ royB d = true ∧ b = true := by
  unfold openE
  cases royB d <;> cases b <;> simp
theorem p57 (d : RoyD) (p : Pl) (u : World) (hR : RoyAt u d p) (f : Nat) (fcs : Array Value) (b : Bool) (hE : Enters Tryz.prog f)
    (hcall : royB d = true → ∀ (Bc : Nat) (w' : World), Ext [] u w' → w'.heap[Bc]? = some (.cells (royC d p) 89 (0, 0)) → Calls Tryz.prog f (#[] ++ [ptr Bc 0].toArray ++ fcs) w' (Ret fun v w'' => v = .bool b ∧ Ext [] w' w'')) :
    Calls Tryz.prog 42 #[.agg (royC d p), .func (.func f) #[] fcs] u (RetX (fun v w' => openE d b = 0 ∧ ∃ Bc, v = ptr Bc 0 ∧ Hp u [] [(Bc, .cells (royC d p) 89)] w') (fun ch w' => ch = misfit (openE d b) ∧ openE d b ≠ 0 ∧ Ext [] u w')) := by
  refine calls_ofX Tryz.func42 rfl rfl (fun a hf => ?_)
  have hh := Hp.init u []
  refine sy_sq ?_
  refine o_box hf hh ?_; clear hf hh a; intro B2 a w hf hh
  refine o_v hf hh (yv_assign rfl) ?_; clear hf a; intro a hf
  refine o_end ?_
  refine sy_sq ?_
  refine o_v hf hh (y_lds Tryz.ag_45 rfl) ?_; clear hf a; intro a hf
  refine o_call hf Tryz.en_80 rfl rfl rfl (p95 d p _ (hR.ext hh.ext)) ?_; clear hf a; intro v a w hR hf
  obtain ⟨rfl, hx⟩ := hR; replace hh := hh.more hx; clear hx
  refine o_callX hf Tryz.en_79 rfl rfl rfl (p94 _ 1 _) ?_ ?_
  ·clear hf a; intro v a w hR hf
   obtain ⟨hb1, hx⟩ := hR; replace hh := hh.more hx; clear hx
   refine o_end ?_
   refine sy_sq ?_
   refine o_v hf hh (y_lds Tryz.ag_45 rfl) ?_; clear hf a; intro a hf
   refine o_v hf hh (yv_buildS Tryz.bs_89 rfl rfl) ?_; clear hf a; intro a hf
   refine o_box hf hh ?_; clear hf hh a; intro B11 a w hf hh
   refine o_v hf hh (yv_assign rfl) ?_; clear hf a; intro a hf
   refine o_end ?_
   refine sy_sq ?_
   refine o_v hf hh (yv_move rfl) ?_; clear hf a; intro a hf
   refine o_v hf hh (yv_move rfl) ?_; clear hf a; intro a hf
   refine o_call hf hE rfl rfl rfl (hcall hb1 _ _ hh.ext (hh.at (i := 0) rfl)) ?_; clear hf a; intro v a w hR hf
   obtain ⟨rfl, hx⟩ := hR; replace hh := hh.more hx; clear hx
   refine o_callX hf Tryz.en_79 rfl rfl rfl (p94 _ 2 _) ?_ ?_
   ·clear hf a; intro v a w hR hf
    obtain ⟨hb2, hx⟩ := hR; replace hh := hh.more hx; clear hx
    refine o_end ?_
    refine sy_sq ?_
    refine o_v hf hh (yv_move rfl) ?_; clear hf a; intro a hf
    refine o_v hf hh (yv_assign rfl) ?_; clear hf a; intro a hf
    refine o_end ?_
    refine sy_ret ?_
    refine ret_x ?_
    refine ret_r hf rfl rfl ?_
    exact ⟨by simp [openE, hb1, hb2], _, rfl, hh.less (.cons_cons _ (.cons _ (.refl _)))⟩
   ·intro ch w hX hf
    obtain ⟨hb2, hch, hx⟩ := hX; replace hh := hh.more hx; clear hx
    refine then_p ?_
    refine pan_x hf ?_
    exact ⟨by rw [hch]; simp [openE, hb1, hb2], by simp [openE, hb1, hb2], hh.ext⟩
  ·intro ch w hX hf
   obtain ⟨hb1, hch, hx⟩ := hX; replace hh := hh.more hx; clear hx
   refine then_p ?_
   refine pan_x hf ?_
   exact ⟨by rw [hch]; simp [openE, hb1], by simp [openE, hb1], hh.ext⟩
end Go.Proofs.YtccpgpnekoncoaaGreat

namespace Go.RoyM
open Go Go.Sy
/-- The agents of a set, rising. -/
def clrL (m who : Nat) : List Nat := (List.range m).filter fun g => who.testBit g
/-- All lists of those who sold the cards, in their order. -/
def truA (m : Nat) : List Nat → List (List Nat)
  | [] => [[]]
  | w :: ws => (clrL m w).flatMap fun g => (truA m ws).map (g :: ·)
def cnt (n : Cts) (t : List Nat) : Cts := t.foldl cinc n
theorem fm_map {α β γ : Type} (f : α → List β) (g : β → γ) : ∀ l : List α, (l.flatMap f).map g = l.flatMap fun x => (f x).map g
  | [] => rfl
  | x :: l => by rw [List.flatMap_cons, List.map_append, fm_map f g l, List.flatMap_cons]
theorem fm_fm {α β γ : Type} (f : α → List β) (g : β → List γ) : ∀ l : List α, (l.flatMap f).flatMap g = l.flatMap fun x => (f x).flatMap g
  | [] => rfl
  | x :: l => by rw [List.flatMap_cons, List.flatMap_append, fm_fm f g l, List.flatMap_cons]
theorem fm_mapl {α β γ : Type} (f : α → β) (g : β → List γ) : ∀ l : List α, (l.map f).flatMap g = l.flatMap fun x => g (f x)
  | [] => rfl
  | x :: l => by rw [List.map_cons, List.flatMap_cons, fm_mapl f g l, List.flatMap_cons]
theorem reach_tru (m : Nat) : ∀ (ws : List Nat) (S : List Cts), ws.foldl (fun S w => stepC m w S) S = S.flatMap fun n => (truA m ws).map (cnt n)
  | [], S => by
    rw [List.foldl_nil]
    induction S with
    | nil => rfl
    | cons x S ih => rw [List.flatMap_cons, ← ih]; rfl
  | w :: ws, S => by
    rw [List.foldl_cons, reach_tru m ws, stepC, fm_fm]
    congr 1
    funext n
    rw [fm_mapl, truA, fm_map]
    congr 1
    funext g
    rw [List.map_map]
    rfl
theorem reachL_tru (d : RoyD) (k : Int) : reachL d k = (truA d.terms.length ((soldL d k).map Prod.snd)).map (cnt (0, 0, 0, 0)) := by
  unfold reachL reachW
  rw [reach_tru, List.flatMap_cons, List.flatMap_nil, List.append_nil]
/-- Each card has somebody who claims it. -/
def Some1 (m : Nat) (ws : List Nat) : Prop := ∀ w ∈ ws, clrL m w ≠ []
theorem truA_ne {m : Nat} : ∀ {ws : List Nat}, Some1 m ws → truA m ws ≠ []
  | [], _ => by simp [truA]
  | w :: ws, h => by
    have h1 := h w (.head _)
    have h2 := truA_ne (ws := ws) fun x hx => h x (.tail _ hx)
    rw [truA]
    obtain ⟨g, hg⟩ := List.exists_mem_of_ne_nil _ h1
    obtain ⟨t, ht⟩ := List.exists_mem_of_ne_nil _ h2
    exact List.ne_nil_of_mem (List.mem_flatMap.2 ⟨g, hg, List.mem_map.2 ⟨t, ht, rfl⟩⟩)
theorem lo_uniq {l : List Int} {v : Int} (h : v ∈ l) (hb : ∀ y ∈ l, v ≤ y) : loL l = v := by
  have h1 := loL_spec (List.ne_nil_of_mem h)
  have h2 := hb _ h1.1
  have h3 := h1.2 v h
  omega
theorem hi_uniq {l : List Int} {v : Int} (h : v ∈ l) (hb : ∀ y ∈ l, y ≤ v) : hiL l = v := by
  have h1 := hiL_spec (List.ne_nil_of_mem h)
  have h2 := hb _ h1.1
  have h3 := h1.2 v h
  omega
theorem clm_lt {d : RoyD} (h : RoyOk d) {k : Int} {g c : Nat} (hc : clmB d k g c = true) : g < d.terms.length := by
  unfold clmB at hc
  obtain ⟨x, hx, h1⟩ := List.any_eq_true.1 hc
  simp only [Bool.and_eq_true, decide_eq_true_eq] at h1
  have := (h.r x hx).a1
  omega
theorem who_bit {d : RoyD} (h : RoyOk d) (k : Int) (c g : Nat) : (whoN d k c).testBit g = clmB d k g c := by
  unfold whoN
  rw [whoT_bit]
  cases hc : clmB d k g c
  · rw [Bool.and_false]
  · have := clm_lt h hc
    have := h.nt
    rw [decide_eq_true (by omega)]; rfl
theorem who_clr {d : RoyD} (h : RoyOk d) (k : Int) (c : Nat) : clrL d.terms.length (whoN d k c) = (List.range d.terms.length).filter fun g => clmB d k g c := by
  unfold clrL
  congr 1
  funext g
  exact who_bit h k c g
theorem bit_of_ne {n : Nat} (h : n ≠ 0) : ∃ g, n.testBit g = true := by
  by_cases h1 : ∃ g, n.testBit g = true
  · exact h1
  · exfalso
    apply h
    apply Nat.eq_of_testBit_eq
    intro i
    rw [Nat.zero_testBit]
    cases h2 : n.testBit i
    · rfl
    · exact absurd ⟨i, h2⟩ h1
theorem clr_ne {d : RoyD} (h : RoyOk d) {k : Int} {c : Nat} (hn : whoN d k c ≠ 0) : clrL d.terms.length (whoN d k c) ≠ [] := by
  obtain ⟨g, hg⟩ := bit_of_ne hn
  have h1 := hg
  rw [who_bit h] at h1
  exact List.ne_nil_of_mem (List.mem_filter.2 ⟨List.mem_range.2 (clm_lt h h1), hg⟩)
theorem sold_some {d : RoyD} (h : RoyOk d) (k : Int) : Some1 d.terms.length ((soldL d k).map Prod.snd) := fun x hx => by
  obtain ⟨p, hp, rfl⟩ := List.mem_map.1 hx
  obtain ⟨h1, h2, h3⟩ := soldT_mem.1 hp
  rw [h2] at h3 ⊢
  exact clr_ne h h3
theorem reach_ne {d : RoyD} (h : RoyOk d) (k : Int) : reachL d k ≠ [] := by
  rw [reachL_tru]
  simpa using truA_ne (sold_some h k)
end Go.RoyM

namespace Go.RoyM
open Go Go.Sy
theorem crd_lt {d : RoyD} {x : RepD} (h : RepOk d x) : crd x < 4096 := by
  have h1 := h.f0; have h2 := h.f1; have h3 := h.l1
  unfold crd
  have h4 : 2 ^ (x.la + 1).toNat ≤ 2 ^ 12 := Nat.pow_le_pow_right (by omega) (by omega)
  have h5 : 0 < 2 ^ x.fi.toNat := Nat.two_pow_pos _
  omega
theorem crd_pow {d : RoyD} {x : RepD} (h : RepOk d x) : ∃ q1 q2 : Nat, q1 = 2 ^ x.fi.toNat ∧ q2 = 2 ^ (x.la + 1).toNat ∧ q1 ≤ q2 ∧ q2 ≤ 4096 ∧ crd x = q2 - q1 := by
  have h1 := h.f0; have h2 := h.f1; have h3 := h.l1
  refine ⟨_, _, rfl, rfl, Nat.pow_le_pow_right (by omega) (by omega), ?_, rfl⟩
  exact Nat.le_trans (Nat.pow_le_pow_right (by omega) (by omega)) (show 2 ^ 12 ≤ 4096 by omega)
/-- The cards that are claimed in some reports. -/
def clmL (reps : List RepD) (k : Int) (g : Nat) : Nat := (reps.filter fun x => decide (x.kd = k) && decide (x.ag = (g : Int))).foldl (fun s x => s ||| crd x) 0
theorem clmL_all (d : RoyD) (k : Int) (g : Nat) : clmL d.reps k g = clm d k g := rfl
theorem clmL_take {l : List RepD} {i : Nat} {x : RepD} (h : l[i]? = some x) (k : Int) (g : Nat) : clmL (l.take (i + 1)) k g = if x.kd = k ∧ x.ag = (g : Int) then clmL (l.take i) k g ||| crd x else clmL (l.take i) k g := by
  unfold clmL
  rw [List.take_add_one, h, List.filter_append, List.foldl_append]
  by_cases hc : x.kd = k ∧ x.ag = (g : Int)
  · rw [if_pos hc]
    simp [hc.1, hc.2]
  · rw [if_neg hc]
    have : (decide (x.kd = k) && decide (x.ag = (g : Int))) = false := by
      rw [Bool.eq_false_iff]; intro h; apply hc; simpa using h
    simp [this]
theorem or_lt {a b : Nat} (h1 : a < 4096) (h2 : b < 4096) : a ||| b < 4096 := Nat.or_lt_two_pow (n := 12) h1 h2
theorem fold_or_lt : ∀ (l : List RepD) (s : Nat), s < 4096 → (∀ x ∈ l, crd x < 4096) → l.foldl (fun s x => s ||| crd x) s < 4096
  | [], s, h, _ => h
  | x :: l, s, h, hl => fold_or_lt l _ (or_lt h (hl x (.head _))) fun y hy => hl y (.tail _ hy)
theorem clmL_lt {l : List RepD} (h : ∀ x ∈ l, crd x < 4096) (k : Int) (g : Nat) : clmL l k g < 4096 :=
  fold_or_lt _ _ (by omega) fun x hx => h x ((List.mem_filter.1 hx).1)
theorem clm_lt12 {d : RoyD} (h : RoyOk d) (k : Int) (g : Nat) : clm d k g < 4096 := clmL_lt (fun x hx => crd_lt (h.r x hx)) k g
abbrev clmC (l : List RepD) (k : Int) : Array Value := #[.int .u64 (clmL l k 0 : Nat), .int .u64 (clmL l k 1 : Nat), .int .u64 (clmL l k 2 : Nat), .int .u64 (clmL l k 3 : Nat)]
theorem clmC_at (l : List RepD) (k : Int) {g : Nat} (hg : g < 4) : (clmC l k)[0 + ((g : Nat) : Int).toNat * 1]? = some (.int .u64 (clmL l k g : Nat)) := by
  rcases (show g = 0 ∨ g = 1 ∨ g = 2 ∨ g = 3 by omega) with rfl | rfl | rfl | rfl <;> rfl
theorem clmC_at0 (l : List RepD) (k : Int) {g : Nat} (hg : g < 4) : (clmC l k)[((g : Nat) : Int).toNat * 1]? = some (.int .u64 (clmL l k g : Nat)) := by
  rcases (show g = 0 ∨ g = 1 ∨ g = 2 ∨ g = 3 by omega) with rfl | rfl | rfl | rfl <;> rfl
theorem clmC_other {l : List RepD} {i : Nat} {x : RepD} (h : l[i]? = some x) {k : Int} (hk : ¬ x.kd = k) : clmC (l.take i) k = clmC (l.take (i + 1)) k := by
  have e : ∀ g, clmL (l.take (i + 1)) k g = clmL (l.take i) k g := fun g => by rw [clmL_take h, if_neg fun h => hk h.1]
  simp only [clmC, e]
theorem clmC_put {l : List RepD} {i : Nat} {x : RepD} (h : l[i]? = some x) {k : Int} (hk : x.kd = k) {g : Nat} (hg : x.ag = (g : Int)) (h4 : g < 4) : spl (clmC (l.take i) k) (0 + ((g : Nat) : Int).toNat * 1) [.int .u64 ((clmL (l.take i) k g ||| crd x : Nat) : Int)] = clmC (l.take (i + 1)) k := by
  have e : ∀ j, j ≠ g → clmL (l.take (i + 1)) k j = clmL (l.take i) k j := fun j hj => by rw [clmL_take h, if_neg fun h => hj (by omega)]
  have e2 : clmL (l.take (i + 1)) k g = clmL (l.take i) k g ||| crd x := by rw [clmL_take h, if_pos ⟨hk, hg⟩]
  rw [← e2]
  rcases (show g = 0 ∨ g = 1 ∨ g = 2 ∨ g = 3 by omega) with rfl | rfl | rfl | rfl
  · simp only [clmC, ← e 1 (by omega), ← e 2 (by omega), ← e 3 (by omega)]; rfl
  · simp only [clmC, ← e 0 (by omega), ← e 2 (by omega), ← e 3 (by omega)]; rfl
  · simp only [clmC, ← e 0 (by omega), ← e 1 (by omega), ← e 3 (by omega)]; rfl
  · simp only [clmC, ← e 0 (by omega), ← e 1 (by omega), ← e 2 (by omega)]; rfl
/-- Counts of cards. -/
abbrev ctC (n : Cts) : Array Value := #[.int .i64 (n.1 : Nat), .int .i64 (n.2.1 : Nat), .int .i64 (n.2.2.1 : Nat), .int .i64 (n.2.2.2 : Nat)]
theorem ctC_at (n : Cts) {g : Nat} (hg : g < 4) : (ctC n)[0 + ((g : Nat) : Int).toNat * 1]? = some (.int .i64 (cget n g : Nat)) := by
  rcases (show g = 0 ∨ g = 1 ∨ g = 2 ∨ g = 3 by omega) with rfl | rfl | rfl | rfl <;> rfl
theorem ctC_put (n : Cts) {g : Nat} (hg : g < 4) : spl (ctC n) (0 + ((g : Nat) : Int).toNat * 1) [.int .i64 ((cget n g : Nat) + 1)] = ctC (cinc n g) := by
  rcases (show g = 0 ∨ g = 1 ∨ g = 2 ∨ g = 3 by omega) with rfl | rfl | rfl | rfl <;> rfl
def ctOk (n : Cts) (b : Nat) : Prop := ∀ g, g < 4 → cget n g ≤ b
/-- All surely an agent's among the first others. -/
theorem surT_le (d : RoyD) (k : Int) (g : Nat) : ∀ h, surT d k g h ≤ clm d k g
  | 0 => Nat.le_refl _
  | h + 1 => by
    rw [surT]
    split
    · exact surT_le d k g h
    · refine Nat.le_trans ?_ (surT_le d k g h)
      obtain ⟨p, hp⟩ : ∃ p, p = surT d k g h := ⟨_, rfl⟩
      rw [← hp]
      have e : p ^^^ (p &&& clm d k h) = p &&& (p ^^^ (p &&& clm d k h)) := by
        apply Nat.eq_of_testBit_eq
        intro i
        simp only [Nat.testBit_and, Nat.testBit_xor]
        cases p.testBit i <;> simp
      rw [e]
      exact Nat.and_le_left
/-- Bounds of what agents have. -/
theorem com_bd {t : TermD} (ht : TermOk t) {price : Int} {m : Nat} (hp0 : 0 ≤ price) (hp : price ≤ 1048576) (hm : m ≤ 12) : 0 ≤ comV t price m ∧ comV t price m ≤ 12582912 := by
  obtain ⟨h1, h2⟩ := comV_bd (price := price) ht (Int.natCast_nonneg m) hp0
  have h3 : (m : Int) * price ≤ 12 * price := Int.mul_le_mul_of_nonneg_right (by omega) hp0
  omega
theorem term_at {d : RoyD} {g : Nat} {t : TermD} (h : d.terms[g]? = some t) : termN d g = t := getD_at h
theorem tot_bd {d : RoyD} (h : RoyOk d) {price : Int} (hp0 : 0 ≤ price) (hp : price ≤ 1048576) {n : Cts} (hn : ctOk n 12) : ∀ g, g ≤ d.terms.length → 0 ≤ totF d price n g ∧ totF d price n g ≤ 12582912 * (g : Int)
  | 0, _ => by simp [totF]
  | g + 1, hg => by
    have ih := tot_bd h hp0 hp hn g (by omega)
    obtain ⟨t, ht⟩ := ex_of (l := d.terms) (i := g) (by omega)
    have h4 := h.nt
    have h1 := com_bd (h.t t (List.mem_of_getElem? ht)) hp0 hp (hn g (by omega))
    have e : totF d price n (g + 1) = totF d price n g + comV t price (cget n g) := by rw [totF, getD_at ht]
    rw [e]
    omega
theorem com_facts {t : TermD} (ht : TermOk t) {price many : Int} (hp0 : 0 ≤ price) (hp1 : price ≤ 1048576) (h0 : 0 ≤ many) (h1 : many ≤ 12) :
    0 ≤ min many t.u ∧ min many t.u ≤ many ∧ (0 ≤ min many t.u * t.f ∧ min many t.u * t.f ≤ 1200) ∧ (0 ≤ (many - min many t.u) * t.b ∧ (many - min many t.u) * t.b ≤ 1200) ∧ (0 ≤ min many t.u * t.f + (many - min many t.u) * t.b ∧ min many t.u * t.f + (many - min many t.u) * t.b ≤ 1200) ∧
    0 ≤ (min many t.u * t.f + (many - min many t.u) * t.b) * price ∧ (min many t.u * t.f + (many - min many t.u) * t.b) * price ≤ 1258291200 := by
  have h2 := ht.f0; have h3 := ht.f1; have h4 := ht.b0; have h5 := ht.b1; have h6 := ht.u0
  have hb := perN_bd ht h0
  unfold perN at hb
  obtain ⟨m, hm⟩ : ∃ m, m = min many t.u := ⟨_, rfl⟩
  rw [← hm] at hb ⊢
  have a0 : 0 ≤ m := by omega
  have a1 : 0 ≤ many - m := by omega
  have b1 : 0 ≤ m * t.f := Int.mul_nonneg a0 h2
  have b2 : 0 ≤ (many - m) * t.b := Int.mul_nonneg a1 h4
  have b3 : m * t.f ≤ m * 100 := Int.mul_le_mul_of_nonneg_left h3 a0
  have b4 : (many - m) * t.b ≤ (many - m) * 100 := Int.mul_le_mul_of_nonneg_left h5 a1
  obtain ⟨s, hs⟩ : ∃ s, s = m * t.f + (many - m) * t.b := ⟨_, rfl⟩
  rw [← hs] at hb ⊢
  have c1 : 0 ≤ s * price := Int.mul_nonneg hb.1 hp0
  have c2 : s * price ≤ 1200 * price := Int.mul_le_mul_of_nonneg_right (by omega) hp0
  refine ⟨a0, by omega, ⟨b1, by omega⟩, ⟨b2, by omega⟩, ⟨hb.1, by omega⟩, c1, by omega⟩
end Go.RoyM

namespace Go.Proofs.YtccpgpnekoncoaaGreat
set_option maxRecDepth 100000
open Go Go.Sy Go.RoyM
theorem p84 (s n : Nat) (hs : s ≤ 4611686018427387904) (hn : n ≤ 64) (u : World) : Calls Tryz.prog 84 #[.int .u64 (s : Nat), .int .i64 (n : Nat)] u (Ret fun v w' => v = .bool (s.testBit n) ∧ Ext [] u w') := by
  refine calls_of Tryz.func84 rfl rfl (fun a hf => ?_)
  have hh := Hp.init u []
  refine sy_sq ?_
  refine o_v hf hh (yv_assign rfl) ?_; clear hf a; intro a hf
  refine o_end ?_
  refine sy_sq ?_
  refine o_v hf hh (yv_move rfl) ?_; clear hf a; intro a hf
  refine o_v hf hh (yv_move rfl) ?_; clear hf a; intro a hf
  refine o_v hf hh (yv_shrU rfl rfl hn) ?_; clear hf a; intro a hf
  refine o_v hf hh (yv_and1U rfl rfl (by omega)) ?_; clear hf a; intro a hf
  refine o_v hf hh (yv_bitU rfl rfl) ?_; clear hf a; intro a hf
  refine o_v hf hh (yv_assign rfl) ?_; clear hf a; intro a hf
  refine o_end ?_
  refine sy_ret ?_
  refine ret_r hf rfl rfl ?_
  exact ⟨rfl, hh.ext⟩
theorem p59 (d : RoyD) (x : RepD) (hx : RepOk d x) (u : World) : Calls Tryz.prog 117 #[rpV x] u (Ret fun v w' => v = .int .u64 (crd x : Nat) ∧ Ext [] u w') := by
  refine calls_of Tryz.func117 rfl rfl (fun a hf => ?_)
  have hh := Hp.init u []
  obtain ⟨q1, q2, e1, e2, hq1, hq2, e3⟩ := crd_pow hx
  have h1 := hx.f0; have h2 := hx.f1; have h3 := hx.l1
  refine sy_sq ?_
  refine o_box hf hh ?_; clear hf hh a; intro B1 a w hf hh
  refine o_v hf hh (yv_assign rfl) ?_; clear hf a; intro a hf
  refine o_end ?_
  refine sy_seq ?_
  refine sy_quiet (C := Hp _ _ _) Tryz.follows (by kernel_rfl) (hh.drawn _) ?_
  refine oq_v hf (yv_fieldAddr Tryz.fo_47_3 rfl) ?_; clear hf a; intro a hf
  refine oq_v hf (y_ld Tryz.sc_3 rfl) ?_; clear hf a; intro a hf
  refine oq_v hf (y_add rfl rfl) ?_; clear hf a; intro a hf
  refine oq_v hf (yv_cast (yv_shl1 (.inr rfl) rfl rfl (by omega) (by omega)) (intv (b := ((q2 : Nat) : Int)) (by rw [e2]))) ?_; clear hf a; intro a hf
  refine oq_v hf (yv_fieldAddr Tryz.fo_47_2 rfl) ?_; clear hf a; intro a hf
  refine oq_v hf (y_ld Tryz.sc_3 rfl) ?_; clear hf a; intro a hf
  refine oq_v hf (yv_cast (yv_shl1 (.inr rfl) rfl rfl (by omega) (by omega)) (intv (b := ((q1 : Nat) : Int)) (by rw [e1]))) ?_; clear hf a; intro a hf
  refine oq_v hf (yv_cast (yv_subx (.inr rfl) rfl rfl (by omega) (by simp only [IntKind.top]; omega)) (intv (b := ((crd x : Nat) : Int)) (by rw [e3]; omega))) ?_; clear hf a; intro a hf
  refine oq_v hf (yv_assign rfl) ?_; clear hf a; intro a hf
  refine q_end fun w hh => ?_
  refine then_n ?_
  refine sy_ret ?_
  refine ret_r hf rfl rfl ?_
  exact ⟨rfl, hh.ext⟩
theorem c113 (x : Nat) (hx : x < 65536) (w : World) : Calls Tryz.prog 119 #[.int .u64 x] w (Ret fun v w' => v = .int .i64 (pc x) ∧ Ext [] w w') := by
  refine calls_of Tryz.func119 rfl rfl (fun a hf => ?_)
  have hh := Hp.init w []
  have k1 := sw1_le x hx; have k2 := sw2_le x hx; have k3 := sw3_le x hx; have k4 := sw4_le x hx; have k5 := sw5_le x hx; have k6 := sw6_le x hx
  have n0 := @Nat.and_le_left (x / 2) 6148914691236517205
  have n1 := @Nat.and_le_left (x) 6148914691236517205
  have n2 := @Nat.and_le_left (sw1 x / 4) 3689348814741910323
  have n3 := @Nat.and_le_left (sw1 x) 3689348814741910323
  refine sy_sq ?_
  refine o_v hf hh (yv_assign rfl) ?_; clear hf a; intro a hf
  refine o_end ?_
  refine sy_sq ?_
  refine o_v hf hh (yv_move rfl) ?_; clear hf a; intro a hf
  refine ops_v hf hh (yv_cast (yv_shrx (.inr rfl) rfl rfl (by omega) (by omega) (by omega)) (intv (b := (((x) / 2 : Nat) : Int)) (by simp [Nat.shiftRight_eq_div_pow]))) (.inl rfl) rfl rfl rfl ?_; clear hf; clear a; intro a hf
  refine ops_v hf hh (yv_cast (yv_and (.inr rfl) rfl rfl (by omega) (by simp only [IntKind.top]; omega) (by omega) (by simp only [IntKind.top]; omega)) (intv (b := ((x / 2 &&& 6148914691236517205 : Nat) : Int)) rfl)) (.inl rfl) rfl rfl rfl ?_; clear hf; clear a; intro a hf
  refine o_v hf hh (yv_move rfl) ?_; clear hf a; intro a hf
  refine ops_v hf hh (yv_cast (yv_and (.inr rfl) rfl rfl (by omega) (by simp only [IntKind.top]; omega) (by omega) (by simp only [IntKind.top]; omega)) (intv (b := ((x &&& 6148914691236517205 : Nat) : Int)) rfl)) (.inl rfl) rfl rfl rfl ?_; clear hf; clear a; intro a hf
  first | refine o_v hf hh (yv_addx (.inr rfl) rfl rfl (by omega) (by simp only [IntKind.top]; omega)) ?_; clear hf a; intro a hf | refine o_v hf hh (yv_bin rfl rfl rfl) ?_; clear hf a; intro a hf
  refine ops_v hf hh (yv_cast (yv_assign rfl) (intv (b := ((sw1 x : Nat) : Int)) rfl)) (.inl rfl) rfl rfl rfl ?_; clear hf; clear a; intro a hf
  refine o_end ?_
  refine sy_sq ?_
  refine o_v hf hh (yv_move rfl) ?_; clear hf a; intro a hf
  refine ops_v hf hh (yv_cast (yv_shrx (.inr rfl) rfl rfl (by omega) (by omega) (by omega)) (intv (b := ((((sw1 x)) / 4 : Nat) : Int)) (by simp [Nat.shiftRight_eq_div_pow]))) (.inl rfl) rfl rfl rfl ?_; clear hf; clear a; intro a hf
  refine ops_v hf hh (yv_cast (yv_and (.inr rfl) rfl rfl (by omega) (by simp only [IntKind.top]; omega) (by omega) (by simp only [IntKind.top]; omega)) (intv (b := ((sw1 x / 4 &&& 3689348814741910323 : Nat) : Int)) rfl)) (.inl rfl) rfl rfl rfl ?_; clear hf; clear a; intro a hf
  refine o_v hf hh (yv_move rfl) ?_; clear hf a; intro a hf
  refine ops_v hf hh (yv_cast (yv_and (.inr rfl) rfl rfl (by omega) (by simp only [IntKind.top]; omega) (by omega) (by simp only [IntKind.top]; omega)) (intv (b := ((sw1 x &&& 3689348814741910323 : Nat) : Int)) rfl)) (.inl rfl) rfl rfl rfl ?_; clear hf; clear a; intro a hf
  first | refine o_v hf hh (yv_addx (.inr rfl) rfl rfl (by omega) (by simp only [IntKind.top]; omega)) ?_; clear hf a; intro a hf | refine o_v hf hh (yv_bin rfl rfl rfl) ?_; clear hf a; intro a hf
  refine ops_v hf hh (yv_cast (yv_assign rfl) (intv (b := ((sw2 (sw1 x) : Nat) : Int)) rfl)) (.inl rfl) rfl rfl rfl ?_; clear hf; clear a; intro a hf
  refine o_end ?_
  refine sy_sq ?_
  refine o_v hf hh (yv_move rfl) ?_; clear hf a; intro a hf
  refine ops_v hf hh (yv_cast (yv_shrx (.inr rfl) rfl rfl (by omega) (by omega) (by omega)) (intv (b := ((((sw2 (sw1 x))) / 16 : Nat) : Int)) (by simp [Nat.shiftRight_eq_div_pow]))) (.inl rfl) rfl rfl rfl ?_; clear hf; clear a; intro a hf
  refine o_v hf hh (yv_move rfl) ?_; clear hf a; intro a hf
  first | refine o_v hf hh (yv_addx (.inr rfl) rfl rfl (by omega) (by simp only [IntKind.top]; omega)) ?_; clear hf a; intro a hf | refine o_v hf hh (yv_bin rfl rfl rfl) ?_; clear hf a; intro a hf
  first | refine o_v hf hh (yv_and (.inr rfl) rfl rfl (by omega) (by simp only [IntKind.top]; omega) (by omega) (by simp only [IntKind.top]; omega)) ?_; clear hf a; intro a hf | refine o_v hf hh (yv_bin rfl rfl rfl) ?_; clear hf a; intro a hf
  refine ops_v hf hh (yv_cast (yv_assign rfl) (intv (b := ((sw3 (sw2 (sw1 x)) : Nat) : Int)) rfl)) (.inl rfl) rfl rfl rfl ?_; clear hf; clear a; intro a hf
  refine o_end ?_
  refine sy_sq ?_
  refine o_v hf hh (yv_move rfl) ?_; clear hf a; intro a hf
  refine o_v hf hh (yv_move rfl) ?_; clear hf a; intro a hf
  refine ops_v hf hh (yv_cast (yv_shrx (.inr rfl) rfl rfl (by omega) (by omega) (by omega)) (intv (b := ((((sw3 (sw2 (sw1 x)))) / 256 : Nat) : Int)) (by simp [Nat.shiftRight_eq_div_pow]))) (.inl rfl) rfl rfl rfl ?_; clear hf; clear a; intro a hf
  first | refine o_v hf hh (yv_addx (.inr rfl) rfl rfl (by omega) (by simp only [IntKind.top]; omega)) ?_; clear hf a; intro a hf | refine o_v hf hh (yv_bin rfl rfl rfl) ?_; clear hf a; intro a hf
  refine ops_v hf hh (yv_cast (yv_assign rfl) (intv (b := ((sw4 (sw3 (sw2 (sw1 x))) : Nat) : Int)) rfl)) (.inl rfl) rfl rfl rfl ?_; clear hf; clear a; intro a hf
  refine o_end ?_
  refine sy_sq ?_
  refine o_v hf hh (yv_move rfl) ?_; clear hf a; intro a hf
  refine o_v hf hh (yv_move rfl) ?_; clear hf a; intro a hf
  refine ops_v hf hh (yv_cast (yv_shrx (.inr rfl) rfl rfl (by omega) (by omega) (by omega)) (intv (b := ((((sw4 (sw3 (sw2 (sw1 x))))) / 65536 : Nat) : Int)) (by simp [Nat.shiftRight_eq_div_pow]))) (.inl rfl) rfl rfl rfl ?_; clear hf; clear a; intro a hf
  first | refine o_v hf hh (yv_addx (.inr rfl) rfl rfl (by omega) (by simp only [IntKind.top]; omega)) ?_; clear hf a; intro a hf | refine o_v hf hh (yv_bin rfl rfl rfl) ?_; clear hf a; intro a hf
  refine ops_v hf hh (yv_cast (yv_assign rfl) (intv (b := ((sw5 (sw4 (sw3 (sw2 (sw1 x)))) : Nat) : Int)) rfl)) (.inl rfl) rfl rfl rfl ?_; clear hf; clear a; intro a hf
  refine o_end ?_
  refine sy_sq ?_
  refine o_v hf hh (yv_move rfl) ?_; clear hf a; intro a hf
  refine o_v hf hh (yv_move rfl) ?_; clear hf a; intro a hf
  refine ops_v hf hh (yv_cast (yv_shrx (.inr rfl) rfl rfl (by omega) (by omega) (by omega)) (intv (b := ((((sw5 (sw4 (sw3 (sw2 (sw1 x)))))) / 4294967296 : Nat) : Int)) (by simp [Nat.shiftRight_eq_div_pow]))) (.inl rfl) rfl rfl rfl ?_; clear hf; clear a; intro a hf
  first | refine o_v hf hh (yv_addx (.inr rfl) rfl rfl (by omega) (by simp only [IntKind.top]; omega)) ?_; clear hf a; intro a hf | refine o_v hf hh (yv_bin rfl rfl rfl) ?_; clear hf a; intro a hf
  refine ops_v hf hh (yv_cast (yv_assign rfl) (intv (b := ((sw6 (sw5 (sw4 (sw3 (sw2 (sw1 x))))) : Nat) : Int)) rfl)) (.inl rfl) rfl rfl rfl ?_; clear hf; clear a; intro a hf
  refine o_end ?_
  refine sy_sq ?_
  refine o_v hf hh (yv_move rfl) ?_; clear hf a; intro a hf
  first | refine o_v hf hh (yv_convx (.inl rfl) (by kernel_rfl) Tryz.un_3 rfl (by omega) (by simp only [IntKind.top]; omega)) ?_; clear hf a; intro a hf | refine o_v hf hh (yv_conv (by kernel_rfl) Tryz.un_3 rfl) ?_; clear hf a; intro a hf
  first | refine o_v hf hh (yv_and (.inl rfl) rfl rfl (by omega) (by simp only [IntKind.top]; omega) (by omega) (by simp only [IntKind.top]; omega)) ?_; clear hf a; intro a hf | refine o_v hf hh (yv_bin rfl rfl rfl) ?_; clear hf a; intro a hf
  refine o_v hf hh (yv_assign rfl) ?_; clear hf a; intro a hf
  refine o_end ?_
  refine sy_ret ?_
  refine ret_r hf rfl rfl ?_
  refine ⟨?_, hh.ext⟩
  rw [← sw_pc hx]
  exact intv (by unfold sw; rfl)
theorem c98 (x : Nat) (hx : x < 65536) (w : World) : Calls Tryz.prog 82 #[.int .u64 x] w (Ret fun v w' => v = .int .i64 (pc x) ∧ Ext [] w w') := by
  refine calls_of Tryz.func82 rfl rfl (fun a hf => ?_)
  have hh := Hp.init w []
  refine sy_sq ?_
  refine o_v hf hh (yv_assign rfl) ?_; clear hf a; intro a hf
  refine o_end ?_
  refine sy_seq ?_
  refine c_f hf ?_
  refine sy_skip ?_
  refine then_n ?_
  refine sy_sq ?_
  refine o_v hf hh (yv_move rfl) ?_; clear hf a; intro a hf
  refine o_call hf Tryz.en_119 rfl rfl rfl (c113 x hx _) ?_; clear hf a; intro v a w hR hf
  obtain ⟨rfl, hx⟩ := hR; replace hh := hh.more hx; clear hx
  refine o_v hf hh (yv_assign rfl) ?_; clear hf a; intro a hf
  refine o_end ?_
  refine sy_ret ?_
  refine ret_r hf rfl rfl ?_
  exact ⟨rfl, hh.ext⟩
theorem p71 (x : Nat) (hx : x < 65536) (w : World) : Calls Tryz.prog 46 #[.int .u64 (x : Nat)] w (Ret fun v w' => v = .int .i64 (pc x : Nat) ∧ Ext [] w w') := by
  refine calls_of Tryz.func46 rfl rfl (fun a hf => ?_)
  have hh := Hp.init w []
  refine sy_sq ?_
  refine o_v hf hh (yv_assign rfl) ?_; clear hf a; intro a hf
  refine o_end ?_
  refine sy_sq ?_
  refine o_v hf hh (yv_move rfl) ?_; clear hf a; intro a hf
  refine o_call hf Tryz.en_82 rfl rfl rfl (c98 x hx _) ?_; clear hf a; intro v a w hR hf
  obtain ⟨rfl, hx⟩ := hR; replace hh := hh.more hx; clear hx
  refine o_v hf hh (yv_assign rfl) ?_; clear hf a; intro a hf
  refine o_end ?_
  refine sy_ret ?_
  refine ret_r hf rfl rfl ?_
  exact ⟨rfl, hh.ext⟩
theorem p96 (d : RoyD) (p : Pl) (Bc : Nat) (u : World) (hB : u.heap[Bc]? = some (.cells (royC d p) 89 (0, 0))) (hT : TAt 4 rpC u p.sr d.reps) (hr4 : d.reps.length ≤ 1000) (hO : RoyOk d) (k : Int) : Calls Tryz.prog 81 #[ptr Bc 0, .int .i64 k] u (Ret fun v w' => v = .agg (clmC d.reps k) ∧ Ext [] u w') := by
  refine calls_of Tryz.func81 rfl rfl (fun a hf => ?_)
  have hh := Hp.init u []
  obtain ⟨st, sp, ss, sr, sd, ct, cp, cs, cr, cd⟩ := p
  refine sy_sq ?_
  refine o_alloc hf hh Tryz.ze_155 ?_; clear hf hh a; intro B4 a w hf hh
  refine o_end ?_
  refine sy_seq ?_
  refine sy_sq ?_
  refine o_v hf hh (yv_move rfl) ?_; clear hf a; intro a hf
  refine o_v hf hh (yv_nilCheck rfl) ?_; clear hf a; intro a hf
  refine o_v hf hh (yv_fieldAddr Tryz.fo_89_0 rfl) ?_; clear hf a; intro a hf
  refine o_v hf hh (yv_fieldAddr Tryz.fo_45_3 rfl) ?_; clear hf a; intro a hf
  refine o_v hf hh (y_ld Tryz.sc_43 rfl) ?_; clear hf a; intro a hf
  refine o_v hf hh (yv_len Tryz.se_43 rfl) ?_; clear hf a; intro a hf
  refine o_v hf hh (yv_move rfl) ?_; clear hf a; intro a hf
  refine o_end ?_
  refine sy_block ?_
  refine sy_loopH (σ := Nat) [6, 13, 14, 15, 16, 17, 18, 19, 20, 21, 22, 23, 24, 25, 26, 27, 28, 29] (fun i => [(13, .int .i64 i)]) (fun i => fun w' => i ≤ d.reps.length ∧ Hp u [] [(B4, .cells (clmC (d.reps.take i) k) 155)] w') (fun i => d.reps.length - i) (0) hf ?_ ?_ ?_
  · repeat' (first | exact True.intro | refine And.intro rfl ?_)
  · exact ⟨Nat.zero_le _, hh⟩
  ·rintro i a w ⟨hi, hh⟩ hf
   refine sy_sq ?_
   refine o_v hf hh (yv_bin rfl rfl rfl) ?_; clear hf a; intro a hf
   refine o_end ?_
   refine sy_seq ?_
   refine sy_cond hf rfl (fun hg2 => ?_) (fun hg2 => ?_)
   ·have hG2 := hg2; try simp only [gS] at hG2
    refine sy_skip ?_
    refine then_n ?_
    refine sy_seq ?_
    refine sy_block ?_
    refine sy_seq ?_
    obtain ⟨m, hm⟩ := ex_of (l := d.reps) (i := i) (by omega)
    obtain ⟨blk, off, cc, T, fr, e, hb, hc⟩ := hT i m hm; dsimp only at e; subst e
    have hmo := hO.r m (List.mem_of_getElem? hm)
    have hcl : ∀ x ∈ d.reps.take i, crd x < 4096 := fun x hx => crd_lt (hO.r x (List.mem_of_mem_take hx))
    obtain ⟨g, hg⟩ : ∃ g : Nat, m.ag = (g : Int) := ⟨m.ag.toNat, by have := hmo.a0; omega⟩
    have h4 : g < 4 := by have := hmo.a1; have := hO.nt; omega
    have hcg := clmC_at (d.reps.take i) k h4
    obtain ⟨ag, kd, fi, la⟩ := m; dsimp only at hg; subst hg
    have ea : (RepD.mk (g : Int) kd fi la).ag = (g : Int) := rfl
    refine sy_ops ?_
    refine o_v hf hh (y_ix Tryz.se_43 rfl rfl) ?_; clear hf a; intro a hf
    refine o_v hf hh (y_lds Tryz.ag_47 rfl) ?_; clear hf a; intro a hf
    refine o_alloc hf hh Tryz.ze_47 ?_; clear hf hh a; intro B6 a w hf hh
    refine o_store hf hh Tryz.sz_47 fun w hh => ?_
    refine o_end ?_
    refine sy_sq ?_
    refine o_v hf hh (yv_fieldAddr Tryz.fo_47_1 rfl) ?_; clear hf a; intro a hf
    refine o_v hf hh (y_ld Tryz.sc_3 rfl) ?_; clear hf a; intro a hf
    refine o_v hf hh (yv_move rfl) ?_; clear hf a; intro a hf
    refine o_v hf hh (yv_bin rfl rfl rfl) ?_; clear hf a; intro a hf
    refine o_end ?_
    refine sy_cond hf rfl (fun hg4 => ?_) (fun hg4 => ?_)
    ·have hG4 := hg4; try simp only [gS] at hG4
     refine sy_tree1 (.p 0 (.q 0 1 (.p 2 (.q 0 3 (.q 0 4 (.e1 5 (.p 6 (.p 7 (.e1 8 (.fin)))))))))) [8] Tryz.follows (by kernel_rfl) hh (fun w hh => ?_)
     refine mc_p rfl   hf (yv_fieldAddr Tryz.fo_47_0 rfl) (.inl rfl) rfl rfl ?_; clear hf a; intro a hf
     refine mc_q rfl rfl hh hf (y_ld Tryz.sc_3 rfl) (.inl rfl) rfl rfl ?_; clear hf a; intro a hf
     refine mc_p rfl   hf (y_ia Tryz.ae_155 rfl rfl) (.inl rfl) rfl rfl ?_; clear hf a; intro a hf
     refine mc_q rfl rfl hh hf (y_ld Tryz.sc_91 rfl) (.inl rfl) rfl rfl ?_; clear hf a; intro a hf
     refine mc_q rfl rfl hh hf (y_lds Tryz.ag_47 rfl) (.inl rfl) rfl rfl ?_; clear hf a; intro a hf
     refine mc_e rfl fun Q1 => ?_
     refine o_call hf Tryz.en_117 rfl rfl rfl (p59 d _ hmo _) ?_; clear hf a; intro v a w hR hf
     obtain ⟨rfl, hx⟩ := hR; replace hh := hh.more hx; clear hx
     refine ops_end ?_
     refine then_n ⟨⟨fun _ _ => hh, trivial⟩, ?_⟩
     refine mc_p rfl   hf (yv_orU rfl rfl (by have := clmL_lt hcl k g; omega) (by have := crd_lt hmo; omega)) (.inl rfl) rfl rfl ?_; clear hf a; intro a hf
     refine mc_p rfl   hf (y_ia Tryz.ae_155 rfl rfl) (.inl rfl) rfl rfl ?_; clear hf a; intro a hf
     refine mc_e rfl fun Q1 => ?_
     refine o_store (i := 1) hf hh Tryz.sz_91 (hx := rfl) (hi := atI (i := 1) rfl) (hy := rfl) (hl := Nat.ble_eq_true_of_le (by rw [Int.toNat_natCast]; show _ ≤ 4; omega)) fun w hh => ?_
     refine ops_end ?_
     refine then_n ⟨⟨fun h => Bool.noConfusion (show true = false from h), trivial⟩, ?_⟩
     refine mc_end ?_
     refine blk_n ?_
     refine then_n ?_
     refine sy_ops ?_
     refine o_v hf hh (y_add rfl rfl) ?_; clear hf a; intro a hf
     refine o_v hf hh (yv_move rfl) ?_; clear hf a; intro a hf
     refine ops_end ?_
     refine then_n ?_
     first
       | exact ⟨i + 1, ⟨⟨by omega, Hp.headEq (hh.less (.cons _ (.refl _))) (clmC_other hm (by assumption))⟩, (hf.head (by repeat' (first | exact True.intro | refine And.intro rfl ?_)) (Keep.cons rfl (Keep.cons rfl (Keep.cons rfl (Keep.cons rfl (Keep.cons rfl (Keep.cons rfl (Keep.cons rfl (Keep.cons rfl (Keep.cons rfl (Keep.cons rfl (Keep.cons rfl (Keep.cons rfl (Keep.cons rfl (Keep.cons rfl (Keep.cons rfl (Keep.cons rfl (Keep.cons rfl (Keep.cons rfl (Keep.app rfl (Keep.rm rfl Keep.base)))))))))))))))))))))⟩, by omega⟩
       | exact ⟨i + 1, ⟨⟨by omega, Hp.headEq (hh.less (.cons _ (.refl _))) (clmC_put hm (by assumption) rfl h4)⟩, (hf.head (by repeat' (first | exact True.intro | refine And.intro rfl ?_)) (Keep.cons rfl (Keep.cons rfl (Keep.cons rfl (Keep.cons rfl (Keep.cons rfl (Keep.cons rfl (Keep.cons rfl (Keep.cons rfl (Keep.cons rfl (Keep.cons rfl (Keep.cons rfl (Keep.cons rfl (Keep.cons rfl (Keep.cons rfl (Keep.cons rfl (Keep.cons rfl (Keep.cons rfl (Keep.cons rfl (Keep.app rfl (Keep.rm rfl Keep.base)))))))))))))))))))))⟩, by omega⟩
    ·have hG4 := hg4; try simp only [gS] at hG4
     refine sy_skip ?_
     refine blk_n ?_
     refine then_n ?_
     refine sy_ops ?_
     refine o_v hf hh (y_add rfl rfl) ?_; clear hf a; intro a hf
     refine o_v hf hh (yv_move rfl) ?_; clear hf a; intro a hf
     refine ops_end ?_
     refine then_n ?_
     first
       | exact ⟨i + 1, ⟨⟨by omega, Hp.headEq (hh.less (.cons _ (.refl _))) (clmC_other hm (by assumption))⟩, (hf.head (by repeat' (first | exact True.intro | refine And.intro rfl ?_)) (Keep.cons rfl (Keep.cons rfl (Keep.cons rfl (Keep.cons rfl (Keep.cons rfl (Keep.cons rfl (Keep.cons rfl (Keep.cons rfl (Keep.cons rfl (Keep.cons rfl (Keep.app rfl (Keep.rm rfl Keep.base)))))))))))))⟩, by omega⟩
       | exact ⟨i + 1, ⟨⟨by omega, Hp.headEq (hh.less (.cons _ (.refl _))) (clmC_put hm (by assumption) rfl h4)⟩, (hf.head (by repeat' (first | exact True.intro | refine And.intro rfl ?_)) (Keep.cons rfl (Keep.cons rfl (Keep.cons rfl (Keep.cons rfl (Keep.cons rfl (Keep.cons rfl (Keep.cons rfl (Keep.cons rfl (Keep.cons rfl (Keep.cons rfl (Keep.app rfl (Keep.rm rfl Keep.base)))))))))))))⟩, by omega⟩
   ·have hG2 := hg2; try simp only [gS] at hG2
    refine sy_exit ?_
    refine then_e ?_
    refine then_e ?_
    refine blk_e ?_
    refine then_n ?_
    refine sy_sq ?_
    refine o_v hf hh (y_lds Tryz.ag_155 rfl) ?_; clear hf a; intro a hf
    refine o_store hf hh Tryz.sz_155 fun w hh => ?_
    refine o_end ?_
    refine sy_ret ?_
    refine ret_c (vs := [.agg (clmC d.reps k)]) hf ?_ ?_
    obtain rfl : i = d.reps.length := by omega
    rw [List.take_length] at hh
    · exact ⟨⟨B4, 0, _, _, _, rfl, hh.at (i := 0) rfl, .inr ⟨4, _, Tryz.ag_155, rfl, rfl⟩⟩, True.intro⟩
    · exact ⟨rfl, hh.ext⟩
theorem p65 (d : RoyD) (p : Pl) (Bc : Nat) (u : World) (hB : u.heap[Bc]? = some (.cells (royC d p) 89 (0, 0))) (hR : RoyAt u d p) (hO : RoyOk d) (g : Nat) (h4 : g < 4) (k : Int) : Calls Tryz.prog 45 #[ptr Bc 0, .int .i64 (g : Nat), .int .i64 k] u (Ret fun v w' => v = .tuple #[.int .u64 (surN d k g : Nat), .int .u64 (clm d k g : Nat)] ∧ Ext [] u w') := by
  refine calls_of Tryz.func45 rfl rfl (fun a hf => ?_)
  have hh := Hp.init u []
  have hcg := clmC_at d.reps k h4
  refine sy_sq ?_
  refine o_v hf hh (yv_assign rfl) ?_; clear hf a; intro a hf
  refine o_v hf hh (yv_assign rfl) ?_; clear hf a; intro a hf
  refine o_end ?_
  refine sy_sq ?_
  refine o_v hf hh (yv_move rfl) ?_; clear hf a; intro a hf
  refine o_v hf hh (yv_move rfl) ?_; clear hf a; intro a hf
  refine o_call hf Tryz.en_81 rfl rfl rfl (p96 d p Bc _ (hh.old hB) (hR.rp.ext hh.ext) hR.n4 hO k) ?_; clear hf a; intro v a w hR hf
  obtain ⟨rfl, hx⟩ := hR; replace hh := hh.more hx; clear hx
  refine o_alloc hf hh Tryz.ze_155 ?_; clear hf hh a; intro B8 a w hf hh
  refine o_store hf hh Tryz.sz_155 fun w hh => ?_
  refine o_end ?_
  refine sy_sq ?_
  refine o_v hf hh (yv_move rfl) ?_; clear hf a; intro a hf
  refine o_v hf hh (y_ia Tryz.ae_155 rfl rfl) ?_; clear hf a; intro a hf
  refine o_v hf hh (y_ld Tryz.sc_91 rfl) ?_; clear hf a; intro a hf
  refine o_v hf hh (yv_assign rfl) ?_; clear hf a; intro a hf
  refine o_end ?_
  refine sy_sq ?_
  refine o_v hf hh (yv_move rfl) ?_; clear hf a; intro a hf
  refine o_v hf hh (yv_assign rfl) ?_; clear hf a; intro a hf
  refine o_end ?_
  refine sy_seq ?_
  refine sy_sq ?_
  refine o_v hf hh (y_lds Tryz.ag_155 rfl) ?_; clear hf a; intro a hf
  refine o_v hf hh (yv_move rfl) ?_; clear hf a; intro a hf
  refine o_end ?_
  refine sy_block ?_
  refine sy_loopF (σ := Nat) [6, 9, 10, 19, 20, 21, 22, 23, 24, 25, 26, 27, 28, 29] (fun i => [(6, .int .u64 (surT d k g i : Nat)), (19, .int .i64 i)]) (fun i => i ≤ 4) (fun i => 4 - i) (0) hf hh ?_ ?_ ?_
  · repeat' (first | exact True.intro | refine And.intro rfl ?_)
  · omega
  ·rintro i a w hi hf hh
   refine sy_sq ?_
   refine o_v hf hh (yv_bin rfl rfl rfl) ?_; clear hf a; intro a hf
   refine o_end ?_
   refine sy_seq ?_
   refine sy_cond hf rfl (fun hg3 => ?_) (fun hg3 => ?_)
   ·have hG3 := hg3; try simp only [gS] at hG3
    refine sy_skip ?_
    refine then_n ?_
    refine sy_seq ?_
    refine sy_block ?_
    refine sy_seq ?_
    have hci := clmC_at0 d.reps k (show i < 4 by omega)
    refine sy_ops ?_
    refine o_v hf hh (yv_move rfl) ?_; clear hf a; intro a hf
    refine o_v hf hh (yv_idxS Tryz.ae_155 Tryz.sc_91 rfl rfl hci) ?_; clear hf a; intro a hf
    refine o_v hf hh (yv_assign rfl) ?_; clear hf a; intro a hf
    refine o_v hf hh (yv_assign rfl) ?_; clear hf a; intro a hf
    refine o_end ?_
    refine sy_sq ?_
    refine o_v hf hh (yv_move rfl) ?_; clear hf a; intro a hf
    refine o_v hf hh (yv_move rfl) ?_; clear hf a; intro a hf
    refine o_v hf hh (yv_bin rfl rfl rfl) ?_; clear hf a; intro a hf
    refine o_end ?_
    refine sy_cond hf rfl (fun hg6 => ?_) (fun hg6 => ?_)
    ·have hG6 := hg6; try simp only [gS] at hG6
     refine sy_ops ?_
     refine o_v hf hh (yv_move rfl) ?_; clear hf a; intro a hf
     refine o_v hf hh (yv_move rfl) ?_; clear hf a; intro a hf
     refine o_v hf hh (yv_cast (yv_andn (.inr rfl) rfl rfl (by omega) (by simp only [IntKind.top]; have := surT_le d k g i; have := clm_lt12 hO k g; omega) (by omega) (by simp only [IntKind.top]; rw [clmL_all]; have := clm_lt12 hO k i; omega)) (intv (b := ((surT d k g i ^^^ (surT d k g i &&& clm d k i) : Nat) : Int)) (by rw [Int.toNat_natCast, Int.toNat_natCast]; rfl))) ?_; clear hf a; intro a hf
     refine o_v hf hh (yv_assign rfl) ?_; clear hf a; intro a hf
     refine ops_end ?_
     refine blk_n ?_
     refine then_n ?_
     refine sy_ops ?_
     refine o_v hf hh (y_add rfl rfl) ?_; clear hf a; intro a hf
     refine o_v hf hh (yv_move rfl) ?_; clear hf a; intro a hf
     refine ops_end ?_
     refine then_n ?_
     first
       | exact ⟨i + 1, ⟨by omega, hf.head ⟨congrArg (fun z => some (Value.int IntKind.u64 ((z : Nat) : Int))) (by rw [surT, if_pos (by omega)]), rfl, True.intro⟩ (Keep.cons rfl (Keep.cons rfl (Keep.cons rfl (Keep.cons rfl (Keep.cons rfl (Keep.cons rfl (Keep.cons rfl (Keep.cons rfl (Keep.cons rfl (Keep.cons rfl (Keep.cons rfl (Keep.cons rfl (Keep.cons rfl (Keep.cons rfl (Keep.app rfl (Keep.rm rfl Keep.base)))))))))))))))), hh⟩, by omega⟩
       | exact ⟨i + 1, ⟨by omega, hf.head ⟨congrArg (fun z => some (Value.int IntKind.u64 ((z : Nat) : Int))) (by rw [surT, if_neg (by omega)]), rfl, True.intro⟩ (Keep.cons rfl (Keep.cons rfl (Keep.cons rfl (Keep.cons rfl (Keep.cons rfl (Keep.cons rfl (Keep.cons rfl (Keep.cons rfl (Keep.cons rfl (Keep.cons rfl (Keep.cons rfl (Keep.cons rfl (Keep.cons rfl (Keep.cons rfl (Keep.app rfl (Keep.rm rfl Keep.base)))))))))))))))), hh⟩, by omega⟩
    ·have hG6 := hg6; try simp only [gS] at hG6
     refine sy_skip ?_
     refine blk_n ?_
     refine then_n ?_
     refine sy_ops ?_
     refine o_v hf hh (y_add rfl rfl) ?_; clear hf a; intro a hf
     refine o_v hf hh (yv_move rfl) ?_; clear hf a; intro a hf
     refine ops_end ?_
     refine then_n ?_
     first
       | exact ⟨i + 1, ⟨by omega, hf.head ⟨congrArg (fun z => some (Value.int IntKind.u64 ((z : Nat) : Int))) (by rw [surT, if_pos (by omega)]), rfl, True.intro⟩ (Keep.cons rfl (Keep.cons rfl (Keep.cons rfl (Keep.cons rfl (Keep.cons rfl (Keep.cons rfl (Keep.cons rfl (Keep.cons rfl (Keep.cons rfl (Keep.cons rfl (Keep.app rfl (Keep.rm rfl Keep.base)))))))))))), hh⟩, by omega⟩
       | exact ⟨i + 1, ⟨by omega, hf.head ⟨congrArg (fun z => some (Value.int IntKind.u64 ((z : Nat) : Int))) (by rw [surT, if_neg (by omega)]), rfl, True.intro⟩ (Keep.cons rfl (Keep.cons rfl (Keep.cons rfl (Keep.cons rfl (Keep.cons rfl (Keep.cons rfl (Keep.cons rfl (Keep.cons rfl (Keep.cons rfl (Keep.cons rfl (Keep.app rfl (Keep.rm rfl Keep.base)))))))))))), hh⟩, by omega⟩
   ·have hG3 := hg3; try simp only [gS] at hG3
    refine sy_exit ?_
    refine then_e ?_
    refine then_e ?_
    refine blk_e ?_
    refine then_n ?_
    refine sy_sq ?_
    refine o_v hf hh (yv_move rfl) ?_; clear hf a; intro a hf
    refine o_v hf hh (yv_move rfl) ?_; clear hf a; intro a hf
    refine o_v hf hh (yv_assign rfl) ?_; clear hf a; intro a hf
    refine o_v hf hh (yv_assign rfl) ?_; clear hf a; intro a hf
    refine o_end ?_
    refine sy_ret ?_
    refine ret_r hf rfl rfl ?_
    obtain rfl : i = 4 := by omega
    exact ⟨rfl, hh.ext⟩
end Go.Proofs.YtccpgpnekoncoaaGreat

namespace Go.Proofs.YtccpgpnekoncoaaGreat
set_option maxRecDepth 100000
open Go Go.Sy Go.RoyM
theorem p53 (t : TermD) (ht : TermOk t) (price many : Int) (hp0 : 0 ≤ price) (hp1 : price ≤ 1048576) (hm0 : 0 ≤ many) (hm1 : many ≤ 12) (u : World) : Calls Tryz.prog 35 #[tmV t, .int .i64 price, .int .i64 many] u (Ret fun v w' => v = .int .i64 (comV t price many) ∧ Ext [] u w') := by
  refine calls_of Tryz.func35 rfl rfl (fun a hf => ?_)
  have hh := Hp.init u []
  obtain ⟨a1, a2, a3, a4, a5, a6, a7⟩ := com_facts ht hp0 hp1 hm0 hm1
  refine sy_sq ?_
  refine o_box hf hh ?_; clear hf hh a; intro B3 a w hf hh
  refine o_v hf hh (yv_assign rfl) ?_; clear hf a; intro a hf
  refine o_end ?_
  refine sy_sq ?_
  refine o_v hf hh (yv_move rfl) ?_; clear hf a; intro a hf
  refine o_v hf hh (yv_fieldAddr Tryz.fo_27_1 rfl) ?_; clear hf a; intro a hf
  refine o_v hf hh (y_ld Tryz.sc_3 rfl) ?_; clear hf a; intro a hf
  refine o_v hf hh (yv_min rfl rfl) ?_; clear hf a; intro a hf
  refine o_v hf hh (yv_assign rfl) ?_; clear hf a; intro a hf
  refine o_end ?_
  refine sy_sq ?_
  refine o_v hf hh (yv_move rfl) ?_; clear hf a; intro a hf
  refine o_v hf hh (yv_fieldAddr Tryz.fo_27_0 rfl) ?_; clear hf a; intro a hf
  refine o_v hf hh (y_ld Tryz.sc_3 rfl) ?_; clear hf a; intro a hf
  refine o_v hf hh (y_mul rfl rfl) ?_; clear hf a; intro a hf
  refine o_v hf hh (yv_move rfl) ?_; clear hf a; intro a hf
  refine o_v hf hh (yv_move rfl) ?_; clear hf a; intro a hf
  refine o_v hf hh (y_sub rfl rfl) ?_; clear hf a; intro a hf
  refine o_v hf hh (yv_fieldAddr Tryz.fo_27_2 rfl) ?_; clear hf a; intro a hf
  refine o_v hf hh (y_ld Tryz.sc_3 rfl) ?_; clear hf a; intro a hf
  refine o_v hf hh (y_mul rfl rfl) ?_; clear hf a; intro a hf
  refine o_v hf hh (y_add rfl rfl) ?_; clear hf a; intro a hf
  refine o_v hf hh (yv_move rfl) ?_; clear hf a; intro a hf
  refine o_v hf hh (y_mul rfl rfl) ?_; clear hf a; intro a hf
  refine o_v hf hh (yv_quo rfl rfl (by omega) (by omega) (by omega)) ?_; clear hf a; intro a hf
  refine o_v hf hh (yv_assign rfl) ?_; clear hf a; intro a hf
  refine o_end ?_
  refine sy_ret ?_
  refine ret_r hf rfl rfl ?_
  exact ⟨rfl, hh.ext⟩
theorem p85 (n : Cts) (g : Nat) (h4 : g < 4) (hn : cget n g ≤ 1000000) (u : World) : Calls Tryz.prog 85 #[.agg (ctC n), .int .i64 (g : Nat)] u (Ret fun v w' => v = .agg (ctC (cinc n g)) ∧ Ext [] u w') := by
  refine calls_of Tryz.func85 rfl rfl (fun a hf => ?_)
  have hh := Hp.init u []
  have hcg := ctC_at n h4
  refine sy_sq ?_
  refine o_box hf hh ?_; clear hf hh a; intro B2 a w hf hh
  refine o_alloc hf hh Tryz.ze_101 ?_; clear hf hh a; intro B4 a w hf hh
  refine o_end ?_
  refine sy_sq ?_
  refine o_v hf hh (yv_move rfl) ?_; clear hf a; intro a hf
  refine o_v hf hh (y_ia Tryz.ae_101 rfl rfl) ?_; clear hf a; intro a hf
  refine o_v hf hh (y_ld Tryz.sc_3 rfl) ?_; clear hf a; intro a hf
  refine o_v hf hh (y_add rfl rfl) ?_; clear hf a; intro a hf
  refine o_v hf hh (y_ia Tryz.ae_101 rfl rfl) ?_; clear hf a; intro a hf
  refine o_store (i := 1) hf hh Tryz.sz_3 (hx := rfl) (hi := atI (i := 1) rfl) (hy := rfl) (hl := Nat.ble_eq_true_of_le (by rw [Int.toNat_natCast]; show _ ≤ 4; omega)) fun w hh => ?_
  obtain ⟨B4z, e4⟩ : ∃ z, z = B4 := ⟨_, rfl⟩
  replace hh := Hp.headEq (hh.perm (.swap _ _ _)) (ctC_put n h4)
  refine o_end ?_
  refine sy_sq ?_
  refine o_v hf hh (y_lds Tryz.ag_101 rfl) ?_; clear hf a; intro a hf
  refine o_store hf hh Tryz.sz_101 fun w hh => ?_
  refine o_end ?_
  refine sy_ret ?_
  refine ret_c (vs := [.agg (ctC (cinc n g))]) hf ?_ ?_
  · exact ⟨⟨B4, 0, _, _, _, rfl, hh.at (i := 1) rfl, .inr ⟨4, _, Tryz.ag_101, rfl, rfl⟩⟩, True.intro⟩
  · exact ⟨rfl, hh.ext⟩
theorem p78 (d : RoyD) (p : Pl) (Bc : Nat) (u : World) (hB : u.heap[Bc]? = some (.cells (royC d p) 89 (0, 0))) (hR : RoyAt u d p) (hO : RoyOk d) (k : Nat) (x : Int) (hk : d.prices[k]? = some x) (n : Cts) (hn : ctOk n 12) : Calls Tryz.prog 53 #[ptr Bc 0, .int .i64 (k : Nat), .agg (ctC n)] u (Ret fun v w' => v = .int .i64 (totV d x n) ∧ Ext [] u w') := by
  refine calls_of Tryz.func53 rfl rfl (fun a hf => ?_)
  have hh := Hp.init u []
  obtain ⟨st, sp, ss, sr, sd, ct, cp, cs, cr, cd⟩ := p
  have hr4 := hR.n1; have hr2 := hR.n2; have hkl := len_of hk
  have hx := hO.p x (List.mem_of_getElem? hk)
  have hnt := hO.nt
  refine sy_sq ?_
  refine o_box hf hh ?_; clear hf hh a; intro B5 a w hf hh
  refine o_v hf hh (yv_assign rfl) ?_; clear hf a; intro a hf
  refine o_end ?_
  refine sy_seq ?_
  refine sy_sq ?_
  refine o_v hf hh (yv_move rfl) ?_; clear hf a; intro a hf
  refine o_v hf hh (yv_nilCheck rfl) ?_; clear hf a; intro a hf
  refine o_v hf hh (yv_fieldAddr Tryz.fo_89_0 rfl) ?_; clear hf a; intro a hf
  refine o_v hf hh (yv_fieldAddr Tryz.fo_45_0 rfl) ?_; clear hf a; intro a hf
  refine o_v hf hh (y_ld Tryz.sc_41 rfl) ?_; clear hf a; intro a hf
  refine o_v hf hh (yv_len Tryz.se_41 rfl) ?_; clear hf a; intro a hf
  refine o_v hf hh (yv_move rfl) ?_; clear hf a; intro a hf
  refine o_end ?_
  refine sy_block ?_
  refine sy_loopF (σ := Nat) [6, 7, 8, 15, 16, 17, 18, 19, 20, 21, 22, 23, 24, 25, 26, 27, 28, 29, 30, 31, 32, 33, 34, 35] (fun i => [(6, .int .i64 (totF d x n i)), (15, .int .i64 i)]) (fun i => i ≤ d.terms.length) (fun i => d.terms.length - i) (0) hf hh ?_ ?_ ?_
  · repeat' (first | exact True.intro | refine And.intro rfl ?_)
  · exact Nat.zero_le _
  ·rintro i a w hi hf hh
   refine sy_sq ?_
   refine o_v hf hh (yv_bin rfl rfl rfl) ?_; clear hf a; intro a hf
   refine o_end ?_
   refine sy_seq ?_
   refine sy_cond hf rfl (fun hg2 => ?_) (fun hg2 => ?_)
   ·have hG2 := hg2; try simp only [gS] at hG2
    refine sy_skip ?_
    refine then_n ?_
    refine sy_seq ?_
    refine sy_block ?_
    refine sy_seq ?_
    obtain ⟨m, hm⟩ := ex_of (l := d.terms) (i := i) (by omega)
    obtain ⟨blk, off, cc, T, fr, e, hb, hc⟩ := hR.tm i m hm; dsimp only at e; subst e
    have hmo := hO.t m (List.mem_of_getElem? hm)
    obtain ⟨blk2, off2, cc2, T2, fr2, e2, hb2, hc2⟩ := hR.pr k x hk; dsimp only at e2; subst e2
    have hcn := ctC_at n (show i < 4 by omega)
    have hcm := hn i (by omega)
    have h0 := tot_bd hO hx.1 hx.2 hn i (by omega)
    have h1 := tot_bd hO hx.1 hx.2 hn (i + 1) (by omega)
    have h2 := com_bd hmo hx.1 hx.2 hcm
    have e9 : totF d x n (i + 1) = totF d x n i + comV m x (cget n i) := by rw [totF, getD_at hm]
    refine sy_ops ?_
    refine o_v hf hh (yv_move rfl) ?_; clear hf a; intro a hf
    refine o_v hf hh (y_ix Tryz.se_41 rfl rfl) ?_; clear hf a; intro a hf
    refine o_v hf hh (y_lds Tryz.ag_27 rfl) ?_; clear hf a; intro a hf
    refine o_alloc hf hh Tryz.ze_27 ?_; clear hf hh a; intro B8 a w hf hh
    refine o_v hf hh (yv_assign rfl) ?_; clear hf a; intro a hf
    refine o_store hf hh Tryz.sz_27 fun w hh => ?_
    refine o_end ?_
    refine sy_tree1 (.p 0 (.q 0 1 (.p 2 (.p 3 (.p 4 (.p 5 (.q 0 6 (.p 7 (.p 8 (.q 0 9 (.p 10 (.p 11 (.q 0 12 (.e1 13 (.p 14 (.p 15 (.fin))))))))))))))))) [] Tryz.follows (by kernel_rfl) hh (fun w hh => ?_)
    refine mc_p rfl   hf (yv_move rfl) (.inl rfl) rfl rfl ?_; clear hf a; intro a hf
    refine mc_q rfl rfl hh hf (y_lds Tryz.ag_27 rfl) (.inl rfl) rfl rfl ?_; clear hf a; intro a hf
    refine mc_p rfl   hf (yv_move rfl) (.inl rfl) rfl rfl ?_; clear hf a; intro a hf
    refine mc_p rfl   hf (yv_nilCheck rfl) (.inl rfl) rfl rfl ?_; clear hf a; intro a hf
    refine mc_p rfl   hf (yv_fieldAddr Tryz.fo_89_0 rfl) (.inl rfl) rfl rfl ?_; clear hf a; intro a hf
    refine mc_p rfl   hf (yv_fieldAddr Tryz.fo_45_1 rfl) (.inl rfl) rfl rfl ?_; clear hf a; intro a hf
    refine mc_q rfl rfl hh hf (y_ld Tryz.sc_28 rfl) (.inl rfl) rfl rfl ?_; clear hf a; intro a hf
    refine mc_p rfl   hf (yv_move rfl) (.inl rfl) rfl rfl ?_; clear hf a; intro a hf
    refine mc_p rfl   hf (y_ix Tryz.se_28 rfl rfl) (.inl rfl) rfl rfl ?_; clear hf a; intro a hf
    refine mc_q rfl rfl hh hf (y_ld Tryz.sc_3 rfl) (.inl rfl) rfl rfl ?_; clear hf a; intro a hf
    refine mc_p rfl   hf (yv_move rfl) (.inl rfl) rfl rfl ?_; clear hf a; intro a hf
    refine mc_p rfl   hf (y_ia Tryz.ae_101 rfl rfl) (.inl rfl) rfl rfl ?_; clear hf a; intro a hf
    refine mc_q rfl rfl hh hf (y_ld Tryz.sc_3 rfl) (.inl rfl) rfl rfl ?_; clear hf a; intro a hf
    refine mc_e rfl fun Q1 => ?_
    refine o_call hf Tryz.en_35 rfl rfl rfl (p53 m hmo x _ hx.1 hx.2 (by omega) (by omega) _) ?_; clear hf a; intro v a w hR hf
    obtain ⟨rfl, hx⟩ := hR; replace hh := hh.more hx; clear hx
    refine ops_end ?_
    refine then_n ⟨⟨fun _ _ => hh, trivial⟩, ?_⟩
    refine mc_p rfl   hf (y_add rfl rfl) (.inl rfl) rfl rfl ?_; clear hf a; intro a hf
    refine mc_p rfl   hf (yv_assign rfl) (.inl rfl) rfl rfl ?_; clear hf a; intro a hf
    refine mc_end ?_
    refine blk_n ?_
    refine then_n ?_
    refine sy_ops ?_
    refine o_v hf hh (y_add rfl rfl) ?_; clear hf a; intro a hf
    refine o_v hf hh (yv_move rfl) ?_; clear hf a; intro a hf
    refine ops_end ?_
    refine then_n ?_
    exact ⟨i + 1, ⟨by omega, hf.head ⟨congrArg some (intv e9.symm), rfl, True.intro⟩ (Keep.cons rfl (Keep.cons rfl (Keep.cons rfl (Keep.cons rfl (Keep.cons rfl (Keep.cons rfl (Keep.cons rfl (Keep.cons rfl (Keep.cons rfl (Keep.cons rfl (Keep.cons rfl (Keep.cons rfl (Keep.cons rfl (Keep.cons rfl (Keep.cons rfl (Keep.cons rfl (Keep.cons rfl (Keep.cons rfl (Keep.cons rfl (Keep.cons rfl (Keep.cons rfl (Keep.cons rfl (Keep.cons rfl (Keep.cons rfl (Keep.app rfl (Keep.rm rfl Keep.base)))))))))))))))))))))))))), hh.less (.cons _ (List.Sublist.refl _))⟩, by omega⟩
   ·have hG2 := hg2; try simp only [gS] at hG2
    refine sy_exit ?_
    refine then_e ?_
    refine then_e ?_
    refine blk_e ?_
    refine then_n ?_
    refine sy_sq ?_
    refine o_v hf hh (yv_move rfl) ?_; clear hf a; intro a hf
    refine o_v hf hh (yv_assign rfl) ?_; clear hf a; intro a hf
    refine o_end ?_
    refine sy_ret ?_
    refine ret_r hf rfl rfl ?_
    obtain rfl : i = d.terms.length := by omega
    exact ⟨rfl, hh.ext⟩
theorem p77e (Be : Nat) (lo hi x : Int) (u : World) (hb : u.heap[Be]? = some (.cells #[.int .i64 lo, .int .i64 hi, .bool false] 97 (0, 0))) : Calls Tryz.prog 52 #[ptr Be 0, .int .i64 x] u (Ret fun _ w' => Hp u [Be] [(Be, .cells #[.int .i64 (min x x), .int .i64 (max x x), .bool true] 97)] w') := by
  refine calls_of Tryz.func52 rfl rfl (fun a hf => ?_)
  have hh := Hp.init1 hb
  refine sy_seq ?_
  refine sy_sq ?_
  refine o_v hf hh (yv_move rfl) ?_; clear hf a; intro a hf
  refine o_v hf hh (yv_nilCheck rfl) ?_; clear hf a; intro a hf
  refine o_v hf hh (yv_fieldAddr Tryz.fo_97_2 rfl) ?_; clear hf a; intro a hf
  refine o_v hf hh (y_ld Tryz.sc_4 rfl) ?_; clear hf a; intro a hf
  refine o_v hf hh (yv_not rfl) ?_; clear hf a; intro a hf
  refine o_end ?_
  refine c_t hf ?_
  refine sy_ops ?_
  refine o_v hf hh (yv_move rfl) ?_; clear hf a; intro a hf
  refine o_v hf hh (yv_move rfl) ?_; clear hf a; intro a hf
  refine o_v hf hh (yv_move rfl) ?_; clear hf a; intro a hf
  refine o_v hf hh (yv_move rfl) ?_; clear hf a; intro a hf
  refine o_v hf hh (yv_move rfl) ?_; clear hf a; intro a hf
  refine o_v hf hh (yv_nilCheck rfl) ?_; clear hf a; intro a hf
  refine o_v hf hh (yv_fieldAddr Tryz.fo_97_0 rfl) ?_; clear hf a; intro a hf
  refine o_store hf hh Tryz.sz_3 fun w hh => ?_
  refine o_v hf hh (yv_nilCheck rfl) ?_; clear hf a; intro a hf
  refine o_v hf hh (yv_fieldAddr Tryz.fo_97_1 rfl) ?_; clear hf a; intro a hf
  refine o_store hf hh Tryz.sz_3 fun w hh => ?_
  refine o_v hf hh (yv_nilCheck rfl) ?_; clear hf a; intro a hf
  refine o_v hf hh (yv_fieldAddr Tryz.fo_97_2 rfl) ?_; clear hf a; intro a hf
  refine o_store hf hh Tryz.sz_4 fun w hh => ?_
  refine o_end ?_
  refine sy_tree1 (.p 0 (.p 1 (.p 2 (.p 3 (.p 4 (.q 0 5 (.p 6 (.p 7 (.p 8 (.p 9 (.p 10 (.q 0 11 (.p 12 (.p 13 (.p 14 (.p 15 (.e1 16 (.p 17 (.p 18 (.e1 19 (.fin))))))))))))))))))))) [16, 19] Tryz.follows (by kernel_rfl) hh (fun w hh => ?_)
  refine mc_p rfl   hf (yv_move rfl) (.inl rfl) rfl rfl ?_; clear hf a; intro a hf
  refine mc_p rfl   hf (yv_move rfl) (.inl rfl) rfl rfl ?_; clear hf a; intro a hf
  refine mc_p rfl   hf (yv_move rfl) (.inl rfl) rfl rfl ?_; clear hf a; intro a hf
  refine mc_p rfl   hf (yv_nilCheck rfl) (.inl rfl) rfl rfl ?_; clear hf a; intro a hf
  refine mc_p rfl   hf (yv_fieldAddr Tryz.fo_97_0 rfl) (.inl rfl) rfl rfl ?_; clear hf a; intro a hf
  refine mc_q rfl rfl hh hf (y_ld Tryz.sc_3 rfl) (.inl rfl) rfl rfl ?_; clear hf a; intro a hf
  refine mc_p rfl   hf (yv_move rfl) (.inl rfl) rfl rfl ?_; clear hf a; intro a hf
  refine mc_p rfl   hf (yv_min rfl rfl) (.inl rfl) rfl rfl ?_; clear hf a; intro a hf
  refine mc_p rfl   hf (yv_move rfl) (.inl rfl) rfl rfl ?_; clear hf a; intro a hf
  refine mc_p rfl   hf (yv_nilCheck rfl) (.inl rfl) rfl rfl ?_; clear hf a; intro a hf
  refine mc_p rfl   hf (yv_fieldAddr Tryz.fo_97_1 rfl) (.inl rfl) rfl rfl ?_; clear hf a; intro a hf
  refine mc_q rfl rfl hh hf (y_ld Tryz.sc_3 rfl) (.inl rfl) rfl rfl ?_; clear hf a; intro a hf
  refine mc_p rfl   hf (yv_move rfl) (.inl rfl) rfl rfl ?_; clear hf a; intro a hf
  refine mc_p rfl   hf (yv_max rfl rfl) (.inl rfl) rfl rfl ?_; clear hf a; intro a hf
  refine mc_p rfl   hf (yv_nilCheck rfl) (.inl rfl) rfl rfl ?_; clear hf a; intro a hf
  refine mc_p rfl   hf (yv_fieldAddr Tryz.fo_97_0 rfl) (.inl rfl) rfl rfl ?_; clear hf a; intro a hf
  refine mc_e rfl fun Q1 => ?_
  refine o_store hf hh Tryz.sz_3 fun w hh => ?_
  refine ops_end ?_
  refine then_n ⟨⟨fun h => Bool.noConfusion (show true = false from h), trivial⟩, ?_⟩
  refine mc_p rfl   hf (yv_nilCheck rfl) (.inl rfl) rfl rfl ?_; clear hf a; intro a hf
  refine mc_p rfl   hf (yv_fieldAddr Tryz.fo_97_1 rfl) (.inl rfl) rfl rfl ?_; clear hf a; intro a hf
  refine mc_e rfl fun Q1 => ?_
  refine o_store hf hh Tryz.sz_3 fun w hh => ?_
  refine ops_end ?_
  refine then_n ⟨⟨fun h => Bool.noConfusion (show true = false from h), trivial⟩, ?_⟩
  refine mc_end ?_
  refine ret_n hf rfl rfl ?_
  exact hh
theorem p77s (Be : Nat) (lo hi x : Int) (u : World) (hb : u.heap[Be]? = some (.cells #[.int .i64 lo, .int .i64 hi, .bool true] 97 (0, 0))) : Calls Tryz.prog 52 #[ptr Be 0, .int .i64 x] u (Ret fun _ w' => Hp u [Be] [(Be, .cells #[.int .i64 (min lo x), .int .i64 (max hi x), .bool true] 97)] w') := by
  refine calls_of Tryz.func52 rfl rfl (fun a hf => ?_)
  have hh := Hp.init1 hb
  refine sy_seq ?_
  refine sy_sq ?_
  refine o_v hf hh (yv_move rfl) ?_; clear hf a; intro a hf
  refine o_v hf hh (yv_nilCheck rfl) ?_; clear hf a; intro a hf
  refine o_v hf hh (yv_fieldAddr Tryz.fo_97_2 rfl) ?_; clear hf a; intro a hf
  refine o_v hf hh (y_ld Tryz.sc_4 rfl) ?_; clear hf a; intro a hf
  refine o_v hf hh (yv_not rfl) ?_; clear hf a; intro a hf
  refine o_end ?_
  refine c_f hf ?_
  refine sy_skip ?_
  refine then_n ?_
  refine sy_tree1 (.p 0 (.p 1 (.p 2 (.p 3 (.p 4 (.q 0 5 (.p 6 (.p 7 (.p 8 (.p 9 (.p 10 (.q 0 11 (.p 12 (.p 13 (.p 14 (.p 15 (.e1 16 (.p 17 (.p 18 (.e1 19 (.fin))))))))))))))))))))) [16, 19] Tryz.follows (by kernel_rfl) hh (fun w hh => ?_)
  refine mc_p rfl   hf (yv_move rfl) (.inl rfl) rfl rfl ?_; clear hf a; intro a hf
  refine mc_p rfl   hf (yv_move rfl) (.inl rfl) rfl rfl ?_; clear hf a; intro a hf
  refine mc_p rfl   hf (yv_move rfl) (.inl rfl) rfl rfl ?_; clear hf a; intro a hf
  refine mc_p rfl   hf (yv_nilCheck rfl) (.inl rfl) rfl rfl ?_; clear hf a; intro a hf
  refine mc_p rfl   hf (yv_fieldAddr Tryz.fo_97_0 rfl) (.inl rfl) rfl rfl ?_; clear hf a; intro a hf
  refine mc_q rfl rfl hh hf (y_ld Tryz.sc_3 rfl) (.inl rfl) rfl rfl ?_; clear hf a; intro a hf
  refine mc_p rfl   hf (yv_move rfl) (.inl rfl) rfl rfl ?_; clear hf a; intro a hf
  refine mc_p rfl   hf (yv_min rfl rfl) (.inl rfl) rfl rfl ?_; clear hf a; intro a hf
  refine mc_p rfl   hf (yv_move rfl) (.inl rfl) rfl rfl ?_; clear hf a; intro a hf
  refine mc_p rfl   hf (yv_nilCheck rfl) (.inl rfl) rfl rfl ?_; clear hf a; intro a hf
  refine mc_p rfl   hf (yv_fieldAddr Tryz.fo_97_1 rfl) (.inl rfl) rfl rfl ?_; clear hf a; intro a hf
  refine mc_q rfl rfl hh hf (y_ld Tryz.sc_3 rfl) (.inl rfl) rfl rfl ?_; clear hf a; intro a hf
  refine mc_p rfl   hf (yv_move rfl) (.inl rfl) rfl rfl ?_; clear hf a; intro a hf
  refine mc_p rfl   hf (yv_max rfl rfl) (.inl rfl) rfl rfl ?_; clear hf a; intro a hf
  refine mc_p rfl   hf (yv_nilCheck rfl) (.inl rfl) rfl rfl ?_; clear hf a; intro a hf
  refine mc_p rfl   hf (yv_fieldAddr Tryz.fo_97_0 rfl) (.inl rfl) rfl rfl ?_; clear hf a; intro a hf
  refine mc_e rfl fun Q1 => ?_
  refine o_store hf hh Tryz.sz_3 fun w hh => ?_
  refine ops_end ?_
  refine then_n ⟨⟨fun h => Bool.noConfusion (show true = false from h), trivial⟩, ?_⟩
  refine mc_p rfl   hf (yv_nilCheck rfl) (.inl rfl) rfl rfl ?_; clear hf a; intro a hf
  refine mc_p rfl   hf (yv_fieldAddr Tryz.fo_97_1 rfl) (.inl rfl) rfl rfl ?_; clear hf a; intro a hf
  refine mc_e rfl fun Q1 => ?_
  refine o_store hf hh Tryz.sz_3 fun w hh => ?_
  refine ops_end ?_
  refine then_n ⟨⟨fun h => Bool.noConfusion (show true = false from h), trivial⟩, ?_⟩
  refine mc_end ?_
  refine ret_n hf rfl rfl ?_
  exact hh
theorem p77 (Be : Nat) (l : List Int) (x : Int) (u : World) (hb : u.heap[Be]? = some (.cells (endC l) 97 (0, 0))) : Calls Tryz.prog 52 #[ptr Be 0, .int .i64 x] u (Ret fun _ w' => Hp u [Be] [(Be, .cells (endC (l ++ [x])) 97)] w') := by
  by_cases hl : l = []
  · subst hl
    refine Calls.ret_mono (p77e Be 0 0 x u hb) fun v w' h => ?_
    have e : endC ([] ++ [x]) = #[.int .i64 (min x x), .int .i64 (max x x), .bool true] := by
      unfold endC loL hiL
      rw [show min x x = x by omega, show max x x = x by omega]; rfl
    rw [e]; exact h
  · have e0 : endC l = #[.int .i64 (loL l), .int .i64 (hiL l), .bool true] := by unfold endC; rw [decide_eq_true hl]
    rw [e0] at hb
    refine Calls.ret_mono (p77s Be _ _ x u hb) fun v w' h => ?_
    have e : endC (l ++ [x]) = #[.int .i64 (min (loL l) x), .int .i64 (max (hiL l) x), .bool true] := by
      unfold endC
      rw [lo_snoc x hl, hi_snoc x hl, decide_eq_true (by simp)]
    rw [e]; exact h
end Go.Proofs.YtccpgpnekoncoaaGreat

namespace Go.RoyM
open Go Go.Sy
def ordL (n : Int) (l : List Int) : List Nat := srtL (remF n l) l.length
def outF (n : Int) (l : List Int) (j i : Nat) : Int := flo n (l.getD i 0) + if i ∈ (ordL n l).take j then 1 else 0
theorem ordL_len (n : Int) (l : List Int) : (ordL n l).length = l.length := srtL_len _ _
theorem take_succ {n : Int} {l : List Int} {j : Nat} (hj : j < l.length) (i : Nat) : i ∈ (ordL n l).take (j + 1) ↔ i ∈ (ordL n l).take j ∨ i = (ordL n l).getD j 0 := by
  have hlen := ordL_len n l
  rw [List.take_add_one, List.mem_append, List.getElem?_eq_getElem (show j < (ordL n l).length by omega)]
  simp [List.getD, List.getElem?_eq_getElem (show j < (ordL n l).length by omega)]
theorem ord_lt {n : Int} {l : List Int} {j : Nat} (hj : j < l.length) : (ordL n l).getD j 0 < l.length := by
  have hlen := ordL_len n l
  have hg : (ordL n l).getD j 0 = (ordL n l)[j]'(by omega) := by simp [List.getD, List.getElem?_eq_getElem (show j < (ordL n l).length by omega)]
  rw [hg]
  exact srtL_lt _ (List.getElem_mem _)
theorem ord_new {n : Int} {l : List Int} {j : Nat} (hj : j < l.length) : (ordL n l).getD j 0 ∉ (ordL n l).take j := by
  have hlen := ordL_len n l
  have hnd := srtL_nodup (remF n l) l.length
  have e0 : srtL (remF n l) l.length = ordL n l := rfl
  rw [e0] at hnd
  have hg : (ordL n l).getD j 0 = (ordL n l)[j]'(by omega) := by simp [List.getD, List.getElem?_eq_getElem (show j < (ordL n l).length by omega)]
  rw [hg]
  have hsp := List.take_append_drop j (ordL n l)
  rw [List.drop_eq_getElem_cons (by omega)] at hsp
  rw [← hsp, List.nodup_append, List.nodup_cons] at hnd
  exact fun h => hnd.2.2 _ h _ (.head _) rfl
theorem out_step {n : Int} {l : List Int} {j : Nat} (hj : j < l.length) (i : Nat) : outF n l (j + 1) i = if i = (ordL n l).getD j 0 then outF n l j i + 1 else outF n l j i := by
  unfold outF
  by_cases h : i = (ordL n l).getD j 0
  · rw [if_pos h, if_pos ((take_succ hj i).2 (.inr h)), if_neg (by rw [h]; exact ord_new hj)]; omega
  · rw [if_neg h]
    by_cases h2 : i ∈ (ordL n l).take j
    · rw [if_pos h2, if_pos ((take_succ hj i).2 (.inl h2))]
    · rw [if_neg h2, if_neg fun h3 => ((take_succ hj i).1 h3).elim h2 h]
theorem out_end (n : Int) (l : List Int) : (List.range l.length).map (outF n l (leftN n l)) = splitL n l := rfl
theorem out_zero (n : Int) (l : List Int) (i : Nat) : outF n l 0 i = flo n (l.getD i 0) := by unfold outF; simp
end Go.RoyM

namespace Go.Sy
open Go Go.Proofs
theorem Hp.extM {u w w1 : World} {M : List Nat} {H : List (Nat × Obj)} (h : Hp u [] H w) (e : Ext M w w1) (hm : ∀ b ∈ M, b ∈ H.map Prod.fst) : Ext [] u w1 := by
  refine ⟨e.os.trans h.ext.os, e.tape.trans h.ext.tape, e.output.trans h.ext.output, Nat.le_trans h.ext.size e.size, Nat.le_trans h.ext.dr e.dr, fun k hk hm' => ?_⟩
  rw [e.block k (Nat.lt_of_lt_of_le hk h.ext.size) (fun hx => by
    obtain ⟨p, hp, rfl⟩ := List.mem_map.1 (hm k hx)
    rcases h.mine p hp with h1 | h1
    · omega
    · cases h1), h.ext.block k hk hm']
theorem own_val {e size m : Nat} {v : Value} {xs : List Value} {X : List (Nat × Obj)} (h : OwnSl e size v m xs X) : ∃ oa cap, v = .slice oa m cap := by
  rcases h.2 with ⟨h1, h2, _⟩ | ⟨B, cap, cur, h1, _⟩
  · exact ⟨none, 0, by rw [h1, h2]⟩
  · exact ⟨_, _, h1⟩
theorem own_pos {e size m : Nat} {v : Value} {xs : List Value} {X : List (Nat × Obj)} (h : OwnSl e size v m xs X) (hm : 0 < m) : ∃ B cap cur, v = .slice (some ⟨B, 0, none⟩) m cap ∧ X = [(B, .cells cur e (0, 0))] ∧ m ≤ cap ∧ cap ≤ maxLen ∧ cur.size = cap * size ∧ cur.toList.take (m * size) = xs := by
  rcases h.2 with ⟨h1, h2, _⟩ | h
  · omega
  · exact h
/-- Another block than the one that is turned. -/
theorem Hp.apart {u w w1 : World} {M : List Nat} {H : List (Nat × Obj)} {i j b b' : Nat} {o o' : Obj} (h : Hp u M H w) (hi : H[i]? = some (b, o)) (hj : H[j]? = some (b', o')) (hn : i ≠ j) (e : Ext [b'] w w1) : w1.heap[b]? = some o := by
  refine e.getM (h.at hi) fun hb => ?_
  rw [List.mem_singleton] at hb
  have hnd := h.nodup
  have hi2 : (H.map Prod.fst)[i]? = some b := by rw [List.getElem?_map, hi]; rfl
  have hj2 : (H.map Prod.fst)[j]? = some b' := by rw [List.getElem?_map, hj]; rfl
  obtain ⟨hil, hie⟩ := List.getElem?_eq_some_iff.1 hi2
  obtain ⟨hjl, hje⟩ := List.getElem?_eq_some_iff.1 hj2
  rcases (show i < j ∨ j < i by omega) with h1 | h1
  · exact List.pairwise_iff_getElem.1 hnd i j hil hjl h1 (by rw [hie, hje, hb])
  · exact List.pairwise_iff_getElem.1 hnd j i hjl hil h1 (by rw [hie, hje, hb])
end Go.Sy
namespace Go.RoyM
open Go Go.Sy
def CF (cur : Array Value) (m : Nat) (F : Nat → Int) : Prop := m ≤ cur.size ∧ ∀ j, j < m → cur[0 + ((j : Nat) : Int).toNat * 1]? = some (.int .i64 (F j))
theorem CF.congr {cur : Array Value} {m : Nat} {F G : Nat → Int} (h : CF cur m F) (e : ∀ j, j < m → F j = G j) : CF cur m G := ⟨h.1, fun j hj => by rw [← e j hj]; exact h.2 j hj⟩
theorem spl_size {c : Array Value} {off : Nat} {v : Value} (h : off < c.size) : (spl c off [v]).size = c.size := by rw [spl_one c v h, Array.size_setIfInBounds]
theorem CF.put {cur : Array Value} {m : Nat} {F : Nat → Int} (h : CF cur m F) {j : Nat} (hj : j < m) (x : Int) : CF (spl cur (0 + ((j : Nat) : Int).toNat * 1) [.int .i64 x]) m (fun i => if i = j then x else F i) := by
  have h1 := h.1
  rw [Int.toNat_natCast, Nat.zero_add, Nat.mul_one]
  refine ⟨by rw [spl_size (by omega)]; exact h1, fun i hi => ?_⟩
  rw [spl_one cur _ (by omega), Int.toNat_natCast, Nat.zero_add, Nat.mul_one, Array.getElem?_setIfInBounds]
  dsimp only
  by_cases e : i = j
  · subst e; rw [if_pos rfl, if_pos (by omega), if_pos rfl]
  · rw [if_neg fun h => e h.symm, if_neg e]
    have := h.2 i hi
    rw [Int.toNat_natCast, Nat.zero_add, Nat.mul_one] at this
    exact this
theorem CF.size {cur : Array Value} {m : Nat} {F : Nat → Int} (h : CF cur m F) {j : Nat} (hj : j < m) (x : Value) : (spl cur (0 + ((j : Nat) : Int).toNat * 1) [x]).size = cur.size := by
  have h1 := h.1
  rw [Int.toNat_natCast, Nat.zero_add, Nat.mul_one]
  exact spl_size (by omega)
theorem CF.iat {cur : Array Value} {l : List Int} {B : Nat} {w : World} {T : TypeId} {fr : Nat × Nat} (h : CF cur l.length (fun j => l.getD j 0)) (hb : w.heap[B]? = some (.cells cur T fr)) : IAt w (some ⟨B, 0, none⟩) l := fun i x hi => by
  refine ⟨B, 0, cur, T, fr, rfl, hb, ?_⟩
  rw [h.2 i (len_of hi)]; dsimp only; rw [getD_at hi]
/-- Parts in a row. -/
def sq (ys : List Nat) (j : Nat) : Int := ((ys.getD j 0 : Nat) : Int)
theorem sq_at {A R : List Nat} {x : Nat} : sq (A ++ x :: R) A.length = x := by unfold sq; simp [List.getD]
theorem sq_swap {A R : List Nat} {x y : Nat} (i : Nat) : (if i = A.length then (y : Int) else if i = A.length + 1 then (x : Int) else sq (A ++ x :: y :: R) i) = sq (A ++ y :: x :: R) i := by
  unfold sq
  by_cases h1 : i = A.length
  · subst h1; simp [List.getD]
  · rw [if_neg h1]
    by_cases h2 : i = A.length + 1
    · subst h2; simp [List.getD, List.getElem?_append]
    · rw [if_neg h2]
      simp only [List.getD, List.getElem?_append]
      by_cases h3 : i < A.length
      · rw [if_pos h3, if_pos h3]
      · rw [if_neg h3, if_neg h3]
        obtain ⟨z, hz⟩ : ∃ z, i - A.length = z + 2 := ⟨i - A.length - 2, by omega⟩
        rw [hz]; rfl
def cmpI (a b : Int) : Int := if a < b then -1 else if b < a then 1 else 0
theorem cmp_neg {a b : Int} : cmpI a b < 0 ↔ a < b := by unfold cmpI; split; omega; split <;> omega
/-- The parts while they are sorted: those before one, in their row, and those behind it. -/
def rowN (f : Nat → Int) (i m : Nat) : List Nat := srtL f i ++ List.range' i (m - i)
theorem rowN_cons (f : Nat → Int) {i m : Nat} (h : i < m) : rowN f i m = srtL f i ++ i :: ([] ++ List.range' (i + 1) (m - (i + 1))) := by
  unfold rowN
  rw [show m - i = (m - (i + 1)) + 1 by omega, List.range'_succ]; rfl
theorem rowN_end (f : Nat → Int) (m : Nat) : rowN f m m = srtL f m := by unfold rowN; simp
theorem rowN_one (f : Nat → Int) {m : Nat} (h : 1 ≤ m) (j : Nat) (hj : j < m) : sq (rowN f 1 m) j = j := by
  have e : rowN f 1 m = List.range' 0 m := by
    unfold rowN
    have e1 : srtL f 1 = [0] := rfl
    rw [e1]
    obtain ⟨k, rfl⟩ : ∃ k, m = k + 1 := ⟨m - 1, by omega⟩
    rw [List.range'_succ]; rfl
  rw [e]
  unfold sq
  simp [List.getD, List.getElem?_range', hj]
/-- Where a part is to stand. -/
structure InsAt (f : Nat → Int) (i j : Nat) (A B : List Nat) : Prop where
  ab : A ++ B = srtL f i
  len : A.length = j
  lt : ∀ y ∈ B, f y < f i
theorem InsAt.init (f : Nat → Int) (i : Nat) : InsAt f i i (srtL f i) [] := ⟨List.append_nil _, srtL_len f i, fun y h => by cases h⟩
theorem InsAt.step {f : Nat → Int} {i j pv : Nat} {A B : List Nat} (h : InsAt f i (j + 1) (A ++ [pv]) B) (hp : f pv < f i) : InsAt f i j A (pv :: B) := by
  refine ⟨by have := h.ab; simpa using this, by have := h.len; simpa using this, fun y hy => ?_⟩
  rcases List.mem_cons.1 hy with rfl | hy
  · exact hp
  · exact h.lt y hy
theorem InsAt.stop {f : Nat → Int} {i j m : Nat} {A B : List Nat} (h : InsAt f i j A B) (hi : i < m) (hs : j = 0 ∨ ∃ A' pv, A = A' ++ [pv] ∧ f i ≤ f pv) : A ++ i :: (B ++ List.range' (i + 1) (m - (i + 1))) = rowN f (i + 1) m := by
  have hA : ∀ y ∈ A, f i ≤ f y := by
    rcases hs with hs | ⟨A', pv, rfl, hp⟩
    · have := h.len
      rw [hs] at this
      rw [List.eq_nil_of_length_eq_zero this]
      intro y hy; cases hy
    · intro y hy
      rcases List.mem_append.1 hy with hy | hy
      · have hs := srtL_sorted f i
        rw [← h.ab, List.pairwise_append, List.pairwise_append] at hs
        have := hs.1.2.2 y hy pv (by simp)
        unfold befP at this
        omega
      · rw [List.mem_singleton.1 hy]; exact hp
  unfold rowN
  rw [srtL, ← h.ab, insL_at hA h.lt]
  simp
theorem InsAt.split {f : Nat → Int} {i j : Nat} {A B : List Nat} (h : InsAt f i j A B) (hj : 0 < j) : ∃ A' pv, A = A' ++ [pv] := by
  have h1 := h.len
  have hne : A ≠ [] := fun e => by rw [e] at h1; simp at h1; omega
  exact ⟨A.dropLast, A.getLast hne, (List.dropLast_concat_getLast hne).symm⟩
theorem mul_facts {n s : Int} (h0 : 0 ≤ n) (h1 : n ≤ 1099511627776) (hs : 0 ≤ s ∧ s ≤ 1000) : 0 ≤ n * s ∧ n * s ≤ 1099511627776000 := by
  have a1 : 0 ≤ n * s := Int.mul_nonneg h0 hs.1
  have a2 : n * s ≤ n * 1000 := Int.mul_le_mul_of_nonneg_left hs.2 h0
  omega
theorem floors_len (n : Int) (l : List Int) : (floors n l).length = l.length := List.length_map _
theorem floors_at {n : Int} {l : List Int} {i : Nat} (h : i < l.length) : (floors n l).getD i 0 = flo n (l.getD i 0) := by
  unfold floors
  simp [List.getD, h]
theorem flo_bd {n s : Int} (h0 : 0 ≤ n) (h1 : n ≤ 1099511627776) (hs : 0 ≤ s ∧ s ≤ 1000) : 0 ≤ flo n s ∧ flo n s ≤ 1099511627776 := by
  have := mul_facts h0 h1 hs
  unfold flo
  omega
theorem floors_bd {n : Int} {l : List Int} (h0 : 0 ≤ n) (h1 : n ≤ 1099511627776) (hs : ∀ s ∈ l, 0 ≤ s ∧ s ≤ 1000) (hl : l.length ≤ 1000) (i : Nat) : -4611686018427387904 ≤ sumI ((floors n l).take i) ∧ sumI ((floors n l).take i) ≤ 4611686018427387904 := by
  have h := take_bd (b := 1099511627776) (l := floors n l) (fun x hx => by
    obtain ⟨s, hsm, rfl⟩ := List.mem_map.1 hx
    have := flo_bd h0 h1 (hs s hsm)
    omega) (by omega) i (by rw [floors_len]; exact hl)
  omega
theorem split_len (n : Int) (l : List Int) : (splitL n l).length = l.length := by unfold splitL; simp
theorem split_get {n : Int} {l : List Int} {j : Nat} (h : j < l.length) : (splitL n l).getD j 0 = outF n l (leftN n l) j := by
  rw [← out_end]
  simp [List.getD, h]
theorem out_bd {n : Int} {l : List Int} (h0 : 0 ≤ n) (h1 : n ≤ 1099511627776) (hs : ∀ s ∈ l, 0 ≤ s ∧ s ≤ 1000) (k : Nat) {j : Nat} (h : j < l.length) : 0 ≤ outF n l k j ∧ outF n l k j ≤ 1099511627777 := by
  obtain ⟨s, hj⟩ := ex_of h
  have h9 := flo_bd h0 h1 (hs s (List.mem_of_getElem? hj))
  unfold outF
  rw [getD_at hj]
  split <;> omega
/-- Numbers as they are while parts are told one by one. -/
def floF (n : Int) (l : List Int) (i j : Nat) : Int := if j < i then flo n (l.getD j 0) else 0
theorem floF_step {n : Int} {l : List Int} {i : Nat} {s : Int} (h : l[i]? = some s) (j : Nat) : (if j = i then flo n s else floF n l i j) = floF n l (i + 1) j := by
  unfold floF
  by_cases e : j = i
  · subst e; rw [if_pos rfl, if_pos (by omega), getD_at h]
  · rw [if_neg e]
    by_cases h2 : j < i
    · rw [if_pos h2, if_pos (by omega)]
    · rw [if_neg h2, if_neg (by omega)]
def rngV (i : Nat) : List Value := (List.range i).map fun j => .int .i64 ((j : Nat) : Int)
theorem rngV_succ (i : Nat) : rngV (i + 1) = rngV i ++ [.int .i64 ((i : Nat) : Int)] := by unfold rngV; rw [List.range_succ, List.map_append]; rfl
theorem rngV_CF {cur : Array Value} {m : Nat} (hs : m ≤ cur.size) (h : cur.toList.take (m * 1) = rngV m) : CF cur m (fun j => (j : Int)) := by
  refine ⟨hs, fun j hj => ?_⟩
  have h1 : (rngV m)[j]? = some (.int .i64 ((j : Nat) : Int)) := by unfold rngV; simp [hj]
  rw [← h, Nat.mul_one, List.getElem?_take, if_pos hj] at h1
  rw [Int.toNat_natCast, Nat.zero_add, Nat.mul_one, ← Array.getElem?_toList]
  exact h1
theorem made_CF (m : Nat) : CF (madeCells (Value.int .i64 0).cells (m * 1)) m (fun _ => 0) := by
  refine ⟨by simp [madeCells], fun j hj => ?_⟩
  rw [Int.toNat_natCast, Nat.zero_add, Nat.mul_one]
  unfold madeCells
  rw [Array.getElem?_map, Array.getElem?_range, if_pos (by omega)]
  have e : (Value.int .i64 0).cells = #[.int .i64 0] := rfl
  rw [e]
  simp [Nat.mod_one]
end Go.RoyM

namespace Go.Proofs.YtccpgpnekoncoaaGreat
set_option maxRecDepth 100000
open Go Go.Sy Go.RoyM
theorem p102 (a : Int) (u : World) : Calls Tryz.prog 121 #[.int .i64 a] u (Ret fun v w' => v = .bool false ∧ Ext [] u w') := by
  refine calls_of Tryz.func121 rfl rfl (fun a hf => ?_)
  have hh := Hp.init u []
  refine sy_sq ?_
  refine o_v hf hh (yv_assign rfl) ?_; clear hf a; intro a hf
  refine o_end ?_
  refine sy_sq ?_
  refine o_v hf hh (yv_move rfl) ?_; clear hf a; intro a hf
  refine o_v hf hh (yv_move rfl) ?_; clear hf a; intro a hf
  refine o_v hf hh (yv_bin rfl rfl rfl) ?_; clear hf a; intro a hf
  refine o_v hf hh (yv_assign rfl) ?_; clear hf a; intro a hf
  refine o_end ?_
  refine sy_ret ?_
  refine ret_r hf rfl rfl ?_
  exact ⟨by simp [tup], hh.ext⟩
theorem p92 (x y : Int) (u : World) : Calls Tryz.prog 87 #[.int .i64 x, .int .i64 y] u (Ret fun v w' => v = .int .i64 (cmpI x y) ∧ Ext [] u w') := by
  refine calls_of Tryz.func87 rfl rfl (fun a hf => ?_)
  have hh := Hp.init u []
  refine sy_sq ?_
  refine o_v hf hh (yv_assign rfl) ?_; clear hf a; intro a hf
  refine o_end ?_
  refine sy_sq ?_
  refine o_v hf hh (yv_move rfl) ?_; clear hf a; intro a hf
  refine o_call hf Tryz.en_121 rfl rfl rfl (p102 _ _) ?_; clear hf a; intro v a w hR hf
  obtain ⟨rfl, hx⟩ := hR; replace hh := hh.more hx; clear hx
  refine o_v hf hh (yv_assign rfl) ?_; clear hf a; intro a hf
  refine o_end ?_
  refine sy_sq ?_
  refine o_v hf hh (yv_move rfl) ?_; clear hf a; intro a hf
  refine o_call hf Tryz.en_121 rfl rfl rfl (p102 _ _) ?_; clear hf a; intro v a w hR hf
  obtain ⟨rfl, hx⟩ := hR; replace hh := hh.more hx; clear hx
  refine o_v hf hh (yv_assign rfl) ?_; clear hf a; intro a hf
  refine o_end ?_
  refine sy_seq ?_
  refine sy_sq ?_
  refine o_v hf hh (yv_move rfl) ?_; clear hf a; intro a hf
  refine o_end ?_
  refine c_f hf ?_
  refine sy_skip ?_
  refine then_n ?_
  refine sy_seq ?_
  refine sy_sq ?_
  refine o_v hf hh (yv_move rfl) ?_; clear hf a; intro a hf
  refine o_end ?_
  refine c_f hf ?_
  refine sy_skip ?_
  refine then_n ?_
  refine sy_seq ?_
  refine sy_sq ?_
  refine o_v hf hh (yv_move rfl) ?_; clear hf a; intro a hf
  refine o_v hf hh (yv_move rfl) ?_; clear hf a; intro a hf
  refine o_v hf hh (yv_bin rfl rfl rfl) ?_; clear hf a; intro a hf
  refine o_end ?_
  refine sy_cond hf rfl (fun hg4 => ?_) (fun hg4 => ?_)
  ·have hG4 := hg4; try simp only [gS] at hG4
   refine sy_sq ?_
   refine o_v hf hh (yv_assign rfl) ?_; clear hf a; intro a hf
   refine o_end ?_
   refine sy_ret ?_
   refine then_r ?_
   refine ret_r hf rfl rfl ?_
   refine ⟨intv ?_, hh.ext⟩
   unfold cmpI
   first
     | (rw [if_pos (by omega)])
     | (rw [if_neg (by omega), if_pos (by omega)])
     | (rw [if_neg (by omega), if_neg (by omega)])
  ·have hG4 := hg4; try simp only [gS] at hG4
   refine sy_skip ?_
   refine then_n ?_
   refine sy_seq ?_
   refine sy_sq ?_
   refine o_v hf hh (yv_move rfl) ?_; clear hf a; intro a hf
   refine o_v hf hh (yv_move rfl) ?_; clear hf a; intro a hf
   refine o_v hf hh (yv_bin rfl rfl rfl) ?_; clear hf a; intro a hf
   refine o_end ?_
   refine sy_cond hf rfl (fun hg6 => ?_) (fun hg6 => ?_)
   ·have hG6 := hg6; try simp only [gS] at hG6
    refine sy_sq ?_
    refine o_v hf hh (yv_assign rfl) ?_; clear hf a; intro a hf
    refine o_end ?_
    refine sy_ret ?_
    refine then_r ?_
    refine ret_r hf rfl rfl ?_
    refine ⟨intv ?_, hh.ext⟩
    unfold cmpI
    first
      | (rw [if_pos (by omega)])
      | (rw [if_neg (by omega), if_pos (by omega)])
      | (rw [if_neg (by omega), if_neg (by omega)])
   ·have hG6 := hg6; try simp only [gS] at hG6
    refine sy_skip ?_
    refine then_n ?_
    refine sy_sq ?_
    refine o_v hf hh (yv_assign rfl) ?_; clear hf a; intro a hf
    refine o_end ?_
    refine sy_ret ?_
    refine ret_r hf rfl rfl ?_
    refine ⟨intv ?_, hh.ext⟩
    unfold cmpI
    first
      | (rw [if_pos (by omega)])
      | (rw [if_neg (by omega), if_pos (by omega)])
      | (rw [if_neg (by omega), if_neg (by omega)])
theorem p91 (n : Int) (l : List Int) (sa : Option Addr) (c0 Bn Bs x y : Nat) (u : World) (hA : IAt u sa l) (hl : l.length ≤ 1000) (hBn : u.heap[Bn]? = some (.cells #[.int .i64 n] 3 (0, 0))) (hBs : u.heap[Bs]? = some (.cells #[.slice sa l.length c0] 28 (0, 0))) (h0 : 0 ≤ n) (h1 : n ≤ 1099511627776) (hs : ∀ s ∈ l, 0 ≤ s ∧ s ≤ 1000) (hx : x < l.length) (hy : y < l.length) : Calls Tryz.prog 86 #[.int .i64 (x : Nat), .int .i64 (y : Nat), ptr Bn 0, ptr Bs 0] u (Ret fun v w' => v = .int .i64 (cmpI (remF n l y) (remF n l x)) ∧ Ext [] u w') := by
  refine calls_of Tryz.func86 rfl rfl (fun a hf => ?_)
  have hh := Hp.init u []
  obtain ⟨s, hs1⟩ := ex_of hx
  obtain ⟨t, ht1⟩ := ex_of hy
  have e1 := getD_at (z := (0 : Int)) hs1
  have e2 := getD_at (z := (0 : Int)) ht1
  have hs0 := mul_facts h0 h1 (hs s (List.mem_of_getElem? hs1))
  have ht0 := mul_facts h0 h1 (hs t (List.mem_of_getElem? ht1))
  obtain ⟨blk, off, cc, T, fr, e, hb, hc⟩ := hA x s hs1; subst e
  obtain ⟨blk2, off2, cc2, T2, fr2, e3, hb2, hc2⟩ := hA y t ht1; cases e3
  rw [hb] at hb2; cases hb2
  refine sy_sq ?_
  refine o_v hf hh (yv_assign rfl) ?_; clear hf a; intro a hf
  refine o_end ?_
  refine sy_seq ?_
  refine sy_tree1 (.q 0 0 (.q 0 1 (.p 2 (.p 3 (.q 0 4 (.p 5 (.p 6 (.q 0 7 (.q 0 8 (.p 9 (.p 10 (.q 0 11 (.p 12 (.p 13 (.e1 14 (.p 15 (.fin))))))))))))))))) [] Tryz.follows (by kernel_rfl) hh (fun w hh => ?_)
  refine mc_q rfl rfl hh hf (y_ld Tryz.sc_3 rfl) (.inl rfl) rfl rfl ?_; clear hf a; intro a hf
  refine mc_q rfl rfl hh hf (y_ld Tryz.sc_28 rfl) (.inl rfl) rfl rfl ?_; clear hf a; intro a hf
  refine mc_p rfl   hf (yv_move rfl) (.inl rfl) rfl rfl ?_; clear hf a; intro a hf
  refine mc_p rfl   hf (y_ix Tryz.se_28 rfl rfl) (.inl rfl) rfl rfl ?_; clear hf a; intro a hf
  refine mc_q rfl rfl hh hf (y_ld Tryz.sc_3 rfl) (.inl rfl) rfl rfl ?_; clear hf a; intro a hf
  refine mc_p rfl   hf (y_mul rfl rfl) (.inl rfl) rfl rfl ?_; clear hf a; intro a hf
  refine mc_p rfl   hf (yv_rem rfl rfl (by omega) (by omega)) (.inl rfl) rfl rfl ?_; clear hf a; intro a hf
  refine mc_q rfl rfl hh hf (y_ld Tryz.sc_3 rfl) (.inl rfl) rfl rfl ?_; clear hf a; intro a hf
  refine mc_q rfl rfl hh hf (y_ld Tryz.sc_28 rfl) (.inl rfl) rfl rfl ?_; clear hf a; intro a hf
  refine mc_p rfl   hf (yv_move rfl) (.inl rfl) rfl rfl ?_; clear hf a; intro a hf
  refine mc_p rfl   hf (y_ix Tryz.se_28 rfl rfl) (.inl rfl) rfl rfl ?_; clear hf a; intro a hf
  refine mc_q rfl rfl hh hf (y_ld Tryz.sc_3 rfl) (.inl rfl) rfl rfl ?_; clear hf a; intro a hf
  refine mc_p rfl   hf (y_mul rfl rfl) (.inl rfl) rfl rfl ?_; clear hf a; intro a hf
  refine mc_p rfl   hf (yv_rem rfl rfl (by omega) (by omega)) (.inl rfl) rfl rfl ?_; clear hf a; intro a hf
  refine mc_e rfl fun Q1 => ?_
  refine o_call hf Tryz.en_87 rfl rfl rfl (p92 _ _ _) ?_; clear hf a; intro v a w hR hf
  obtain ⟨rfl, hx⟩ := hR; replace hh := hh.more hx; clear hx
  refine ops_end ?_
  refine then_n ⟨⟨fun _ _ => hh, trivial⟩, ?_⟩
  refine mc_p rfl   hf (yv_assign rfl) (.inl rfl) rfl rfl ?_; clear hf a; intro a hf
  refine mc_end ?_
  refine then_n ?_
  refine sy_ret ?_
  refine ret_r hf rfl rfl ?_
  exact ⟨intv (by unfold remF rmd; rw [e1, e2]), hh.ext⟩
theorem p114 (f : Nat → Int) (m Bd cap : Nat) (cur : Array Value) (Bn Bs : Nat) (u : World) (h1 : 1 ≤ m) (h5 : m ≤ 5) (hb : u.heap[Bd]? = some (.cells cur 3 (0, 0))) (hF : CF cur m (fun j => (j : Int))) (hC : ∀ (w1 : World), Ext [Bd] u w1 → ∀ x y, x < m → y < m → Calls Tryz.prog 86 #[.int .i64 (x : Nat), .int .i64 (y : Nat), ptr Bn 0, ptr Bs 0] w1 (Ret fun v w2 => v = .int .i64 (cmpI (f y) (f x)) ∧ Ext [] w1 w2)) : Calls Tryz.prog 145 #[.slice (some ⟨Bd, 0, none⟩) m cap, .int .i64 0, .int .i64 (m : Nat), .func (.func 86) #[] #[ptr Bn 0, ptr Bs 0]] u (Ret fun _ w' => ∃ cur', CF cur' m (sq (srtL f m)) ∧ cur'.size = cur.size ∧ Hp u [Bd] [(Bd, .cells cur' 3)] w') := by
  refine calls_of Tryz.func145 rfl rfl (fun a hf => ?_)
  have hh := Hp.init1 hb
  refine sy_sq ?_
  refine o_v hf hh (yv_move rfl) ?_; clear hf a; intro a hf
  refine o_v hf hh (y_add rfl rfl) ?_; clear hf a; intro a hf
  refine o_v hf hh (yv_assign rfl) ?_; clear hf a; intro a hf
  refine o_end ?_
  refine sy_block ?_
  refine sy_loopH (σ := Nat × Array Value) [8, 9, 12, 13, 14, 15, 16, 17, 18, 19, 20, 21, 22, 23, 24, 25, 26, 27, 28, 29, 30, 31, 32, 33, 34, 35, 36, 37, 38, 39, 40, 41, 42, 43, 44, 45, 46, 47, 48, 49, 50, 51, 52] (fun s => [(8, .int .i64 (s.1 : Nat))]) (fun s => fun w' => 1 ≤ s.1 ∧ s.1 ≤ m ∧ s.2.size = cur.size ∧ CF s.2 m (sq (rowN f s.1 m)) ∧ Hp u [Bd] [(Bd, .cells s.2 3)] w') (fun s => m - s.1) ((1, cur)) hf ?_ ?_ ?_
  · repeat' (first | exact True.intro | refine And.intro rfl ?_)
  · exact ⟨Nat.le_refl _, h1, rfl, hF.congr fun j hj => (rowN_one f h1 j hj).symm, hh⟩
  ·rintro s a w ⟨hi1, him, hsz, hCF, hh⟩ hf
   obtain ⟨i, c1⟩ := s; simp only at hi1 him hsz hCF hh hf ⊢
   refine sy_seq ?_
   refine sy_sq ?_
   refine o_v hf hh (yv_move rfl) ?_; clear hf a; intro a hf
   refine o_v hf hh (yv_move rfl) ?_; clear hf a; intro a hf
   refine o_v hf hh (yv_bin rfl rfl rfl) ?_; clear hf a; intro a hf
   refine o_end ?_
   refine sy_cond hf rfl (fun hg2 => ?_) (fun hg2 => ?_)
   ·have hG2 := hg2; try simp only [gS] at hG2
    refine sy_skip ?_
    refine then_n ?_
    refine sy_seq ?_
    refine sy_block ?_
    refine sy_sq ?_
    refine o_v hf hh (yv_move rfl) ?_; clear hf a; intro a hf
    refine o_v hf hh (yv_assign rfl) ?_; clear hf a; intro a hf
    refine o_end ?_
    refine sy_block ?_
    refine sy_loopH (σ := Nat × Array Value × List Nat × List Nat) [9, 18, 19, 20, 21, 22, 23, 24, 25, 26, 27, 28, 29, 30, 31, 32, 33, 34, 35, 36, 37, 38, 39, 40, 41, 42, 43, 44, 45, 46, 47, 48, 49, 50, 51, 52] (fun s => [(9, .int .i64 (s.1 : Nat))]) (fun s => fun w' => s.1 ≤ i ∧ s.2.1.size = cur.size ∧ InsAt f i s.1 s.2.2.1 s.2.2.2 ∧ CF s.2.1 m (sq (s.2.2.1 ++ i :: (s.2.2.2 ++ List.range' (i + 1) (m - (i + 1))))) ∧ Hp u [Bd] [(Bd, .cells s.2.1 3)] w') (fun s => s.1) ((i, c1, srtL f i, [])) hf ?_ ?_ ?_
    · repeat' (first | exact True.intro | refine And.intro rfl ?_)
    · exact ⟨Nat.le_refl _, hsz, .init f i, by rw [← rowN_cons f (by omega)]; exact hCF, hh⟩
    ·rintro s a w ⟨hj, hsz2, hI, hCF2, hh⟩ hf
     obtain ⟨j, c2, A, B⟩ := s; simp only at hj hsz2 hI hCF2 hh hf ⊢
     refine sy_seq ?_
     refine sy_seq ?_
     refine sy_tree1 (.p 0 (.p 1 (.p 2 (.p 3 (.p 4 (.p 5 (.p 6 (.p 7 (.q 0 8 (.p 9 (.p 10 (.p 11 (.p 12 (.q 0 13 (.e1 14 (.p 15 (.p 16 (.fin)))))))))))))))))) [] Tryz.follows (by kernel_rfl) hh (fun w hh => ?_)
     refine mc_p rfl   hf (yv_move rfl) (.inl rfl) rfl rfl ?_; clear hf a; intro a hf
     refine mc_p rfl   hf (yv_move rfl) (.inl rfl) rfl rfl ?_; clear hf a; intro a hf
     refine mc_p rfl   hf (yv_bin rfl rfl rfl) (.inl rfl) rfl rfl ?_; clear hf a; intro a hf
     refine mc_p rfl   hf (yv_move rfl) (.inl rfl) rfl rfl ?_; clear hf a; intro a hf
     refine guard_any hf (t := 21) rfl (fun hg4 => ?_) (fun hg4 => ?_)
     ·have hG4 := hg4; try simp only [gS] at hG4
      obtain ⟨A1, pv, rfl⟩ := hI.split (by omega)
      obtain ⟨jj, hjj⟩ : ∃ jj, jj = A1.length := ⟨_, rfl⟩
      have hlen := hI.len
      rw [List.length_append, List.length_singleton, ← hjj] at hlen
      subst hlen
      have hpv : pv < i := srtL_lt f (by rw [← hI.ab]; simp)
      have g1 := hCF2.2 jj (by omega)
      have g2 := hCF2.2 (jj + 1) (by omega)
      have q1 : sq (A1 ++ [pv] ++ i :: (B ++ List.range' (i + 1) (m - (i + 1)))) jj = pv := by rw [List.append_assoc, hjj]; exact sq_at
      have q2 : sq (A1 ++ [pv] ++ i :: (B ++ List.range' (i + 1) (m - (i + 1)))) (jj + 1) = i := by
        have h9 := sq_at (A := A1 ++ [pv]) (x := i) (R := B ++ List.range' (i + 1) (m - (i + 1)))
        rw [List.length_append, List.length_singleton, ← hjj] at h9; exact h9
      rw [q1] at g1; rw [q2] at g2
      have hc2 := hCF2.1
      have hCF3 := ((hCF2.put (j := jj + 1) (by omega) (pv : Int)).put (j := jj) (by omega) (i : Int)).congr (G := sq (A1 ++ i :: (pv :: B ++ List.range' (i + 1) (m - (i + 1))))) fun z hz => by
        have h9 := sq_swap (A := A1) (R := B ++ List.range' (i + 1) (m - (i + 1))) (x := pv) (y := i) z
        rw [← hjj] at h9
        rw [List.cons_append, ← h9]
        simp only [List.append_assoc, List.singleton_append]
      have hs3 := hCF2.size (j := jj + 1) (by omega) (.int .i64 (pv : Int))
      have hs4 := (hCF2.put (j := jj + 1) (by omega) (pv : Int)).size (j := jj) (by omega) (.int .i64 (i : Int))
      refine mc_p rfl   hf (yv_move rfl) (gon rfl rfl rfl (by first | assumption | rfl | (simp; done) | (simp; omega))) rfl rfl ?_; clear hf a; intro a hf
      refine mc_p rfl   hf (yv_move rfl) (gon rfl rfl rfl (by first | assumption | rfl | (simp; done) | (simp; omega))) rfl rfl ?_; clear hf a; intro a hf
      refine mc_p rfl   hf (yv_move rfl) (gon rfl rfl rfl (by first | assumption | rfl | (simp; done) | (simp; omega))) rfl rfl ?_; clear hf a; intro a hf
      refine mc_p rfl   hf (y_ix Tryz.se_28 rfl rfl) (gon rfl rfl rfl (by first | assumption | rfl | (simp; done) | (simp; omega))) rfl rfl ?_; clear hf a; intro a hf
      refine mc_q rfl rfl hh hf (y_ld Tryz.sc_3 rfl) (gon rfl rfl rfl (by first | assumption | rfl | (simp; done) | (simp; omega))) rfl rfl ?_; clear hf a; intro a hf
      refine mc_p rfl   hf (yv_move rfl) (gon rfl rfl rfl (by first | assumption | rfl | (simp; done) | (simp; omega))) rfl rfl ?_; clear hf a; intro a hf
      refine mc_p rfl   hf (yv_move rfl) (gon rfl rfl rfl (by first | assumption | rfl | (simp; done) | (simp; omega))) rfl rfl ?_; clear hf a; intro a hf
      refine mc_p rfl   hf (yv_cast (yv_sub rfl rfl (by omega) (by omega)) (intv (b := ((jj : Nat) : Int)) (by omega))) (gon rfl rfl rfl (by first | assumption | rfl | (simp; done) | (simp; omega))) rfl rfl ?_; clear hf a; intro a hf
      refine mc_p rfl   hf (y_ix Tryz.se_28 rfl rfl) (gon rfl rfl rfl (by first | assumption | rfl | (simp; done) | (simp; omega))) rfl rfl ?_; clear hf a; intro a hf
      refine mc_q rfl rfl hh hf (y_ld Tryz.sc_3 rfl) (gon rfl rfl rfl (by first | assumption | rfl | (simp; done) | (simp; omega))) rfl rfl ?_; clear hf a; intro a hf
      refine mc_e rfl fun Q1 => ?_
      refine o_call hf Tryz.en_86 rfl rfl rfl (hC _ (hh.ext.mono (by simp)) i pv (by omega) (by omega)) ?_; clear hf a; intro v a w hR hf
      obtain ⟨rfl, hx⟩ := hR; replace hh := hh.more hx; clear hx
      refine ops_end ?_
      refine then_n ⟨⟨fun _ _ => hh, trivial⟩, ?_⟩
      refine mc_p rfl   hf (yv_bin rfl rfl rfl) (gon rfl rfl rfl (by first | assumption | rfl | (simp; done) | (simp; omega))) rfl rfl ?_; clear hf a; intro a hf
      refine mc_p rfl   hf (y_pt rfl rfl) (.inl rfl) rfl rfl ?_; clear hf a; intro a hf
      refine mc_end ?_
      refine then_n ?_
      refine sy_cond hf rfl (fun hg8 => ?_) (fun hg8 => ?_)
      ·have hG8 := hg8; try simp only [gS] at hG8
       refine sy_skip ?_
       refine then_n ?_
       refine sy_seq ?_
       refine sy_block ?_
       refine sy_tree1 (.p 0 (.p 1 (.p 2 (.p 3 (.p 4 (.p 5 (.p 6 (.p 7 (.p 8 (.q 0 9 (.p 10 (.p 11 (.p 12 (.q 0 13 (.p 14 (.e1 15 (.p 16 (.e1 17 (.fin))))))))))))))))))) [15, 17] Tryz.follows (by kernel_rfl) hh (fun w hh => ?_)
       refine mc_p rfl   hf (yv_move rfl) (.inl rfl) rfl rfl ?_; clear hf a; intro a hf
       refine mc_p rfl   hf (yv_move rfl) (.inl rfl) rfl rfl ?_; clear hf a; intro a hf
       refine mc_p rfl   hf (yv_move rfl) (.inl rfl) rfl rfl ?_; clear hf a; intro a hf
       refine mc_p rfl   hf (yv_move rfl) (.inl rfl) rfl rfl ?_; clear hf a; intro a hf
       refine mc_p rfl   hf (yv_cast (yv_sub rfl rfl (by omega) (by omega)) (intv (b := ((jj : Nat) : Int)) (by omega))) (.inl rfl) rfl rfl ?_; clear hf a; intro a hf
       refine mc_p rfl   hf (yv_move rfl) (.inl rfl) rfl rfl ?_; clear hf a; intro a hf
       refine mc_p rfl   hf (yv_move rfl) (.inl rfl) rfl rfl ?_; clear hf a; intro a hf
       refine mc_p rfl   hf (yv_cast (yv_sub rfl rfl (by omega) (by omega)) (intv (b := ((jj : Nat) : Int)) (by omega))) (.inl rfl) rfl rfl ?_; clear hf a; intro a hf
       refine mc_p rfl   hf (y_ix Tryz.se_28 rfl rfl) (.inl rfl) rfl rfl ?_; clear hf a; intro a hf
       refine mc_q rfl rfl hh hf (y_ld Tryz.sc_3 rfl) (.inl rfl) rfl rfl ?_; clear hf a; intro a hf
       refine mc_p rfl   hf (yv_move rfl) (.inl rfl) rfl rfl ?_; clear hf a; intro a hf
       refine mc_p rfl   hf (yv_move rfl) (.inl rfl) rfl rfl ?_; clear hf a; intro a hf
       refine mc_p rfl   hf (y_ix Tryz.se_28 rfl rfl) (.inl rfl) rfl rfl ?_; clear hf a; intro a hf
       refine mc_q rfl rfl hh hf (y_ld Tryz.sc_3 rfl) (.inl rfl) rfl rfl ?_; clear hf a; intro a hf
       refine mc_p rfl   hf (y_ix Tryz.se_28 rfl rfl) (.inl rfl) rfl rfl ?_; clear hf a; intro a hf
       refine mc_e rfl fun Q1 => ?_
       refine o_store (i := 0) hf hh Tryz.sz_3 (hx := rfl) (hi := atI (i := 0) rfl) (hy := rfl) (hl := Nat.ble_eq_true_of_le (by rw [Int.toNat_natCast]; omega)) fun w hh => ?_
       refine ops_end ?_
       refine then_n ⟨⟨fun h => Bool.noConfusion (show true = false from h), trivial⟩, ?_⟩
       refine mc_p rfl   hf (y_ix Tryz.se_28 rfl rfl) (.inl rfl) rfl rfl ?_; clear hf a; intro a hf
       refine mc_e rfl fun Q1 => ?_
       refine o_store (i := 0) hf hh Tryz.sz_3 (hx := rfl) (hi := atI (i := 0) rfl) (hy := rfl) (hl := Nat.ble_eq_true_of_le (by simp only [Value.cells, List.cons.injEq] at *; rw [Int.toNat_natCast]; omega)) fun w hh => ?_
       refine ops_end ?_
       refine then_n ⟨⟨fun h => Bool.noConfusion (show true = false from h), trivial⟩, ?_⟩
       refine mc_end ?_
       refine blk_n ?_
       refine then_n ?_
       refine sy_ops ?_
       refine o_v hf hh (yv_move rfl) ?_; clear hf a; intro a hf
       refine ops_v hf hh (yv_cast (yv_sub rfl rfl (by omega) (by omega)) (intv (b := ((jj : Nat) : Int)) (by omega))) (.inl rfl) rfl rfl rfl ?_; clear hf a; intro a hf
       refine o_v hf hh (yv_assign rfl) ?_; clear hf a; intro a hf
       refine ops_end ?_
       refine then_n ?_
       exact ⟨(jj, _, A1, pv :: B), ⟨⟨by simp only; omega, (hs4.trans hs3).trans hsz2, hI.step (cmp_neg.1 (by omega)), hCF3, hh⟩, (hf.head (by repeat' (first | exact True.intro | refine And.intro rfl ?_)) (Keep.cons rfl (Keep.cons rfl (Keep.cons rfl (Keep.cons rfl (Keep.cons rfl (Keep.cons rfl (Keep.cons rfl (Keep.cons rfl (Keep.cons rfl (Keep.cons rfl (Keep.cons rfl (Keep.cons rfl (Keep.cons rfl (Keep.cons rfl (Keep.cons rfl (Keep.cons rfl (Keep.cons rfl (Keep.cons rfl (Keep.cons rfl (Keep.cons rfl (Keep.cons rfl (Keep.cons rfl (Keep.cons rfl (Keep.cons rfl (Keep.cons rfl (Keep.cons rfl (Keep.cons rfl (Keep.cons rfl (Keep.cons rfl (Keep.cons rfl (Keep.cons rfl (Keep.cons rfl (Keep.cons rfl (Keep.cons rfl (Keep.cons rfl (Keep.cons rfl (Keep.app rfl (Keep.rm rfl Keep.base)))))))))))))))))))))))))))))))))))))))⟩, by simp only; omega⟩
      ·have hG8 := hg8; try simp only [gS] at hG8
       refine sy_exit ?_
       refine then_e ?_
       refine then_e ?_
       refine blk_e ?_
       refine blk_n ?_
       refine then_n ?_
       refine sy_ops ?_
       refine o_v hf hh (yv_move rfl) ?_; clear hf a; intro a hf
       refine o_v hf hh (y_add rfl rfl) ?_; clear hf a; intro a hf
       refine o_v hf hh (yv_assign rfl) ?_; clear hf a; intro a hf
       refine ops_end ?_
       refine then_n ?_
       first
         | exact ⟨(i + 1, c2), ⟨⟨by simp only; omega, by simp only; omega, by simp only; omega, by simp only; rw [← hI.stop (by omega) (.inl (by omega))]; exact hCF2, hh⟩, (hf.head (by repeat' (first | exact True.intro | refine And.intro rfl ?_)) (Keep.cons rfl (Keep.cons rfl (Keep.cons rfl (Keep.cons rfl (Keep.cons rfl (Keep.cons rfl (Keep.cons rfl (Keep.cons rfl (Keep.cons rfl (Keep.cons rfl (Keep.cons rfl (Keep.cons rfl (Keep.cons rfl (Keep.cons rfl (Keep.cons rfl (Keep.cons rfl (Keep.cons rfl (Keep.cons rfl (Keep.cons rfl (Keep.cons rfl (Keep.app rfl (Keep.rm rfl (Keep.cons rfl (Keep.cons rfl (Keep.cons rfl (Keep.cons rfl (Keep.cons rfl (Keep.app rfl (Keep.rm rfl Keep.base))))))))))))))))))))))))))))))⟩, by simp only; omega⟩
         | exact ⟨(i + 1, c2), ⟨⟨by simp only; omega, by simp only; omega, by simp only; omega, by simp only; rw [← hI.stop (by omega) (.inr ⟨A1, pv, rfl, by unfold cmpI at *; split at * <;> omega⟩)]; exact hCF2, hh⟩, (hf.head (by repeat' (first | exact True.intro | refine And.intro rfl ?_)) (Keep.cons rfl (Keep.cons rfl (Keep.cons rfl (Keep.cons rfl (Keep.cons rfl (Keep.cons rfl (Keep.cons rfl (Keep.cons rfl (Keep.cons rfl (Keep.cons rfl (Keep.cons rfl (Keep.cons rfl (Keep.cons rfl (Keep.cons rfl (Keep.cons rfl (Keep.cons rfl (Keep.cons rfl (Keep.cons rfl (Keep.cons rfl (Keep.cons rfl (Keep.app rfl (Keep.rm rfl (Keep.cons rfl (Keep.cons rfl (Keep.cons rfl (Keep.cons rfl (Keep.cons rfl (Keep.app rfl (Keep.rm rfl Keep.base))))))))))))))))))))))))))))))⟩, by simp only; omega⟩
         | omega
     ·have hG4 := hg4; try simp only [gS] at hG4
      refine mc_off rfl hf (goff rfl rfl rfl (by first | assumption | rfl | (simp; done) | (simp; omega))) rfl rfl ?_; clear hf a; intro a hf
      refine mc_off rfl hf (goff rfl rfl rfl (by first | assumption | rfl | (simp; done) | (simp; omega))) rfl rfl ?_; clear hf a; intro a hf
      refine mc_off rfl hf (goff rfl rfl rfl (by first | assumption | rfl | (simp; done) | (simp; omega))) rfl rfl ?_; clear hf a; intro a hf
      refine mc_off rfl hf (goff rfl rfl rfl (by first | assumption | rfl | (simp; done) | (simp; omega))) rfl rfl ?_; clear hf a; intro a hf
      refine mc_offq rfl rfl hh hf (goff rfl rfl rfl (by first | assumption | rfl | (simp; done) | (simp; omega))) rfl rfl ?_; clear hf a; intro a hf
      refine mc_off rfl hf (goff rfl rfl rfl (by first | assumption | rfl | (simp; done) | (simp; omega))) rfl rfl ?_; clear hf a; intro a hf
      refine mc_off rfl hf (goff rfl rfl rfl (by first | assumption | rfl | (simp; done) | (simp; omega))) rfl rfl ?_; clear hf a; intro a hf
      refine mc_off rfl hf (goff rfl rfl rfl (by first | assumption | rfl | (simp; done) | (simp; omega))) rfl rfl ?_; clear hf a; intro a hf
      refine mc_off rfl hf (goff rfl rfl rfl (by first | assumption | rfl | (simp; done) | (simp; omega))) rfl rfl ?_; clear hf a; intro a hf
      refine mc_offq rfl rfl hh hf (goff rfl rfl rfl (by first | assumption | rfl | (simp; done) | (simp; omega))) rfl rfl ?_; clear hf a; intro a hf
      refine mc_e rfl fun Q1 => ?_
      refine o_off hf ?_; clear hf a; intro a hf
      refine ops_end ?_
      refine then_n ⟨⟨fun _ _ => hh, trivial⟩, ?_⟩
      refine mc_off rfl hf (goff rfl rfl rfl (by first | assumption | rfl | (simp; done) | (simp; omega))) rfl rfl ?_; clear hf a; intro a hf
      refine mc_p rfl   hf (y_pf rfl rfl) (.inl rfl) rfl rfl ?_; clear hf a; intro a hf
      refine mc_end ?_
      refine then_n ?_
      refine c_f hf ?_
      refine sy_exit ?_
      refine then_e ?_
      refine then_e ?_
      refine blk_e ?_
      refine blk_n ?_
      refine then_n ?_
      refine sy_ops ?_
      refine o_v hf hh (yv_move rfl) ?_; clear hf a; intro a hf
      refine o_v hf hh (y_add rfl rfl) ?_; clear hf a; intro a hf
      refine o_v hf hh (yv_assign rfl) ?_; clear hf a; intro a hf
      refine ops_end ?_
      refine then_n ?_
      first
        | exact ⟨(i + 1, c2), ⟨⟨by simp only; omega, by simp only; omega, by simp only; omega, by simp only; rw [← hI.stop (by omega) (.inl (by omega))]; exact hCF2, hh⟩, (hf.head (by repeat' (first | exact True.intro | refine And.intro rfl ?_)) (Keep.cons rfl (Keep.cons rfl (Keep.cons rfl (Keep.cons rfl (Keep.cons rfl (Keep.cons rfl (Keep.cons rfl (Keep.cons rfl (Keep.cons rfl (Keep.cons rfl (Keep.cons rfl (Keep.cons rfl (Keep.cons rfl (Keep.cons rfl (Keep.cons rfl (Keep.cons rfl (Keep.cons rfl (Keep.cons rfl (Keep.cons rfl (Keep.cons rfl (Keep.app rfl (Keep.rm rfl (Keep.cons rfl (Keep.cons rfl (Keep.cons rfl (Keep.cons rfl (Keep.cons rfl (Keep.app rfl (Keep.rm rfl Keep.base))))))))))))))))))))))))))))))⟩, by simp only; omega⟩
        | exact ⟨(i + 1, c2), ⟨⟨by simp only; omega, by simp only; omega, by simp only; omega, by simp only; rw [← hI.stop (by omega) (.inr ⟨A1, pv, rfl, by unfold cmpI at *; split at * <;> omega⟩)]; exact hCF2, hh⟩, (hf.head (by repeat' (first | exact True.intro | refine And.intro rfl ?_)) (Keep.cons rfl (Keep.cons rfl (Keep.cons rfl (Keep.cons rfl (Keep.cons rfl (Keep.cons rfl (Keep.cons rfl (Keep.cons rfl (Keep.cons rfl (Keep.cons rfl (Keep.cons rfl (Keep.cons rfl (Keep.cons rfl (Keep.cons rfl (Keep.cons rfl (Keep.cons rfl (Keep.cons rfl (Keep.cons rfl (Keep.cons rfl (Keep.cons rfl (Keep.app rfl (Keep.rm rfl (Keep.cons rfl (Keep.cons rfl (Keep.cons rfl (Keep.cons rfl (Keep.cons rfl (Keep.app rfl (Keep.rm rfl Keep.base))))))))))))))))))))))))))))))⟩, by simp only; omega⟩
        | omega
   ·have hG2 := hg2; try simp only [gS] at hG2
    refine sy_exit ?_
    refine then_e ?_
    refine then_e ?_
    refine blk_e ?_
    refine ret_n hf rfl rfl ?_
    obtain rfl : i = m := by omega
    exact ⟨c1, by rw [← rowN_end]; exact hCF, hsz, hh⟩
theorem p103 (f : Nat → Int) (m Bd cap : Nat) (cur : Array Value) (Bn Bs : Nat) (u : World) (h1 : 1 ≤ m) (h5 : m ≤ 5) (hb : u.heap[Bd]? = some (.cells cur 3 (0, 0))) (hF : CF cur m (fun j => (j : Int))) (hC : ∀ (w1 : World), Ext [Bd] u w1 → ∀ x y, x < m → y < m → Calls Tryz.prog 86 #[.int .i64 (x : Nat), .int .i64 (y : Nat), ptr Bn 0, ptr Bs 0] w1 (Ret fun v w2 => v = .int .i64 (cmpI (f y) (f x)) ∧ Ext [] w1 w2)) : Calls Tryz.prog 122 #[.slice (some ⟨Bd, 0, none⟩) m cap, .int .i64 (m : Nat), .func (.func 86) #[] #[ptr Bn 0, ptr Bs 0]] u (Ret fun _ w' => ∃ cur', CF cur' m (sq (srtL f m)) ∧ cur'.size = cur.size ∧ Hp u [Bd] [(Bd, .cells cur' 3)] w') := by
  refine calls_of Tryz.func122 rfl rfl (fun a hf => ?_)
  have hh := Hp.init1 hb
  refine sy_sq ?_
  refine o_v hf hh (yv_assign rfl) ?_; clear hf a; intro a hf
  refine o_end ?_
  refine sy_sq ?_
  refine o_v hf hh (yv_move rfl) ?_; clear hf a; intro a hf
  refine o_v hf hh (yv_assign rfl) ?_; clear hf a; intro a hf
  refine o_v hf hh (yv_assign rfl) ?_; clear hf a; intro a hf
  refine o_end ?_
  refine sy_seq ?_
  refine sy_block ?_
  refine sy_loopH (σ := Unit) [7, 8, 11, 12, 13, 14, 15, 16, 17, 18, 19, 20, 21, 22] (fun z => [(7, .int .i64 0), (8, .int .i64 20)]) (fun z => fun w' => Hp u [Bd] [(Bd, .cells cur 3)] w') (fun z => 0) (()) hf ?_ ?_ ?_
  · repeat' (first | exact True.intro | refine And.intro rfl ?_)
  · first | exact True.intro | omega | (simp; omega) | simp
  ·rintro z a w hh hf
   refine sy_seq ?_
   refine sy_sq ?_
   refine o_v hf hh (yv_move rfl) ?_; clear hf a; intro a hf
   refine o_v hf hh (yv_move rfl) ?_; clear hf a; intro a hf
   refine o_v hf hh (yv_bin rfl rfl rfl) ?_; clear hf a; intro a hf
   refine o_end ?_
   refine c_f hf ?_
   refine sy_exit ?_
   refine then_e ?_
   refine then_e ?_
   refine blk_e ?_
   refine then_n ?_
   refine sy_sq ?_
   refine o_v hf hh (yv_move rfl) ?_; clear hf a; intro a hf
   refine o_v hf hh (yv_move rfl) ?_; clear hf a; intro a hf
   refine o_v hf hh (yv_move rfl) ?_; clear hf a; intro a hf
   refine o_v hf hh (yv_move rfl) ?_; clear hf a; intro a hf
   refine o_call hf Tryz.en_145 rfl rfl rfl (p114 f m Bd cap cur Bn Bs _ h1 h5 (hh.at (i := 0) rfl) hF (fun w1 e => hC w1 (hh.ext.trans e))) ?_; clear hf a; intro v a w hR hf
   obtain ⟨cur1, hC1, hs1, hx⟩ := hR; replace hh := hh.turn (i := 0) rfl hx.ext (hx.at (i := 0) rfl); clear hx
   refine o_end ?_
   refine sy_block ?_
   refine sy_loopH (σ := Unit) [6, 7, 8, 9, 28, 29, 30, 31, 32, 33, 34, 35, 36, 37, 38, 39, 40, 41, 42, 43, 44, 45, 46, 47, 48, 49, 50, 51, 52, 53, 54, 55, 56, 57, 58, 59, 60, 61, 62] (fun z => [(6, .int .i64 20)]) (fun z => fun w' => ∃ cur', CF cur' m (sq (srtL f m)) ∧ cur'.size = cur.size ∧ Hp u [Bd] [(Bd, .cells cur' 3)] w') (fun z => 0) (()) hf ?_ ?_ ?_
   · repeat' (first | exact True.intro | refine And.intro rfl ?_)
   · exact ⟨cur1, hC1, hs1, hh⟩
   ·rintro z a w ⟨cur2, hC2, hs2, hh⟩ hf
    refine sy_seq ?_
    refine sy_sq ?_
    refine o_v hf hh (yv_move rfl) ?_; clear hf a; intro a hf
    refine o_v hf hh (yv_move rfl) ?_; clear hf a; intro a hf
    refine o_v hf hh (yv_bin rfl rfl rfl) ?_; clear hf a; intro a hf
    refine o_end ?_
    refine c_f hf ?_
    refine sy_exit ?_
    refine then_e ?_
    refine then_e ?_
    refine blk_e ?_
    refine ret_n hf rfl rfl ?_
    exact ⟨cur2, hC2, hs2, hh⟩
theorem p93 (f : Nat → Int) (m Bd cap : Nat) (cur : Array Value) (Bn Bs : Nat) (u : World) (h1 : 1 ≤ m) (h5 : m ≤ 5) (hb : u.heap[Bd]? = some (.cells cur 3 (0, 0))) (hF : CF cur m (fun j => (j : Int))) (hC : ∀ (w1 : World), Ext [Bd] u w1 → ∀ x y, x < m → y < m → Calls Tryz.prog 86 #[.int .i64 (x : Nat), .int .i64 (y : Nat), ptr Bn 0, ptr Bs 0] w1 (Ret fun v w2 => v = .int .i64 (cmpI (f y) (f x)) ∧ Ext [] w1 w2)) : Calls Tryz.prog 88 #[.slice (some ⟨Bd, 0, none⟩) m cap, .func (.func 86) #[] #[ptr Bn 0, ptr Bs 0]] u (Ret fun _ w' => ∃ cur', CF cur' m (sq (srtL f m)) ∧ cur'.size = cur.size ∧ Hp u [Bd] [(Bd, .cells cur' 3)] w') := by
  refine calls_of Tryz.func88 rfl rfl (fun a hf => ?_)
  have hh := Hp.init1 hb
  refine sy_ops ?_
  refine o_v hf hh (yv_move rfl) ?_; clear hf a; intro a hf
  refine o_v hf hh (yv_move rfl) ?_; clear hf a; intro a hf
  refine o_v hf hh (yv_len Tryz.se_28 rfl) ?_; clear hf a; intro a hf
  refine o_v hf hh (yv_move rfl) ?_; clear hf a; intro a hf
  refine o_call hf Tryz.en_122 rfl rfl rfl (p103 f m Bd cap cur Bn Bs _ h1 h5 (hh.at (i := 0) rfl) hF (fun w1 e => hC w1 (hh.ext.trans e))) ?_; clear hf a; intro v a w hR hf
  obtain ⟨cur1, hC1, hs1, hx⟩ := hR; replace hh := hh.turn (i := 0) rfl hx.ext (hx.at (i := 0) rfl); clear hx
  refine ops_end ?_
  refine ret_n hf rfl rfl ?_
  exact ⟨cur1, hC1, hs1, hh⟩
end Go.Proofs.YtccpgpnekoncoaaGreat

namespace Go.Proofs.YtccpgpnekoncoaaGreat
set_option maxRecDepth 100000
open Go Go.Sy Go.RoyM
theorem p72f (n : Int) (l : List Int) (m : Nat) (hm : m = l.length) (sa : Option Addr) (c0 : Nat) (u : World) (hA : IAt u sa (floors n l)) (h0 : 0 ≤ n) (h1 : n ≤ 1099511627776) (hs : ∀ s ∈ l, 0 ≤ s ∧ s ≤ 1000) (hl : l.length ≤ 1000) : Calls Tryz.prog 47 #[.slice sa m c0] u (Ret fun v w' => v = .int .i64 (sumI (floors n l)) ∧ Ext [] u w') := by
  have h := p72 (floors n l) sa c0 u hA (by rw [floors_len]; exact hl) (floors_bd h0 h1 hs hl)
  rw [floors_len, ← hm] at h
  exact h
theorem p50 (n : Int) (l : List Int) (sa : Option Addr) (c0 : Nat) (u : World) (hA : IAt u sa l) (hS : ShOk l) (h0 : 0 ≤ n) (h1 : n ≤ 1099511627776) : Calls Tryz.prog 56 #[.int .i64 n, .slice sa l.length c0] u (Ret fun v w' => ∃ Bo cur, v = .slice (some ⟨Bo, 0, none⟩) l.length l.length ∧ CF cur l.length (fun j => (splitL n l).getD j 0) ∧ Hp u [] [(Bo, .cells cur 3)] w') := by
  refine calls_of Tryz.func56 rfl rfl (fun a hf => ?_)
  have hh := Hp.init u []
  have hs1 := hS.n1; have hs2 := hS.n2; have hsb := hS.bd
  obtain ⟨m, hm⟩ : ∃ m, m = l.length := ⟨_, rfl⟩
  have hlb := left_bd (n := n) hS
  have hlk : ((leftN n l : Nat) : Int) = n - sumI (floors n l) := by unfold leftN; omega
  refine sy_sq ?_
  refine o_box hf hh ?_; clear hf hh a; intro B2 a w hf hh
  refine o_box hf hh ?_; clear hf hh a; intro B3 a w hf hh
  refine o_v hf hh (yv_assign rfl) ?_; clear hf a; intro a hf
  refine o_end ?_
  refine sy_sq ?_
  refine o_v hf hh (y_ld Tryz.sc_28 rfl) ?_; clear hf a; intro a hf
  refine o_v hf hh (yv_len Tryz.se_28 rfl) ?_; clear hf a; intro a hf
  refine ops_make hf hh Tryz.eb_28 rfl rfl (by omega) (by omega) (.inl rfl) rfl ?_; clear hf hh a; intro Bo a w hf hh
  refine o_v hf hh (yv_assign rfl) ?_; clear hf a; intro a hf
  refine o_end ?_
  refine sy_sq ?_
  refine o_v hf hh (yv_makeFunc rfl rfl) ?_; clear hf a; intro a hf
  refine o_v hf hh (yv_buildS Tryz.bs_165 rfl rfl) ?_; clear hf a; intro a hf
  refine o_alloc hf hh Tryz.ze_165 ?_; clear hf hh a; intro B6 a w hf hh
  refine o_store hf hh Tryz.sz_165 fun w hh => ?_
  refine o_end ?_
  refine sy_seq ?_
  refine sy_sq ?_
  refine o_v hf hh (y_ld Tryz.sc_28 rfl) ?_; clear hf a; intro a hf
  refine o_v hf hh (yv_len Tryz.se_28 rfl) ?_; clear hf a; intro a hf
  refine o_v hf hh (yv_move rfl) ?_; clear hf a; intro a hf
  refine o_end ?_
  refine sy_block ?_
  refine sy_loopH (σ := Nat × Array Value × Value × List (Nat × Obj)) [7, 8, 18, 19, 20, 21, 22, 23, 24, 25, 26, 27, 28, 29, 30, 31, 32, 33, 34, 35, 36] (fun s => [(18, .int .i64 (s.1 : Nat))]) (fun s => fun w' => s.1 ≤ l.length ∧ CF s.2.1 l.length (floF n l s.1) ∧ OwnSl 3 1 s.2.2.1 s.1 (rngV s.1) s.2.2.2 ∧ Hp u [] ([(Bo, .cells s.2.1 3), (B6, .cells #[s.2.2.1, .func (.func 86) #[] #[ptr B2 0, ptr B3 0]] 165), (B3, .cells #[.slice sa l.length c0] 28), (B2, .cells #[.int .i64 n] 3)] ++ s.2.2.2) w') (fun s => l.length - s.1) ((0, madeCells (Value.int .i64 0).cells (l.length * 1), .slice none 0 0, [])) hf ?_ ?_ ?_
  · repeat' (first | exact True.intro | refine And.intro rfl ?_)
  · exact ⟨Nat.zero_le _, (made_CF _).congr fun j _ => by unfold floF; rw [if_neg (by omega)], OwnSl.nil _ _, hh.perm (.swap _ _ _)⟩
  ·rintro s a w ⟨hi, hCF, hO, hh⟩ hf
   obtain ⟨i, cur, vp, X⟩ := s; simp only at hi hCF hO hh hf ⊢
   refine sy_sq ?_
   refine o_v hf hh (yv_bin rfl rfl rfl) ?_; clear hf a; intro a hf
   refine o_end ?_
   refine sy_seq ?_
   refine sy_cond hf rfl (fun hg3 => ?_) (fun hg3 => ?_)
   ·have hG3 := hg3; try simp only [gS] at hG3
    refine sy_skip ?_
    refine then_n ?_
    refine sy_seq ?_
    refine sy_block ?_
    refine sy_seq ?_
    obtain ⟨x, hx⟩ := ex_of (l := l) (i := i) (by omega)
    obtain ⟨blk, off, cc, T, fr, e, hb, hc⟩ := hA i x hx
    have hxs := hsb x (List.mem_of_getElem? hx)
    have hmu := mul_facts h0 h1 hxs
    have hc1 := hCF.1
    have hCF2 := (hCF.put (j := i) (by omega) (flo n x)).congr fun j hj => floF_step hx j
    subst e
    refine sy_ops ?_
    refine o_v hf hh (yv_move rfl) ?_; clear hf a; intro a hf
    refine o_v hf hh (y_ix Tryz.se_28 rfl rfl) ?_; clear hf a; intro a hf
    refine o_v hf hh (y_ld Tryz.sc_3 rfl) ?_; clear hf a; intro a hf
    refine o_v hf hh (yv_assign rfl) ?_; clear hf a; intro a hf
    refine o_v hf hh (yv_assign rfl) ?_; clear hf a; intro a hf
    refine o_end ?_
    refine sy_sq ?_
    refine o_v hf hh (yv_move rfl) ?_; clear hf a; intro a hf
    refine o_v hf hh (yv_move rfl) ?_; clear hf a; intro a hf
    refine o_v hf hh (y_ld Tryz.sc_3 rfl) ?_; clear hf a; intro a hf
    refine o_v hf hh (yv_move rfl) ?_; clear hf a; intro a hf
    refine o_v hf hh (y_mul rfl rfl) ?_; clear hf a; intro a hf
    refine o_v hf hh (yv_quo rfl rfl (by omega) (by omega) (by omega)) ?_; clear hf a; intro a hf
    refine o_v hf hh (y_ix Tryz.se_28 rfl rfl) ?_; clear hf a; intro a hf
    refine o_store (i := 0) hf hh Tryz.sz_3 (hx := rfl) (hi := atI (i := 0) rfl) (hy := rfl) (hl := Nat.ble_eq_true_of_le (by rw [Int.toNat_natCast]; omega)) fun w hh => ?_
    refine o_end ?_
    refine sy_ops ?_
    refine o_v hf hh (yv_fieldAddr Tryz.fo_165_0 rfl) ?_; clear hf a; intro a hf
    refine o_v hf hh (y_ld Tryz.sc_28 rfl) ?_; clear hf a; intro a hf
    refine o_v hf hh (yv_move rfl) ?_; clear hf a; intro a hf
    refine ops_buildSl hf hh Tryz.bl_28_1 rfl rfl (.inl rfl) rfl ?_; clear hf hh; clear a; intro B33 a w hf hh
    refine ops_append (e := 3) (size := 1) (xs := rngV i) (X := X) (Z := _) (m := i) (q := 1) hf (hh.perm (.cons _ (List.perm_append_comm (l₁ := [_, _, _, _]) (l₂ := X)))) Tryz.eb_28 rfl rfl hO rfl rfl rfl (by simp only [maxLen]; omega) (by omega) (.inl rfl) rfl ?_; clear hf hh a; intro vp2 X2 a w hO2 hf hh
    replace hh := hh.perm List.perm_append_comm
    obtain ⟨oa2, cpz, rfl⟩ := own_val hO2
    refine o_v hf hh (yv_fieldAddr Tryz.fo_165_0 rfl) ?_; clear hf a; intro a hf
    refine o_store hf hh Tryz.sz_28 fun w hh => ?_
    refine ops_end ?_
    refine blk_n ?_
    refine then_n ?_
    refine sy_ops ?_
    refine o_v hf hh (y_add rfl rfl) ?_; clear hf a; intro a hf
    refine o_v hf hh (yv_move rfl) ?_; clear hf a; intro a hf
    refine ops_end ?_
    refine then_n ?_
    exact ⟨(i + 1, _, .slice oa2 (i + 1) cpz, X2), ⟨⟨by simp only; omega, hCF2, by simp only; rw [rngV_succ]; exact hO2, hh⟩, (hf.head (by repeat' (first | exact True.intro | refine And.intro rfl ?_)) (Keep.cons rfl (Keep.cons rfl (Keep.cons rfl (Keep.cons rfl (Keep.cons rfl (Keep.cons rfl (Keep.cons rfl (Keep.cons rfl (Keep.cons rfl (Keep.cons rfl (Keep.cons rfl (Keep.cons rfl (Keep.cons rfl (Keep.cons rfl (Keep.cons rfl (Keep.cons rfl (Keep.cons rfl (Keep.cons rfl (Keep.cons rfl (Keep.cons rfl (Keep.cons rfl (Keep.app rfl (Keep.rm rfl Keep.base))))))))))))))))))))))))⟩, by simp only; omega⟩
   ·have hG3 := hg3; try simp only [gS] at hG3
    refine sy_exit ?_
    refine then_e ?_
    refine then_e ?_
    refine blk_e ?_
    refine then_n ?_
    refine sy_seq ?_
    obtain rfl : i = l.length := by omega
    obtain ⟨Bp, cap, curp, rfl, rfl, hcap1, hcap2, hcs, hct⟩ := own_pos hO (by omega)
    have hCp := rngV_CF (by omega) hct
    refine sy_ops ?_
    refine o_v hf hh (yv_fieldAddr Tryz.fo_165_0 rfl) ?_; clear hf a; intro a hf
    refine o_v hf hh (y_ld Tryz.sc_28 rfl) ?_; clear hf a; intro a hf
    refine o_v hf hh (yv_fieldAddr Tryz.fo_165_1 rfl) ?_; clear hf a; intro a hf
    refine o_v hf hh (y_ld Tryz.sc_163 rfl) ?_; clear hf a; intro a hf
    refine o_call hf Tryz.en_88 rfl rfl rfl (p93 (remF n l) l.length Bp cap curp B2 B3 _ hs1 hs2 (hh.at (i := 4) rfl) hCp (fun w1 e x y hx hy => p91 n l sa c0 B2 B3 x y w1 (hA.ext (hh.extM e (by simp))) (by omega) (hh.apart (i := 3) (j := 4) rfl rfl (by omega) e) (hh.apart (i := 2) (j := 4) rfl rfl (by omega) e) h0 h1 hsb hx hy)) ?_; clear hf a; intro v a w hR hf
    obtain ⟨cp2, hC2, hsz2, hx⟩ := hR; replace hh := hh.turn (i := 4) rfl hx.ext (hx.at (i := 0) rfl); clear hx
    refine o_end ?_
    refine sy_seq ?_
    refine sy_seq ?_
    refine sy_tree1 (.p 0 (.q 0 1 (.q 0 2 (.p 3 (.p 8 (.e1 4 (.p 5 (.p 6 (.p 7 (.fin)))))))))) [] Tryz.follows (by kernel_rfl) hh (fun w hh => ?_)
    refine mc_p rfl   hf (yv_fieldAddr Tryz.fo_165_0 rfl) (.inl rfl) rfl rfl ?_; clear hf a; intro a hf
    refine mc_q rfl rfl hh hf (y_ld Tryz.sc_28 rfl) (.inl rfl) rfl rfl ?_; clear hf a; intro a hf
    refine mc_q rfl rfl hh hf (y_ld Tryz.sc_3 rfl) (.inl rfl) rfl rfl ?_; clear hf a; intro a hf
    refine mc_p rfl   hf (yv_move rfl) (.inl rfl) rfl rfl ?_; clear hf a; intro a hf
    refine mc_p rfl   hf (yv_move rfl) (.inl rfl) rfl rfl ?_; clear hf a; intro a hf
    refine mc_e rfl fun Q1 => ?_
    refine o_call hf Tryz.en_47 rfl rfl rfl (p72f n l l.length rfl _ _ _ (CF.iat (by rw [floors_len]; exact hCF.congr fun j hj => by rw [floors_at hj]; unfold floF; rw [if_pos hj]) (hh.at (i := 0) rfl)) h0 h1 hsb (by omega)) ?_; clear hf a; intro v a w hR hf
    obtain ⟨rfl, hx⟩ := hR; replace hh := hh.more hx; clear hx
    refine ops_end ?_
    refine then_n ⟨⟨fun _ _ => hh, trivial⟩, ?_⟩
    refine mc_p rfl   hf (yv_cast (yv_sub rfl rfl (by omega) (by omega)) (intv (b := ((leftN n l : Nat) : Int)) hlk.symm)) (.inl rfl) rfl rfl ?_; clear hf a; intro a hf
    refine mc_p rfl   hf (yv_cutHi (a := (some ⟨Bp, 0, none⟩)) (n := l.length) (c := cap) (m := leftN n l) Tryz.se_28 rfl rfl (by omega)) (.inl rfl) rfl rfl ?_; clear hf a; intro a hf
    refine mc_p rfl   hf (yv_len Tryz.se_28 rfl) (.inl rfl) rfl rfl ?_; clear hf a; intro a hf
    refine mc_end ?_
    refine then_n ?_
    refine sy_block ?_
    refine sy_loopH (σ := Nat × Array Value) [10, 50, 51, 52, 53, 54, 55, 56, 57, 58, 59, 60] (fun s => [(50, .int .i64 (s.1 : Nat))]) (fun s => fun w' => s.1 ≤ leftN n l ∧ CF s.2 l.length (outF n l s.1) ∧ Hp u [] [(Bp, .cells cp2 3), (Bo, .cells s.2 3)] w') (fun s => leftN n l - s.1) ((0, cur)) hf ?_ ?_ ?_
    · repeat' (first | exact True.intro | refine And.intro rfl ?_)
    · exact ⟨Nat.zero_le _, hCF.congr fun j hj => by rw [out_zero]; unfold floF; rw [if_pos (by omega)], (hh.perm (List.perm_append_comm (l₁ := [_, _, _, _]) (l₂ := [_]))).less (.cons_cons _ (.cons_cons _ (List.nil_sublist _)))⟩
    ·rintro s a w ⟨hi2, hCF2, hh⟩ hf
     obtain ⟨j, cur3⟩ := s; simp only at hi2 hCF2 hh hf ⊢
     refine sy_sq ?_
     refine o_v hf hh (yv_bin rfl rfl rfl) ?_; clear hf a; intro a hf
     refine o_end ?_
     refine sy_seq ?_
     refine sy_cond hf rfl (fun hg10 => ?_) (fun hg10 => ?_)
     ·have hG10 := hg10; try simp only [gS] at hG10
      refine sy_skip ?_
      refine then_n ?_
      refine sy_seq ?_
      refine sy_block ?_
      refine sy_seq ?_
      obtain ⟨o, ho⟩ : ∃ o, o = (ordL n l).getD j 0 := ⟨_, rfl⟩
      have hjl : j < l.length := by omega
      have hol : o < l.length := by rw [ho]; exact ord_lt hjl
      have g1 := hC2.2 j hjl
      have e1 : sq (srtL (remF n l) l.length) j = ((o : Nat) : Int) := by rw [ho]; rfl
      rw [e1] at g1
      have g2 := hCF2.2 o hol
      have hob := out_bd h0 h1 hsb j hol
      have hc1 := hCF2.1
      have hCF3 := (hCF2.put (j := o) hol (outF n l j o + 1)).congr (G := outF n l (j + 1)) fun z hz => by
        rw [out_step hjl, ← ho]
        by_cases h9 : z = o
        · rw [if_pos h9, if_pos h9, h9]
        · rw [if_neg h9, if_neg h9]
      refine sy_ops ?_
      refine o_v hf hh (y_ix Tryz.se_28 rfl rfl) ?_; clear hf a; intro a hf
      refine o_v hf hh (y_ld Tryz.sc_3 rfl) ?_; clear hf a; intro a hf
      refine o_v hf hh (yv_assign rfl) ?_; clear hf a; intro a hf
      refine o_end ?_
      refine sy_ops ?_
      refine o_v hf hh (yv_move rfl) ?_; clear hf a; intro a hf
      refine o_v hf hh (yv_move rfl) ?_; clear hf a; intro a hf
      refine o_v hf hh (y_ix Tryz.se_28 rfl rfl) ?_; clear hf a; intro a hf
      refine o_v hf hh (y_ld Tryz.sc_3 rfl) ?_; clear hf a; intro a hf
      refine o_v hf hh (y_add rfl rfl) ?_; clear hf a; intro a hf
      refine o_v hf hh (y_ix Tryz.se_28 rfl rfl) ?_; clear hf a; intro a hf
      refine o_store (i := 1) hf hh Tryz.sz_3 (hx := rfl) (hi := atI (i := 1) rfl) (hy := rfl) (hl := Nat.ble_eq_true_of_le (by rw [Int.toNat_natCast]; omega)) fun w hh => ?_
      refine ops_end ?_
      refine blk_n ?_
      refine then_n ?_
      refine sy_ops ?_
      refine o_v hf hh (y_add rfl rfl) ?_; clear hf a; intro a hf
      refine o_v hf hh (yv_move rfl) ?_; clear hf a; intro a hf
      refine ops_end ?_
      refine then_n ?_
      exact ⟨(j + 1, _), ⟨⟨by simp only; omega, hCF3, hh⟩, (hf.head (by repeat' (first | exact True.intro | refine And.intro rfl ?_)) (Keep.cons rfl (Keep.cons rfl (Keep.cons rfl (Keep.cons rfl (Keep.cons rfl (Keep.cons rfl (Keep.cons rfl (Keep.cons rfl (Keep.cons rfl (Keep.cons rfl (Keep.cons rfl (Keep.cons rfl (Keep.app rfl (Keep.rm rfl Keep.base)))))))))))))))⟩, by simp only; omega⟩
     ·have hG10 := hg10; try simp only [gS] at hG10
      refine sy_exit ?_
      refine then_e ?_
      refine then_e ?_
      refine blk_e ?_
      refine then_n ?_
      refine sy_sq ?_
      refine o_v hf hh (yv_move rfl) ?_; clear hf a; intro a hf
      refine o_v hf hh (yv_assign rfl) ?_; clear hf a; intro a hf
      refine o_end ?_
      refine sy_ret ?_
      refine ret_r hf rfl rfl ?_
      obtain rfl : j = leftN n l := by omega
      exact ⟨Bo, cur3, rfl, hCF2.congr fun z hz => (split_get hz).symm, hh.less (.cons _ (.refl _))⟩
end Go.Proofs.YtccpgpnekoncoaaGreat

namespace Go.RoyM
open Go Go.Sy
theorem inI_bd {n a b : Int} (h : inI n a b = true) : a ≤ n ∧ n ≤ b := by unfold inI at h; simpa using h
/-- A list of numbers that is one's own. -/
def OwnN (oa : Option Addr) (cap : Nat) (l : List Int) (H : List (Nat × Obj)) : Prop :=
  (oa = none ∧ cap = 0 ∧ l = [] ∧ H = []) ∨ ∃ B cur, oa = some ⟨B, 0, none⟩ ∧ cap = l.length ∧ H = [(B, .cells cur 3 (0, 0))] ∧ CF cur l.length (fun j => l.getD j 0)
theorem OwnN.iat {oa : Option Addr} {cap : Nat} {l : List Int} {H : List (Nat × Obj)} {w : World} (h : OwnN oa cap l H) (hH : ∀ q ∈ H, w.heap[q.1]? = some q.2) : IAt w oa l := by
  rcases h with ⟨_, _, rfl, _⟩ | ⟨B, cur, rfl, _, rfl, h⟩
  · intro i x hi; simp at hi
  · exact h.iat (hH _ (.head _))
def comW (t : TermD) (price many : Int) : Int := if comB t price many then comV t price many else 0
def comE (t : TermD) (price many : Int) : Int := if comB t price many then 0 else 1
theorem comB_in (t : TermD) (price many : Int) : comB t price many = (termB t && inI price 0 1048576 && inI many 0 12) := rfl
def ivs (l : List Int) : List Value := l.map fun x => .int .i64 x
theorem own_iat {v : Value} {m : Nat} {l : List Int} {X : List (Nat × Obj)} {w : World} (h : OwnSl 3 1 v m (ivs l) X) (hX : ∀ q ∈ X, w.heap[q.1]? = some q.2) : ∃ oa cap, v = .slice oa m cap ∧ m = l.length ∧ IAt w oa l := by
  have hm : m = l.length := by have := h.1; unfold ivs at this; rw [List.length_map, Nat.mul_one] at this; exact this.symm
  rcases h.2 with ⟨h1, h2, _⟩ | ⟨B, cap, cur, h1, h2, _, _, h5, h6⟩
  · refine ⟨none, 0, by rw [h1, h2], hm, fun i x hi => ?_⟩
    have := len_of hi
    omega
  · refine ⟨_, _, h1, hm, fun i x hi => ⟨B, 0, cur, 3, (0, 0), rfl, hX (B, .cells cur 3 (0, 0)) (by rw [h2]; exact .head _), ?_⟩⟩
    have hl := len_of hi
    have h7 : (ivs l)[i]? = some (.int .i64 x) := by unfold ivs; rw [List.getElem?_map, hi]; rfl
    rw [← h6, Nat.mul_one, List.getElem?_take, if_pos (by omega)] at h7
    rw [Int.toNat_natCast, Nat.zero_add, Nat.mul_one, ← Array.getElem?_toList]
    exact h7
/-- What an agent is owed, kind by kind. -/
def lowL (d : RoyD) (g i : Nat) : List Int := -(d.paid.getD g 0) :: (List.range i).map fun k => comV (termN d g) (d.prices.getD k 0) (pc (surN d k g) : Nat)
def higL (d : RoyD) (g i : Nat) : List Int := -(d.paid.getD g 0) :: (List.range i).map fun k => comV (termN d g) (d.prices.getD k 0) (pc (clm d k g) : Nat)
theorem lowL_succ (d : RoyD) (g i : Nat) : lowL d g (i + 1) = lowL d g i ++ [comV (termN d g) (d.prices.getD i 0) (pc (surN d i g) : Nat)] := by unfold lowL; rw [List.range_succ, List.map_append]; rfl
theorem higL_succ (d : RoyD) (g i : Nat) : higL d g (i + 1) = higL d g i ++ [comV (termN d g) (d.prices.getD i 0) (pc (clm d i g) : Nat)] := by unfold higL; rw [List.range_succ, List.map_append]; rfl
theorem pc_lt : ∀ {k n : Nat}, k ≤ 64 → n < 2 ^ k → pc n ≤ k
  | 0, n, _, h => by
    obtain rfl : n = 0 := by simpa using h
    rw [pc_zero]; exact Nat.le_refl _
  | k + 1, n, hk, h => by
    have h1 : n < 2 ^ 64 := Nat.lt_of_lt_of_le h (Nat.pow_le_pow_right (by omega) hk)
    rw [Nat.pow_succ] at h
    have h2 := pc_lt (k := k) (n := n / 2) (by omega) (by omega)
    rw [pc_step h1]
    omega
theorem pc_12 {x : Nat} (h : x < 4096) : pc x ≤ 12 := pc_lt (k := 12) (by omega) h
theorem ivs_app (l m : List Int) : ivs (l ++ m) = ivs l ++ ivs m := List.map_append
theorem owe_take {d : RoyD} (hO : RoyOk d) {g : Nat} (hg : g < d.terms.length) (F : Nat → Nat) (hF : ∀ k, F k ≤ 12) (i : Nat) : -4611686018427387904 ≤ sumI ((-(d.paid.getD g 0) :: (List.range d.prices.length).map fun k => comV (termN d g) (d.prices.getD k 0) (F k : Nat)).take i) ∧ sumI ((-(d.paid.getD g 0) :: (List.range d.prices.length).map fun k => comV (termN d g) (d.prices.getD k 0) (F k : Nat)).take i) ≤ 4611686018427387904 := by
  obtain ⟨t, ht⟩ := ex_of hg
  obtain ⟨pd, hpd⟩ := ex_of (l := d.paid) (i := g) (by have := hO.npd; omega)
  have hp := hO.pd pd (List.mem_of_getElem? hpd)
  rw [getD_at hpd, term_at ht]
  have h := take_bd (b := 1099511627776) (l := -pd :: (List.range d.prices.length).map fun k => comV t (d.prices.getD k 0) (F k : Nat)) (fun x hx => by
    rcases List.mem_cons.1 hx with rfl | hx
    · omega
    · obtain ⟨k, hk, rfl⟩ := List.mem_map.1 hx
      obtain ⟨pr, hpr⟩ := ex_of (List.mem_range.1 hk)
      have hb := hO.p pr (List.mem_of_getElem? hpr)
      rw [getD_at hpr]
      have := com_bd (hO.t t (List.mem_of_getElem? ht)) hb.1 hb.2 (hF k)
      omega) (by omega) i (by have := hO.np; simp; omega)
  omega
section
variable {α : Type} {A B C : List α}
theorem perm_mid : (A ++ (B ++ C)).Perm (B ++ (A ++ C)) := by
  rw [← List.append_assoc, ← List.append_assoc]
  exact List.perm_append_comm.append_right C
theorem perm_end : (A ++ (B ++ C)).Perm (C ++ (A ++ B)) := by
  rw [← List.append_assoc]
  exact List.perm_append_comm
theorem perm_back : (C ++ (A ++ B)).Perm (A ++ (B ++ C)) := perm_end.symm
end
end Go.RoyM

namespace Go.Proofs.YtccpgpnekoncoaaGreat
set_option maxRecDepth 100000
open Go Go.Sy Go.RoyM
theorem p17 (t : TermD) (price many : Int) (u : World) : Calls Tryz.prog 11 #[tmV t, .int .i64 price, .int .i64 many] u (Ret fun v w' => v = .tuple #[.int .i64 (comW t price many), .int .i64 (comE t price many)] ∧ Ext [] u w') := by
  refine calls_of Tryz.func11 rfl rfl (fun a hf => ?_)
  have hh := Hp.init u []
  refine sy_sq ?_
  refine o_box hf hh ?_; clear hf hh a; intro B3 a w hf hh
  refine o_v hf hh (yv_assign rfl) ?_; clear hf a; intro a hf
  refine o_v hf hh (yv_assign rfl) ?_; clear hf a; intro a hf
  refine o_end ?_
  refine sy_seq ?_
  refine sy_sq ?_
  refine o_v hf hh (y_lds Tryz.ag_27 rfl) ?_; clear hf a; intro a hf
  refine o_call hf Tryz.en_33 rfl rfl rfl (p52 t _) ?_; clear hf a; intro v a w hR hf
  obtain ⟨rfl, hx⟩ := hR; replace hh := hh.more hx; clear hx
  refine o_v hf hh (yv_not rfl) ?_; clear hf a; intro a hf
  refine o_v hf hh (yv_move rfl) ?_; clear hf a; intro a hf
  refine guard_split hf (t := 11) rfl (fun hg2 => ?_) (fun hg2 => ?_)
  ·have hG2 := hg2; try simp only [gS] at hG2
   refine o_off hf ?_; clear hf a; intro a hf
   refine o_off hf ?_; clear hf a; intro a hf
   refine o_off hf ?_; clear hf a; intro a hf
   refine o_v hf hh (y_pt rfl rfl) ?_; clear hf a; intro a hf
   refine o_v hf hh (yv_move rfl) ?_; clear hf a; intro a hf
   refine o_off hf ?_; clear hf a; intro a hf
   refine o_off hf ?_; clear hf a; intro a hf
   refine o_off hf ?_; clear hf a; intro a hf
   refine o_v hf hh (y_pt rfl rfl) ?_; clear hf a; intro a hf
   refine o_end ?_
   refine c_t hf ?_
   refine sy_sq ?_
   refine o_v hf hh (yv_assign rfl) ?_; clear hf a; intro a hf
   refine o_v hf hh (yv_assign rfl) ?_; clear hf a; intro a hf
   refine o_end ?_
   refine sy_ret ?_
   refine then_r ?_
   refine ret_r hf rfl rfl ?_
   refine ⟨?_, hh.ext⟩
   have e : comB t price many = false := by rw [comB_in]; simp_all
   unfold comW comE; rw [e]; rfl
  ·have hG2 := hg2; try simp only [gS] at hG2
   refine o_v hf hh (yv_move rfl) ?_; clear hf a; intro a hf
   refine o_call hf Tryz.en_34 rfl rfl rfl (p48 _ _ _ _) ?_; clear hf a; intro v a w hR hf
   obtain ⟨rfl, hx⟩ := hR; replace hh := hh.more hx; clear hx
   refine o_v hf hh (yv_not rfl) ?_; clear hf a; intro a hf
   refine o_v hf hh (y_pf rfl rfl) ?_; clear hf a; intro a hf
   refine o_v hf hh (yv_move rfl) ?_; clear hf a; intro a hf
   refine guard_split hf (t := 16) rfl (fun hg4 => ?_) (fun hg4 => ?_)
   ·have hG4 := hg4; try simp only [gS] at hG4
    refine o_off hf ?_; clear hf a; intro a hf
    refine o_off hf ?_; clear hf a; intro a hf
    refine o_off hf ?_; clear hf a; intro a hf
    refine o_v hf hh (y_pt rfl rfl) ?_; clear hf a; intro a hf
    refine o_end ?_
    refine c_t hf ?_
    refine sy_sq ?_
    refine o_v hf hh (yv_assign rfl) ?_; clear hf a; intro a hf
    refine o_v hf hh (yv_assign rfl) ?_; clear hf a; intro a hf
    refine o_end ?_
    refine sy_ret ?_
    refine then_r ?_
    refine ret_r hf rfl rfl ?_
    refine ⟨?_, hh.ext⟩
    have e : comB t price many = false := by rw [comB_in]; simp_all
    unfold comW comE; rw [e]; rfl
   ·have hG4 := hg4; try simp only [gS] at hG4
    refine o_v hf hh (yv_move rfl) ?_; clear hf a; intro a hf
    refine o_call hf Tryz.en_34 rfl rfl rfl (p48 _ _ _ _) ?_; clear hf a; intro v a w hR hf
    obtain ⟨rfl, hx⟩ := hR; replace hh := hh.more hx; clear hx
    refine o_v hf hh (yv_not rfl) ?_; clear hf a; intro a hf
    refine o_v hf hh (y_pf rfl rfl) ?_; clear hf a; intro a hf
    refine o_end ?_
    refine sy_cond hf rfl (fun hg6 => ?_) (fun hg6 => ?_)
    ·have hG6 := hg6; try simp only [gS] at hG6
     refine sy_sq ?_
     refine o_v hf hh (yv_assign rfl) ?_; clear hf a; intro a hf
     refine o_v hf hh (yv_assign rfl) ?_; clear hf a; intro a hf
     refine o_end ?_
     refine sy_ret ?_
     refine then_r ?_
     refine ret_r hf rfl rfl ?_
     refine ⟨?_, hh.ext⟩
     have e : comB t price many = false := by rw [comB_in]; simp_all
     unfold comW comE; rw [e]; rfl
    ·have hG6 := hg6; try simp only [gS] at hG6
     refine sy_skip ?_
     refine then_n ?_
     refine sy_seq ?_
     have h1 : termB t = true := by assumption
     have h2 : inI price 0 1048576 = true := by assumption
     have h3 : inI many 0 12 = true := by assumption
     have b2 := inI_bd h2
     have b3 := inI_bd h3
     refine sy_ops ?_
     refine o_v hf hh (y_lds Tryz.ag_27 rfl) ?_; clear hf a; intro a hf
     refine o_v hf hh (yv_move rfl) ?_; clear hf a; intro a hf
     refine o_v hf hh (yv_move rfl) ?_; clear hf a; intro a hf
     refine o_call hf Tryz.en_35 rfl rfl rfl (p53 t (termB_iff.1 h1) price many b2.1 b2.2 b3.1 b3.2 _) ?_; clear hf a; intro v a w hR hf
     obtain ⟨rfl, hx⟩ := hR; replace hh := hh.more hx; clear hx
     refine o_v hf hh (yv_assign rfl) ?_; clear hf a; intro a hf
     refine o_v hf hh (yv_assign rfl) ?_; clear hf a; intro a hf
     refine o_end ?_
     refine sy_ret ?_
     refine ret_r hf rfl rfl ?_
     refine ⟨?_, hh.ext⟩
     have e : comB t price many = true := by rw [comB_in, h1, h2, h3]; rfl
     unfold comW comE; rw [e]; rfl
end Go.Proofs.YtccpgpnekoncoaaGreat

namespace Go.Proofs.YtccpgpnekoncoaaGreat
set_option maxRecDepth 100000
open Go Go.Sy Go.RoyM
end Go.Proofs.YtccpgpnekoncoaaGreat

namespace Go.Proofs.YtccpgpnekoncoaaGreat
set_option maxRecDepth 100000
open Go Go.Sy Go.RoyM
theorem p25 (d : RoyD) (p : Pl) (g : Int) (u : World) (hRR : RoyAt u d p) : Calls Tryz.prog 13 #[.agg (royC d p), .int .i64 g] u (Ret fun v w' => v = .tuple #[.agg #[.int .i64 (oweV d g).1, .int .i64 (oweV d g).2], .int .i64 (oweE d g)] ∧ Ext [] u w') := by
  refine calls_ofM Tryz.func13 rfl rfl (fun a hf => ?_)
  have hh := Hp.init u []
  obtain ⟨st, sp, ss, sr, sd, ct, cp, cs, cr, cd⟩ := p
  have hr4 := hRR.n1
  have hr2 := hRR.n2
  refine sy_sq ?_
  refine o_box hf hh ?_; clear hf hh a; intro B2 a w hf hh
  refine o_box hf hh ?_; clear hf hh a; intro B3 a w hf hh
  refine o_alloc hf hh Tryz.ze_49 ?_; clear hf hh a; intro B4 a w hf hh
  refine o_alloc hf hh Tryz.ze_34 ?_; clear hf hh a; intro B5 a w hf hh
  refine o_end ?_
  refine sy_sq ?_
  refine o_v hf hh (yv_makeFunc rfl rfl) ?_; clear hf a; intro a hf
  refine o_defer hf ?_; clear hf a; intro a hf
  refine o_end ?_
  refine sy_sq ?_
  refine o_v hf hh (y_lds Tryz.ag_45 rfl) ?_; clear hf a; intro a hf
  refine o_v hf hh (yv_makeFunc rfl rfl) ?_; clear hf a; intro a hf
  refine o_callX hf Tryz.en_42 rfl rfl rfl (p57 d _ _ (hRR.ext hh.ext) 43 _ (isAg d g) Tryz.en_43 (fun hok Bc w2 e hc => p70 d _ Bc w2 hc B3 g (e.get (hh.at (i := 2) rfl)) hRR.n1)) ?_ ?_
  ·clear hf a; intro v a w hR hf
   obtain ⟨he, Bc, rfl, hx⟩ := hR; replace hh := hh.join hx; clear hx
   obtain ⟨hok, hask⟩ := openE_zero.1 he
   have hO := royB_iff.1 hok
   obtain ⟨hg0, hg1⟩ := inI_bd hask
   have hnt := hO.nt
   have hnp := hO.np
   have hpd := hO.npd
   obtain ⟨q, rfl⟩ : ∃ q : Nat, g = q := ⟨g.toNat, by omega⟩
   obtain ⟨tm, htm⟩ := ex_of (l := d.terms) (i := q) (by omega)
   obtain ⟨pd, hpdq⟩ := ex_of (l := d.paid) (i := q) (by omega)
   have hto := hO.t tm (List.mem_of_getElem? htm)
   have hpb := hO.pd pd (List.mem_of_getElem? hpdq)
   obtain ⟨blk, off, cc, T, fr, e, hb, hc⟩ := hRR.pd q pd hpdq; dsimp only at e; subst e
   obtain ⟨blk3, off3, cc3, T3, fr3, e3, hb3, hc3⟩ := hRR.tm q tm htm; dsimp only at e3; subst e3
   have e0 : oweE d q = 0 := he
   refine o_v hf hh (yv_assign rfl) ?_; clear hf a; intro a hf
   refine o_end ?_
   refine sy_seq ?_
   refine sy_tree1 (.p 0 (.p 1 (.p 2 (.p 3 (.q 0 4 (.q 0 5 (.p 6 (.q 0 7 (.p 8 (.p 10 (.p 11 (.p 12 (.p 13 (.q 0 14 (.q 0 15 (.p 16 (.q 0 17 (.p 18 (.e2 9 (.p 20 (.e1 19 (.p 21 (.fin)))) 19 (.e1 9 (.p 20 (.p 21 (.fin))))))))))))))))))))))) [] Tryz.follows (by kernel_rfl) hh (fun w hh => ?_)
   refine mc_p rfl   hf (yv_move rfl) (.inl rfl) rfl rfl ?_; clear hf a; intro a hf
   refine mc_p rfl   hf (yv_nilCheck rfl) (.inl rfl) rfl rfl ?_; clear hf a; intro a hf
   refine mc_p rfl   hf (yv_fieldAddr Tryz.fo_89_0 rfl) (.inl rfl) rfl rfl ?_; clear hf a; intro a hf
   refine mc_p rfl   hf (yv_fieldAddr Tryz.fo_45_4 rfl) (.inl rfl) rfl rfl ?_; clear hf a; intro a hf
   refine mc_q rfl rfl hh hf (y_ld Tryz.sc_28 rfl) (.inl rfl) rfl rfl ?_; clear hf a; intro a hf
   refine mc_q rfl rfl hh hf (y_ld Tryz.sc_3 rfl) (.inl rfl) rfl rfl ?_; clear hf a; intro a hf
   refine mc_p rfl   hf (y_ix Tryz.se_28 rfl rfl) (.inl rfl) rfl rfl ?_; clear hf a; intro a hf
   refine mc_q rfl rfl hh hf (y_ld Tryz.sc_3 rfl) (.inl rfl) rfl rfl ?_; clear hf a; intro a hf
   refine mc_p rfl   hf (yv_neg rfl (by omega) (by omega)) (.inl rfl) rfl rfl ?_; clear hf a; intro a hf
   refine mc_p rfl   hf (yv_move rfl) (.inl rfl) rfl rfl ?_; clear hf a; intro a hf
   refine mc_p rfl   hf (yv_nilCheck rfl) (.inl rfl) rfl rfl ?_; clear hf a; intro a hf
   refine mc_p rfl   hf (yv_fieldAddr Tryz.fo_89_0 rfl) (.inl rfl) rfl rfl ?_; clear hf a; intro a hf
   refine mc_p rfl   hf (yv_fieldAddr Tryz.fo_45_4 rfl) (.inl rfl) rfl rfl ?_; clear hf a; intro a hf
   refine mc_q rfl rfl hh hf (y_ld Tryz.sc_28 rfl) (.inl rfl) rfl rfl ?_; clear hf a; intro a hf
   refine mc_q rfl rfl hh hf (y_ld Tryz.sc_3 rfl) (.inl rfl) rfl rfl ?_; clear hf a; intro a hf
   refine mc_p rfl   hf (y_ix Tryz.se_28 rfl rfl) (.inl rfl) rfl rfl ?_; clear hf a; intro a hf
   refine mc_q rfl rfl hh hf (y_ld Tryz.sc_3 rfl) (.inl rfl) rfl rfl ?_; clear hf a; intro a hf
   refine mc_p rfl   hf (yv_neg rfl (by omega) (by omega)) (.inl rfl) rfl rfl ?_; clear hf a; intro a hf
   refine ⟨?_, ?_⟩
   ·refine mc_e rfl fun Q1 => ?_
    refine ops_buildSl hf hh Tryz.bl_28_1 rfl rfl (.inl rfl) rfl ?_; clear hf hh; clear a; intro B26 a w hf hh
    refine ops_end ?_
    refine then_n ⟨⟨fun _ _ => (hh.less (.cons _ (List.Sublist.refl _))), trivial⟩, ?_⟩
    refine mc_p rfl   hf (yv_assign rfl) (.inl rfl) rfl rfl ?_; clear hf a; intro a hf
    refine mc_e rfl fun Q1 => ?_
    refine ops_buildSl hf hh Tryz.bl_28_1 rfl rfl (.inl rfl) rfl ?_; clear hf hh; clear a; intro B36 a w hf hh
    refine ops_end ?_
    refine then_n ⟨⟨fun _ _ => (hh.less (.cons _ (.cons _ (List.Sublist.refl _)))), trivial⟩, ?_⟩
    refine mc_p rfl   hf (yv_assign rfl) (.inl rfl) rfl rfl ?_; clear hf a; intro a hf
    refine mc_end ?_
    refine then_n ?_
    refine sy_seq ?_
    refine sy_sq ?_
    refine o_v hf hh (yv_move rfl) ?_; clear hf a; intro a hf
    refine o_v hf hh (yv_nilCheck rfl) ?_; clear hf a; intro a hf
    refine o_v hf hh (yv_fieldAddr Tryz.fo_89_0 rfl) ?_; clear hf a; intro a hf
    refine o_v hf hh (yv_fieldAddr Tryz.fo_45_1 rfl) ?_; clear hf a; intro a hf
    refine o_v hf hh (y_ld Tryz.sc_28 rfl) ?_; clear hf a; intro a hf
    refine o_v hf hh (yv_len Tryz.se_28 rfl) ?_; clear hf a; intro a hf
    refine o_v hf hh (yv_move rfl) ?_; clear hf a; intro a hf
    refine o_end ?_
    refine sy_block ?_
    refine sy_loopH (σ := Nat × Value × List (Nat × Obj) × Value × List (Nat × Obj)) [7, 8, 9, 10, 11, 12, 43, 44, 45, 46, 47, 48, 49, 50, 51, 52, 53, 54, 55, 56, 57, 58, 59, 60, 61, 62, 63, 64, 65, 66, 67, 68, 69, 70, 71, 72, 73, 74, 75, 76, 77, 78, 79, 80, 81, 82, 83, 84, 85] (fun s => [(7, s.2.1), (8, s.2.2.2.1), (43, .int .i64 (s.1 : Nat))]) (fun s => fun w' => s.1 ≤ d.prices.length ∧ OwnSl 3 1 s.2.1 (s.1 + 1) (ivs (lowL d q s.1)) s.2.2.1 ∧ OwnSl 3 1 s.2.2.2.1 (s.1 + 1) (ivs (higL d q s.1)) s.2.2.2.2 ∧ Hp u [] ([(Bc, .cells (royC d ⟨some ⟨blk3, off3, none⟩, sp, ss, sr, some ⟨blk, off, none⟩, ct, cp, cs, cr, cd⟩) 89), (B5, .cells #[.int .i64 0] 34), (B4, .cells #[.int .i64 0, .int .i64 0] 49), (B3, .cells #[.int .i64 (q : Nat)] 3)] ++ (s.2.2.1 ++ s.2.2.2.2)) w') (fun s => d.prices.length - s.1) ((0, .slice (some ⟨B26, 0, none⟩) 1 1, [(B26, .cells #[.int .i64 (-pd)] 3)], .slice (some ⟨B36, 0, none⟩) 1 1, [(B36, .cells #[.int .i64 (-pd)] 3)])) hf ?_ ?_ ?_
    · repeat' (first | exact True.intro | refine And.intro rfl ?_)
    · have e9 : lowL d q 0 = [-pd] := by unfold lowL; rw [getD_at hpdq]; rfl
      have e8 : higL d q 0 = [-pd] := by unfold higL; rw [getD_at hpdq]; rfl
      refine ⟨Nat.zero_le _, by rw [e9]; exact ⟨rfl, .inr ⟨B26, 1, _, rfl, rfl, Nat.le_refl _, by simp only [maxLen]; omega, rfl, rfl⟩⟩, by rw [e8]; exact ⟨rfl, .inr ⟨B36, 1, _, rfl, rfl, Nat.le_refl _, by simp only [maxLen]; omega, rfl, rfl⟩⟩, ?_⟩
      first
      | exact (hh.perm ((List.perm_append_comm (l₁ := [_, _]) (l₂ := [_, _, _, _, _])).trans (.cons _ (.cons _ (.cons _ (.cons _ (.cons _ (.swap _ _ _)))))))).less (.cons_cons _ (.cons_cons _ (.cons_cons _ (.cons_cons _ (.cons _ (.refl _))))))
      | exact (hh.perm (List.perm_append_comm (l₁ := [_, _]) (l₂ := [_, _, _, _, _]))).less (.cons_cons _ (.cons_cons _ (.cons_cons _ (.cons_cons _ (.cons _ (.refl _))))))
    ·rintro s a w ⟨hi, hO1, hO2, hh⟩ hf
     obtain ⟨i, v7, X7, v8, X8⟩ := s; simp only at hi hO1 hO2 hh hf ⊢
     refine sy_sq ?_
     refine o_v hf hh (yv_bin rfl rfl rfl) ?_; clear hf a; intro a hf
     refine o_end ?_
     refine sy_seq ?_
     refine sy_cond hf rfl (fun hg3 => ?_) (fun hg3 => ?_)
     ·have hG3 := hg3; try simp only [gS] at hG3
      refine sy_skip ?_
      refine then_n ?_
      refine sy_seq ?_
      refine sy_block ?_
      refine sy_seq ?_
      obtain ⟨x, hx⟩ := ex_of (l := d.prices) (i := i) (by omega)
      obtain ⟨blk2, off2, cc2, T2, fr2, e2, hb2, hc2⟩ := hRR.pr i x hx; dsimp only at e2; subst e2
      have hxb := hO.p x (List.mem_of_getElem? hx)
      have hcb := clm_lt12 hO i q
      have hsb : surN d i q ≤ clm d i q := surT_le d i q 4
      have hp1 := pc_12 (x := surN d i q) (by omega)
      have hp2 := pc_12 hcb
      refine sy_ops ?_
      refine o_v hf hh (yv_move rfl) ?_; clear hf a; intro a hf
      refine o_v hf hh (y_ix Tryz.se_28 rfl rfl) ?_; clear hf a; intro a hf
      refine o_v hf hh (y_ld Tryz.sc_3 rfl) ?_; clear hf a; intro a hf
      refine o_v hf hh (yv_assign rfl) ?_; clear hf a; intro a hf
      refine o_v hf hh (yv_assign rfl) ?_; clear hf a; intro a hf
      refine o_end ?_
      refine sy_sq ?_
      refine o_v hf hh (yv_move rfl) ?_; clear hf a; intro a hf
      refine o_v hf hh (y_ld Tryz.sc_3 rfl) ?_; clear hf a; intro a hf
      refine o_v hf hh (yv_move rfl) ?_; clear hf a; intro a hf
      refine o_call hf Tryz.en_45 rfl rfl rfl (p65 d _ Bc _ (hh.at (i := 0) rfl) (hRR.ext hh.ext) hO q (by omega) i) ?_; clear hf a; intro v a w hR hf
      obtain ⟨rfl, hx⟩ := hR; replace hh := hh.more hx; clear hx
      refine o_v hf hh (yv_move rfl) ?_; clear hf a; intro a hf
      refine o_v hf hh (yv_extract rfl rfl) ?_; clear hf a; intro a hf
      refine o_v hf hh (yv_extract rfl rfl) ?_; clear hf a; intro a hf
      refine o_v hf hh (yv_assign rfl) ?_; clear hf a; intro a hf
      refine o_v hf hh (yv_assign rfl) ?_; clear hf a; intro a hf
      refine o_end ?_
      refine sy_seq ?_
      refine sy_tree1 (.p 0 (.p 1 (.p 2 (.p 3 (.p 4 (.q 0 5 (.q 0 6 (.p 7 (.q 0 8 (.p 9 (.p 10 (.e1 11 (.e1 12 (.e1 13 (.e1 14 (.p 15 (.fin))))))))))))))))) [14] Tryz.follows (by kernel_rfl) hh (fun w hh => ?_)
      refine mc_p rfl   hf (yv_move rfl) (.inl rfl) rfl rfl ?_; clear hf a; intro a hf
      refine mc_p rfl   hf (yv_move rfl) (.inl rfl) rfl rfl ?_; clear hf a; intro a hf
      refine mc_p rfl   hf (yv_nilCheck rfl) (.inl rfl) rfl rfl ?_; clear hf a; intro a hf
      refine mc_p rfl   hf (yv_fieldAddr Tryz.fo_89_0 rfl) (.inl rfl) rfl rfl ?_; clear hf a; intro a hf
      refine mc_p rfl   hf (yv_fieldAddr Tryz.fo_45_0 rfl) (.inl rfl) rfl rfl ?_; clear hf a; intro a hf
      refine mc_q rfl rfl hh hf (y_ld Tryz.sc_41 rfl) (.inl rfl) rfl rfl ?_; clear hf a; intro a hf
      refine mc_q rfl rfl hh hf (y_ld Tryz.sc_3 rfl) (.inl rfl) rfl rfl ?_; clear hf a; intro a hf
      refine mc_p rfl   hf (y_ix Tryz.se_41 rfl rfl) (.inl rfl) rfl rfl ?_; clear hf a; intro a hf
      refine mc_q rfl rfl hh hf (y_lds Tryz.ag_27 rfl) (.inl rfl) rfl rfl ?_; clear hf a; intro a hf
      refine mc_p rfl   hf (yv_move rfl) (.inl rfl) rfl rfl ?_; clear hf a; intro a hf
      refine mc_p rfl   hf (yv_move rfl) (.inl rfl) rfl rfl ?_; clear hf a; intro a hf
      refine mc_e rfl fun Q1 => ?_
      refine o_call hf Tryz.en_46 rfl rfl rfl (p71 (surN d i q) (by omega) _) ?_; clear hf a; intro v a w hR hf
      obtain ⟨rfl, hx⟩ := hR; replace hh := hh.more hx; clear hx
      refine ops_end ?_
      refine then_n ⟨⟨fun _ _ => hh, trivial⟩, ?_⟩
      refine mc_e rfl fun Q1 => ?_
      refine o_call hf Tryz.en_35 rfl rfl rfl (p53 tm hto x (pc (surN d i q) : Nat) hxb.1 hxb.2 (by omega) (by omega) _) ?_; clear hf a; intro v a w hR hf
      obtain ⟨rfl, hx⟩ := hR; replace hh := hh.more hx; clear hx
      refine ops_end ?_
      refine then_n ⟨⟨fun _ _ => hh, trivial⟩, ?_⟩
      refine mc_e rfl fun Q1 => ?_
      refine ops_buildSl hf hh Tryz.bl_28_1 rfl rfl (.inl rfl) rfl ?_; clear hf hh; clear a; intro B68 a w hf hh
      refine ops_end ?_
      refine then_n ⟨⟨fun _ _ => (hh.less (.cons _ (List.Sublist.refl _))), trivial⟩, ?_⟩
      refine mc_e rfl fun Q1 => ?_
      refine ops_append (e := 3) (size := 1) (xs := ivs (lowL d q i)) (X := X7) (Z := _) (m := i + 1) (q := 1) hf (hh.perm (.cons _ (perm_mid (A := [_, _, _, _])))) Tryz.eb_28 rfl rfl hO1 rfl rfl rfl (by simp only [maxLen]; omega) (by omega) (.inl rfl) rfl ?_; clear hf hh a; intro v7n X7n a w hO7n hf hh
      replace hh := hh.perm (perm_mid (A := X7n) (B := [_, _, _, _]))
      refine ops_end ?_
      refine then_n ⟨⟨fun h => Bool.noConfusion (show true = false from h), trivial⟩, ?_⟩
      refine mc_p rfl   hf (yv_assign rfl) (.inl rfl) rfl rfl ?_; clear hf a; intro a hf
      refine mc_end ?_
      refine then_n ?_
      refine sy_tree1 (.p 0 (.p 1 (.p 2 (.p 3 (.p 4 (.q 0 5 (.q 0 6 (.p 7 (.q 0 8 (.p 9 (.p 10 (.e1 11 (.e1 12 (.e1 13 (.e1 14 (.p 15 (.fin))))))))))))))))) [14] Tryz.follows (by kernel_rfl) hh (fun w hh => ?_)
      refine mc_p rfl   hf (yv_move rfl) (.inl rfl) rfl rfl ?_; clear hf a; intro a hf
      refine mc_p rfl   hf (yv_move rfl) (.inl rfl) rfl rfl ?_; clear hf a; intro a hf
      refine mc_p rfl   hf (yv_nilCheck rfl) (.inl rfl) rfl rfl ?_; clear hf a; intro a hf
      refine mc_p rfl   hf (yv_fieldAddr Tryz.fo_89_0 rfl) (.inl rfl) rfl rfl ?_; clear hf a; intro a hf
      refine mc_p rfl   hf (yv_fieldAddr Tryz.fo_45_0 rfl) (.inl rfl) rfl rfl ?_; clear hf a; intro a hf
      refine mc_q rfl rfl hh hf (y_ld Tryz.sc_41 rfl) (.inl rfl) rfl rfl ?_; clear hf a; intro a hf
      refine mc_q rfl rfl hh hf (y_ld Tryz.sc_3 rfl) (.inl rfl) rfl rfl ?_; clear hf a; intro a hf
      refine mc_p rfl   hf (y_ix Tryz.se_41 rfl rfl) (.inl rfl) rfl rfl ?_; clear hf a; intro a hf
      refine mc_q rfl rfl hh hf (y_lds Tryz.ag_27 rfl) (.inl rfl) rfl rfl ?_; clear hf a; intro a hf
      refine mc_p rfl   hf (yv_move rfl) (.inl rfl) rfl rfl ?_; clear hf a; intro a hf
      refine mc_p rfl   hf (yv_move rfl) (.inl rfl) rfl rfl ?_; clear hf a; intro a hf
      refine mc_e rfl fun Q1 => ?_
      refine o_call hf Tryz.en_46 rfl rfl rfl (p71 (clm d i q) (by omega) _) ?_; clear hf a; intro v a w hR hf
      obtain ⟨rfl, hx⟩ := hR; replace hh := hh.more hx; clear hx
      refine ops_end ?_
      refine then_n ⟨⟨fun _ _ => hh, trivial⟩, ?_⟩
      refine mc_e rfl fun Q1 => ?_
      refine o_call hf Tryz.en_35 rfl rfl rfl (p53 tm hto x (pc (clm d i q) : Nat) hxb.1 hxb.2 (by omega) (by omega) _) ?_; clear hf a; intro v a w hR hf
      obtain ⟨rfl, hx⟩ := hR; replace hh := hh.more hx; clear hx
      refine ops_end ?_
      refine then_n ⟨⟨fun _ _ => hh, trivial⟩, ?_⟩
      refine mc_e rfl fun Q1 => ?_
      refine ops_buildSl hf hh Tryz.bl_28_1 rfl rfl (.inl rfl) rfl ?_; clear hf hh; clear a; intro B83 a w hf hh
      refine ops_end ?_
      refine then_n ⟨⟨fun _ _ => (hh.less (.cons _ (List.Sublist.refl _))), trivial⟩, ?_⟩
      refine mc_e rfl fun Q1 => ?_
      refine ops_append (e := 3) (size := 1) (xs := ivs (higL d q i)) (X := X8) (Z := _) (m := i + 1) (q := 1) hf (hh.perm (.cons _ (perm_end (A := [_, _, _, _])))) Tryz.eb_28 rfl rfl hO2 rfl rfl rfl (by simp only [maxLen]; omega) (by omega) (.inl rfl) rfl ?_; clear hf hh a; intro v8n X8n a w hO8n hf hh
      replace hh := hh.perm (perm_back (A := [_, _, _, _]))
      refine ops_end ?_
      refine then_n ⟨⟨fun h => Bool.noConfusion (show true = false from h), trivial⟩, ?_⟩
      refine mc_p rfl   hf (yv_assign rfl) (.inl rfl) rfl rfl ?_; clear hf a; intro a hf
      refine mc_end ?_
      refine blk_n ?_
      refine then_n ?_
      refine sy_ops ?_
      refine o_v hf hh (y_add rfl rfl) ?_; clear hf a; intro a hf
      refine o_v hf hh (yv_move rfl) ?_; clear hf a; intro a hf
      refine ops_end ?_
      refine then_n ?_
      exact ⟨(i + 1, v7n, X7n, v8n, X8n), ⟨⟨by simp only; omega, by simp only; rw [lowL_succ, getD_at hx, ivs_app, term_at htm]; exact hO7n, by simp only; rw [higL_succ, getD_at hx, ivs_app, term_at htm]; exact hO8n, hh⟩, (hf.head (by repeat' (first | exact True.intro | refine And.intro rfl ?_)) (Keep.cons rfl (Keep.cons rfl (Keep.cons rfl (Keep.cons rfl (Keep.cons rfl (Keep.cons rfl (Keep.cons rfl (Keep.cons rfl (Keep.cons rfl (Keep.cons rfl (Keep.cons rfl (Keep.cons rfl (Keep.cons rfl (Keep.cons rfl (Keep.cons rfl (Keep.cons rfl (Keep.cons rfl (Keep.cons rfl (Keep.cons rfl (Keep.cons rfl (Keep.cons rfl (Keep.cons rfl (Keep.cons rfl (Keep.cons rfl (Keep.cons rfl (Keep.cons rfl (Keep.cons rfl (Keep.cons rfl (Keep.cons rfl (Keep.cons rfl (Keep.cons rfl (Keep.cons rfl (Keep.cons rfl (Keep.cons rfl (Keep.cons rfl (Keep.cons rfl (Keep.cons rfl (Keep.cons rfl (Keep.cons rfl (Keep.cons rfl (Keep.cons rfl (Keep.cons rfl (Keep.cons rfl (Keep.cons rfl (Keep.cons rfl (Keep.cons rfl (Keep.cons rfl (Keep.cons rfl (Keep.cons rfl (Keep.app rfl (Keep.rm rfl Keep.base))))))))))))))))))))))))))))))))))))))))))))))))))))⟩, by simp only; omega⟩
     ·have hG3 := hg3; try simp only [gS] at hG3
      refine sy_exit ?_
      refine then_e ?_
      refine then_e ?_
      refine blk_e ?_
      refine then_n ?_
      refine sy_seq ?_
      obtain rfl : i = d.prices.length := by omega
      obtain ⟨oa1, cp1, rfl, hl1, hA1⟩ := own_iat hO1 (w := w) (fun x hx => hh.get x (by simp [hx]))
      obtain ⟨oa2, cp2, rfl, hl2, hA2⟩ := own_iat hO2 (w := w) (fun x hx => hh.get x (by simp [hx]))
      have hc1 := p72 (lowL d q d.prices.length) oa1 cp1 w hA1 (by omega) (owe_take hO (by omega) (fun k => pc (surN d k q)) (fun k => pc_12 (Nat.lt_of_le_of_lt (surT_le d k q 4) (clm_lt12 hO k q))))
      rw [← hl1] at hc1
      refine sy_ops ?_
      refine o_v hf hh (yv_move rfl) ?_; clear hf a; intro a hf
      refine o_call hf Tryz.en_47 rfl rfl rfl hc1 ?_; clear hf a; intro v a w hR hf
      obtain ⟨rfl, hx⟩ := hR; replace hh := hh.more hx
      have hc2 := p72 (higL d q d.prices.length) oa2 cp2 _ (hA2.ext hx) (by omega) (owe_take hO (by omega) (fun k => pc (clm d k q)) (fun k => pc_12 (clm_lt12 hO k q)))
      rw [← hl2] at hc2
      clear hx
      refine o_v hf hh (yv_move rfl) ?_; clear hf a; intro a hf
      refine o_call hf Tryz.en_47 rfl rfl rfl (hc2) ?_; clear hf a; intro v a w hR hf
      obtain ⟨rfl, hx⟩ := hR; replace hh := hh.more hx; clear hx
      refine o_v hf hh (yv_buildS Tryz.bs_49 rfl rfl) ?_; clear hf a; intro a hf
      refine o_store hf hh Tryz.sz_49 fun w hh => ?_
      refine o_store hf hh Tryz.sz_34 fun w hh => ?_
      refine o_end ?_
      refine sy_ret ?_
      have ev : oweV d q = (sumI (lowL d q d.prices.length), sumI (higL d q d.prices.length)) := by unfold oweV; rw [if_pos e0]; rfl
      rw [e0, ev]
      exact ret_d (Ds := []) hf hh Tryz.en_40 (fun w' => d69r B5 w') fun w' hh => ⟨[.agg #[.int .i64 (sumI (lowL d q d.prices.length)), .int .i64 (sumI (higL d q d.prices.length))], .int .i64 0], ⟨⟨B4, 0, _, _, _, rfl, hh.at (i := 2) rfl, .inr ⟨2, _, Tryz.ag_49, rfl, rfl⟩⟩, ⟨B5, 0, _, _, _, rfl, hh.at (i := 1) rfl, .inl ⟨Tryz.sc_34, rfl⟩⟩, True.intro⟩, rfl, hh.ext⟩
   ·refine mc_e rfl fun Q1 => ?_
    refine ops_buildSl hf hh Tryz.bl_28_1 rfl rfl (.inl rfl) rfl ?_; clear hf hh; clear a; intro B36 a w hf hh
    refine ops_end ?_
    refine then_n ⟨⟨fun _ _ => (hh.less (.cons _ (List.Sublist.refl _))), trivial⟩, ?_⟩
    refine mc_e rfl fun Q1 => ?_
    refine ops_buildSl hf hh Tryz.bl_28_1 rfl rfl (.inl rfl) rfl ?_; clear hf hh; clear a; intro B26 a w hf hh
    refine ops_end ?_
    refine then_n ⟨⟨fun _ _ => (hh.less (.cons _ (.cons _ (List.Sublist.refl _)))), trivial⟩, ?_⟩
    refine mc_p rfl   hf (yv_assign rfl) (.inl rfl) rfl rfl ?_; clear hf a; intro a hf
    refine mc_p rfl   hf (yv_assign rfl) (.inl rfl) rfl rfl ?_; clear hf a; intro a hf
    refine mc_end ?_
    refine then_n ?_
    refine sy_seq ?_
    refine sy_sq ?_
    refine o_v hf hh (yv_move rfl) ?_; clear hf a; intro a hf
    refine o_v hf hh (yv_nilCheck rfl) ?_; clear hf a; intro a hf
    refine o_v hf hh (yv_fieldAddr Tryz.fo_89_0 rfl) ?_; clear hf a; intro a hf
    refine o_v hf hh (yv_fieldAddr Tryz.fo_45_1 rfl) ?_; clear hf a; intro a hf
    refine o_v hf hh (y_ld Tryz.sc_28 rfl) ?_; clear hf a; intro a hf
    refine o_v hf hh (yv_len Tryz.se_28 rfl) ?_; clear hf a; intro a hf
    refine o_v hf hh (yv_move rfl) ?_; clear hf a; intro a hf
    refine o_end ?_
    refine sy_block ?_
    refine sy_loopH (σ := Nat × Value × List (Nat × Obj) × Value × List (Nat × Obj)) [7, 8, 9, 10, 11, 12, 43, 44, 45, 46, 47, 48, 49, 50, 51, 52, 53, 54, 55, 56, 57, 58, 59, 60, 61, 62, 63, 64, 65, 66, 67, 68, 69, 70, 71, 72, 73, 74, 75, 76, 77, 78, 79, 80, 81, 82, 83, 84, 85] (fun s => [(7, s.2.1), (8, s.2.2.2.1), (43, .int .i64 (s.1 : Nat))]) (fun s => fun w' => s.1 ≤ d.prices.length ∧ OwnSl 3 1 s.2.1 (s.1 + 1) (ivs (lowL d q s.1)) s.2.2.1 ∧ OwnSl 3 1 s.2.2.2.1 (s.1 + 1) (ivs (higL d q s.1)) s.2.2.2.2 ∧ Hp u [] ([(Bc, .cells (royC d ⟨some ⟨blk3, off3, none⟩, sp, ss, sr, some ⟨blk, off, none⟩, ct, cp, cs, cr, cd⟩) 89), (B5, .cells #[.int .i64 0] 34), (B4, .cells #[.int .i64 0, .int .i64 0] 49), (B3, .cells #[.int .i64 (q : Nat)] 3)] ++ (s.2.2.1 ++ s.2.2.2.2)) w') (fun s => d.prices.length - s.1) ((0, .slice (some ⟨B26, 0, none⟩) 1 1, [(B26, .cells #[.int .i64 (-pd)] 3)], .slice (some ⟨B36, 0, none⟩) 1 1, [(B36, .cells #[.int .i64 (-pd)] 3)])) hf ?_ ?_ ?_
    · repeat' (first | exact True.intro | refine And.intro rfl ?_)
    · have e9 : lowL d q 0 = [-pd] := by unfold lowL; rw [getD_at hpdq]; rfl
      have e8 : higL d q 0 = [-pd] := by unfold higL; rw [getD_at hpdq]; rfl
      refine ⟨Nat.zero_le _, by rw [e9]; exact ⟨rfl, .inr ⟨B26, 1, _, rfl, rfl, Nat.le_refl _, by simp only [maxLen]; omega, rfl, rfl⟩⟩, by rw [e8]; exact ⟨rfl, .inr ⟨B36, 1, _, rfl, rfl, Nat.le_refl _, by simp only [maxLen]; omega, rfl, rfl⟩⟩, ?_⟩
      first
      | exact (hh.perm ((List.perm_append_comm (l₁ := [_, _]) (l₂ := [_, _, _, _, _])).trans (.cons _ (.cons _ (.cons _ (.cons _ (.cons _ (.swap _ _ _)))))))).less (.cons_cons _ (.cons_cons _ (.cons_cons _ (.cons_cons _ (.cons _ (.refl _))))))
      | exact (hh.perm (List.perm_append_comm (l₁ := [_, _]) (l₂ := [_, _, _, _, _]))).less (.cons_cons _ (.cons_cons _ (.cons_cons _ (.cons_cons _ (.cons _ (.refl _))))))
    ·rintro s a w ⟨hi, hO1, hO2, hh⟩ hf
     obtain ⟨i, v7, X7, v8, X8⟩ := s; simp only at hi hO1 hO2 hh hf ⊢
     refine sy_sq ?_
     refine o_v hf hh (yv_bin rfl rfl rfl) ?_; clear hf a; intro a hf
     refine o_end ?_
     refine sy_seq ?_
     refine sy_cond hf rfl (fun hg16 => ?_) (fun hg16 => ?_)
     ·have hG16 := hg16; try simp only [gS] at hG16
      refine sy_skip ?_
      refine then_n ?_
      refine sy_seq ?_
      refine sy_block ?_
      refine sy_seq ?_
      obtain ⟨x, hx⟩ := ex_of (l := d.prices) (i := i) (by omega)
      obtain ⟨blk2, off2, cc2, T2, fr2, e2, hb2, hc2⟩ := hRR.pr i x hx; dsimp only at e2; subst e2
      have hxb := hO.p x (List.mem_of_getElem? hx)
      have hcb := clm_lt12 hO i q
      have hsb : surN d i q ≤ clm d i q := surT_le d i q 4
      have hp1 := pc_12 (x := surN d i q) (by omega)
      have hp2 := pc_12 hcb
      refine sy_ops ?_
      refine o_v hf hh (yv_move rfl) ?_; clear hf a; intro a hf
      refine o_v hf hh (y_ix Tryz.se_28 rfl rfl) ?_; clear hf a; intro a hf
      refine o_v hf hh (y_ld Tryz.sc_3 rfl) ?_; clear hf a; intro a hf
      refine o_v hf hh (yv_assign rfl) ?_; clear hf a; intro a hf
      refine o_v hf hh (yv_assign rfl) ?_; clear hf a; intro a hf
      refine o_end ?_
      refine sy_sq ?_
      refine o_v hf hh (yv_move rfl) ?_; clear hf a; intro a hf
      refine o_v hf hh (y_ld Tryz.sc_3 rfl) ?_; clear hf a; intro a hf
      refine o_v hf hh (yv_move rfl) ?_; clear hf a; intro a hf
      refine o_call hf Tryz.en_45 rfl rfl rfl (p65 d _ Bc _ (hh.at (i := 0) rfl) (hRR.ext hh.ext) hO q (by omega) i) ?_; clear hf a; intro v a w hR hf
      obtain ⟨rfl, hx⟩ := hR; replace hh := hh.more hx; clear hx
      refine o_v hf hh (yv_move rfl) ?_; clear hf a; intro a hf
      refine o_v hf hh (yv_extract rfl rfl) ?_; clear hf a; intro a hf
      refine o_v hf hh (yv_extract rfl rfl) ?_; clear hf a; intro a hf
      refine o_v hf hh (yv_assign rfl) ?_; clear hf a; intro a hf
      refine o_v hf hh (yv_assign rfl) ?_; clear hf a; intro a hf
      refine o_end ?_
      refine sy_seq ?_
      refine sy_tree1 (.p 0 (.p 1 (.p 2 (.p 3 (.p 4 (.q 0 5 (.q 0 6 (.p 7 (.q 0 8 (.p 9 (.p 10 (.e1 11 (.e1 12 (.e1 13 (.e1 14 (.p 15 (.fin))))))))))))))))) [14] Tryz.follows (by kernel_rfl) hh (fun w hh => ?_)
      refine mc_p rfl   hf (yv_move rfl) (.inl rfl) rfl rfl ?_; clear hf a; intro a hf
      refine mc_p rfl   hf (yv_move rfl) (.inl rfl) rfl rfl ?_; clear hf a; intro a hf
      refine mc_p rfl   hf (yv_nilCheck rfl) (.inl rfl) rfl rfl ?_; clear hf a; intro a hf
      refine mc_p rfl   hf (yv_fieldAddr Tryz.fo_89_0 rfl) (.inl rfl) rfl rfl ?_; clear hf a; intro a hf
      refine mc_p rfl   hf (yv_fieldAddr Tryz.fo_45_0 rfl) (.inl rfl) rfl rfl ?_; clear hf a; intro a hf
      refine mc_q rfl rfl hh hf (y_ld Tryz.sc_41 rfl) (.inl rfl) rfl rfl ?_; clear hf a; intro a hf
      refine mc_q rfl rfl hh hf (y_ld Tryz.sc_3 rfl) (.inl rfl) rfl rfl ?_; clear hf a; intro a hf
      refine mc_p rfl   hf (y_ix Tryz.se_41 rfl rfl) (.inl rfl) rfl rfl ?_; clear hf a; intro a hf
      refine mc_q rfl rfl hh hf (y_lds Tryz.ag_27 rfl) (.inl rfl) rfl rfl ?_; clear hf a; intro a hf
      refine mc_p rfl   hf (yv_move rfl) (.inl rfl) rfl rfl ?_; clear hf a; intro a hf
      refine mc_p rfl   hf (yv_move rfl) (.inl rfl) rfl rfl ?_; clear hf a; intro a hf
      refine mc_e rfl fun Q1 => ?_
      refine o_call hf Tryz.en_46 rfl rfl rfl (p71 (surN d i q) (by omega) _) ?_; clear hf a; intro v a w hR hf
      obtain ⟨rfl, hx⟩ := hR; replace hh := hh.more hx; clear hx
      refine ops_end ?_
      refine then_n ⟨⟨fun _ _ => hh, trivial⟩, ?_⟩
      refine mc_e rfl fun Q1 => ?_
      refine o_call hf Tryz.en_35 rfl rfl rfl (p53 tm hto x (pc (surN d i q) : Nat) hxb.1 hxb.2 (by omega) (by omega) _) ?_; clear hf a; intro v a w hR hf
      obtain ⟨rfl, hx⟩ := hR; replace hh := hh.more hx; clear hx
      refine ops_end ?_
      refine then_n ⟨⟨fun _ _ => hh, trivial⟩, ?_⟩
      refine mc_e rfl fun Q1 => ?_
      refine ops_buildSl hf hh Tryz.bl_28_1 rfl rfl (.inl rfl) rfl ?_; clear hf hh; clear a; intro B68 a w hf hh
      refine ops_end ?_
      refine then_n ⟨⟨fun _ _ => (hh.less (.cons _ (List.Sublist.refl _))), trivial⟩, ?_⟩
      refine mc_e rfl fun Q1 => ?_
      refine ops_append (e := 3) (size := 1) (xs := ivs (lowL d q i)) (X := X7) (Z := _) (m := i + 1) (q := 1) hf (hh.perm (.cons _ (perm_mid (A := [_, _, _, _])))) Tryz.eb_28 rfl rfl hO1 rfl rfl rfl (by simp only [maxLen]; omega) (by omega) (.inl rfl) rfl ?_; clear hf hh a; intro v7n X7n a w hO7n hf hh
      replace hh := hh.perm (perm_mid (A := X7n) (B := [_, _, _, _]))
      refine ops_end ?_
      refine then_n ⟨⟨fun h => Bool.noConfusion (show true = false from h), trivial⟩, ?_⟩
      refine mc_p rfl   hf (yv_assign rfl) (.inl rfl) rfl rfl ?_; clear hf a; intro a hf
      refine mc_end ?_
      refine then_n ?_
      refine sy_tree1 (.p 0 (.p 1 (.p 2 (.p 3 (.p 4 (.q 0 5 (.q 0 6 (.p 7 (.q 0 8 (.p 9 (.p 10 (.e1 11 (.e1 12 (.e1 13 (.e1 14 (.p 15 (.fin))))))))))))))))) [14] Tryz.follows (by kernel_rfl) hh (fun w hh => ?_)
      refine mc_p rfl   hf (yv_move rfl) (.inl rfl) rfl rfl ?_; clear hf a; intro a hf
      refine mc_p rfl   hf (yv_move rfl) (.inl rfl) rfl rfl ?_; clear hf a; intro a hf
      refine mc_p rfl   hf (yv_nilCheck rfl) (.inl rfl) rfl rfl ?_; clear hf a; intro a hf
      refine mc_p rfl   hf (yv_fieldAddr Tryz.fo_89_0 rfl) (.inl rfl) rfl rfl ?_; clear hf a; intro a hf
      refine mc_p rfl   hf (yv_fieldAddr Tryz.fo_45_0 rfl) (.inl rfl) rfl rfl ?_; clear hf a; intro a hf
      refine mc_q rfl rfl hh hf (y_ld Tryz.sc_41 rfl) (.inl rfl) rfl rfl ?_; clear hf a; intro a hf
      refine mc_q rfl rfl hh hf (y_ld Tryz.sc_3 rfl) (.inl rfl) rfl rfl ?_; clear hf a; intro a hf
      refine mc_p rfl   hf (y_ix Tryz.se_41 rfl rfl) (.inl rfl) rfl rfl ?_; clear hf a; intro a hf
      refine mc_q rfl rfl hh hf (y_lds Tryz.ag_27 rfl) (.inl rfl) rfl rfl ?_; clear hf a; intro a hf
      refine mc_p rfl   hf (yv_move rfl) (.inl rfl) rfl rfl ?_; clear hf a; intro a hf
      refine mc_p rfl   hf (yv_move rfl) (.inl rfl) rfl rfl ?_; clear hf a; intro a hf
      refine mc_e rfl fun Q1 => ?_
      refine o_call hf Tryz.en_46 rfl rfl rfl (p71 (clm d i q) (by omega) _) ?_; clear hf a; intro v a w hR hf
      obtain ⟨rfl, hx⟩ := hR; replace hh := hh.more hx; clear hx
      refine ops_end ?_
      refine then_n ⟨⟨fun _ _ => hh, trivial⟩, ?_⟩
      refine mc_e rfl fun Q1 => ?_
      refine o_call hf Tryz.en_35 rfl rfl rfl (p53 tm hto x (pc (clm d i q) : Nat) hxb.1 hxb.2 (by omega) (by omega) _) ?_; clear hf a; intro v a w hR hf
      obtain ⟨rfl, hx⟩ := hR; replace hh := hh.more hx; clear hx
      refine ops_end ?_
      refine then_n ⟨⟨fun _ _ => hh, trivial⟩, ?_⟩
      refine mc_e rfl fun Q1 => ?_
      refine ops_buildSl hf hh Tryz.bl_28_1 rfl rfl (.inl rfl) rfl ?_; clear hf hh; clear a; intro B83 a w hf hh
      refine ops_end ?_
      refine then_n ⟨⟨fun _ _ => (hh.less (.cons _ (List.Sublist.refl _))), trivial⟩, ?_⟩
      refine mc_e rfl fun Q1 => ?_
      refine ops_append (e := 3) (size := 1) (xs := ivs (higL d q i)) (X := X8) (Z := _) (m := i + 1) (q := 1) hf (hh.perm (.cons _ (perm_end (A := [_, _, _, _])))) Tryz.eb_28 rfl rfl hO2 rfl rfl rfl (by simp only [maxLen]; omega) (by omega) (.inl rfl) rfl ?_; clear hf hh a; intro v8n X8n a w hO8n hf hh
      replace hh := hh.perm (perm_back (A := [_, _, _, _]))
      refine ops_end ?_
      refine then_n ⟨⟨fun h => Bool.noConfusion (show true = false from h), trivial⟩, ?_⟩
      refine mc_p rfl   hf (yv_assign rfl) (.inl rfl) rfl rfl ?_; clear hf a; intro a hf
      refine mc_end ?_
      refine blk_n ?_
      refine then_n ?_
      refine sy_ops ?_
      refine o_v hf hh (y_add rfl rfl) ?_; clear hf a; intro a hf
      refine o_v hf hh (yv_move rfl) ?_; clear hf a; intro a hf
      refine ops_end ?_
      refine then_n ?_
      exact ⟨(i + 1, v7n, X7n, v8n, X8n), ⟨⟨by simp only; omega, by simp only; rw [lowL_succ, getD_at hx, ivs_app, term_at htm]; exact hO7n, by simp only; rw [higL_succ, getD_at hx, ivs_app, term_at htm]; exact hO8n, hh⟩, (hf.head (by repeat' (first | exact True.intro | refine And.intro rfl ?_)) (Keep.cons rfl (Keep.cons rfl (Keep.cons rfl (Keep.cons rfl (Keep.cons rfl (Keep.cons rfl (Keep.cons rfl (Keep.cons rfl (Keep.cons rfl (Keep.cons rfl (Keep.cons rfl (Keep.cons rfl (Keep.cons rfl (Keep.cons rfl (Keep.cons rfl (Keep.cons rfl (Keep.cons rfl (Keep.cons rfl (Keep.cons rfl (Keep.cons rfl (Keep.cons rfl (Keep.cons rfl (Keep.cons rfl (Keep.cons rfl (Keep.cons rfl (Keep.cons rfl (Keep.cons rfl (Keep.cons rfl (Keep.cons rfl (Keep.cons rfl (Keep.cons rfl (Keep.cons rfl (Keep.cons rfl (Keep.cons rfl (Keep.cons rfl (Keep.cons rfl (Keep.cons rfl (Keep.cons rfl (Keep.cons rfl (Keep.cons rfl (Keep.cons rfl (Keep.cons rfl (Keep.cons rfl (Keep.cons rfl (Keep.cons rfl (Keep.cons rfl (Keep.cons rfl (Keep.cons rfl (Keep.cons rfl (Keep.app rfl (Keep.rm rfl Keep.base))))))))))))))))))))))))))))))))))))))))))))))))))))⟩, by simp only; omega⟩
     ·have hG16 := hg16; try simp only [gS] at hG16
      refine sy_exit ?_
      refine then_e ?_
      refine then_e ?_
      refine blk_e ?_
      refine then_n ?_
      refine sy_seq ?_
      obtain rfl : i = d.prices.length := by omega
      obtain ⟨oa1, cp1, rfl, hl1, hA1⟩ := own_iat hO1 (w := w) (fun x hx => hh.get x (by simp [hx]))
      obtain ⟨oa2, cp2, rfl, hl2, hA2⟩ := own_iat hO2 (w := w) (fun x hx => hh.get x (by simp [hx]))
      have hc1 := p72 (lowL d q d.prices.length) oa1 cp1 w hA1 (by omega) (owe_take hO (by omega) (fun k => pc (surN d k q)) (fun k => pc_12 (Nat.lt_of_le_of_lt (surT_le d k q 4) (clm_lt12 hO k q))))
      rw [← hl1] at hc1
      refine sy_ops ?_
      refine o_v hf hh (yv_move rfl) ?_; clear hf a; intro a hf
      refine o_call hf Tryz.en_47 rfl rfl rfl hc1 ?_; clear hf a; intro v a w hR hf
      obtain ⟨rfl, hx⟩ := hR; replace hh := hh.more hx
      have hc2 := p72 (higL d q d.prices.length) oa2 cp2 _ (hA2.ext hx) (by omega) (owe_take hO (by omega) (fun k => pc (clm d k q)) (fun k => pc_12 (clm_lt12 hO k q)))
      rw [← hl2] at hc2
      clear hx
      refine o_v hf hh (yv_move rfl) ?_; clear hf a; intro a hf
      refine o_call hf Tryz.en_47 rfl rfl rfl (hc2) ?_; clear hf a; intro v a w hR hf
      obtain ⟨rfl, hx⟩ := hR; replace hh := hh.more hx; clear hx
      refine o_v hf hh (yv_buildS Tryz.bs_49 rfl rfl) ?_; clear hf a; intro a hf
      refine o_store hf hh Tryz.sz_49 fun w hh => ?_
      refine o_store hf hh Tryz.sz_34 fun w hh => ?_
      refine o_end ?_
      refine sy_ret ?_
      have ev : oweV d q = (sumI (lowL d q d.prices.length), sumI (higL d q d.prices.length)) := by unfold oweV; rw [if_pos e0]; rfl
      rw [e0, ev]
      exact ret_d (Ds := []) hf hh Tryz.en_40 (fun w' => d69r B5 w') fun w' hh => ⟨[.agg #[.int .i64 (sumI (lowL d q d.prices.length)), .int .i64 (sumI (higL d q d.prices.length))], .int .i64 0], ⟨⟨B4, 0, _, _, _, rfl, hh.at (i := 2) rfl, .inr ⟨2, _, Tryz.ag_49, rfl, rfl⟩⟩, ⟨B5, 0, _, _, _, rfl, hh.at (i := 1) rfl, .inl ⟨Tryz.sc_34, rfl⟩⟩, True.intro⟩, rfl, hh.ext⟩
  ·intro ch w hX hf
   obtain ⟨rfl, he, hx⟩ := hX; replace hh := hh.more hx; clear hx
   refine then_p ?_
   have ev : oweV d g = (0, 0) := by unfold oweV; exact if_neg he
   rw [ev]
   exact pan_d (Ds := []) hf hh Tryz.en_40 (fun w' hh => d69p B5 _ 0 w' (hh.at (i := 0) rfl)) fun w' w'' hh h2 => ⟨[.agg #[.int .i64 0, .int .i64 0], .int .i64 (oweE d g)], ⟨⟨B4, 0, _, _, _, rfl, (hh.turn (i := 0) rfl h2.ext (h2.at (i := 0) rfl)).at (i := 1) rfl, .inr ⟨2, _, Tryz.ag_49, rfl, rfl⟩⟩, ⟨B5, 0, _, _, _, rfl, h2.at (i := 0) rfl, .inl ⟨Tryz.sc_34, rfl⟩⟩, True.intro⟩, rfl, (hh.turn (i := 0) rfl h2.ext (h2.at (i := 0) rfl)).ext⟩
end Go.Proofs.YtccpgpnekoncoaaGreat

