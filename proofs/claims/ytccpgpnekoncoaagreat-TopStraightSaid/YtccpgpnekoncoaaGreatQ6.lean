/- Lemmas, in order: Closed facts on the loaded program's types and functions, by program. Panics, and what becomes of them. The first that is not valid; spans and stations. Charts that are valid. A chart that is looked at, in memory: the looks of each station, in a map. A chart that is opened. Axes, and what a look tells. Charts: stations numbered otherwise: spans, and sights that tell nothing. Charts: how great numbers can be on the way. The loops of bounds, step by step. The bounds of a station. Where a station lies, seen from another one. Sets, and which of two is better.. -/
import Derived.Test.YtccpgpnekoncoaaGreatQ5
import Derived.Test.YtccpgpnekoncoaaGreatProg
namespace Go.Proofs.YtccpgpnekoncoaaGreat
open Go Go.Sy
theorem Tryz.follows : Tryz.prog.follows .mixedOrders = true := by kernel_rfl
theorem Tryz.ae_117 : arrayElem Tryz.prog 117 = some (2, 116, 1) := by kernel_rfl
theorem Tryz.ae_148 : arrayElem Tryz.prog 148 = some (6, 4, 1) := by kernel_rfl
theorem Tryz.ag_106 : aggB Tryz.prog 106 = some 6 := by kernel_rfl
theorem Tryz.ag_110 : aggB Tryz.prog 110 = some 2 := by kernel_rfl
theorem Tryz.ag_116 : aggB Tryz.prog 116 = some 1 := by kernel_rfl
theorem Tryz.ag_117 : aggB Tryz.prog 117 = some 2 := by kernel_rfl
theorem Tryz.ag_131 : aggB Tryz.prog 131 = some 2 := by kernel_rfl
theorem Tryz.ag_140 : aggB Tryz.prog 140 = some 3 := by kernel_rfl
theorem Tryz.ag_173 : aggB Tryz.prog 173 = some 3 := by kernel_rfl
theorem Tryz.ag_189 : aggB Tryz.prog 189 = some 1 := by kernel_rfl
theorem Tryz.ag_25 : aggB Tryz.prog 25 = some 5 := by kernel_rfl
theorem Tryz.ag_49 : aggB Tryz.prog 49 = some 2 := by kernel_rfl
theorem Tryz.ag_57 : aggB Tryz.prog 57 = some 2 := by kernel_rfl
theorem Tryz.ag_74 : aggB Tryz.prog 74 = some 2 := by kernel_rfl
theorem Tryz.ba_117 : arrayB Tryz.prog 117 = some ([.nilFunc, .nilFunc], 1) := by kernel_rfl
theorem Tryz.bl_142_1 : sliceB Tryz.prog 142 1 = some (74, 2, [(.slice none 0 0), (.int .i64 0)]) := by kernel_rfl
theorem Tryz.bl_171_0 : sliceB Tryz.prog 171 0 = some (173, 3, []) := by kernel_rfl
theorem Tryz.bl_171_1 : sliceB Tryz.prog 171 1 = some (173, 3, [(.int .i64 0), (.int .i64 0), (.bool false)]) := by kernel_rfl
theorem Tryz.bl_174_1 : sliceB Tryz.prog 174 1 = some (123, 1, [(.int .u64 0)]) := by kernel_rfl
theorem Tryz.bl_185_2 : sliceB Tryz.prog 185 2 = some (189, 1, [.nilFunc, .nilFunc]) := by kernel_rfl
theorem Tryz.bl_22_1 : sliceB Tryz.prog 22 1 = some (49, 2, [(.int .i64 0), (.int .i64 0)]) := by kernel_rfl
theorem Tryz.bl_23_0 : sliceB Tryz.prog 23 0 = some (22, 1, []) := by kernel_rfl
theorem Tryz.bl_23_1 : sliceB Tryz.prog 23 1 = some (22, 1, [(.slice none 0 0)]) := by kernel_rfl
theorem Tryz.bl_23_3 : sliceB Tryz.prog 23 3 = some (22, 1, [(.slice none 0 0), (.slice none 0 0), (.slice none 0 0)]) := by kernel_rfl
theorem Tryz.bl_28_1 : sliceB Tryz.prog 28 1 = some (3, 1, [(.int .i64 0)]) := by kernel_rfl
theorem Tryz.bl_28_2 : sliceB Tryz.prog 28 2 = some (3, 1, [(.int .i64 0), (.int .i64 0)]) := by kernel_rfl
theorem Tryz.bl_42_2 : sliceB Tryz.prog 42 2 = some (28, 1, [(.slice none 0 0), (.slice none 0 0)]) := by kernel_rfl
theorem Tryz.bl_55_3 : sliceB Tryz.prog 55 3 = some (106, 6, [(.int .i64 0), (.int .i64 0), (.int .i64 0), (.int .i64 0), (.int .i64 0), (.int .i64 0), (.int .i64 0), (.int .i64 0), (.int .i64 0), (.int .i64 0), (.int .i64 0), (.int .i64 0), (.int .i64 0), (.int .i64 0), (.int .i64 0), (.int .i64 0), (.int .i64 0), (.int .i64 0)]) := by kernel_rfl
theorem Tryz.bl_60_1 : sliceB Tryz.prog 60 1 = some (110, 2, [(.int .i64 0), (.int .i64 0)]) := by kernel_rfl
theorem Tryz.bs_106 : structB Tryz.prog 106 = some ([(.int .i64 0), (.int .i64 0), (.int .i64 0), (.int .i64 0), (.int .i64 0), (.int .i64 0)], [(0, 1), (1, 1), (2, 2), (4, 2)]) := by kernel_rfl
theorem Tryz.bs_110 : structB Tryz.prog 110 = some ([(.int .i64 0), (.int .i64 0)], [(0, 1), (1, 1)]) := by kernel_rfl
theorem Tryz.bs_116 : structB Tryz.prog 116 = some ([.nilFunc], [(0, 1)]) := by kernel_rfl
theorem Tryz.bs_121 : structB Tryz.prog 121 = some ([(.int .i64 0), (.slice none 0 0), (.map none)], [(0, 2), (2, 1)]) := by kernel_rfl
theorem Tryz.bs_131 : structB Tryz.prog 131 = some ([(.int .i64 0), (.int .i64 0)], [(0, 1), (1, 1)]) := by kernel_rfl
theorem Tryz.bs_133 : structB Tryz.prog 133 = some ([(.int .i64 0)], [(0, 1)]) := by kernel_rfl
theorem Tryz.bs_136 : structB Tryz.prog 136 = some ([(.int .i64 0), (.slice none 0 0), (.slice none 0 0), (.slice none 0 0), (.slice none 0 0), (.int .i64 0)], [(0, 5), (5, 1)]) := by kernel_rfl
theorem Tryz.bs_140 : structB Tryz.prog 140 = some ([(.int .i64 0), (.int .i64 0), (.int .i64 0)], [(0, 1), (1, 1), (2, 1)]) := by kernel_rfl
theorem Tryz.bs_169 : structB Tryz.prog 169 = some ([(.int .i64 0)], [(0, 1)]) := by kernel_rfl
theorem Tryz.bs_173 : structB Tryz.prog 173 = some ([(.int .i64 0), (.int .i64 0), (.bool false)], [(0, 1), (1, 1), (2, 1)]) := by kernel_rfl
theorem Tryz.bs_189 : structB Tryz.prog 189 = some ([.nilFunc], [(0, 1)]) := by kernel_rfl
theorem Tryz.bs_25 : structB Tryz.prog 25 = some ([(.int .i64 0), (.slice none 0 0), (.slice none 0 0), (.slice none 0 0), (.slice none 0 0)], [(0, 1), (1, 1), (2, 1), (3, 1), (4, 1)]) := by kernel_rfl
theorem Tryz.bs_49 : structB Tryz.prog 49 = some ([(.int .i64 0), (.int .i64 0)], [(0, 1), (1, 1)]) := by kernel_rfl
theorem Tryz.bs_57 : structB Tryz.prog 57 = some ([(.int .i64 0), (.slice none 0 0)], [(0, 1), (1, 1)]) := by kernel_rfl
theorem Tryz.bs_74 : structB Tryz.prog 74 = some ([(.slice none 0 0), (.int .i64 0)], [(0, 1), (1, 1)]) := by kernel_rfl
theorem Tryz.bs_82 : structB Tryz.prog 82 = some ([], []) := by kernel_rfl
theorem Tryz.bs_83 : structB Tryz.prog 83 = some ([], []) := by kernel_rfl
theorem Tryz.eb_142 : elemB Tryz.prog 142 = some (74, 2, 32, (.agg #[(.slice none 0 0), (.int .i64 0)])) := by kernel_rfl
theorem Tryz.eb_171 : elemB Tryz.prog 171 = some (173, 3, 24, (.agg #[(.int .i64 0), (.int .i64 0), (.bool false)])) := by kernel_rfl
theorem Tryz.eb_174 : elemB Tryz.prog 174 = some (123, 1, 8, (.int .u64 0)) := by kernel_rfl
theorem Tryz.eb_22 : elemB Tryz.prog 22 = some (49, 2, 16, (.agg #[(.int .i64 0), (.int .i64 0)])) := by kernel_rfl
theorem Tryz.eb_23 : elemB Tryz.prog 23 = some (22, 1, 24, (.slice none 0 0)) := by kernel_rfl
theorem Tryz.eb_28 : elemB Tryz.prog 28 = some (3, 1, 8, (.int .i64 0)) := by kernel_rfl
theorem Tryz.eb_60 : elemB Tryz.prog 60 = some (110, 2, 16, (.agg #[(.int .i64 0), (.int .i64 0)])) := by kernel_rfl
theorem Tryz.en_10 : Enters Tryz.prog 10 := enters_of Tryz.func10 (by kernel_rfl) rfl
theorem Tryz.en_100 : Enters Tryz.prog 100 := enters_of Tryz.func100 (by kernel_rfl) rfl
theorem Tryz.en_101 : Enters Tryz.prog 101 := enters_of Tryz.func101 (by kernel_rfl) rfl
theorem Tryz.en_102 : Enters Tryz.prog 102 := enters_of Tryz.func102 (by kernel_rfl) rfl
theorem Tryz.en_103 : Enters Tryz.prog 103 := enters_of Tryz.func103 (by kernel_rfl) rfl
theorem Tryz.en_104 : Enters Tryz.prog 104 := enters_of Tryz.func104 (by kernel_rfl) rfl
theorem Tryz.en_105 : Enters Tryz.prog 105 := enters_of Tryz.func105 (by kernel_rfl) rfl
theorem Tryz.en_106 : Enters Tryz.prog 106 := enters_of Tryz.func106 (by kernel_rfl) rfl
theorem Tryz.en_119 : Enters Tryz.prog 119 := enters_of Tryz.func119 (by kernel_rfl) rfl
theorem Tryz.en_12 : Enters Tryz.prog 12 := enters_of Tryz.func12 (by kernel_rfl) rfl
theorem Tryz.en_121 : Enters Tryz.prog 121 := enters_of Tryz.func121 (by kernel_rfl) rfl
theorem Tryz.en_123 : Enters Tryz.prog 123 := enters_of Tryz.func123 (by kernel_rfl) rfl
theorem Tryz.en_124 : Enters Tryz.prog 124 := enters_of Tryz.func124 (by kernel_rfl) rfl
theorem Tryz.en_125 : Enters Tryz.prog 125 := enters_of Tryz.func125 (by kernel_rfl) rfl
theorem Tryz.en_126 : Enters Tryz.prog 126 := enters_of Tryz.func126 (by kernel_rfl) rfl
theorem Tryz.en_127 : Enters Tryz.prog 127 := enters_of Tryz.func127 (by kernel_rfl) rfl
theorem Tryz.en_128 : Enters Tryz.prog 128 := enters_of Tryz.func128 (by kernel_rfl) rfl
theorem Tryz.en_129 : Enters Tryz.prog 129 := enters_of Tryz.func129 (by kernel_rfl) rfl
theorem Tryz.en_130 : Enters Tryz.prog 130 := enters_of Tryz.func130 (by kernel_rfl) rfl
theorem Tryz.en_131 : Enters Tryz.prog 131 := enters_of Tryz.func131 (by kernel_rfl) rfl
theorem Tryz.en_132 : Enters Tryz.prog 132 := enters_of Tryz.func132 (by kernel_rfl) rfl
theorem Tryz.en_133 : Enters Tryz.prog 133 := enters_of Tryz.func133 (by kernel_rfl) rfl
theorem Tryz.en_134 : Enters Tryz.prog 134 := enters_of Tryz.func134 (by kernel_rfl) rfl
theorem Tryz.en_135 : Enters Tryz.prog 135 := enters_of Tryz.func135 (by kernel_rfl) rfl
theorem Tryz.en_136 : Enters Tryz.prog 136 := enters_of Tryz.func136 (by kernel_rfl) rfl
theorem Tryz.en_137 : Enters Tryz.prog 137 := enters_of Tryz.func137 (by kernel_rfl) rfl
theorem Tryz.en_138 : Enters Tryz.prog 138 := enters_of Tryz.func138 (by kernel_rfl) rfl
theorem Tryz.en_139 : Enters Tryz.prog 139 := enters_of Tryz.func139 (by kernel_rfl) rfl
theorem Tryz.en_147 : Enters Tryz.prog 147 := enters_of Tryz.func147 (by kernel_rfl) rfl
theorem Tryz.en_148 : Enters Tryz.prog 148 := enters_of Tryz.func148 (by kernel_rfl) rfl
theorem Tryz.en_149 : Enters Tryz.prog 149 := enters_of Tryz.func149 (by kernel_rfl) rfl
theorem Tryz.en_15 : Enters Tryz.prog 15 := enters_of Tryz.func15 (by kernel_rfl) rfl
theorem Tryz.en_150 : Enters Tryz.prog 150 := enters_of Tryz.func150 (by kernel_rfl) rfl
theorem Tryz.en_151 : Enters Tryz.prog 151 := enters_of Tryz.func151 (by kernel_rfl) rfl
theorem Tryz.en_152 : Enters Tryz.prog 152 := enters_of Tryz.func152 (by kernel_rfl) rfl
theorem Tryz.en_155 : Enters Tryz.prog 155 := enters_of Tryz.func155 (by kernel_rfl) rfl
theorem Tryz.en_156 : Enters Tryz.prog 156 := enters_of Tryz.func156 (by kernel_rfl) rfl
theorem Tryz.en_157 : Enters Tryz.prog 157 := enters_of Tryz.func157 (by kernel_rfl) rfl
theorem Tryz.en_158 : Enters Tryz.prog 158 := enters_of Tryz.func158 (by kernel_rfl) rfl
theorem Tryz.en_160 : Enters Tryz.prog 160 := enters_of Tryz.func160 (by kernel_rfl) rfl
theorem Tryz.en_17 : Enters Tryz.prog 17 := enters_of Tryz.func17 (by kernel_rfl) rfl
theorem Tryz.en_171 : Enters Tryz.prog 171 := enters_of Tryz.func171 (by kernel_rfl) rfl
theorem Tryz.en_18 : Enters Tryz.prog 18 := enters_of Tryz.func18 (by kernel_rfl) rfl
theorem Tryz.en_19 : Enters Tryz.prog 19 := enters_of Tryz.func19 (by kernel_rfl) rfl
theorem Tryz.en_194 : Enters Tryz.prog 194 := enters_of Tryz.func194 (by kernel_rfl) rfl
theorem Tryz.en_20 : Enters Tryz.prog 20 := enters_of Tryz.func20 (by kernel_rfl) rfl
theorem Tryz.en_21 : Enters Tryz.prog 21 := enters_of Tryz.func21 (by kernel_rfl) rfl
theorem Tryz.en_22 : Enters Tryz.prog 22 := enters_of Tryz.func22 (by kernel_rfl) rfl
theorem Tryz.en_23 : Enters Tryz.prog 23 := enters_of Tryz.func23 (by kernel_rfl) rfl
theorem Tryz.en_24 : Enters Tryz.prog 24 := enters_of Tryz.func24 (by kernel_rfl) rfl
theorem Tryz.en_28 : Enters Tryz.prog 28 := enters_of Tryz.func28 (by kernel_rfl) rfl
theorem Tryz.en_29 : Enters Tryz.prog 29 := enters_of Tryz.func29 (by kernel_rfl) rfl
theorem Tryz.en_30 : Enters Tryz.prog 30 := enters_of Tryz.func30 (by kernel_rfl) rfl
theorem Tryz.en_31 : Enters Tryz.prog 31 := enters_of Tryz.func31 (by kernel_rfl) rfl
theorem Tryz.en_32 : Enters Tryz.prog 32 := enters_of Tryz.func32 (by kernel_rfl) rfl
theorem Tryz.en_36 : Enters Tryz.prog 36 := enters_of Tryz.func36 (by kernel_rfl) rfl
theorem Tryz.en_37 : Enters Tryz.prog 37 := enters_of Tryz.func37 (by kernel_rfl) rfl
theorem Tryz.en_38 : Enters Tryz.prog 38 := enters_of Tryz.func38 (by kernel_rfl) rfl
theorem Tryz.en_39 : Enters Tryz.prog 39 := enters_of Tryz.func39 (by kernel_rfl) rfl
theorem Tryz.en_57 : Enters Tryz.prog 57 := enters_of Tryz.func57 (by kernel_rfl) rfl
theorem Tryz.en_58 : Enters Tryz.prog 58 := enters_of Tryz.func58 (by kernel_rfl) rfl
theorem Tryz.en_59 : Enters Tryz.prog 59 := enters_of Tryz.func59 (by kernel_rfl) rfl
theorem Tryz.en_60 : Enters Tryz.prog 60 := enters_of Tryz.func60 (by kernel_rfl) rfl
theorem Tryz.en_61 : Enters Tryz.prog 61 := enters_of Tryz.func61 (by kernel_rfl) rfl
theorem Tryz.en_62 : Enters Tryz.prog 62 := enters_of Tryz.func62 (by kernel_rfl) rfl
theorem Tryz.en_63 : Enters Tryz.prog 63 := enters_of Tryz.func63 (by kernel_rfl) rfl
theorem Tryz.en_64 : Enters Tryz.prog 64 := enters_of Tryz.func64 (by kernel_rfl) rfl
theorem Tryz.en_65 : Enters Tryz.prog 65 := enters_of Tryz.func65 (by kernel_rfl) rfl
theorem Tryz.en_66 : Enters Tryz.prog 66 := enters_of Tryz.func66 (by kernel_rfl) rfl
theorem Tryz.en_67 : Enters Tryz.prog 67 := enters_of Tryz.func67 (by kernel_rfl) rfl
theorem Tryz.en_68 : Enters Tryz.prog 68 := enters_of Tryz.func68 (by kernel_rfl) rfl
theorem Tryz.en_69 : Enters Tryz.prog 69 := enters_of Tryz.func69 (by kernel_rfl) rfl
theorem Tryz.en_70 : Enters Tryz.prog 70 := enters_of Tryz.func70 (by kernel_rfl) rfl
theorem Tryz.en_71 : Enters Tryz.prog 71 := enters_of Tryz.func71 (by kernel_rfl) rfl
theorem Tryz.en_72 : Enters Tryz.prog 72 := enters_of Tryz.func72 (by kernel_rfl) rfl
theorem Tryz.en_73 : Enters Tryz.prog 73 := enters_of Tryz.func73 (by kernel_rfl) rfl
theorem Tryz.en_74 : Enters Tryz.prog 74 := enters_of Tryz.func74 (by kernel_rfl) rfl
theorem Tryz.en_75 : Enters Tryz.prog 75 := enters_of Tryz.func75 (by kernel_rfl) rfl
theorem Tryz.en_76 : Enters Tryz.prog 76 := enters_of Tryz.func76 (by kernel_rfl) rfl
theorem Tryz.en_77 : Enters Tryz.prog 77 := enters_of Tryz.func77 (by kernel_rfl) rfl
theorem Tryz.en_78 : Enters Tryz.prog 78 := enters_of Tryz.func78 (by kernel_rfl) rfl
theorem Tryz.en_82 : Enters Tryz.prog 82 := enters_of Tryz.func82 (by kernel_rfl) rfl
theorem Tryz.en_87 : Enters Tryz.prog 87 := enters_of Tryz.func87 (by kernel_rfl) rfl
theorem Tryz.en_89 : Enters Tryz.prog 89 := enters_of Tryz.func89 (by kernel_rfl) rfl
theorem Tryz.en_9 : Enters Tryz.prog 9 := enters_of Tryz.func9 (by kernel_rfl) rfl
theorem Tryz.en_90 : Enters Tryz.prog 90 := enters_of Tryz.func90 (by kernel_rfl) rfl
theorem Tryz.en_91 : Enters Tryz.prog 91 := enters_of Tryz.func91 (by kernel_rfl) rfl
theorem Tryz.en_92 : Enters Tryz.prog 92 := enters_of Tryz.func92 (by kernel_rfl) rfl
theorem Tryz.en_93 : Enters Tryz.prog 93 := enters_of Tryz.func93 (by kernel_rfl) rfl
theorem Tryz.en_94 : Enters Tryz.prog 94 := enters_of Tryz.func94 (by kernel_rfl) rfl
theorem Tryz.en_95 : Enters Tryz.prog 95 := enters_of Tryz.func95 (by kernel_rfl) rfl
theorem Tryz.en_96 : Enters Tryz.prog 96 := enters_of Tryz.func96 (by kernel_rfl) rfl
theorem Tryz.en_97 : Enters Tryz.prog 97 := enters_of Tryz.func97 (by kernel_rfl) rfl
theorem Tryz.en_98 : Enters Tryz.prog 98 := enters_of Tryz.func98 (by kernel_rfl) rfl
theorem Tryz.en_99 : Enters Tryz.prog 99 := enters_of Tryz.func99 (by kernel_rfl) rfl
theorem Tryz.fo_106_0 : fieldOff Tryz.prog 106 0 = some 0 := by kernel_rfl
theorem Tryz.fo_106_1 : fieldOff Tryz.prog 106 1 = some 1 := by kernel_rfl
theorem Tryz.fo_106_2 : fieldOff Tryz.prog 106 2 = some 2 := by kernel_rfl
theorem Tryz.fo_106_3 : fieldOff Tryz.prog 106 3 = some 4 := by kernel_rfl
theorem Tryz.fo_110_0 : fieldOff Tryz.prog 110 0 = some 0 := by kernel_rfl
theorem Tryz.fo_110_1 : fieldOff Tryz.prog 110 1 = some 1 := by kernel_rfl
theorem Tryz.fo_116_0 : fieldOff Tryz.prog 116 0 = some 0 := by kernel_rfl
theorem Tryz.fo_121_0 : fieldOff Tryz.prog 121 0 = some 0 := by kernel_rfl
theorem Tryz.fo_121_1 : fieldOff Tryz.prog 121 1 = some 2 := by kernel_rfl
theorem Tryz.fo_131_0 : fieldOff Tryz.prog 131 0 = some 0 := by kernel_rfl
theorem Tryz.fo_131_1 : fieldOff Tryz.prog 131 1 = some 1 := by kernel_rfl
theorem Tryz.fo_133_0 : fieldOff Tryz.prog 133 0 = some 0 := by kernel_rfl
theorem Tryz.fo_136_0 : fieldOff Tryz.prog 136 0 = some 0 := by kernel_rfl
theorem Tryz.fo_136_1 : fieldOff Tryz.prog 136 1 = some 5 := by kernel_rfl
theorem Tryz.fo_140_0 : fieldOff Tryz.prog 140 0 = some 0 := by kernel_rfl
theorem Tryz.fo_140_1 : fieldOff Tryz.prog 140 1 = some 1 := by kernel_rfl
theorem Tryz.fo_140_2 : fieldOff Tryz.prog 140 2 = some 2 := by kernel_rfl
theorem Tryz.fo_169_0 : fieldOff Tryz.prog 169 0 = some 0 := by kernel_rfl
theorem Tryz.fo_173_0 : fieldOff Tryz.prog 173 0 = some 0 := by kernel_rfl
theorem Tryz.fo_173_1 : fieldOff Tryz.prog 173 1 = some 1 := by kernel_rfl
theorem Tryz.fo_173_2 : fieldOff Tryz.prog 173 2 = some 2 := by kernel_rfl
theorem Tryz.fo_189_0 : fieldOff Tryz.prog 189 0 = some 0 := by kernel_rfl
theorem Tryz.fo_25_0 : fieldOff Tryz.prog 25 0 = some 0 := by kernel_rfl
theorem Tryz.fo_25_1 : fieldOff Tryz.prog 25 1 = some 1 := by kernel_rfl
theorem Tryz.fo_25_2 : fieldOff Tryz.prog 25 2 = some 2 := by kernel_rfl
theorem Tryz.fo_25_3 : fieldOff Tryz.prog 25 3 = some 3 := by kernel_rfl
theorem Tryz.fo_25_4 : fieldOff Tryz.prog 25 4 = some 4 := by kernel_rfl
theorem Tryz.fo_49_0 : fieldOff Tryz.prog 49 0 = some 0 := by kernel_rfl
theorem Tryz.fo_49_1 : fieldOff Tryz.prog 49 1 = some 1 := by kernel_rfl
theorem Tryz.fo_57_0 : fieldOff Tryz.prog 57 0 = some 0 := by kernel_rfl
theorem Tryz.fo_57_1 : fieldOff Tryz.prog 57 1 = some 1 := by kernel_rfl
theorem Tryz.fo_74_0 : fieldOff Tryz.prog 74 0 = some 0 := by kernel_rfl
theorem Tryz.fo_74_1 : fieldOff Tryz.prog 74 1 = some 1 := by kernel_rfl
theorem Tryz.fs_131_1 : fieldS Tryz.prog 131 1 = some 1 := by kernel_rfl
theorem Tryz.fs_49_0 : fieldS Tryz.prog 49 0 = some 0 := by kernel_rfl
theorem Tryz.fs_49_1 : fieldS Tryz.prog 49 1 = some 1 := by kernel_rfl
theorem Tryz.fs_74_0 : fieldS Tryz.prog 74 0 = some 0 := by kernel_rfl
theorem Tryz.mt_119 : mapTypes Tryz.prog 119 = some (3, 171, .i64) := by kernel_rfl
theorem Tryz.mt_178 : mapTypes Tryz.prog 178 = some (3, 3, .i64) := by kernel_rfl
theorem Tryz.sc_107 : scalB Tryz.prog 107 = true := by kernel_rfl
theorem Tryz.sc_112 : scalB Tryz.prog 112 = true := by kernel_rfl
theorem Tryz.sc_114 : scalB Tryz.prog 114 = true := by kernel_rfl
theorem Tryz.sc_119 : scalB Tryz.prog 119 = true := by kernel_rfl
theorem Tryz.sc_137 : scalB Tryz.prog 137 = true := by kernel_rfl
theorem Tryz.sc_138 : scalB Tryz.prog 138 = true := by kernel_rfl
theorem Tryz.sc_150 : scalB Tryz.prog 150 = true := by kernel_rfl
theorem Tryz.sc_174 : scalB Tryz.prog 174 = true := by kernel_rfl
theorem Tryz.sc_187 : scalB Tryz.prog 187 = true := by kernel_rfl
theorem Tryz.sc_22 : scalB Tryz.prog 22 = true := by kernel_rfl
theorem Tryz.sc_224 : scalB Tryz.prog 224 = true := by kernel_rfl
theorem Tryz.sc_225 : scalB Tryz.prog 225 = true := by kernel_rfl
theorem Tryz.sc_23 : scalB Tryz.prog 23 = true := by kernel_rfl
theorem Tryz.sc_28 : scalB Tryz.prog 28 = true := by kernel_rfl
theorem Tryz.sc_3 : scalB Tryz.prog 3 = true := by kernel_rfl
theorem Tryz.sc_34 : scalB Tryz.prog 34 = true := by kernel_rfl
theorem Tryz.sc_4 : scalB Tryz.prog 4 = true := by kernel_rfl
theorem Tryz.sc_55 : scalB Tryz.prog 55 = true := by kernel_rfl
theorem Tryz.sc_75 : scalB Tryz.prog 75 = true := by kernel_rfl
theorem Tryz.sc_86 : scalB Tryz.prog 86 = true := by kernel_rfl
theorem Tryz.se_142 : sliceElem Tryz.prog 142 = some (74, 2) := by kernel_rfl
theorem Tryz.se_171 : sliceElem Tryz.prog 171 = some (173, 3) := by kernel_rfl
theorem Tryz.se_174 : sliceElem Tryz.prog 174 = some (123, 1) := by kernel_rfl
theorem Tryz.se_185 : sliceElem Tryz.prog 185 = some (189, 1) := by kernel_rfl
theorem Tryz.se_22 : sliceElem Tryz.prog 22 = some (49, 2) := by kernel_rfl
theorem Tryz.se_23 : sliceElem Tryz.prog 23 = some (22, 1) := by kernel_rfl
theorem Tryz.se_28 : sliceElem Tryz.prog 28 = some (3, 1) := by kernel_rfl
theorem Tryz.se_42 : sliceElem Tryz.prog 42 = some (28, 1) := by kernel_rfl
theorem Tryz.se_55 : sliceElem Tryz.prog 55 = some (106, 6) := by kernel_rfl
theorem Tryz.se_60 : sliceElem Tryz.prog 60 = some (110, 2) := by kernel_rfl
theorem Tryz.sz_106 : (Tryz.prog.info? 106).map (·.size) = some 6 := by kernel_rfl
theorem Tryz.sz_107 : (Tryz.prog.info? 107).map (·.size) = some 1 := by kernel_rfl
theorem Tryz.sz_110 : (Tryz.prog.info? 110).map (·.size) = some 2 := by kernel_rfl
theorem Tryz.sz_116 : (Tryz.prog.info? 116).map (·.size) = some 1 := by kernel_rfl
theorem Tryz.sz_117 : (Tryz.prog.info? 117).map (·.size) = some 2 := by kernel_rfl
theorem Tryz.sz_131 : (Tryz.prog.info? 131).map (·.size) = some 2 := by kernel_rfl
theorem Tryz.sz_133 : (Tryz.prog.info? 133).map (·.size) = some 1 := by kernel_rfl
theorem Tryz.sz_137 : (Tryz.prog.info? 137).map (·.size) = some 1 := by kernel_rfl
theorem Tryz.sz_138 : (Tryz.prog.info? 138).map (·.size) = some 1 := by kernel_rfl
theorem Tryz.sz_169 : (Tryz.prog.info? 169).map (·.size) = some 1 := by kernel_rfl
theorem Tryz.sz_173 : (Tryz.prog.info? 173).map (·.size) = some 3 := by kernel_rfl
theorem Tryz.sz_174 : (Tryz.prog.info? 174).map (·.size) = some 1 := by kernel_rfl
theorem Tryz.sz_189 : (Tryz.prog.info? 189).map (·.size) = some 1 := by kernel_rfl
theorem Tryz.sz_22 : (Tryz.prog.info? 22).map (·.size) = some 1 := by kernel_rfl
theorem Tryz.sz_225 : (Tryz.prog.info? 225).map (·.size) = some 1 := by kernel_rfl
theorem Tryz.sz_23 : (Tryz.prog.info? 23).map (·.size) = some 1 := by kernel_rfl
theorem Tryz.sz_25 : (Tryz.prog.info? 25).map (·.size) = some 5 := by kernel_rfl
theorem Tryz.sz_3 : (Tryz.prog.info? 3).map (·.size) = some 1 := by kernel_rfl
theorem Tryz.sz_34 : (Tryz.prog.info? 34).map (·.size) = some 1 := by kernel_rfl
theorem Tryz.sz_4 : (Tryz.prog.info? 4).map (·.size) = some 1 := by kernel_rfl
theorem Tryz.sz_49 : (Tryz.prog.info? 49).map (·.size) = some 2 := by kernel_rfl
theorem Tryz.sz_57 : (Tryz.prog.info? 57).map (·.size) = some 2 := by kernel_rfl
theorem Tryz.sz_74 : (Tryz.prog.info? 74).map (·.size) = some 2 := by kernel_rfl
theorem Tryz.sz_86 : (Tryz.prog.info? 86).map (·.size) = some 1 := by kernel_rfl
theorem Tryz.un_3 : Tryz.prog.underlying 3 = some (.int .i64) := by kernel_rfl
theorem Tryz.ze_106 : zeroOf Tryz.prog 106 = some (.agg #[(.int .i64 0), (.int .i64 0), (.int .i64 0), (.int .i64 0), (.int .i64 0), (.int .i64 0)]) := by kernel_rfl
theorem Tryz.ze_107 : zeroOf Tryz.prog 107 = some .nilFunc := by kernel_rfl
theorem Tryz.ze_110 : zeroOf Tryz.prog 110 = some (.agg #[(.int .i64 0), (.int .i64 0)]) := by kernel_rfl
theorem Tryz.ze_116 : zeroOf Tryz.prog 116 = some (.agg #[.nilFunc]) := by kernel_rfl
theorem Tryz.ze_117 : zeroOf Tryz.prog 117 = some (.agg #[.nilFunc, .nilFunc]) := by kernel_rfl
theorem Tryz.ze_131 : zeroOf Tryz.prog 131 = some (.agg #[(.int .i64 0), (.int .i64 0)]) := by kernel_rfl
theorem Tryz.ze_133 : zeroOf Tryz.prog 133 = some (.agg #[(.int .i64 0)]) := by kernel_rfl
theorem Tryz.ze_137 : zeroOf Tryz.prog 137 = some (.map none) := by kernel_rfl
theorem Tryz.ze_138 : zeroOf Tryz.prog 138 = some .nilFunc := by kernel_rfl
theorem Tryz.ze_148 : zeroOf Tryz.prog 148 = some (.agg #[(.bool false), (.bool false), (.bool false), (.bool false), (.bool false), (.bool false)]) := by kernel_rfl
theorem Tryz.ze_169 : zeroOf Tryz.prog 169 = some (.agg #[(.int .i64 0)]) := by kernel_rfl
theorem Tryz.ze_171 : zeroOf Tryz.prog 171 = some (.slice none 0 0) := by kernel_rfl
theorem Tryz.ze_173 : zeroOf Tryz.prog 173 = some (.agg #[(.int .i64 0), (.int .i64 0), (.bool false)]) := by kernel_rfl
theorem Tryz.ze_174 : zeroOf Tryz.prog 174 = some (.slice none 0 0) := by kernel_rfl
theorem Tryz.ze_189 : zeroOf Tryz.prog 189 = some (.agg #[.nilFunc]) := by kernel_rfl
theorem Tryz.ze_22 : zeroOf Tryz.prog 22 = some (.slice none 0 0) := by kernel_rfl
theorem Tryz.ze_225 : zeroOf Tryz.prog 225 = some .nilFunc := by kernel_rfl
theorem Tryz.ze_25 : zeroOf Tryz.prog 25 = some (.agg #[(.int .i64 0), (.slice none 0 0), (.slice none 0 0), (.slice none 0 0), (.slice none 0 0)]) := by kernel_rfl
theorem Tryz.ze_3 : zeroOf Tryz.prog 3 = some (.int .i64 0) := by kernel_rfl
theorem Tryz.ze_34 : zeroOf Tryz.prog 34 = some (.int .i64 0) := by kernel_rfl
theorem Tryz.ze_4 : zeroOf Tryz.prog 4 = some (.bool false) := by kernel_rfl
theorem Tryz.ze_49 : zeroOf Tryz.prog 49 = some (.agg #[(.int .i64 0), (.int .i64 0)]) := by kernel_rfl
theorem Tryz.ze_57 : zeroOf Tryz.prog 57 = some (.agg #[(.int .i64 0), (.slice none 0 0)]) := by kernel_rfl
theorem Tryz.ze_74 : zeroOf Tryz.prog 74 = some (.agg #[(.slice none 0 0), (.int .i64 0)]) := by kernel_rfl
theorem Tryz.ze_86 : zeroOf Tryz.prog 86 = some .nilFunc := by kernel_rfl
end Go.Proofs.YtccpgpnekoncoaaGreat

namespace Go.Proofs.YtccpgpnekoncoaaGreat
open Go Go.Sy Go.ChaM
/-- The panic of what cannot be told. -/
abbrev misfit (e : Int) : List PanicEntry := [{ v := .iface 169 (.agg #[.int .i64 e]), recovered := false }]
theorem p60 (b : Bool) (e : Int) (u : World) : Calls Tryz.prog 90 #[.bool b, .int .i64 e] u (RetX (fun v w' => b = true ∧ Ext [] u w') (fun ch w' => b = false ∧ ch = misfit e ∧ Ext [] u w')) := by
  refine calls_ofX Tryz.func90 rfl rfl (fun a hf => ?_)
  have hh := Hp.init u []
  refine sy_sq ?_
  refine o_v hf hh (yv_move rfl) ?_; clear hf a; intro a hf
  refine o_v hf hh (yv_not rfl) ?_; clear hf a; intro a hf
  refine o_end ?_
  refine sy_cond hf rfl (fun hg2 => ?_) (fun hg2 => ?_)
  ·have hG2 := hg2; try simp only [gS] at hG2
   refine sy_ops ?_
   refine o_v hf hh (yv_move rfl) ?_; clear hf a; intro a hf
   refine o_v hf hh (yv_buildS Tryz.bs_169 rfl rfl) ?_; clear hf a; intro a hf
   refine o_v hf hh (yv_makeIface (by kernel_rfl) rfl) ?_; clear hf a; intro a hf
   refine o_panic hf fun hf => ?_
   refine pan_x hf ?_
   exact ⟨by simp_all, rfl, hh.ext⟩
  ·have hG2 := hg2; try simp only [gS] at hG2
   refine sy_skip ?_
   refine ret_xn ?_
   refine ret_n hf rfl rfl ?_
   exact ⟨by simp_all, hh.ext⟩
theorem p62 (n l h : Int) (w : World) : Calls Tryz.prog 92 #[.int .i64 n, .int .i64 l, .int .i64 h] w (Ret fun v w' => v = .bool (inC n l h) ∧ Ext [] w w') := by
  refine calls_of Tryz.func92 rfl rfl (fun a hf => ?_)
  have hh := Hp.init w []
  refine sy_sq ?_
  refine o_v hf hh (yv_assign rfl) ?_; clear hf a; intro a hf
  refine o_end ?_
  refine sy_sq ?_
  refine o_v hf hh (yv_move rfl) ?_; clear hf a; intro a hf
  refine o_v hf hh (yv_move rfl) ?_; clear hf a; intro a hf
  refine o_v hf hh (yv_bin rfl rfl rfl) ?_; clear hf a; intro a hf
  refine o_v hf hh (yv_move rfl) ?_; clear hf a; intro a hf
  refine guard_split hf (t := 10) rfl (fun hg2 => ?_) (fun hg2 => ?_)
  ·have hG2 := hg2; try simp only [gS] at hG2
   refine o_v hf hh (yv_move rfl) ?_; clear hf a; intro a hf
   refine o_v hf hh (yv_move rfl) ?_; clear hf a; intro a hf
   refine o_v hf hh (yv_bin rfl rfl rfl) ?_; clear hf a; intro a hf
   refine o_v hf hh (y_pt rfl rfl) ?_; clear hf a; intro a hf
   refine o_v hf hh (yv_assign rfl) ?_; clear hf a; intro a hf
   refine o_end ?_
   refine sy_ret ?_
   refine ret_r hf rfl rfl ?_
   unfold inC
   first
     | (rw [decide_eq_true (show l ≤ n by omega), Bool.true_and]; exact ⟨rfl, hh.ext⟩)
     | (rw [decide_eq_false (show ¬ l ≤ n by omega), Bool.false_and]; exact ⟨rfl, hh.ext⟩)
  ·have hG2 := hg2; try simp only [gS] at hG2
   refine o_off hf ?_; clear hf a; intro a hf
   refine o_off hf ?_; clear hf a; intro a hf
   refine o_off hf ?_; clear hf a; intro a hf
   refine o_v hf hh (y_pf rfl rfl) ?_; clear hf a; intro a hf
   refine o_v hf hh (yv_assign rfl) ?_; clear hf a; intro a hf
   refine o_end ?_
   refine sy_ret ?_
   refine ret_r hf rfl rfl ?_
   unfold inC
   first
     | (rw [decide_eq_true (show l ≤ n by omega), Bool.true_and]; exact ⟨rfl, hh.ext⟩)
     | (rw [decide_eq_false (show ¬ l ≤ n by omega), Bool.false_and]; exact ⟨rfl, hh.ext⟩)
theorem d41r (Be : Nat) (w : World) : CallsDIn (FR none) 0 Tryz.prog 60 #[ptr Be 0] .returning w (fun e u' w' => (∃ v, e = .returned v) ∧ u' = .returning ∧ Ext [] w w') := by
  refine callsDIn_of_wpSIn Tryz.func60 rfl trivial fun c₀ cs hu => ?_
  refine wpSIn_seq ?_
  refine wpSIn_recover (v := .nilIface) (cs' := c₀ :: cs) rfl rfl (.inr ⟨by simp [recoverD, hu], rfl, rfl⟩) ?_
  have hf := (Fr.enter [ptr Be 0] Tryz.f60.ntmps (Nat.le_of_ble_eq_true rfl)).put (d := 5) (blt_lt rfl) (.nilIface)
  have hh := Hp.init w []
  refine o_v hf hh (yv_assign rfl) ?_; clear hf; intro a hf
  refine ops_end ?_
  refine wpSIn_of_wpIn rfl ?_
  show WP _ none _ _ _ _
  refine sy_sq ?_
  refine o_v hf hh (yv_move rfl) ?_; clear hf a; intro a hf
  refine o_v hf hh (yv_neqNil (by kernel_rfl) rfl rfl) ?_; clear hf a; intro a hf
  refine o_end ?_
  refine c_f hf ?_
  refine sy_skip ?_
  exact ends_s hf rfl (frame_same hu) ⟨⟨_, rfl⟩, rfl, hh.ext⟩
theorem d41p (Be : Nat) (e x : Int) (w : World) (hb : w.heap[Be]? = some (.cells #[.int .i64 x] 34 (0, 0))) : CallsDIn (FR none) 0 Tryz.prog 60 #[ptr Be 0] (.panicking (misfit e)) w (fun e' u' w' => (∃ v, e' = .returned v) ∧ u' = .panicking [{ v := .iface 169 (.agg #[.int .i64 e]), recovered := true }] ∧ Hp w [Be] [(Be, .cells #[.int .i64 e] 34)] w') := by
  refine callsDIn_of_wpSIn Tryz.func60 rfl trivial fun c₀ cs hu => ?_
  refine wpSIn_seq ?_
  refine wpSIn_recover (v := .iface 169 (.agg #[.int .i64 e])) (cs' := { c₀ with mode := .panicking [{ v := .iface 169 (.agg #[.int .i64 e]), recovered := true }] } :: cs) rfl rfl (.inl (by simp [recoverD, hu])) ?_
  have hf := (Fr.enter [ptr Be 0] Tryz.f60.ntmps (Nat.le_of_ble_eq_true rfl)).put (d := 5) (blt_lt rfl) (.iface 169 (.agg #[.int .i64 e]))
  have hh := Hp.init1 hb
  refine o_v hf hh (yv_assign rfl) ?_; clear hf; intro a hf
  refine ops_end ?_
  refine wpSIn_of_wpIn rfl ?_
  show WP _ none _ _ _ _
  refine sy_sq ?_
  refine o_v hf hh (yv_move rfl) ?_; clear hf a; intro a hf
  refine o_v hf hh (yv_neqSome (by kernel_rfl) rfl rfl) ?_; clear hf a; intro a hf
  refine o_end ?_
  refine c_t hf ?_
  refine sy_sq ?_
  refine o_v hf hh (yv_move rfl) ?_; clear hf a; intro a hf
  refine o_v hf hh (yv_assert (by kernel_rfl) rfl) ?_; clear hf a; intro a hf
  refine o_v hf hh (yv_move rfl) ?_; clear hf a; intro a hf
  refine o_v hf hh (yv_extract rfl rfl) ?_; clear hf a; intro a hf
  refine o_v hf hh (yv_extract rfl rfl) ?_; clear hf a; intro a hf
  refine o_alloc hf hh Tryz.ze_169 ?_; clear hf hh a; intro B3 a w hf hh
  refine o_store hf hh Tryz.sz_169 fun w hh => ?_
  refine o_v hf hh (yv_assign rfl) ?_; clear hf a; intro a hf
  refine o_end ?_
  refine sy_seq ?_
  refine sy_sq ?_
  refine o_v hf hh (yv_move rfl) ?_; clear hf a; intro a hf
  refine o_v hf hh (yv_not rfl) ?_; clear hf a; intro a hf
  refine o_end ?_
  refine c_f hf ?_
  refine sy_skip ?_
  refine then_n ?_
  refine sy_ops ?_
  refine o_v hf hh (yv_move rfl) ?_; clear hf a; intro a hf
  refine o_v hf hh (yv_fieldAddr Tryz.fo_169_0 rfl) ?_; clear hf a; intro a hf
  refine o_v hf hh (y_ld Tryz.sc_34 rfl) ?_; clear hf a; intro a hf
  refine o_v hf hh (yv_nilCheck rfl) ?_; clear hf a; intro a hf
  refine o_store hf hh Tryz.sz_34 fun w hh => ?_
  refine ops_end ?_
  exact ends_s hf rfl rfl ⟨⟨_, rfl⟩, rfl, hh.less (.cons _ (.refl _))⟩
end Go.Proofs.YtccpgpnekoncoaaGreat

namespace Go.Proofs.YtccpgpnekoncoaaGreat
open Go Go.Sy Go.ChaM
def spB (lo hi : Int) : Bool := inC lo (-1073741824) hi && decide (hi ≤ 1073741824)
theorem siB_eq (n : Int) (s : SiD) : siB n s = (inC s.fr 0 (n - 1) && (inC s.to 0 (n - 1) && (!decide (s.fr = s.to) && (spB s.el s.eh && spB s.nl s.nh)))) := by unfold siB spB; simp only [Bool.and_assoc]
theorem chB_eq (c : ChD) : chB c = (inC c.n 1 8 && (decide (c.si.length ≤ 10) && c.si.all (siB c.n))) := by unfold chB; rw [Bool.and_assoc]
/-- The first that is not valid; -1: none. -/
def fbad {α : Type} (ok : α → Bool) : List α → Nat → Int
  | [], _ => -1
  | m :: l, i => if ok m = true then fbad ok l (i + 1) else i
theorem fbad_all {α : Type} (ok : α → Bool) : ∀ (l : List α) (i : Nat), decide (0 ≤ fbad ok l i) = !l.all ok
  | [], i => by simp [fbad]
  | m :: l, i => by
    cases h : ok m
    · simp [fbad, h]
    · simp [fbad, h, fbad_all ok l (i + 1)]
theorem fbad_drop {α : Type} {ok : α → Bool} {l : List α} {i : Nat} {m : α} (h : l[i]? = some m) : fbad ok (l.drop i) i = if ok m = true then fbad ok (l.drop (i + 1)) (i + 1) else i := by
  rw [List.drop_eq_getElem_cons (len_of h)]
  have : l[i]'(len_of h) = m := (List.getElem?_eq_some_iff.1 h).2
  rw [this]; rfl
abbrev lkV (l : LkD) : Value := .agg #[.int .i64 (l.i : Nat), .int .i64 (l.to : Nat), .bool l.back]
abbrev lkC (l : LkD) : List Value := [.int .i64 (l.i : Nat), .int .i64 (l.to : Nat), .bool l.back]
/-- Numbers of the machine's unsigned kind lie in memory. -/
def UAt (w : World) (sa : Option Addr) (l : List Nat) : Prop :=
  ∀ i x, l[i]? = some x → ∃ blk off c T fr, sa = some ⟨blk, off, none⟩ ∧ w.heap[blk]? = some (.cells c T fr) ∧ c[off + ((i : Nat) : Int).toNat * 1]? = some (.int .u64 (x : Nat))
theorem UAt.ext {w w' : World} {sa : Option Addr} {l : List Nat} (h : UAt w sa l) (e : Ext [] w w') : UAt w' sa l := fun i s hi =>
  let ⟨blk, off, c, T, fr, h1, h2, h3⟩ := h i s hi
  ⟨blk, off, c, T, fr, h1, e.get h2, h3⟩
theorem p94 (ok : SiD → Bool) (l : List (SiD)) (sa : Option Addr) (n c0 : Nat) (f : Nat) (fcs : Array Value) (u : World) (hM : TAt 6 siC u sa l) (hn : n = l.length) (hl : l.length ≤ 4000000000) (hE : Enters Tryz.prog f) (hcall : ∀ (x : SiD), x ∈ l → ∀ (w1 : World), Ext [] u w1 → Calls Tryz.prog f (#[] ++ [siV x].toArray ++ fcs) w1 (Ret fun v w'' => v = .bool (!ok x) ∧ Ext [] w1 w'')) : Calls Tryz.prog 147 #[.slice sa n c0, .func (.func f) #[] fcs] u (Ret fun v w' => v = .int .i64 (fbad ok l 0) ∧ Ext [] u w') := by
  subst hn
  refine calls_of Tryz.func147 rfl rfl (fun a hf => ?_)
  have hh := Hp.init u []
  refine sy_sq ?_
  refine o_v hf hh (yv_assign rfl) ?_; clear hf a; intro a hf
  refine o_end ?_
  refine sy_seq ?_
  refine sy_sq ?_
  refine o_v hf hh (yv_move rfl) ?_; clear hf a; intro a hf
  refine o_v hf hh (yv_len Tryz.se_55 rfl) ?_; clear hf a; intro a hf
  refine o_v hf hh (yv_move rfl) ?_; clear hf a; intro a hf
  refine o_end ?_
  refine sy_block ?_
  refine sy_loopF (σ := Nat) [4, 5, 8, 9, 10, 11, 12, 13, 14, 15, 16, 17, 18] (fun i => [(8, .int .i64 i)]) (fun i => i ≤ l.length ∧ fbad ok l 0 = fbad ok (l.drop i) i) (fun i => l.length - i) (0) hf hh ?_ ?_ ?_
  · repeat' (first | exact True.intro | refine And.intro rfl ?_)
  · exact ⟨Nat.zero_le _, rfl⟩
  ·rintro i a w ⟨hi, hq⟩ hf hh
   refine sy_sq ?_
   refine o_v hf hh (yv_bin rfl rfl rfl) ?_; clear hf a; intro a hf
   refine o_end ?_
   refine sy_seq ?_
   refine sy_cond hf rfl (fun hg2 => ?_) (fun hg2 => ?_)
   ·have hG2 := hg2; try simp only [gS] at hG2
    refine sy_skip ?_
    refine then_n ?_
    refine sy_seq ?_
    refine sy_block ?_
    refine sy_seq ?_
    obtain ⟨m, hm⟩ := ex_of (l := l) (i := i) (by omega)
    obtain ⟨blk, off, cc, T, fr, e, hb, hc⟩ := hM i m hm; subst e
    refine sy_ops ?_
    refine o_v hf hh (yv_move rfl) ?_; clear hf a; intro a hf
    refine o_v hf hh (yv_assign rfl) ?_; clear hf a; intro a hf
    refine o_end ?_
    refine sy_sq ?_
    refine o_v hf hh (yv_move rfl) ?_; clear hf a; intro a hf
    refine o_v hf hh (yv_move rfl) ?_; clear hf a; intro a hf
    refine o_v hf hh (yv_move rfl) ?_; clear hf a; intro a hf
    refine o_v hf hh (y_ix Tryz.se_55 rfl rfl) ?_; clear hf a; intro a hf
    refine o_v hf hh (y_lds Tryz.ag_106 rfl) ?_; clear hf a; intro a hf
    refine o_call hf hE rfl rfl rfl (hcall m (List.mem_of_getElem? hm) _ hh.ext) ?_; clear hf a; intro v a w hR hf
    obtain ⟨rfl, hx⟩ := hR; replace hh := hh.more hx; clear hx
    refine o_end ?_
    refine sy_cond hf rfl (fun hg4 => ?_) (fun hg4 => ?_)
    ·have hG4 := hg4; try simp only [gS] at hG4
     refine sy_sq ?_
     refine o_v hf hh (yv_move rfl) ?_; clear hf a; intro a hf
     refine o_v hf hh (yv_assign rfl) ?_; clear hf a; intro a hf
     refine o_end ?_
     refine sy_ret ?_
     refine blk_r ?_
     refine then_r ?_
     refine then_r ?_
     refine blk_r ?_
     refine then_r ?_
     refine ret_r hf rfl rfl ?_
     exact ⟨congrArg (Value.int .i64) (by rw [hq, fbad_drop hm, if_neg (by simp_all)]), hh.ext⟩
    ·have hG4 := hg4; try simp only [gS] at hG4
     refine sy_skip ?_
     refine blk_n ?_
     refine then_n ?_
     refine sy_ops ?_
     refine o_v hf hh (y_add rfl rfl) ?_; clear hf a; intro a hf
     refine o_v hf hh (yv_move rfl) ?_; clear hf a; intro a hf
     refine ops_end ?_
     refine then_n ?_
     refine ⟨i + 1, ⟨⟨by omega, by rw [hq, fbad_drop hm, if_pos (by simp_all)]⟩, (hf.head (by repeat' (first | exact True.intro | refine And.intro rfl ?_)) (Keep.cons rfl (Keep.cons rfl (Keep.cons rfl (Keep.cons rfl (Keep.cons rfl (Keep.cons rfl (Keep.cons rfl (Keep.cons rfl (Keep.cons rfl (Keep.cons rfl (Keep.cons rfl (Keep.app rfl (Keep.rm rfl Keep.base)))))))))))))), hh⟩, by omega⟩
   ·have hG2 := hg2; try simp only [gS] at hG2
    refine sy_exit ?_
    refine then_e ?_
    refine then_e ?_
    refine blk_e ?_
    refine then_n ?_
    refine sy_sq ?_
    refine o_v hf hh (yv_assign rfl) ?_; clear hf a; intro a hf
    refine o_end ?_
    refine sy_ret ?_
    refine ret_r hf rfl rfl ?_
    exact ⟨congrArg (Value.int .i64) (by rw [hq, List.drop_eq_nil_of_le (by omega)]; rfl), hh.ext⟩
theorem p83 (ok : SiD → Bool) (l : List (SiD)) (sa : Option Addr) (n c0 : Nat) (f : Nat) (fcs : Array Value) (u : World) (hM : TAt 6 siC u sa l) (hn : n = l.length) (hl : l.length ≤ 4000000000) (hE : Enters Tryz.prog f) (hcall : ∀ (x : SiD), x ∈ l → ∀ (w1 : World), Ext [] u w1 → Calls Tryz.prog f (#[] ++ [siV x].toArray ++ fcs) w1 (Ret fun v w'' => v = .bool (!ok x) ∧ Ext [] w1 w'')) : Calls Tryz.prog 126 #[.slice sa n c0, .func (.func f) #[] fcs] u (Ret fun v w' => v = .bool (!l.all ok) ∧ Ext [] u w') := by
  refine calls_of Tryz.func126 rfl rfl (fun a hf => ?_)
  have hh := Hp.init u []
  refine sy_sq ?_
  refine o_v hf hh (yv_assign rfl) ?_; clear hf a; intro a hf
  refine o_end ?_
  refine sy_sq ?_
  refine o_v hf hh (yv_move rfl) ?_; clear hf a; intro a hf
  refine o_v hf hh (yv_move rfl) ?_; clear hf a; intro a hf
  refine o_call hf Tryz.en_147 rfl rfl rfl (p94 ok l sa n c0 f fcs _ (hM.ext hh.ext) hn hl hE (fun x hx w1 e => hcall x hx w1 (hh.ext.trans e))) ?_; clear hf a; intro v a w hR hf
  obtain ⟨rfl, hx⟩ := hR; replace hh := hh.more hx; clear hx
  refine o_v hf hh (yv_bin rfl rfl rfl) ?_; clear hf a; intro a hf
  refine o_v hf hh (yv_assign rfl) ?_; clear hf a; intro a hf
  refine o_end ?_
  refine sy_ret ?_
  refine ret_r hf rfl rfl ?_
  exact ⟨congrArg Value.bool (fbad_all ok l 0), hh.ext⟩
theorem p95 (ok : LkD → Bool) (l : List (LkD)) (sa : Option Addr) (n c0 : Nat) (f : Nat) (fcs : Array Value) (u : World) (hM : TAt 3 lkC u sa l) (hn : n = l.length) (hl : l.length ≤ 4000000000) (hE : Enters Tryz.prog f) (hcall : ∀ (x : LkD), x ∈ l → ∀ (w1 : World), Ext [] u w1 → Calls Tryz.prog f (#[] ++ [lkV x].toArray ++ fcs) w1 (Ret fun v w'' => v = .bool (!ok x) ∧ Ext [] w1 w'')) : Calls Tryz.prog 160 #[.slice sa n c0, .func (.func f) #[] fcs] u (Ret fun v w' => v = .int .i64 (fbad ok l 0) ∧ Ext [] u w') := by
  subst hn
  refine calls_of Tryz.func160 rfl rfl (fun a hf => ?_)
  have hh := Hp.init u []
  refine sy_sq ?_
  refine o_v hf hh (yv_assign rfl) ?_; clear hf a; intro a hf
  refine o_end ?_
  refine sy_seq ?_
  refine sy_sq ?_
  refine o_v hf hh (yv_move rfl) ?_; clear hf a; intro a hf
  refine o_v hf hh (yv_len Tryz.se_171 rfl) ?_; clear hf a; intro a hf
  refine o_v hf hh (yv_move rfl) ?_; clear hf a; intro a hf
  refine o_end ?_
  refine sy_block ?_
  refine sy_loopF (σ := Nat) [4, 5, 8, 9, 10, 11, 12, 13, 14, 15, 16, 17, 18] (fun i => [(8, .int .i64 i)]) (fun i => i ≤ l.length ∧ fbad ok l 0 = fbad ok (l.drop i) i) (fun i => l.length - i) (0) hf hh ?_ ?_ ?_
  · repeat' (first | exact True.intro | refine And.intro rfl ?_)
  · exact ⟨Nat.zero_le _, rfl⟩
  ·rintro i a w ⟨hi, hq⟩ hf hh
   refine sy_sq ?_
   refine o_v hf hh (yv_bin rfl rfl rfl) ?_; clear hf a; intro a hf
   refine o_end ?_
   refine sy_seq ?_
   refine sy_cond hf rfl (fun hg2 => ?_) (fun hg2 => ?_)
   ·have hG2 := hg2; try simp only [gS] at hG2
    refine sy_skip ?_
    refine then_n ?_
    refine sy_seq ?_
    refine sy_block ?_
    refine sy_seq ?_
    obtain ⟨m, hm⟩ := ex_of (l := l) (i := i) (by omega)
    obtain ⟨blk, off, cc, T, fr, e, hb, hc⟩ := hM i m hm; subst e
    refine sy_ops ?_
    refine o_v hf hh (yv_move rfl) ?_; clear hf a; intro a hf
    refine o_v hf hh (yv_assign rfl) ?_; clear hf a; intro a hf
    refine o_end ?_
    refine sy_sq ?_
    refine o_v hf hh (yv_move rfl) ?_; clear hf a; intro a hf
    refine o_v hf hh (yv_move rfl) ?_; clear hf a; intro a hf
    refine o_v hf hh (yv_move rfl) ?_; clear hf a; intro a hf
    refine o_v hf hh (y_ix Tryz.se_171 rfl rfl) ?_; clear hf a; intro a hf
    refine o_v hf hh (y_lds Tryz.ag_173 rfl) ?_; clear hf a; intro a hf
    refine o_call hf hE rfl rfl rfl (hcall m (List.mem_of_getElem? hm) _ hh.ext) ?_; clear hf a; intro v a w hR hf
    obtain ⟨rfl, hx⟩ := hR; replace hh := hh.more hx; clear hx
    refine o_end ?_
    refine sy_cond hf rfl (fun hg4 => ?_) (fun hg4 => ?_)
    ·have hG4 := hg4; try simp only [gS] at hG4
     refine sy_sq ?_
     refine o_v hf hh (yv_move rfl) ?_; clear hf a; intro a hf
     refine o_v hf hh (yv_assign rfl) ?_; clear hf a; intro a hf
     refine o_end ?_
     refine sy_ret ?_
     refine blk_r ?_
     refine then_r ?_
     refine then_r ?_
     refine blk_r ?_
     refine then_r ?_
     refine ret_r hf rfl rfl ?_
     exact ⟨congrArg (Value.int .i64) (by rw [hq, fbad_drop hm, if_neg (by simp_all)]), hh.ext⟩
    ·have hG4 := hg4; try simp only [gS] at hG4
     refine sy_skip ?_
     refine blk_n ?_
     refine then_n ?_
     refine sy_ops ?_
     refine o_v hf hh (y_add rfl rfl) ?_; clear hf a; intro a hf
     refine o_v hf hh (yv_move rfl) ?_; clear hf a; intro a hf
     refine ops_end ?_
     refine then_n ?_
     refine ⟨i + 1, ⟨⟨by omega, by rw [hq, fbad_drop hm, if_pos (by simp_all)]⟩, (hf.head (by repeat' (first | exact True.intro | refine And.intro rfl ?_)) (Keep.cons rfl (Keep.cons rfl (Keep.cons rfl (Keep.cons rfl (Keep.cons rfl (Keep.cons rfl (Keep.cons rfl (Keep.cons rfl (Keep.cons rfl (Keep.cons rfl (Keep.cons rfl (Keep.app rfl (Keep.rm rfl Keep.base)))))))))))))), hh⟩, by omega⟩
   ·have hG2 := hg2; try simp only [gS] at hG2
    refine sy_exit ?_
    refine then_e ?_
    refine then_e ?_
    refine blk_e ?_
    refine then_n ?_
    refine sy_sq ?_
    refine o_v hf hh (yv_assign rfl) ?_; clear hf a; intro a hf
    refine o_end ?_
    refine sy_ret ?_
    refine ret_r hf rfl rfl ?_
    exact ⟨congrArg (Value.int .i64) (by rw [hq, List.drop_eq_nil_of_le (by omega)]; rfl), hh.ext⟩
theorem p87 (ok : LkD → Bool) (l : List (LkD)) (sa : Option Addr) (n c0 : Nat) (f : Nat) (fcs : Array Value) (u : World) (hM : TAt 3 lkC u sa l) (hn : n = l.length) (hl : l.length ≤ 4000000000) (hE : Enters Tryz.prog f) (hcall : ∀ (x : LkD), x ∈ l → ∀ (w1 : World), Ext [] u w1 → Calls Tryz.prog f (#[] ++ [lkV x].toArray ++ fcs) w1 (Ret fun v w'' => v = .bool (!ok x) ∧ Ext [] w1 w'')) : Calls Tryz.prog 151 #[.slice sa n c0, .func (.func f) #[] fcs] u (Ret fun v w' => v = .bool (!l.all ok) ∧ Ext [] u w') := by
  refine calls_of Tryz.func151 rfl rfl (fun a hf => ?_)
  have hh := Hp.init u []
  refine sy_sq ?_
  refine o_v hf hh (yv_assign rfl) ?_; clear hf a; intro a hf
  refine o_end ?_
  refine sy_sq ?_
  refine o_v hf hh (yv_move rfl) ?_; clear hf a; intro a hf
  refine o_v hf hh (yv_move rfl) ?_; clear hf a; intro a hf
  refine o_call hf Tryz.en_160 rfl rfl rfl (p95 ok l sa n c0 f fcs _ (hM.ext hh.ext) hn hl hE (fun x hx w1 e => hcall x hx w1 (hh.ext.trans e))) ?_; clear hf a; intro v a w hR hf
  obtain ⟨rfl, hx⟩ := hR; replace hh := hh.more hx; clear hx
  refine o_v hf hh (yv_bin rfl rfl rfl) ?_; clear hf a; intro a hf
  refine o_v hf hh (yv_assign rfl) ?_; clear hf a; intro a hf
  refine o_end ?_
  refine sy_ret ?_
  refine ret_r hf rfl rfl ?_
  exact ⟨congrArg Value.bool (fbad_all ok l 0), hh.ext⟩
theorem p80 (lo hi : Int) (w : World) : Calls Tryz.prog 123 #[.agg #[.int .i64 lo, .int .i64 hi]] w (Ret fun v w' => v = .bool (spB lo hi) ∧ Ext [] w w') := by
  refine calls_of Tryz.func123 rfl rfl (fun a hf => ?_)
  have hh := Hp.init w []
  have e0 : spB lo hi = (inC lo (-1073741824) hi && decide (hi ≤ 1073741824)) := rfl
  unfold inC at e0
  rw [e0]; clear e0
  refine sy_sq ?_
  refine o_box hf hh ?_; clear hf hh a; intro B1 a w hf hh
  refine o_v hf hh (yv_assign rfl) ?_; clear hf a; intro a hf
  refine o_end ?_
  refine sy_sq ?_
  refine o_v hf hh (yv_fieldAddr Tryz.fo_49_0 rfl) ?_; clear hf a; intro a hf
  refine o_v hf hh (y_ld Tryz.sc_3 rfl) ?_; clear hf a; intro a hf
  refine o_v hf hh (yv_bin rfl rfl rfl) ?_; clear hf a; intro a hf
  refine o_v hf hh (yv_move rfl) ?_; clear hf a; intro a hf
  refine guard_split hf (t := 6) rfl (fun hg2 => ?_) (fun hg2 => ?_)
  ·have hG2 := hg2; try simp only [gS] at hG2
   refine o_v hf hh (yv_fieldAddr Tryz.fo_49_0 rfl) ?_; clear hf a; intro a hf
   refine o_v hf hh (y_ld Tryz.sc_3 rfl) ?_; clear hf a; intro a hf
   refine o_v hf hh (yv_fieldAddr Tryz.fo_49_1 rfl) ?_; clear hf a; intro a hf
   refine o_v hf hh (y_ld Tryz.sc_3 rfl) ?_; clear hf a; intro a hf
   refine o_v hf hh (yv_bin rfl rfl rfl) ?_; clear hf a; intro a hf
   refine o_v hf hh (y_pt rfl rfl) ?_; clear hf a; intro a hf
   refine o_v hf hh (yv_move rfl) ?_; clear hf a; intro a hf
   refine guard_split hf (t := 13) rfl (fun hg4 => ?_) (fun hg4 => ?_)
   ·have hG4 := hg4; try simp only [gS] at hG4
    refine o_v hf hh (yv_fieldAddr Tryz.fo_49_1 rfl) ?_; clear hf a; intro a hf
    refine o_v hf hh (y_ld Tryz.sc_3 rfl) ?_; clear hf a; intro a hf
    refine o_v hf hh (yv_bin rfl rfl rfl) ?_; clear hf a; intro a hf
    refine o_v hf hh (y_pt rfl rfl) ?_; clear hf a; intro a hf
    refine o_v hf hh (yv_assign rfl) ?_; clear hf a; intro a hf
    refine o_end ?_
    refine sy_ret ?_
    refine ret_r hf rfl rfl ?_
    refine ⟨congrArg Value.bool ?_, hh.ext⟩
    clear hf hh
    first
      | (simp_all; done)
      | (simp only [*, Bool.false_and, Bool.and_false, Bool.true_and, Bool.and_true, Bool.not_true, Bool.not_false]; done)
      | (rw [Bool.eq_iff_iff]; simp_all <;> omega)
      | omega
   ·have hG4 := hg4; try simp only [gS] at hG4
    refine o_off hf ?_; clear hf a; intro a hf
    refine o_off hf ?_; clear hf a; intro a hf
    refine o_off hf ?_; clear hf a; intro a hf
    refine o_v hf hh (y_pf rfl rfl) ?_; clear hf a; intro a hf
    refine o_v hf hh (yv_assign rfl) ?_; clear hf a; intro a hf
    refine o_end ?_
    refine sy_ret ?_
    refine ret_r hf rfl rfl ?_
    refine ⟨congrArg Value.bool ?_, hh.ext⟩
    clear hf hh
    first
      | (simp_all; done)
      | (simp only [*, Bool.false_and, Bool.and_false, Bool.true_and, Bool.and_true, Bool.not_true, Bool.not_false]; done)
      | (rw [Bool.eq_iff_iff]; simp_all <;> omega)
      | omega
  ·have hG2 := hg2; try simp only [gS] at hG2
   refine o_off hf ?_; clear hf a; intro a hf
   refine o_off hf ?_; clear hf a; intro a hf
   refine o_off hf ?_; clear hf a; intro a hf
   refine o_off hf ?_; clear hf a; intro a hf
   refine o_off hf ?_; clear hf a; intro a hf
   refine o_v hf hh (y_pf rfl rfl) ?_; clear hf a; intro a hf
   refine o_v hf hh (yv_move rfl) ?_; clear hf a; intro a hf
   refine o_off hf ?_; clear hf a; intro a hf
   refine o_off hf ?_; clear hf a; intro a hf
   refine o_off hf ?_; clear hf a; intro a hf
   refine o_v hf hh (y_pf rfl rfl) ?_; clear hf a; intro a hf
   refine o_v hf hh (yv_assign rfl) ?_; clear hf a; intro a hf
   refine o_end ?_
   refine sy_ret ?_
   refine ret_r hf rfl rfl ?_
   refine ⟨congrArg Value.bool ?_, hh.ext⟩
   clear hf hh
   first
     | (simp_all; done)
     | (simp only [*, Bool.false_and, Bool.and_false, Bool.true_and, Bool.and_true, Bool.not_true, Bool.not_false]; done)
     | (rw [Bool.eq_iff_iff]; simp_all <;> omega)
     | omega
theorem p81 (c : ChD) (sa : Option Addr) (cp : Nat) (n : Int) (Bc : Nat) (u : World) (hB : u.heap[Bc]? = some (.cells (chC c sa cp) 57 (0, 0))) (hn : -9223372036854775807 ≤ c.n ∧ c.n ≤ 9223372036854775807) : Calls Tryz.prog 124 #[.int .i64 n, ptr Bc 0] u (Ret fun v w' => v = .bool (stB c n) ∧ Ext [] u w') := by
  refine calls_of Tryz.func124 rfl rfl (fun a hf => ?_)
  have hh := Hp.init u []
  refine sy_sq ?_
  refine o_v hf hh (yv_assign rfl) ?_; clear hf a; intro a hf
  refine o_end ?_
  refine sy_sq ?_
  refine o_v hf hh (yv_move rfl) ?_; clear hf a; intro a hf
  refine o_v hf hh (yv_fieldAddr Tryz.fo_57_0 rfl) ?_; clear hf a; intro a hf
  refine o_v hf hh (y_ld Tryz.sc_3 rfl) ?_; clear hf a; intro a hf
  refine o_v hf hh (y_sub rfl rfl) ?_; clear hf a; intro a hf
  refine o_call hf Tryz.en_92 rfl rfl rfl (p62 _ _ _ _) ?_; clear hf a; intro v a w hR hf
  obtain ⟨rfl, hx⟩ := hR; replace hh := hh.more hx; clear hx
  refine o_v hf hh (yv_assign rfl) ?_; clear hf a; intro a hf
  refine o_end ?_
  refine sy_ret ?_
  refine ret_r hf rfl rfl ?_
  exact ⟨rfl, hh.ext⟩
end Go.Proofs.YtccpgpnekoncoaaGreat

namespace Go.Proofs.YtccpgpnekoncoaaGreat
open Go Go.Sy Go.ChaM
set_option maxRecDepth 100000 in
theorem p82 (c : ChD) (sa : Option Addr) (cp : Nat) (s : SiD) (Bc Bt Bp : Nat) (u : World) (hB : u.heap[Bc]? = some (.cells (chC c sa cp) 57 (0, 0))) (hT : u.heap[Bt]? = some (.cells #[.func (.func 124) #[] #[ptr Bc 0]] 86 (0, 0))) (hP : u.heap[Bp]? = some (.cells #[.func (.func 123) #[] #[]] 107 (0, 0))) (hn : -9223372036854775807 ≤ c.n ∧ c.n ≤ 9223372036854775807) : Calls Tryz.prog 125 #[siV s, ptr Bt 0, ptr Bp 0] u (Ret fun v w' => v = .bool (!siB c.n s) ∧ Ext [] u w') := by
  refine calls_of Tryz.func125 rfl rfl (fun a hf => ?_)
  have hh := Hp.init u []
  rw [siB_eq]
  refine sy_sq ?_
  refine o_box hf hh ?_; clear hf hh a; intro B3 a w hf hh
  refine o_v hf hh (yv_assign rfl) ?_; clear hf a; intro a hf
  refine o_end ?_
  refine sy_sq ?_
  refine o_v hf hh (y_ld Tryz.sc_86 rfl) ?_; clear hf a; intro a hf
  refine o_v hf hh (yv_fieldAddr Tryz.fo_106_0 rfl) ?_; clear hf a; intro a hf
  refine o_v hf hh (y_ld Tryz.sc_3 rfl) ?_; clear hf a; intro a hf
  refine o_call hf Tryz.en_124 rfl rfl rfl (p81 c sa cp _ Bc _ (hh.old hB) hn) ?_; clear hf a; intro v a w hR hf
  obtain ⟨rfl, hx⟩ := hR; replace hh := hh.more hx; clear hx
  refine o_v hf hh (yv_not rfl) ?_; clear hf a; intro a hf
  refine o_v hf hh (yv_move rfl) ?_; clear hf a; intro a hf
  refine guard_split hf (t := 10) rfl (fun hg2 => ?_) (fun hg2 => ?_)
  ·have hG2 := hg2; try simp only [gS] at hG2
   refine o_off hf ?_; clear hf a; intro a hf
   refine o_off hf ?_; clear hf a; intro a hf
   refine o_off hf ?_; clear hf a; intro a hf
   refine o_off hf ?_; clear hf a; intro a hf
   refine o_off hf ?_; clear hf a; intro a hf
   refine o_v hf hh (y_pt rfl rfl) ?_; clear hf a; intro a hf
   refine o_v hf hh (yv_move rfl) ?_; clear hf a; intro a hf
   refine o_off hf ?_; clear hf a; intro a hf
   refine o_off hf ?_; clear hf a; intro a hf
   refine o_off hf ?_; clear hf a; intro a hf
   refine o_off hf ?_; clear hf a; intro a hf
   refine o_off hf ?_; clear hf a; intro a hf
   refine o_v hf hh (y_pt rfl rfl) ?_; clear hf a; intro a hf
   refine o_v hf hh (yv_move rfl) ?_; clear hf a; intro a hf
   refine o_off hf ?_; clear hf a; intro a hf
   refine o_off hf ?_; clear hf a; intro a hf
   refine o_off hf ?_; clear hf a; intro a hf
   refine o_off hf ?_; clear hf a; intro a hf
   refine o_off hf ?_; clear hf a; intro a hf
   refine o_v hf hh (y_pt rfl rfl) ?_; clear hf a; intro a hf
   refine o_v hf hh (yv_move rfl) ?_; clear hf a; intro a hf
   refine o_off hf ?_; clear hf a; intro a hf
   refine o_off hf ?_; clear hf a; intro a hf
   refine o_off hf ?_; clear hf a; intro a hf
   refine o_off hf ?_; clear hf a; intro a hf
   refine o_off hf ?_; clear hf a; intro a hf
   refine o_v hf hh (y_pt rfl rfl) ?_; clear hf a; intro a hf
   refine o_v hf hh (yv_assign rfl) ?_; clear hf a; intro a hf
   refine o_end ?_
   refine sy_ret ?_
   refine ret_r hf rfl rfl ?_
   refine ⟨congrArg Value.bool ?_, hh.ext⟩
   clear hf hh
   unfold stB at *
   first
     | (simp_all; done)
     | (simp only [*, Bool.false_and, Bool.and_false, Bool.true_and, Bool.and_true, Bool.not_true, Bool.not_false]; done)
     | (rw [Bool.eq_iff_iff]; simp_all <;> omega)
     | omega
  ·have hG2 := hg2; try simp only [gS] at hG2
   refine o_v hf hh (y_ld Tryz.sc_86 rfl) ?_; clear hf a; intro a hf
   refine o_v hf hh (yv_fieldAddr Tryz.fo_106_1 rfl) ?_; clear hf a; intro a hf
   refine o_v hf hh (y_ld Tryz.sc_3 rfl) ?_; clear hf a; intro a hf
   refine o_call hf Tryz.en_124 rfl rfl rfl (p81 c sa cp _ Bc _ (hh.old hB) hn) ?_; clear hf a; intro v a w hR hf
   obtain ⟨rfl, hx⟩ := hR; replace hh := hh.more hx; clear hx
   refine o_v hf hh (yv_not rfl) ?_; clear hf a; intro a hf
   refine o_v hf hh (y_pf rfl rfl) ?_; clear hf a; intro a hf
   refine o_v hf hh (yv_move rfl) ?_; clear hf a; intro a hf
   refine guard_split hf (t := 17) rfl (fun hg4 => ?_) (fun hg4 => ?_)
   ·have hG4 := hg4; try simp only [gS] at hG4
    refine o_off hf ?_; clear hf a; intro a hf
    refine o_off hf ?_; clear hf a; intro a hf
    refine o_off hf ?_; clear hf a; intro a hf
    refine o_off hf ?_; clear hf a; intro a hf
    refine o_off hf ?_; clear hf a; intro a hf
    refine o_v hf hh (y_pt rfl rfl) ?_; clear hf a; intro a hf
    refine o_v hf hh (yv_move rfl) ?_; clear hf a; intro a hf
    refine o_off hf ?_; clear hf a; intro a hf
    refine o_off hf ?_; clear hf a; intro a hf
    refine o_off hf ?_; clear hf a; intro a hf
    refine o_off hf ?_; clear hf a; intro a hf
    refine o_off hf ?_; clear hf a; intro a hf
    refine o_v hf hh (y_pt rfl rfl) ?_; clear hf a; intro a hf
    refine o_v hf hh (yv_move rfl) ?_; clear hf a; intro a hf
    refine o_off hf ?_; clear hf a; intro a hf
    refine o_off hf ?_; clear hf a; intro a hf
    refine o_off hf ?_; clear hf a; intro a hf
    refine o_off hf ?_; clear hf a; intro a hf
    refine o_off hf ?_; clear hf a; intro a hf
    refine o_v hf hh (y_pt rfl rfl) ?_; clear hf a; intro a hf
    refine o_v hf hh (yv_assign rfl) ?_; clear hf a; intro a hf
    refine o_end ?_
    refine sy_ret ?_
    refine ret_r hf rfl rfl ?_
    refine ⟨congrArg Value.bool ?_, hh.ext⟩
    clear hf hh
    unfold stB at *
    first
      | (simp_all; done)
      | (simp only [*, Bool.false_and, Bool.and_false, Bool.true_and, Bool.and_true, Bool.not_true, Bool.not_false]; done)
      | (rw [Bool.eq_iff_iff]; simp_all <;> omega)
      | omega
   ·have hG4 := hg4; try simp only [gS] at hG4
    refine o_v hf hh (yv_fieldAddr Tryz.fo_106_0 rfl) ?_; clear hf a; intro a hf
    refine o_v hf hh (y_ld Tryz.sc_3 rfl) ?_; clear hf a; intro a hf
    refine o_v hf hh (yv_fieldAddr Tryz.fo_106_1 rfl) ?_; clear hf a; intro a hf
    refine o_v hf hh (y_ld Tryz.sc_3 rfl) ?_; clear hf a; intro a hf
    refine o_v hf hh (yv_bin rfl rfl rfl) ?_; clear hf a; intro a hf
    refine o_v hf hh (y_pf rfl rfl) ?_; clear hf a; intro a hf
    refine o_v hf hh (yv_move rfl) ?_; clear hf a; intro a hf
    refine guard_split hf (t := 24) rfl (fun hg6 => ?_) (fun hg6 => ?_)
    ·have hG6 := hg6; try simp only [gS] at hG6
     refine o_off hf ?_; clear hf a; intro a hf
     refine o_off hf ?_; clear hf a; intro a hf
     refine o_off hf ?_; clear hf a; intro a hf
     refine o_off hf ?_; clear hf a; intro a hf
     refine o_off hf ?_; clear hf a; intro a hf
     refine o_v hf hh (y_pt rfl rfl) ?_; clear hf a; intro a hf
     refine o_v hf hh (yv_move rfl) ?_; clear hf a; intro a hf
     refine o_off hf ?_; clear hf a; intro a hf
     refine o_off hf ?_; clear hf a; intro a hf
     refine o_off hf ?_; clear hf a; intro a hf
     refine o_off hf ?_; clear hf a; intro a hf
     refine o_off hf ?_; clear hf a; intro a hf
     refine o_v hf hh (y_pt rfl rfl) ?_; clear hf a; intro a hf
     refine o_v hf hh (yv_assign rfl) ?_; clear hf a; intro a hf
     refine o_end ?_
     refine sy_ret ?_
     refine ret_r hf rfl rfl ?_
     refine ⟨congrArg Value.bool ?_, hh.ext⟩
     clear hf hh
     unfold stB at *
     first
       | (simp_all; done)
       | (simp only [*, Bool.false_and, Bool.and_false, Bool.true_and, Bool.and_true, Bool.not_true, Bool.not_false]; done)
       | (rw [Bool.eq_iff_iff]; simp_all <;> omega)
       | omega
    ·have hG6 := hg6; try simp only [gS] at hG6
     refine o_v hf hh (y_ld Tryz.sc_107 rfl) ?_; clear hf a; intro a hf
     refine o_v hf hh (yv_fieldAddr Tryz.fo_106_2 rfl) ?_; clear hf a; intro a hf
     refine o_v hf hh (y_lds Tryz.ag_49 rfl) ?_; clear hf a; intro a hf
     refine o_call hf Tryz.en_123 rfl rfl rfl (p80 _ _ _) ?_; clear hf a; intro v a w hR hf
     obtain ⟨rfl, hx⟩ := hR; replace hh := hh.more hx; clear hx
     refine o_v hf hh (yv_not rfl) ?_; clear hf a; intro a hf
     refine o_v hf hh (y_pf rfl rfl) ?_; clear hf a; intro a hf
     refine o_v hf hh (yv_move rfl) ?_; clear hf a; intro a hf
     refine guard_split hf (t := 31) rfl (fun hg8 => ?_) (fun hg8 => ?_)
     ·have hG8 := hg8; try simp only [gS] at hG8
      refine o_off hf ?_; clear hf a; intro a hf
      refine o_off hf ?_; clear hf a; intro a hf
      refine o_off hf ?_; clear hf a; intro a hf
      refine o_off hf ?_; clear hf a; intro a hf
      refine o_off hf ?_; clear hf a; intro a hf
      refine o_v hf hh (y_pt rfl rfl) ?_; clear hf a; intro a hf
      refine o_v hf hh (yv_assign rfl) ?_; clear hf a; intro a hf
      refine o_end ?_
      refine sy_ret ?_
      refine ret_r hf rfl rfl ?_
      refine ⟨congrArg Value.bool ?_, hh.ext⟩
      clear hf hh
      unfold stB at *
      first
        | (simp_all; done)
        | (simp only [*, Bool.false_and, Bool.and_false, Bool.true_and, Bool.and_true, Bool.not_true, Bool.not_false]; done)
        | (rw [Bool.eq_iff_iff]; simp_all <;> omega)
        | omega
     ·have hG8 := hg8; try simp only [gS] at hG8
      refine o_v hf hh (y_ld Tryz.sc_107 rfl) ?_; clear hf a; intro a hf
      refine o_v hf hh (yv_fieldAddr Tryz.fo_106_3 rfl) ?_; clear hf a; intro a hf
      refine o_v hf hh (y_lds Tryz.ag_49 rfl) ?_; clear hf a; intro a hf
      refine o_call hf Tryz.en_123 rfl rfl rfl (p80 _ _ _) ?_; clear hf a; intro v a w hR hf
      obtain ⟨rfl, hx⟩ := hR; replace hh := hh.more hx; clear hx
      refine o_v hf hh (yv_not rfl) ?_; clear hf a; intro a hf
      refine o_v hf hh (y_pf rfl rfl) ?_; clear hf a; intro a hf
      refine o_v hf hh (yv_assign rfl) ?_; clear hf a; intro a hf
      refine o_end ?_
      refine sy_ret ?_
      refine ret_r hf rfl rfl ?_
      refine ⟨congrArg Value.bool ?_, hh.ext⟩
      clear hf hh
      unfold stB at *
      first
        | (simp_all; done)
        | (simp only [*, Bool.false_and, Bool.and_false, Bool.true_and, Bool.and_true, Bool.not_true, Bool.not_false]; done)
        | (rw [Bool.eq_iff_iff]; simp_all <;> omega)
        | omega
set_option maxRecDepth 100000 in
theorem p61 (c : ChD) (sa : Option Addr) (cp : Nat) (u : World) (hA : ChAt u c sa) : Calls Tryz.prog 91 #[.agg (chC c sa cp)] u (Ret fun v w' => v = .bool (chB c) ∧ Ext [] u w') := by
  refine calls_of Tryz.func91 rfl rfl (fun a hf => ?_)
  have hh := Hp.init u []
  have hl := hA.len
  rw [chB_eq]
  refine sy_sq ?_
  refine o_box hf hh ?_; clear hf hh a; intro B1 a w hf hh
  refine o_v hf hh (yv_assign rfl) ?_; clear hf a; intro a hf
  refine o_end ?_
  refine sy_sq ?_
  refine o_alloc hf hh Tryz.ze_107 ?_; clear hf hh a; intro B3 a w hf hh
  refine o_store hf hh Tryz.sz_107 fun w hh => ?_
  refine o_end ?_
  refine sy_sq ?_
  refine o_v hf hh (yv_makeFunc rfl rfl) ?_; clear hf a; intro a hf
  refine o_alloc hf hh Tryz.ze_86 ?_; clear hf hh a; intro B4 a w hf hh
  refine o_store hf hh Tryz.sz_86 fun w hh => ?_
  refine o_end ?_
  refine sy_sq ?_
  refine o_v hf hh (yv_makeFunc rfl rfl) ?_; clear hf a; intro a hf
  refine o_v hf hh (yv_assign rfl) ?_; clear hf a; intro a hf
  refine o_end ?_
  refine sy_sq ?_
  refine o_v hf hh (yv_fieldAddr Tryz.fo_57_0 rfl) ?_; clear hf a; intro a hf
  refine o_v hf hh (y_ld Tryz.sc_3 rfl) ?_; clear hf a; intro a hf
  refine o_call hf Tryz.en_92 rfl rfl rfl (p62 _ _ _ _) ?_; clear hf a; intro v a w hR hf
  obtain ⟨rfl, hx⟩ := hR; replace hh := hh.more hx; clear hx
  refine o_v hf hh (yv_move rfl) ?_; clear hf a; intro a hf
  refine guard_split hf (t := 11) rfl (fun hg2 => ?_) (fun hg2 => ?_)
  ·have hG2 := hg2; try simp only [gS] at hG2
   refine o_v hf hh (yv_fieldAddr Tryz.fo_57_1 rfl) ?_; clear hf a; intro a hf
   refine o_v hf hh (y_ld Tryz.sc_55 rfl) ?_; clear hf a; intro a hf
   refine o_v hf hh (yv_len Tryz.se_55 rfl) ?_; clear hf a; intro a hf
   refine o_v hf hh (yv_bin rfl rfl rfl) ?_; clear hf a; intro a hf
   refine o_v hf hh (y_pt rfl rfl) ?_; clear hf a; intro a hf
   refine o_v hf hh (yv_move rfl) ?_; clear hf a; intro a hf
   refine guard_split hf (t := 17) rfl (fun hg4 => ?_) (fun hg4 => ?_)
   ·have hG4 := hg4; try simp only [gS] at hG4
    refine o_v hf hh (yv_fieldAddr Tryz.fo_57_1 rfl) ?_; clear hf a; intro a hf
    refine o_v hf hh (y_ld Tryz.sc_55 rfl) ?_; clear hf a; intro a hf
    refine o_v hf hh (yv_move rfl) ?_; clear hf a; intro a hf
    have hn : -9223372036854775807 ≤ c.n ∧ c.n ≤ 9223372036854775807 := by
      have hi : inC c.n 1 8 = true := by simp_all
      unfold inC at hi
      simp only [Bool.and_eq_true, decide_eq_true_eq] at hi
      omega
    refine o_call hf Tryz.en_126 rfl rfl rfl (p83 (siB c.n) c.si sa _ cp 125 #[ptr B4 0, ptr B3 0] _ (hA.at_.ext hh.ext) rfl (by omega) Tryz.en_125 (fun x _ w1 e => p82 c sa cp x B1 B4 B3 w1 (e.get (hh.at (i := 2) rfl)) (e.get (hh.at (i := 0) rfl)) (e.get (hh.at (i := 1) rfl)) hn)) ?_; clear hf a; intro v a w hR hf
    obtain ⟨rfl, hx⟩ := hR; replace hh := hh.more hx; clear hx
    refine o_v hf hh (yv_not rfl) ?_; clear hf a; intro a hf
    refine o_v hf hh (y_pt rfl rfl) ?_; clear hf a; intro a hf
    refine o_v hf hh (yv_assign rfl) ?_; clear hf a; intro a hf
    refine o_end ?_
    refine sy_ret ?_
    refine ret_r hf rfl rfl ?_
    refine ⟨congrArg Value.bool ?_, hh.ext⟩
    clear hf hh
    first
      | (simp_all; done)
      | (simp only [*, Bool.false_and, Bool.and_false, Bool.true_and, Bool.and_true, Bool.not_true, Bool.not_false]; done)
      | (rw [Bool.eq_iff_iff]; simp_all <;> omega)
      | omega
   ·have hG4 := hg4; try simp only [gS] at hG4
    refine o_off hf ?_; clear hf a; intro a hf
    refine o_off hf ?_; clear hf a; intro a hf
    refine o_off hf ?_; clear hf a; intro a hf
    refine o_off hf ?_; clear hf a; intro a hf
    refine o_off hf ?_; clear hf a; intro a hf
    refine o_v hf hh (y_pf rfl rfl) ?_; clear hf a; intro a hf
    refine o_v hf hh (yv_assign rfl) ?_; clear hf a; intro a hf
    refine o_end ?_
    refine sy_ret ?_
    refine ret_r hf rfl rfl ?_
    refine ⟨congrArg Value.bool ?_, hh.ext⟩
    clear hf hh
    first
      | (simp_all; done)
      | (simp only [*, Bool.false_and, Bool.and_false, Bool.true_and, Bool.and_true, Bool.not_true, Bool.not_false]; done)
      | (rw [Bool.eq_iff_iff]; simp_all <;> omega)
      | omega
  ·have hG2 := hg2; try simp only [gS] at hG2
   refine o_off hf ?_; clear hf a; intro a hf
   refine o_off hf ?_; clear hf a; intro a hf
   refine o_off hf ?_; clear hf a; intro a hf
   refine o_off hf ?_; clear hf a; intro a hf
   refine o_v hf hh (y_pf rfl rfl) ?_; clear hf a; intro a hf
   refine o_v hf hh (yv_move rfl) ?_; clear hf a; intro a hf
   refine o_off hf ?_; clear hf a; intro a hf
   refine o_off hf ?_; clear hf a; intro a hf
   refine o_off hf ?_; clear hf a; intro a hf
   refine o_off hf ?_; clear hf a; intro a hf
   refine o_off hf ?_; clear hf a; intro a hf
   refine o_v hf hh (y_pf rfl rfl) ?_; clear hf a; intro a hf
   refine o_v hf hh (yv_assign rfl) ?_; clear hf a; intro a hf
   refine o_end ?_
   refine sy_ret ?_
   refine ret_r hf rfl rfl ?_
   refine ⟨congrArg Value.bool ?_, hh.ext⟩
   clear hf hh
   first
     | (simp_all; done)
     | (simp only [*, Bool.false_and, Bool.and_false, Bool.true_and, Bool.and_true, Bool.not_true, Bool.not_false]; done)
     | (rw [Bool.eq_iff_iff]; simp_all <;> omega)
     | omega
end Go.Proofs.YtccpgpnekoncoaaGreat

namespace Go.ChaM
open Go Go.Sy Go.Proofs.YtccpgpnekoncoaaGreat
theorem own_val {e size m : Nat} {v : Value} {xs : List Value} {X : List (Nat × Obj)} (h : OwnSl e size v m xs X) : ∃ oa cap, v = .slice oa m cap := by
  rcases h.2 with ⟨h1, h2, _⟩ | ⟨B, cap, cur, h1, _⟩
  · exact ⟨none, 0, by rw [h1, h2]⟩
  · exact ⟨_, _, h1⟩
theorem own_tat {α : Type} {enc : α → List Value} {n e : Nat} (hn : ∀ x, (enc x).length = n) {oa : Option Addr} {c m : Nat} {l : List α} {X : List (Nat × Obj)} {w : World} (h : OwnSl e n (.slice oa m c) m (l.flatMap enc) X) (hm : m = l.length) (hX : ∀ q ∈ X, w.heap[q.1]? = some q.2) : TAt n enc w oa l := fun i s hi => by
  have hl := len_of hi
  rcases h.2 with ⟨_, h2, _⟩ | ⟨B, cap, cur, h1, h2, _, _, h5, h6⟩
  · omega
  · cases h1
    refine ⟨B, 0, cur, e, (0, 0), rfl, hX (B, .cells cur e (0, 0)) (by rw [h2]; exact .head _), ?_⟩
    have key : ∀ r v, (enc s)[r]? = some v → cur[0 + ((i : Nat) : Int).toNat * n + r]? = some v := fun r v hr => by
      have hrl := len_of hr
      rw [hn] at hrl
      have h7 : (l.flatMap enc)[i * n + r]? = some v := by
        have gen : ∀ (l : List α) (i : Nat), l[i]? = some s → (l.flatMap enc)[i * n + r]? = some v := by
          intro l
          induction l with
          | nil => intro i h; simp at h
          | cons y l ih =>
            intro i h
            rw [List.flatMap_cons, List.getElem?_append, hn y]
            match i, h with
            | 0, h => cases h; rw [if_pos (by omega), Nat.zero_mul, Nat.zero_add]; exact hr
            | i + 1, h =>
              rw [if_neg (by rw [Nat.add_mul]; omega), show (i + 1) * n + r - n = i * n + r by rw [Nat.add_mul]; omega]
              exact ih i h
        exact gen l i hi
      rw [← h6, List.getElem?_take] at h7
      split at h7
      · rw [Int.toNat_natCast, Nat.zero_add, ← Array.getElem?_toList]; exact h7
      · cases h7
    have := cellsAt_of (c := cur) (enc s) (0 + ((i : Nat) : Int).toNat * n) key
    rwa [hn] at this
theorem lkC_len (l : LkD) : (lkC l).length = 3 := rfl
def LkAt (w : World) (v : Value) (l : List LkD) : Prop := ∃ sb cb, v = .slice sb l.length cb ∧ TAt 3 lkC w sb l
theorem LkAt.ext {w w' : World} {v : Value} {l : List LkD} (h : LkAt w v l) (e : Ext [] w w') : LkAt w' v l := let ⟨sb, cb, h1, h2⟩ := h; ⟨sb, cb, h1, h2.ext e⟩
theorem own_lkAt {v : Value} {l : List LkD} {X : List (Nat × Obj)} {w : World} (h : OwnSl 173 3 v l.length (l.flatMap lkC) X) (hX : ∀ q ∈ X, w.heap[q.1]? = some q.2) : LkAt w v l := by
  obtain ⟨oa, cap, rfl⟩ := own_val h
  exact ⟨oa, cap, rfl, own_tat lkC_len h rfl hX⟩
/-- A chart that is looked at. -/
def VAt (w : World) (Bv : Nat) (c : ChD) (sa : Option Addr) (cp : Nat) : Prop :=
  ∃ bm es cm m, w.heap[Bv]? = some (.cells #[.int .i64 c.n, .slice sa c.si.length cp, .map (some bm)] 121 (0, 0)) ∧ w.heap[bm]? = some (.map es cm) ∧ MapI .i64 m es ∧ (∀ k : Nat, k < c.n.toNat → LkAt w ((m (k : Int)).getD (.slice none 0 0)) (lks c k)) ∧ ChAt w c sa
theorem VAt.ext {w w' : World} {Bv : Nat} {c : ChD} {sa : Option Addr} {cp : Nat} (h : VAt w Bv c sa cp) (e : Ext [] w w') : VAt w' Bv c sa cp :=
  let ⟨bm, es, cm, m, h1, h2, h3, h4, h5⟩ := h
  ⟨bm, es, cm, m, e.get h1, e.get h2, h3, fun k hk => (h4 k hk).ext e, h5.ext e⟩
/-- What the map holds so far. -/
def FromOk (n : Nat) (m : Int → Option Value) (LL : Nat → List LkD) (Xf : Nat → List (Nat × Obj)) : Prop :=
  ∀ j : Nat, j < n → OwnSl 173 3 ((m (j : Int)).getD (.slice none 0 0)) (LL j).length ((LL j).flatMap lkC) (Xf j)
def updF {α : Type} (f : Nat → α) (k : Nat) (x : α) : Nat → α := fun j => if j = k then x else f j
theorem FromOk.put {n : Nat} {m : Int → Option Value} {LL : Nat → List LkD} {Xf : Nat → List (Nat × Obj)} (h : FromOk n m LL Xf) {k : Nat} {l : LkD} {v2 : Value} {X2 : List (Nat × Obj)} (hO : OwnSl 173 3 v2 ((LL k).length + 1) ((LL k).flatMap lkC ++ lkC l) X2) :
    FromOk n (putM m (k : Int) v2) (updF LL k (LL k ++ [l])) (updF Xf k X2) := fun j hj => by
  unfold putM updF
  by_cases hk : j = k
  · subst hk
    rw [if_pos rfl, if_pos rfl, if_pos rfl, List.length_append, List.flatMap_append]
    simpa using hO
  · rw [if_neg (by omega), if_neg hk, if_neg hk]
    exact h j hj
theorem pull {F : List (Nat × Obj)} {n k : Nat} {Xf : Nat → List (Nat × Obj)} (hk : k < n) : (F ++ (List.range n).flatMap Xf).Perm (Xf k ++ (F ++ ((List.range n).erase k).flatMap Xf)) := by
  have h1 : (List.range n).Perm (k :: (List.range n).erase k) := List.perm_cons_erase (List.mem_range.2 hk)
  have h2 := (h1.flatMap_right Xf)
  rw [List.flatMap_cons] at h2
  refine (List.Perm.append_left F h2).trans ?_
  rw [← List.append_assoc, ← List.append_assoc]
  exact List.perm_append_comm.append_right _
theorem push {F X2 : List (Nat × Obj)} {n k : Nat} {Xf : Nat → List (Nat × Obj)} (hk : k < n) : (X2 ++ (F ++ ((List.range n).erase k).flatMap Xf)).Perm (F ++ (List.range n).flatMap (updF Xf k X2)) := by
  have h1 := pull (F := F) (n := n) (k := k) (Xf := updF Xf k X2) hk
  have h2 : ((List.range n).erase k).flatMap (updF Xf k X2) = ((List.range n).erase k).flatMap Xf := by
    have hnd := (List.nodup_range (n := n)).mem_erase_iff (a := k) (b := k)
    rw [List.flatMap, List.flatMap]
    congr 1
    refine List.map_congr_left fun j hj => ?_
    have : j ≠ k := fun e => by subst e; exact (hnd.1 hj).1 rfl
    unfold updF
    rw [if_neg this]
  have h3 : updF Xf k X2 k = X2 := by unfold updF; rw [if_pos rfl]
  rw [h2, h3] at h1
  exact h1.symm
theorem lkT_len (c : ChD) (u : Nat) : ∀ i, (lkT c u i).length ≤ i
  | 0 => Nat.le_refl _
  | i + 1 => by
    have ih := lkT_len c u i
    rw [lkT, List.length_append]
    cases c.si[i]? with
    | none => exact Nat.le_succ_of_le ih
    | some s =>
      dsimp only
      have : (lkOf u i s).length ≤ 1 := by
        unfold lkOf
        split
        · exact Nat.le_refl _
        · split
          · exact Nat.le_refl _
          · exact Nat.zero_le _
      omega
/-- Both looks of a sight. -/
theorem from_step {c : ChD} {i : Nat} {s : SiD} {f t : Nat} (hs : c.si[i]? = some s) (hf : s.fr = (f : Int)) (ht : s.to = (t : Int)) (hne : f ≠ t) : (fun j => lkT c j (i + 1)) = updF (updF (fun j => lkT c j i) f (lkT c f i ++ [⟨i, t, false⟩])) t (lkT c t i ++ [⟨i, f, true⟩]) := by
  funext j
  unfold updF
  rw [lkT, hs]
  dsimp only
  unfold lkOf
  rw [hf, ht]
  by_cases h1 : j = t
  · subst h1
    rw [if_pos rfl, if_neg (by omega), if_pos rfl]
    rfl
  · rw [if_neg h1]
    by_cases h2 : j = f
    · subst h2; rw [if_pos rfl, if_pos rfl]; rfl
    · rw [if_neg h2, if_neg (by omega), if_neg (by omega), List.append_nil]
/-- Numbers lie in memory. -/
def IAt (w : World) (sa : Option Addr) (l : List Int) : Prop :=
  ∀ i x, l[i]? = some x → ∃ blk off c T fr, sa = some ⟨blk, off, none⟩ ∧ w.heap[blk]? = some (.cells c T fr) ∧ c[off + ((i : Nat) : Int).toNat * 1]? = some (.int .i64 x)
theorem IAt.ext {w w' : World} {sa : Option Addr} {l : List Int} (h : IAt w sa l) (e : Ext [] w w') : IAt w' sa l := fun i s hi =>
  let ⟨blk, off, c, T, fr, h1, h2, h3⟩ := h i s hi
  ⟨blk, off, c, T, fr, h1, e.get h2, h3⟩
theorem all_take {α : Type} {l : List α} {i : Nat} {x : α} {f : α → Bool} (h : (l.take i).all f = true) (hx : l[i]? = some x) (hf : f x = true) : (l.take (i + 1)).all f = true := by
  rw [List.take_add_one, hx, List.all_append, h]
  simp [hf]
theorem all_not {α : Type} {l : List α} {i : Nat} {x : α} {f : α → Bool} (hx : l[i]? = some x) (hf : f x = false) : l.all f = false := by
  cases h : l.all f with
  | false => rfl
  | true =>
    have := List.all_eq_true.1 h x (List.mem_of_getElem? hx)
    rw [hf] at this; cases this
end Go.ChaM

namespace Go.Proofs.YtccpgpnekoncoaaGreat
open Go Go.Sy Go.ChaM
set_option maxRecDepth 100000 in
theorem p42 (c : ChD) (sa : Option Addr) (cp : Nat) (l : List Int) (so : Option Addr) (n co : Nat) (u : World) (hA : ChAt u c sa) (hL : IAt u so l) (hn : n = l.length) (hl : l.length ≤ 1000) : Calls Tryz.prog 61 #[.agg (chC c sa cp), .slice so n co] u (RetX (fun v w' => ∃ Bv XV, v = ptr Bv 0 ∧ chB c = true ∧ l.all (stB c) = true ∧ (∀ w2 : World, (∀ q ∈ XV, w2.heap[q.1]? = some q.2) → ChAt w2 c sa → VAt w2 Bv c sa cp) ∧ Hp u [] XV w') (fun ch w' => ∃ e, ch = misfit e ∧ Ext [] u w' ∧ ((chB c = false ∧ e = 1) ∨ (chB c = true ∧ l.all (stB c) = false ∧ e = 2)))) := by
  subst hn
  refine calls_ofX Tryz.func61 rfl rfl (fun a hf => ?_)
  have hh := Hp.init u []
  refine sy_sq ?_
  refine o_box hf hh ?_; clear hf hh a; intro B2 a w hf hh
  refine o_v hf hh (yv_assign rfl) ?_; clear hf a; intro a hf
  refine o_end ?_
  refine sy_sq ?_
  refine o_v hf hh (y_lds Tryz.ag_57 rfl) ?_; clear hf a; intro a hf
  refine o_call hf Tryz.en_91 rfl rfl rfl (p61 c sa cp _ (hA.ext hh.ext)) ?_; clear hf a; intro v a w hR hf
  obtain ⟨rfl, hx⟩ := hR; replace hh := hh.more hx; clear hx
  refine o_callX hf Tryz.en_90 rfl rfl rfl (p60 (chB c) 1 _) ?_ ?_
  ·clear hf a; intro v a w hR hf
   obtain ⟨hcb, hx⟩ := hR; replace hh := hh.more hx; clear hx
   have hO := chB_iff.1 hcb
   have hn1 := hO.n1; have hn2 := hO.n2; have hl10 := hO.l
   refine o_end ?_
   refine sy_seq ?_
   refine sy_sq ?_
   refine o_v hf hh (yv_move rfl) ?_; clear hf a; intro a hf
   refine o_v hf hh (yv_len Tryz.se_28 rfl) ?_; clear hf a; intro a hf
   refine o_v hf hh (yv_move rfl) ?_; clear hf a; intro a hf
   refine o_end ?_
   refine sy_block ?_
   refine sy_loopF (σ := Nat) [6, 15, 16, 17, 18, 19, 20, 21, 22, 23, 24, 25] (fun g => [(15, .int .i64 (g : Nat))]) (fun g => g ≤ l.length ∧ (l.take g).all (stB c) = true) (fun g => l.length - g) (0) hf hh ?_ ?_ ?_
   · repeat' (first | exact True.intro | refine And.intro rfl ?_)
   · exact ⟨Nat.zero_le _, rfl⟩
   ·rintro g a w ⟨hg, hall⟩ hf hh
    refine sy_sq ?_
    refine o_v hf hh (yv_bin rfl rfl rfl) ?_; clear hf a; intro a hf
    refine o_end ?_
    refine sy_seq ?_
    refine sy_cond hf rfl (fun hg4 => ?_) (fun hg4 => ?_)
    ·have hG4 := hg4; try simp only [gS] at hG4
     refine sy_skip ?_
     refine then_n ?_
     refine sy_seq ?_
     refine sy_block ?_
     refine sy_seq ?_
     obtain ⟨x, hx⟩ := ex_of (l := l) (i := g) (by omega)
     obtain ⟨blk, off, cc, T, fr, e, hb, hc⟩ := hL g x hx; subst e
     refine sy_ops ?_
     refine o_v hf hh (y_ix Tryz.se_28 rfl rfl) ?_; clear hf a; intro a hf
     refine o_v hf hh (y_ld Tryz.sc_3 rfl) ?_; clear hf a; intro a hf
     refine o_v hf hh (yv_assign rfl) ?_; clear hf a; intro a hf
     refine o_end ?_
     refine sy_ops ?_
     refine o_v hf hh (yv_move rfl) ?_; clear hf a; intro a hf
     refine o_v hf hh (yv_fieldAddr Tryz.fo_57_0 rfl) ?_; clear hf a; intro a hf
     refine o_v hf hh (y_ld Tryz.sc_3 rfl) ?_; clear hf a; intro a hf
     refine o_v hf hh (y_sub rfl rfl) ?_; clear hf a; intro a hf
     refine o_call hf Tryz.en_92 rfl rfl rfl (p62 _ _ _ _) ?_; clear hf a; intro v a w hR hf
     obtain ⟨rfl, hx⟩ := hR; replace hh := hh.more hx; clear hx
     refine o_callX hf Tryz.en_90 rfl rfl rfl (p60 (inC x 0 (c.n - 1)) 2 _) ?_ ?_
     ·clear hf a; intro v a w hR hf
      obtain ⟨hst, hx⟩ := hR; replace hh := hh.more hx; clear hx
      refine ops_end ?_
      refine blk_n ?_
      refine then_n ?_
      refine sy_ops ?_
      refine o_v hf hh (y_add rfl rfl) ?_; clear hf a; intro a hf
      refine o_v hf hh (yv_move rfl) ?_; clear hf a; intro a hf
      refine ops_end ?_
      refine then_n ?_
      exact ⟨g + 1, ⟨⟨by omega, all_take hall hx hst⟩, (hf.head (by repeat' (first | exact True.intro | refine And.intro rfl ?_)) (Keep.cons rfl (Keep.cons rfl (Keep.cons rfl (Keep.cons rfl (Keep.cons rfl (Keep.cons rfl (Keep.cons rfl (Keep.cons rfl (Keep.cons rfl (Keep.cons rfl (Keep.cons rfl (Keep.cons rfl (Keep.app rfl (Keep.rm rfl Keep.base))))))))))))))), hh⟩, by omega⟩
     ·intro ch w hX hf
      obtain ⟨hst, rfl, hx⟩ := hX; replace hh := hh.more hx; clear hx
      refine blk_p ?_
      refine then_p ?_
      refine then_p ?_
      refine blk_p ?_
      refine then_p ?_
      refine pan_x hf ?_
      exact ⟨2, rfl, hh.ext, .inr ⟨hcb, all_not hx hst, rfl⟩⟩
    ·have hG4 := hg4; try simp only [gS] at hG4
     refine sy_exit ?_
     refine then_e ?_
     refine then_e ?_
     refine blk_e ?_
     refine then_n ?_
     refine sy_sq ?_
     refine o_v hf hh (y_lds Tryz.ag_57 rfl) ?_; clear hf a; intro a hf
     refine ops_makeMap hf hh (.inl rfl) rfl ?_; clear hf hh; clear a; intro B27 a w hf hh
     refine o_v hf hh (yv_buildS Tryz.bs_121 rfl rfl) ?_; clear hf a; intro a hf
     refine o_box hf hh ?_; clear hf hh a; intro B29 a w hf hh
     refine o_v hf hh (yv_assign rfl) ?_; clear hf a; intro a hf
     refine o_end ?_
     refine sy_seq ?_
     refine sy_sq ?_
     refine o_v hf hh (yv_fieldAddr Tryz.fo_57_1 rfl) ?_; clear hf a; intro a hf
     refine o_v hf hh (y_ld Tryz.sc_55 rfl) ?_; clear hf a; intro a hf
     refine o_v hf hh (yv_len Tryz.se_55 rfl) ?_; clear hf a; intro a hf
     refine o_v hf hh (yv_move rfl) ?_; clear hf a; intro a hf
     refine o_end ?_
     refine sy_block ?_
     refine sy_loopH (σ := Nat × Array MapEntry × Nat × (Int → Option Value) × (Nat → List (Nat × Obj))) [8, 9, 33, 34, 35, 36, 37, 38, 39, 40, 41, 42, 43, 44, 45, 46, 47, 48, 49, 50, 51, 52, 53, 54, 55, 56, 57, 58, 59, 60, 61, 62, 63, 64, 65, 66, 67, 68, 69, 70, 71, 72, 73, 74, 75, 76] (fun q => [(33, .int .i64 (q.1 : Nat))]) (fun q => fun w' => q.1 ≤ c.si.length ∧ MapI .i64 q.2.2.2.1 q.2.1 ∧ FromOk c.n.toNat q.2.2.2.1 (fun j => lkT c j q.1) q.2.2.2.2 ∧ Hp u [] ([(B29, .cells #[.int .i64 c.n, .slice sa c.si.length cp, .map (some B27)] 121), (B27, .map q.2.1 q.2.2.1), (B2, .cells (chC c sa cp) 57)] ++ (List.range c.n.toNat).flatMap q.2.2.2.2) w') (fun q => c.si.length - q.1) ((0, #[], 0, fun _ => none, fun _ => [])) hf ?_ ?_ ?_
     · repeat' (first | exact True.intro | refine And.intro rfl ?_)
     · exact ⟨Nat.zero_le _, MapI.nil _, fun j hj => OwnSl.nil _ _, by rw [show (List.range c.n.toNat).flatMap (fun _ => ([] : List (Nat × Obj))) = [] from List.flatMap_eq_nil_iff.2 (fun _ _ => rfl), List.append_nil]; exact hh⟩
     ·rintro q a w ⟨hi, hM, hFO, hh⟩ hf
      obtain ⟨i, es, cm, m, Xf⟩ := q; simp only at hi hM hFO hh hf ⊢
      refine sy_sq ?_
      refine o_v hf hh (yv_bin rfl rfl rfl) ?_; clear hf a; intro a hf
      refine o_end ?_
      refine sy_seq ?_
      refine sy_cond hf rfl (fun hg8 => ?_) (fun hg8 => ?_)
      ·have hG8 := hg8; try simp only [gS] at hG8
       refine sy_skip ?_
       refine then_n ?_
       refine sy_seq ?_
       refine sy_block ?_
       refine sy_seq ?_
       obtain ⟨s, hs⟩ := ex_of (l := c.si) (i := i) (by omega)
       obtain ⟨blk, off, cc, T, fr, esa, hb2, hc⟩ := hA.at_ i s hs
       have hso := hO.s s (List.mem_of_getElem? hs)
       obtain ⟨f, t, el, eh, nl, nh⟩ := s
       have hf0 := hso.f0; have hf1 := hso.f1; have ht0 := hso.t0; have ht1 := hso.t1; have hne := hso.ne
       dsimp only at hf0 hf1 ht0 ht1 hne
       obtain ⟨kf, rfl⟩ : ∃ k : Nat, f = k := ⟨f.toNat, by omega⟩
       obtain ⟨kt, rfl⟩ : ∃ k : Nat, t = k := ⟨t.toNat, by omega⟩
       have hkne : kf ≠ kt := by omega
       have hlf := lkT_len c kf i
       have hlt := lkT_len c kt i
       have hstp := from_step hs rfl rfl hkne
       refine sy_ops ?_
       refine o_v hf hh (yv_move rfl) ?_; clear hf a; intro a hf
       refine o_v hf hh (y_ix Tryz.se_55 (congrArg (fun z => some (Value.slice z c.si.length cp)) esa) rfl) ?_; clear hf a; intro a hf
       refine o_v hf hh (y_lds Tryz.ag_106 rfl) ?_; clear hf a; intro a hf
       refine o_alloc hf hh Tryz.ze_106 ?_; clear hf hh a; intro B9 a w hf hh
       refine o_v hf hh (yv_assign rfl) ?_; clear hf a; intro a hf
       refine o_store hf hh Tryz.sz_106 fun w hh => ?_
       refine o_end ?_
       refine sy_seq ?_
       replace hh : Hp u [] ([(B9, .cells #[.int .i64 (kf : Nat), .int .i64 (kt : Nat), .int .i64 el, .int .i64 eh, .int .i64 nl, .int .i64 nh] 106), (B29, .cells #[.int .i64 c.n, .slice sa c.si.length cp, .map (some B27)] 121), (B27, .map es cm), (B2, .cells (chC c sa cp) 57)] ++ (List.range c.n.toNat).flatMap Xf) w := hh
       refine sy_treeC (.p 0 (.p 1 (.p 2 (.q 0 3 (.p 4 (.q 0 5 (.p 6 (.p 7 (.p 8 (.q 0 9 (.p 10 (.q 0 11 (.q 0 12 (.p 13 (.p 14 (.q 0 15 (.p 16 (.e1 17 (.e1 18 (.e1 19 (.fin))))))))))))))))))))) [[19]] [(AtE u [] [(B9, .cells #[.int .i64 (kf : Nat), .int .i64 (kt : Nat), .int .i64 el, .int .i64 eh, .int .i64 nl, .int .i64 nh] 106), (B29, .cells #[.int .i64 c.n, .slice sa c.si.length cp, .map (some B27)] 121), (B27, .map es cm), (B2, .cells (chC c sa cp) 57)], [19])] Tryz.follows (by kernel_rfl) rfl hh (fun w hh => ?_)
       refine mc_p rfl   hf (yv_move rfl) (.inl rfl) rfl rfl ?_; clear hf a; intro a hf
       refine mc_p rfl   hf (yv_nilCheck rfl) (.inl rfl) rfl rfl ?_; clear hf a; intro a hf
       refine mc_p rfl   hf (yv_fieldAddr Tryz.fo_121_1 rfl) (.inl rfl) rfl rfl ?_; clear hf a; intro a hf
       refine mc_q rfl rfl (AtE.of hh (by intro p hp; simp only [List.mem_cons, List.not_mem_nil, or_false] at hp; simp only [List.mem_cons, List.mem_append]; rcases hp with h | h | h | h <;> simp [h])) hf (y_ld Tryz.sc_119 rfl) (.inl rfl) rfl rfl ?_; clear hf a; intro a hf
       refine mc_p rfl   hf (yv_fieldAddr Tryz.fo_106_0 rfl) (.inl rfl) rfl rfl ?_; clear hf a; intro a hf
       refine mc_q rfl rfl (AtE.of hh (by intro p hp; simp only [List.mem_cons, List.not_mem_nil, or_false] at hp; simp only [List.mem_cons, List.mem_append]; rcases hp with h | h | h | h <;> simp [h])) hf (y_ld Tryz.sc_3 rfl) (.inl rfl) rfl rfl ?_; clear hf a; intro a hf
       refine mc_p rfl   hf (yv_move rfl) (.inl rfl) rfl rfl ?_; clear hf a; intro a hf
       refine mc_p rfl   hf (yv_nilCheck rfl) (.inl rfl) rfl rfl ?_; clear hf a; intro a hf
       refine mc_p rfl   hf (yv_fieldAddr Tryz.fo_121_1 rfl) (.inl rfl) rfl rfl ?_; clear hf a; intro a hf
       refine mc_q rfl rfl (AtE.of hh (by intro p hp; simp only [List.mem_cons, List.not_mem_nil, or_false] at hp; simp only [List.mem_cons, List.mem_append]; rcases hp with h | h | h | h <;> simp [h])) hf (y_ld Tryz.sc_119 rfl) (.inl rfl) rfl rfl ?_; clear hf a; intro a hf
       refine mc_p rfl   hf (yv_fieldAddr Tryz.fo_106_0 rfl) (.inl rfl) rfl rfl ?_; clear hf a; intro a hf
       refine mc_q rfl rfl (AtE.of hh (by intro p hp; simp only [List.mem_cons, List.not_mem_nil, or_false] at hp; simp only [List.mem_cons, List.mem_append]; rcases hp with h | h | h | h <;> simp [h])) hf (y_ld Tryz.sc_3 rfl) (.inl rfl) rfl rfl ?_; clear hf a; intro a hf
       refine mc_q rfl rfl (AtE.of hh (by intro p hp; simp only [List.mem_cons, List.not_mem_nil, or_false] at hp; simp only [List.mem_cons, List.mem_append]; rcases hp with h | h | h | h <;> simp [h])) hf (yv_getI Tryz.mt_119 Tryz.ze_171 rfl rfl (fun _ h => h.at (i := 2) rfl) hM) (.inl rfl) rfl rfl ?_; clear hf a; intro a hf
       refine mc_p rfl   hf (yv_move rfl) (.inl rfl) rfl rfl ?_; clear hf a; intro a hf
       refine mc_p rfl   hf (yv_fieldAddr Tryz.fo_106_1 rfl) (.inl rfl) rfl rfl ?_; clear hf a; intro a hf
       refine mc_q rfl rfl (AtE.of hh (by intro p hp; simp only [List.mem_cons, List.not_mem_nil, or_false] at hp; simp only [List.mem_cons, List.mem_append]; rcases hp with h | h | h | h <;> simp [h])) hf (y_ld Tryz.sc_3 rfl) (.inl rfl) rfl rfl ?_; clear hf a; intro a hf
       refine mc_p rfl   hf (yv_buildS Tryz.bs_173 rfl rfl) (.inl rfl) rfl rfl ?_; clear hf a; intro a hf
       refine mc_e rfl fun Q1 => ?_
       refine ops_buildSl hf hh Tryz.bl_171_1 rfl rfl (.inl rfl) rfl ?_; clear hf hh; clear a; intro B55 a w hf hh
       refine ops_end ?_
       refine then_n ⟨⟨fun _ _ => (AtE.of hh (by intro p hp; simp only [List.mem_cons, List.not_mem_nil, or_false] at hp; simp only [List.mem_cons, List.mem_append]; rcases hp with h | h | h | h <;> simp [h])), trivial⟩, ?_⟩
       refine mc_e rfl fun Q1 => ?_
       refine ops_append (e := 173) (size := 3) (xs := (lkT c kf i).flatMap lkC) (X := Xf kf) (Z := [(B9, Obj.cells #[.int .i64 (kf : Nat), .int .i64 (kt : Nat), .int .i64 el, .int .i64 eh, .int .i64 nl, .int .i64 nh] 106), (B29, Obj.cells #[.int .i64 c.n, .slice sa c.si.length cp, .map (some B27)] 121), (B27, Obj.map es cm), (B2, Obj.cells (chC c sa cp) 57)] ++ ((List.range c.n.toNat).erase kf).flatMap Xf) (m := (lkT c kf i).length) (q := 1) hf (hh.perm (.cons _ (pull (F := [(B9, Obj.cells #[.int .i64 (kf : Nat), .int .i64 (kt : Nat), .int .i64 el, .int .i64 eh, .int .i64 nl, .int .i64 nh] 106), (B29, Obj.cells #[.int .i64 c.n, .slice sa c.si.length cp, .map (some B27)] 121), (B27, Obj.map es cm), (B2, Obj.cells (chC c sa cp) 57)]) (Xf := Xf) (by omega)))) Tryz.eb_171 rfl rfl (hFO _ (by omega)) rfl rfl rfl (by simp only [maxLen]; omega) (by omega) (.inl rfl) rfl ?_; clear hf hh a; intro v2 X2 a w hO2 hf hh
       replace hh := hh.perm (push (F := [(B9, Obj.cells #[.int .i64 (kf : Nat), .int .i64 (kt : Nat), .int .i64 el, .int .i64 eh, .int .i64 nl, .int .i64 nh] 106), (B29, Obj.cells #[.int .i64 c.n, .slice sa c.si.length cp, .map (some B27)] 121), (B27, Obj.map es cm), (B2, Obj.cells (chC c sa cp) 57)]) (Xf := Xf) (by omega))
       replace hFO := hFO.put (l := ⟨i, kt, false⟩) hO2
       refine ops_end ?_
       refine then_n ⟨⟨fun _ _ => (AtE.of hh (by intro p hp; simp only [List.mem_cons, List.not_mem_nil, or_false] at hp; simp only [List.mem_cons, List.mem_append]; rcases hp with h | h | h | h <;> simp [h])), trivial⟩, ?_⟩
       refine mc_e rfl fun Q1 => ?_
       refine ops_putI (i := 2) hf hh Tryz.mt_119 rfl rfl rfl rfl hM (.inl rfl) fun es1 cm1 w hM hh => ?_
       refine ops_end ?_
       refine then_n ⟨⟨fun h => Bool.noConfusion (show true = false from h), trivial⟩, ?_⟩
       refine mc_end ?_
       refine then_n ?_
       replace hh : Hp u [] ([(B9, .cells #[.int .i64 (kf : Nat), .int .i64 (kt : Nat), .int .i64 el, .int .i64 eh, .int .i64 nl, .int .i64 nh] 106), (B29, .cells #[.int .i64 c.n, .slice sa c.si.length cp, .map (some B27)] 121), (B27, .map es1 cm1), (B2, .cells (chC c sa cp) 57)] ++ (List.range c.n.toNat).flatMap (updF Xf kf X2)) w := hh
       obtain ⟨Xg, hXg⟩ : ∃ z, z = updF Xf kf X2 := ⟨_, rfl⟩
       obtain ⟨m1, hm1⟩ : ∃ z, z = putM m (kf : Int) v2 := ⟨_, rfl⟩
       rw [← hXg] at hh hFO
       rw [← hm1] at hFO hM
       clear hO2
       replace hFO : FromOk c.n.toNat m1 (updF (fun j => lkT c j i) kf (lkT c kf i ++ [⟨i, kt, false⟩])) Xg := hFO
       have ekt : updF (fun j => lkT c j i) kf (lkT c kf i ++ [⟨i, kt, false⟩]) kt = lkT c kt i := by unfold updF; rw [if_neg (Ne.symm hkne)]
       refine sy_treeC (.p 0 (.p 1 (.p 2 (.q 0 3 (.p 4 (.q 0 5 (.p 6 (.p 7 (.p 8 (.q 0 9 (.p 10 (.q 0 11 (.q 0 12 (.p 13 (.p 14 (.q 0 15 (.p 16 (.e1 17 (.e1 18 (.e1 19 (.fin))))))))))))))))))))) [[19]] [(AtE u [] [(B9, .cells #[.int .i64 (kf : Nat), .int .i64 (kt : Nat), .int .i64 el, .int .i64 eh, .int .i64 nl, .int .i64 nh] 106), (B29, .cells #[.int .i64 c.n, .slice sa c.si.length cp, .map (some B27)] 121), (B27, .map es1 cm1), (B2, .cells (chC c sa cp) 57)], [19])] Tryz.follows (by kernel_rfl) rfl hh (fun w hh => ?_)
       refine mc_p rfl   hf (yv_move rfl) (.inl rfl) rfl rfl ?_; clear hf a; intro a hf
       refine mc_p rfl   hf (yv_nilCheck rfl) (.inl rfl) rfl rfl ?_; clear hf a; intro a hf
       refine mc_p rfl   hf (yv_fieldAddr Tryz.fo_121_1 rfl) (.inl rfl) rfl rfl ?_; clear hf a; intro a hf
       refine mc_q rfl rfl (AtE.of hh (by intro p hp; simp only [List.mem_cons, List.not_mem_nil, or_false] at hp; simp only [List.mem_cons, List.mem_append]; rcases hp with h | h | h | h <;> simp [h])) hf (y_ld Tryz.sc_119 rfl) (.inl rfl) rfl rfl ?_; clear hf a; intro a hf
       refine mc_p rfl   hf (yv_fieldAddr Tryz.fo_106_1 rfl) (.inl rfl) rfl rfl ?_; clear hf a; intro a hf
       refine mc_q rfl rfl (AtE.of hh (by intro p hp; simp only [List.mem_cons, List.not_mem_nil, or_false] at hp; simp only [List.mem_cons, List.mem_append]; rcases hp with h | h | h | h <;> simp [h])) hf (y_ld Tryz.sc_3 rfl) (.inl rfl) rfl rfl ?_; clear hf a; intro a hf
       refine mc_p rfl   hf (yv_move rfl) (.inl rfl) rfl rfl ?_; clear hf a; intro a hf
       refine mc_p rfl   hf (yv_nilCheck rfl) (.inl rfl) rfl rfl ?_; clear hf a; intro a hf
       refine mc_p rfl   hf (yv_fieldAddr Tryz.fo_121_1 rfl) (.inl rfl) rfl rfl ?_; clear hf a; intro a hf
       refine mc_q rfl rfl (AtE.of hh (by intro p hp; simp only [List.mem_cons, List.not_mem_nil, or_false] at hp; simp only [List.mem_cons, List.mem_append]; rcases hp with h | h | h | h <;> simp [h])) hf (y_ld Tryz.sc_119 rfl) (.inl rfl) rfl rfl ?_; clear hf a; intro a hf
       refine mc_p rfl   hf (yv_fieldAddr Tryz.fo_106_1 rfl) (.inl rfl) rfl rfl ?_; clear hf a; intro a hf
       refine mc_q rfl rfl (AtE.of hh (by intro p hp; simp only [List.mem_cons, List.not_mem_nil, or_false] at hp; simp only [List.mem_cons, List.mem_append]; rcases hp with h | h | h | h <;> simp [h])) hf (y_ld Tryz.sc_3 rfl) (.inl rfl) rfl rfl ?_; clear hf a; intro a hf
       refine mc_q rfl rfl (AtE.of hh (by intro p hp; simp only [List.mem_cons, List.not_mem_nil, or_false] at hp; simp only [List.mem_cons, List.mem_append]; rcases hp with h | h | h | h <;> simp [h])) hf (yv_getI Tryz.mt_119 Tryz.ze_171 rfl rfl (fun _ h => h.at (i := 2) rfl) hM) (.inl rfl) rfl rfl ?_; clear hf a; intro a hf
       refine mc_p rfl   hf (yv_move rfl) (.inl rfl) rfl rfl ?_; clear hf a; intro a hf
       refine mc_p rfl   hf (yv_fieldAddr Tryz.fo_106_0 rfl) (.inl rfl) rfl rfl ?_; clear hf a; intro a hf
       refine mc_q rfl rfl (AtE.of hh (by intro p hp; simp only [List.mem_cons, List.not_mem_nil, or_false] at hp; simp only [List.mem_cons, List.mem_append]; rcases hp with h | h | h | h <;> simp [h])) hf (y_ld Tryz.sc_3 rfl) (.inl rfl) rfl rfl ?_; clear hf a; intro a hf
       refine mc_p rfl   hf (yv_buildS Tryz.bs_173 rfl rfl) (.inl rfl) rfl rfl ?_; clear hf a; intro a hf
       refine mc_e rfl fun Q1 => ?_
       refine ops_buildSl hf hh Tryz.bl_171_1 rfl rfl (.inl rfl) rfl ?_; clear hf hh; clear a; intro B74 a w hf hh
       refine ops_end ?_
       refine then_n ⟨⟨fun _ _ => (AtE.of hh (by intro p hp; simp only [List.mem_cons, List.not_mem_nil, or_false] at hp; simp only [List.mem_cons, List.mem_append]; rcases hp with h | h | h | h <;> simp [h])), trivial⟩, ?_⟩
       refine mc_e rfl fun Q1 => ?_
       have hFk := hFO kt (by omega)
       rw [ekt] at hFk
       refine ops_append (e := 173) (size := 3) (xs := (lkT c kt i).flatMap lkC) (X := Xg kt) (Z := [(B9, Obj.cells #[.int .i64 (kf : Nat), .int .i64 (kt : Nat), .int .i64 el, .int .i64 eh, .int .i64 nl, .int .i64 nh] 106), (B29, Obj.cells #[.int .i64 c.n, .slice sa c.si.length cp, .map (some B27)] 121), (B27, Obj.map es1 cm1), (B2, Obj.cells (chC c sa cp) 57)] ++ ((List.range c.n.toNat).erase kt).flatMap Xg) (m := (lkT c kt i).length) (q := 1) hf (hh.perm (.cons _ (pull (F := [(B9, Obj.cells #[.int .i64 (kf : Nat), .int .i64 (kt : Nat), .int .i64 el, .int .i64 eh, .int .i64 nl, .int .i64 nh] 106), (B29, Obj.cells #[.int .i64 c.n, .slice sa c.si.length cp, .map (some B27)] 121), (B27, Obj.map es1 cm1), (B2, Obj.cells (chC c sa cp) 57)]) (Xf := Xg) (by omega)))) Tryz.eb_171 rfl rfl hFk rfl rfl rfl (by simp only [maxLen]; omega) (by omega) (.inl rfl) rfl ?_; clear hf hh a; intro v2 X2 a w hO2 hf hh
       replace hh := hh.perm (push (F := [(B9, Obj.cells #[.int .i64 (kf : Nat), .int .i64 (kt : Nat), .int .i64 el, .int .i64 eh, .int .i64 nl, .int .i64 nh] 106), (B29, Obj.cells #[.int .i64 c.n, .slice sa c.si.length cp, .map (some B27)] 121), (B27, Obj.map es1 cm1), (B2, Obj.cells (chC c sa cp) 57)]) (Xf := Xg) (by omega))
       replace hFO := hFO.put (k := kt) (l := ⟨i, kf, true⟩) (by rw [ekt]; exact hO2)
       rw [ekt] at hFO
       refine ops_end ?_
       refine then_n ⟨⟨fun _ _ => (AtE.of hh (by intro p hp; simp only [List.mem_cons, List.not_mem_nil, or_false] at hp; simp only [List.mem_cons, List.mem_append]; rcases hp with h | h | h | h <;> simp [h])), trivial⟩, ?_⟩
       refine mc_e rfl fun Q1 => ?_
       refine ops_putI (i := 2) hf hh Tryz.mt_119 rfl rfl rfl rfl hM (.inl rfl) fun es2 cm2 w hM hh => ?_
       refine ops_end ?_
       refine then_n ⟨⟨fun h => Bool.noConfusion (show true = false from h), trivial⟩, ?_⟩
       refine mc_end ?_
       refine blk_n ?_
       refine then_n ?_
       refine sy_ops ?_
       refine o_v hf hh (y_add rfl rfl) ?_; clear hf a; intro a hf
       refine o_v hf hh (yv_move rfl) ?_; clear hf a; intro a hf
       refine ops_end ?_
       refine then_n ?_
       exact ⟨(i + 1, es2, cm2, _, _), ⟨⟨by simp only; omega, hM, by simp only; rw [hstp]; exact hFO, hh.less (.cons _ (.refl _))⟩, (hf.head (by repeat' (first | exact True.intro | refine And.intro rfl ?_)) (Keep.cons rfl (Keep.cons rfl (Keep.cons rfl (Keep.cons rfl (Keep.cons rfl (Keep.cons rfl (Keep.cons rfl (Keep.cons rfl (Keep.cons rfl (Keep.cons rfl (Keep.cons rfl (Keep.cons rfl (Keep.cons rfl (Keep.cons rfl (Keep.cons rfl (Keep.cons rfl (Keep.cons rfl (Keep.cons rfl (Keep.cons rfl (Keep.cons rfl (Keep.cons rfl (Keep.cons rfl (Keep.cons rfl (Keep.cons rfl (Keep.cons rfl (Keep.cons rfl (Keep.cons rfl (Keep.cons rfl (Keep.cons rfl (Keep.cons rfl (Keep.cons rfl (Keep.cons rfl (Keep.cons rfl (Keep.cons rfl (Keep.cons rfl (Keep.cons rfl (Keep.cons rfl (Keep.cons rfl (Keep.cons rfl (Keep.cons rfl (Keep.cons rfl (Keep.cons rfl (Keep.cons rfl (Keep.cons rfl (Keep.cons rfl (Keep.cons rfl (Keep.app rfl (Keep.rm rfl Keep.base)))))))))))))))))))))))))))))))))))))))))))))))))⟩, by simp only; omega⟩
      ·have hG8 := hg8; try simp only [gS] at hG8
       refine sy_exit ?_
       refine then_e ?_
       refine then_e ?_
       refine blk_e ?_
       refine then_n ?_
       refine sy_sq ?_
       refine o_v hf hh (yv_move rfl) ?_; clear hf a; intro a hf
       refine o_v hf hh (yv_assign rfl) ?_; clear hf a; intro a hf
       refine o_end ?_
       refine sy_ret ?_
       refine ret_x ?_
       refine ret_r hf rfl rfl ?_
       obtain rfl : g = l.length := by omega
       rw [List.take_length] at hall
       obtain rfl : i = c.si.length := by omega
       exact ⟨B29, (B29, .cells #[.int .i64 c.n, .slice sa c.si.length cp, .map (some B27)] 121) :: (B27, .map es cm) :: (List.range c.n.toNat).flatMap Xf, rfl, hcb, hall, fun w2 h2 hA2 => ⟨B27, es, cm, m, h2 _ (.head _), h2 _ (.tail _ (.head _)), hM, fun k hk => own_lkAt (hFO k hk) fun q hq => h2 q (.tail _ (.tail _ (List.mem_flatMap.2 ⟨k, List.mem_range.2 hk, hq⟩))), hA2⟩, hh.less (.cons_cons _ (.cons_cons _ (.cons _ (.refl _))))⟩
  ·intro ch w hX hf
   obtain ⟨hcb, rfl, hx⟩ := hX; replace hh := hh.more hx; clear hx
   refine then_p ?_
   refine pan_x hf ?_
   exact ⟨1, rfl, hh.ext, .inl ⟨hcb, rfl⟩⟩
end Go.Proofs.YtccpgpnekoncoaaGreat

namespace Go.Proofs.YtccpgpnekoncoaaGreat
open Go Go.Sy Go.ChaM
def axF (a : Bool) : Nat := if a then 95 else 94
abbrev axV (a : Bool) : Value := .agg #[.func (.func (axF a)) #[] #[]]
abbrev axC (a : Bool) : Array Value := #[.func (.func (axF a)) #[] #[]]
abbrev axsV : Value := .agg #[.func (.func 94) #[] #[], .func (.func 95) #[] #[]]
theorem en_ax (a : Bool) : Enters Tryz.prog (axF a) := by
  cases a
  · exact Tryz.en_94
  · exact Tryz.en_95
theorem p63 (s : SiD) (w : World) : Calls Tryz.prog 94 #[siV s] w (Ret fun v w' => v = .agg #[.int .i64 s.el, .int .i64 s.eh] ∧ Ext [] w w') := by
  refine calls_of Tryz.func94 rfl rfl (fun a hf => ?_)
  have hh := Hp.init w []
  refine sy_sq ?_
  refine o_box hf hh ?_; clear hf hh a; intro B1 a w hf hh
  refine o_alloc hf hh Tryz.ze_49 ?_; clear hf hh a; intro B2 a w hf hh
  refine o_end ?_
  refine sy_sq ?_
  refine o_v hf hh (yv_fieldAddr Tryz.fo_106_2 rfl) ?_; clear hf a; intro a hf
  refine o_v hf hh (y_lds Tryz.ag_49 rfl) ?_; clear hf a; intro a hf
  refine o_store hf hh Tryz.sz_49 fun w hh => ?_
  refine o_end ?_
  refine sy_ret ?_
  refine ret_c (vs := [.agg #[.int .i64 s.el, .int .i64 s.eh]]) hf ?_ ?_
  · exact ⟨⟨B2, 0, _, _, _, rfl, hh.at (i := 0) rfl, .inr ⟨2, _, Tryz.ag_49, rfl, rfl⟩⟩, True.intro⟩
  · exact ⟨rfl, hh.ext⟩
theorem p64 (s : SiD) (w : World) : Calls Tryz.prog 95 #[siV s] w (Ret fun v w' => v = .agg #[.int .i64 s.nl, .int .i64 s.nh] ∧ Ext [] w w') := by
  refine calls_of Tryz.func95 rfl rfl (fun a hf => ?_)
  have hh := Hp.init w []
  refine sy_sq ?_
  refine o_box hf hh ?_; clear hf hh a; intro B1 a w hf hh
  refine o_alloc hf hh Tryz.ze_49 ?_; clear hf hh a; intro B2 a w hf hh
  refine o_end ?_
  refine sy_sq ?_
  refine o_v hf hh (yv_fieldAddr Tryz.fo_106_3 rfl) ?_; clear hf a; intro a hf
  refine o_v hf hh (y_lds Tryz.ag_49 rfl) ?_; clear hf a; intro a hf
  refine o_store hf hh Tryz.sz_49 fun w hh => ?_
  refine o_end ?_
  refine sy_ret ?_
  refine ret_c (vs := [.agg #[.int .i64 s.nl, .int .i64 s.nh]]) hf ?_ ?_
  · exact ⟨⟨B2, 0, _, _, _, rfl, hh.at (i := 0) rfl, .inr ⟨2, _, Tryz.ag_49, rfl, rfl⟩⟩, True.intro⟩
  · exact ⟨rfl, hh.ext⟩
theorem pax (a : Bool) (s : SiD) (w : World) : Calls Tryz.prog (axF a) #[siV s] w (Ret fun v w' => v = .agg #[.int .i64 (loA a s), .int .i64 (hiA a s)] ∧ Ext [] w w') := by
  cases a
  · exact p63 s w
  · exact p64 s w
theorem p44 (w : World) : Calls Tryz.prog 63 #[] w (Ret fun v w' => v = axsV ∧ Ext [] w w') := by
  refine calls_of Tryz.func63 rfl rfl (fun a hf => ?_)
  have hh := Hp.init w []
  refine sy_sq ?_
  refine o_alloc hf hh Tryz.ze_117 ?_; clear hf hh a; intro B0 a w hf hh
  refine o_end ?_
  refine sy_sq ?_
  refine o_v hf hh (yv_buildS Tryz.bs_116 rfl rfl) ?_; clear hf a; intro a hf
  refine o_v hf hh (yv_buildS Tryz.bs_116 rfl rfl) ?_; clear hf a; intro a hf
  refine o_v hf hh (yv_buildA Tryz.ba_117 rfl rfl) ?_; clear hf a; intro a hf
  refine o_store hf hh Tryz.sz_117 fun w hh => ?_
  refine o_end ?_
  refine sy_ret ?_
  refine ret_c (vs := [axsV]) hf ?_ ?_
  · exact ⟨⟨B0, 0, _, _, _, rfl, hh.at (i := 0) rfl, .inr ⟨2, _, Tryz.ag_117, rfl, rfl⟩⟩, True.intro⟩
  · exact ⟨rfl, hh.ext⟩
set_option maxRecDepth 100000 in
theorem p68 (Bv : Nat) (c : ChD) (sa : Option Addr) (cp : Nat) (l : LkD) (s : SiD) (ax : Bool) (u : World) (hV : VAt u Bv c sa cp) (hO : ChOk c) (hs : c.si[l.i]? = some s) : Calls Tryz.prog 130 #[ptr Bv 0, lkV l, axV ax] u (Ret fun v w' => v = .agg #[.int .i64 (lkL c ax l), .int .i64 (lkH c ax l)] ∧ Ext [] u w') := by
  obtain ⟨bm, es, cm, m, hb, _, _, _, hA⟩ := hV
  obtain ⟨blk, off, cc, T, fr, e, hb2, hc⟩ := hA.at_ l.i s hs; subst e
  have hso := hO.s s (List.mem_of_getElem? hs)
  have hl := hso.l ax; have hm := hso.m ax; have hh9 := hso.h ax
  have hll := len_of hs
  have hl10 := hO.l
  refine calls_of Tryz.func130 rfl rfl (fun a hf => ?_)
  have hh := Hp.init u []
  refine sy_sq ?_
  refine o_box hf hh ?_; clear hf hh a; intro B4 a w hf hh
  refine o_box hf hh ?_; clear hf hh a; intro B5 a w hf hh
  refine o_alloc hf hh Tryz.ze_49 ?_; clear hf hh a; intro B6 a w hf hh
  refine o_end ?_
  refine sy_seq ?_
  refine sy_tree1 (.p 0 (.q 0 1 (.p 2 (.p 3 (.p 4 (.p 5 (.q 0 6 (.p 7 (.q 0 8 (.p 9 (.q 0 10 (.e2 11 (.e1 12 (.e1 13 (.fin))) 12 (.e1 11 (.e1 13 (.fin))))))))))))))) [] Tryz.follows (by kernel_rfl) hh (fun w hh => ?_)
  refine mc_p rfl   hf (yv_fieldAddr Tryz.fo_116_0 rfl) (.inl rfl) rfl rfl ?_; clear hf a; intro a hf
  refine mc_q rfl rfl hh hf (y_ld Tryz.sc_114 rfl) (.inl rfl) rfl rfl ?_; clear hf a; intro a hf
  refine mc_p rfl   hf (yv_move rfl) (.inl rfl) rfl rfl ?_; clear hf a; intro a hf
  refine mc_p rfl   hf (yv_nilCheck rfl) (.inl rfl) rfl rfl ?_; clear hf a; intro a hf
  refine mc_p rfl   hf (yv_fieldAddr Tryz.fo_121_0 rfl) (.inl rfl) rfl rfl ?_; clear hf a; intro a hf
  refine mc_p rfl   hf (yv_fieldAddr Tryz.fo_57_1 rfl) (.inl rfl) rfl rfl ?_; clear hf a; intro a hf
  refine mc_q rfl rfl hh hf (y_ld Tryz.sc_55 rfl) (.inl rfl) rfl rfl ?_; clear hf a; intro a hf
  refine mc_p rfl   hf (yv_fieldAddr Tryz.fo_173_0 rfl) (.inl rfl) rfl rfl ?_; clear hf a; intro a hf
  refine mc_q rfl rfl hh hf (y_ld Tryz.sc_3 rfl) (.inl rfl) rfl rfl ?_; clear hf a; intro a hf
  refine mc_p rfl   hf (y_ix Tryz.se_55 rfl rfl) (.inl rfl) rfl rfl ?_; clear hf a; intro a hf
  refine mc_q rfl rfl hh hf (y_lds Tryz.ag_106 rfl) (.inl rfl) rfl rfl ?_; clear hf a; intro a hf
  refine ⟨?_, ?_⟩
  ·refine mc_e rfl fun Q1 => ?_
   refine o_call hf (en_ax ax) rfl rfl rfl (pax ax s _) ?_; clear hf a; intro v a w hR hf
   obtain ⟨rfl, hx⟩ := hR; replace hh := hh.more hx; clear hx
   refine ops_end ?_
   refine then_n ⟨⟨fun _ _ => hh, trivial⟩, ?_⟩
   refine mc_e rfl fun Q1 => ?_
   refine o_alloc hf hh Tryz.ze_49 ?_; clear hf hh a; intro B7 a w hf hh
   refine ops_end ?_
   refine then_n ⟨⟨fun _ _ => (hh.less (.cons _ (List.Sublist.refl _))), trivial⟩, ?_⟩
   refine mc_e rfl fun Q1 => ?_
   refine o_store hf hh Tryz.sz_49 fun w hh => ?_
   refine ops_end ?_
   refine then_n ⟨⟨fun _ _ => (hh.less (.cons _ (List.Sublist.refl _))), trivial⟩, ?_⟩
   refine mc_end ?_
   refine then_n ?_
   refine sy_seq ?_
   refine sy_sq ?_
   refine o_v hf hh (yv_fieldAddr Tryz.fo_173_2 rfl) ?_; clear hf a; intro a hf
   refine o_v hf hh (y_ld Tryz.sc_4 rfl) ?_; clear hf a; intro a hf
   refine o_end ?_
   refine sy_cond hf rfl (fun hg3 => ?_) (fun hg3 => ?_)
   ·have hG3 := hg3; try simp only [gS] at hG3
    refine sy_sq ?_
    refine o_v hf hh (yv_fieldAddr Tryz.fo_49_1 rfl) ?_; clear hf a; intro a hf
    refine o_v hf hh (y_ld Tryz.sc_3 rfl) ?_; clear hf a; intro a hf
    refine o_v hf hh (yv_neg rfl (by omega) (by omega)) ?_; clear hf a; intro a hf
    refine o_v hf hh (yv_fieldAddr Tryz.fo_49_0 rfl) ?_; clear hf a; intro a hf
    refine o_v hf hh (y_ld Tryz.sc_3 rfl) ?_; clear hf a; intro a hf
    refine o_v hf hh (yv_neg rfl (by omega) (by omega)) ?_; clear hf a; intro a hf
    refine o_v hf hh (yv_buildS Tryz.bs_49 rfl rfl) ?_; clear hf a; intro a hf
    refine o_store hf hh Tryz.sz_49 fun w hh => ?_
    refine o_end ?_
    refine sy_ret ?_
    refine then_r ?_
    refine ret_c (vs := [.agg #[.int .i64 (-hiA ax s), .int .i64 (-loA ax s)]]) hf ?_ ?_
    · exact ⟨⟨B6, 0, _, _, _, rfl, by first | exact hh.at (i := 1) rfl | exact hh.at (i := 0) rfl, .inr ⟨2, _, Tryz.ag_49, rfl, rfl⟩⟩, True.intro⟩
    · refine ⟨?_, hh.ext⟩
      clear hf hh
      unfold lkL lkH
      rw [hs]
      simp_all [tup]
   ·have hG3 := hg3; try simp only [gS] at hG3
    refine sy_skip ?_
    refine then_n ?_
    refine sy_sq ?_
    refine o_v hf hh (y_lds Tryz.ag_49 rfl) ?_; clear hf a; intro a hf
    refine o_store hf hh Tryz.sz_49 fun w hh => ?_
    refine o_end ?_
    refine sy_ret ?_
    refine ret_c (vs := [.agg #[.int .i64 (loA ax s), .int .i64 (hiA ax s)]]) hf ?_ ?_
    · exact ⟨⟨B6, 0, _, _, _, rfl, by first | exact hh.at (i := 1) rfl | exact hh.at (i := 0) rfl, .inr ⟨2, _, Tryz.ag_49, rfl, rfl⟩⟩, True.intro⟩
    · refine ⟨?_, hh.ext⟩
      clear hf hh
      unfold lkL lkH
      rw [hs]
      simp_all [tup]
  ·refine mc_e rfl fun Q1 => ?_
   refine o_alloc hf hh Tryz.ze_49 ?_; clear hf hh a; intro B7 a w hf hh
   refine ops_end ?_
   refine then_n ⟨⟨fun _ _ => (hh.less (.cons _ (List.Sublist.refl _))), trivial⟩, ?_⟩
   refine mc_e rfl fun Q1 => ?_
   refine o_call hf (en_ax ax) rfl rfl rfl (pax ax s _) ?_; clear hf a; intro v a w hR hf
   obtain ⟨rfl, hx⟩ := hR; replace hh := hh.more hx; clear hx
   refine ops_end ?_
   refine then_n ⟨⟨fun _ _ => (hh.less (.cons _ (List.Sublist.refl _))), trivial⟩, ?_⟩
   refine mc_e rfl fun Q1 => ?_
   refine o_store hf hh Tryz.sz_49 fun w hh => ?_
   refine ops_end ?_
   refine then_n ⟨⟨fun _ _ => (hh.less (.cons _ (List.Sublist.refl _))), trivial⟩, ?_⟩
   refine mc_end ?_
   refine then_n ?_
   refine sy_seq ?_
   refine sy_sq ?_
   refine o_v hf hh (yv_fieldAddr Tryz.fo_173_2 rfl) ?_; clear hf a; intro a hf
   refine o_v hf hh (y_ld Tryz.sc_4 rfl) ?_; clear hf a; intro a hf
   refine o_end ?_
   refine sy_cond hf rfl (fun hg6 => ?_) (fun hg6 => ?_)
   ·have hG6 := hg6; try simp only [gS] at hG6
    refine sy_sq ?_
    refine o_v hf hh (yv_fieldAddr Tryz.fo_49_1 rfl) ?_; clear hf a; intro a hf
    refine o_v hf hh (y_ld Tryz.sc_3 rfl) ?_; clear hf a; intro a hf
    refine o_v hf hh (yv_neg rfl (by omega) (by omega)) ?_; clear hf a; intro a hf
    refine o_v hf hh (yv_fieldAddr Tryz.fo_49_0 rfl) ?_; clear hf a; intro a hf
    refine o_v hf hh (y_ld Tryz.sc_3 rfl) ?_; clear hf a; intro a hf
    refine o_v hf hh (yv_neg rfl (by omega) (by omega)) ?_; clear hf a; intro a hf
    refine o_v hf hh (yv_buildS Tryz.bs_49 rfl rfl) ?_; clear hf a; intro a hf
    refine o_store hf hh Tryz.sz_49 fun w hh => ?_
    refine o_end ?_
    refine sy_ret ?_
    refine then_r ?_
    refine ret_c (vs := [.agg #[.int .i64 (-hiA ax s), .int .i64 (-loA ax s)]]) hf ?_ ?_
    · exact ⟨⟨B6, 0, _, _, _, rfl, by first | exact hh.at (i := 1) rfl | exact hh.at (i := 0) rfl, .inr ⟨2, _, Tryz.ag_49, rfl, rfl⟩⟩, True.intro⟩
    · refine ⟨?_, hh.ext⟩
      clear hf hh
      unfold lkL lkH
      rw [hs]
      simp_all [tup]
   ·have hG6 := hg6; try simp only [gS] at hG6
    refine sy_skip ?_
    refine then_n ?_
    refine sy_sq ?_
    refine o_v hf hh (y_lds Tryz.ag_49 rfl) ?_; clear hf a; intro a hf
    refine o_store hf hh Tryz.sz_49 fun w hh => ?_
    refine o_end ?_
    refine sy_ret ?_
    refine ret_c (vs := [.agg #[.int .i64 (loA ax s), .int .i64 (hiA ax s)]]) hf ?_ ?_
    · exact ⟨⟨B6, 0, _, _, _, rfl, by first | exact hh.at (i := 1) rfl | exact hh.at (i := 0) rfl, .inr ⟨2, _, Tryz.ag_49, rfl, rfl⟩⟩, True.intro⟩
    · refine ⟨?_, hh.ext⟩
      clear hf hh
      unfold lkL lkH
      rw [hs]
      simp_all [tup]
end Go.Proofs.YtccpgpnekoncoaaGreat

namespace Go.ChaM
open Go Go.Sy
section
variable {c : ChD} {σ τ : Nat → Nat} (hO : ChOk c) (hs : ∀ i, i < c.n.toNat → σ i < c.n.toNat ∧ τ (σ i) = i)
include hO hs
end
end Go.ChaM

namespace Go.ChaM
def MBd (s : Mst) (B : Int) : Prop := ∀ v m, s v = some m → -B ≤ m ∧ m ≤ B
theorem rlx_bd {s : Mst} {e : Ed} {B K : Int} (h : MBd s B) (hK : -K ≤ e.w ∧ e.w ≤ K) : MBd (rlx s e) (B + K) := by
  have hput : ∀ {n}, s e.u = some n → MBd (put s e.v (n + e.w)) (B + K) := fun {n} hn v m hm => by
    have h0 := h _ _ hn
    by_cases hv : v = e.v
    · subst hv; rw [put_self] at hm; cases hm; omega
    · rw [put_other _ _ hv] at hm
      have := h v m hm
      omega
  have hs : MBd s (B + K) := fun v m hm => by have := h v m hm; omega
  rcases rlx_cases s e with ⟨_, h⟩ | ⟨n, hu, ⟨_, h⟩ | ⟨o, _, ⟨_, h⟩ | ⟨_, h⟩⟩⟩
  · rw [h]; exact hs
  · rw [h]; exact hput hu
  · rw [h]; exact hput hu
  · rw [h]; exact hs
/-- Within one stage: what is not yet passed is as it was. -/
structure VB (b : M2) (y : Nat) (B : Int) (dn : Nat → Nat → Prop) : Prop where
  al : ∀ i k m, b i k = some m → -(6 * B) ≤ m ∧ m ≤ 6 * B
  un : ∀ i k m, ¬ dn i k → b i k = some m → -B ≤ m ∧ m ≤ B
  yy : ∀ m, b y y = some m → -(2 * B) ≤ m ∧ m ≤ 2 * B
  iy : ∀ i m, b i y = some m → -(3 * B) ≤ m ∧ m ≤ 3 * B
  yk : ∀ k m, b y k = some m → -(3 * B) ≤ m ∧ m ≤ 3 * B
theorem VB.step {b : M2} {y : Nat} {B : Int} {dn : Nat → Nat → Prop} (h : VB b y B dn) {i k : Nat} (hn : ¬ dn i k) : VB (via b y i k) y B fun i' k' => dn i' k' ∨ (i' = i ∧ k' = k) := by
  have keep : VB b y B fun i' k' => dn i' k' ∨ (i' = i ∧ k' = k) := ⟨h.al, fun i' k' m hd hm => h.un i' k' m (fun h' => hd (.inl h')) hm, h.yy, h.iy, h.yk⟩
  rcases via_cases b y i k with ⟨p, q, h1, h2, h3⟩ | ⟨h3, _⟩
  · rw [h3]
    rcases low_cases b i k (p + q) with ⟨h4, _⟩ | ⟨h4, _⟩
    · rw [h4]
      have a1 := h.iy i p h1
      have a2 := h.yk k q h2
      have b1 : k = y → -B ≤ p ∧ p ≤ B := fun e => h.un i k p hn (by rw [e]; exact h1)
      have b2 : i = y → -B ≤ q ∧ q ≤ B := fun e => h.un i k q hn (by rw [e]; exact h2)
      have c1 : i = y → -(2 * B) ≤ p ∧ p ≤ 2 * B := fun e => h.yy p (by rw [e] at h1; exact h1)
      have c2 : k = y → -(2 * B) ≤ q ∧ q ≤ 2 * B := fun e => h.yy q (by rw [e] at h2; exact h2)
      have get : ∀ {i' k' : Nat} {m : Int}, put2 b i k (p + q) i' k' = some m → (i' = i ∧ k' = k ∧ m = p + q) ∨ (¬ (i' = i ∧ k' = k) ∧ b i' k' = some m) := fun {i' k' m} hm => by
        unfold put2 at hm
        split at hm
        · rename_i e; cases hm; exact .inl ⟨e.1, e.2, rfl⟩
        · rename_i e; exact .inr ⟨e, hm⟩
      refine ⟨fun i' k' m hm => ?_, fun i' k' m hd hm => ?_, fun m hm => ?_, fun i' m hm => ?_, fun k' m hm => ?_⟩
      · rcases get hm with ⟨_, _, rfl⟩ | ⟨_, hm⟩
        · omega
        · exact h.al _ _ _ hm
      · rcases get hm with ⟨e1, e2, _⟩ | ⟨_, hm⟩
        · exact absurd (.inr ⟨e1, e2⟩) hd
        · exact h.un _ _ _ (fun h' => hd (.inl h')) hm
      · rcases get hm with ⟨e1, e2, rfl⟩ | ⟨_, hm⟩
        · have g1 := b1 e2.symm; have g2 := b2 e1.symm
          omega
        · exact h.yy _ hm
      · rcases get hm with ⟨_, e2, rfl⟩ | ⟨_, hm⟩
        · have g1 := b1 e2.symm; have g2 := c2 e2.symm
          omega
        · exact h.iy _ _ hm
      · rcases get hm with ⟨e1, _, rfl⟩ | ⟨_, hm⟩
        · have g1 := b2 e1.symm; have g2 := c1 e1.symm
          omega
        · exact h.yk _ _ hm
    · rw [h4]; exact keep
  · rw [h3]; exact keep
end Go.ChaM

namespace Go.ChaM
open Go Go.Sy Go.Proofs.YtccpgpnekoncoaaGreat
/-- A map from stations to bounds. -/
def encM (s : Mst) (p : Int) : Option Value := if p < 0 then none else (s p.toNat).map (Value.int .i64)
theorem encM_put (s : Mst) (v : Nat) (m : Int) : encM (put s v m) = putM (encM s) (v : Int) (.int .i64 m) := by
  funext p
  unfold encM putM put
  by_cases h : p < 0
  · rw [if_pos h, if_neg (by omega)]; exact (if_pos h).symm
  · rw [if_neg h]
    by_cases h2 : p = (v : Int)
    · rw [if_pos h2, if_pos (by omega)]; rfl
    · rw [if_neg h2, if_neg (by omega)]; exact (if_neg h).symm
theorem encM_cases (s : Mst) (v : Nat) : ∃ (x : Int) (b : Bool), ((encM s (v : Int)).getD (.int .i64 0)) = .int .i64 x ∧ (encM s (v : Int)).isSome = b ∧ (b = true → s v = some x) ∧ (b = false → s v = none ∧ x = 0) := by
  have e : encM s (v : Int) = (s v).map (Value.int .i64) := by unfold encM; rw [if_neg (by omega), Int.toNat_natCast]
  rw [e]
  cases h : s v with
  | none => exact ⟨0, false, rfl, rfl, (fun h => by cases h), fun _ => ⟨rfl, rfl⟩⟩
  | some x => exact ⟨x, true, rfl, rfl, fun _ => rfl, fun h => by cases h⟩
theorem encM_s0 (src : Nat) : putM (fun _ => none) (src : Int) (.int .i64 0) = encM (s0 src) := by
  funext p
  unfold encM putM s0
  by_cases h : p < 0
  · rw [if_pos h, if_neg (by omega)]
  · rw [if_neg h]
    by_cases h2 : p = (src : Int)
    · rw [if_pos h2, if_pos (by omega)]; rfl
    · rw [if_neg h2, if_neg (by omega)]; rfl
section
variable (c : ChD) (a : Bool) (out : Nat → Bool) (src : Nat)
def edT1 (u : Nat) : List Ed := ((lks c u).filter fun l => !out l.i).map (lkE c a u)
def st2 (r k : Nat) : Mst := rnd ((List.range k).flatMap (edT1 c a out)) (rnds (edL c a out) (s0 src) r)
def st3 (r k j : Nat) : Mst := rnd ((((lks c k).take j).filter fun l => !out l.i).map (lkE c a k)) (st2 c a out src r k)
theorem rnd_app (L L' : List Ed) (s : Mst) : rnd (L ++ L') s = rnd L' (rnd L s) := List.foldl_append
theorem st3_zero (r k : Nat) : st3 c a out src r k 0 = st2 c a out src r k := by unfold st3; rw [List.take_zero]; rfl
theorem st3_all {r k j : Nat} (h : j = (lks c k).length) : st3 c a out src r k j = st2 c a out src r (k + 1) := by
  subst h
  unfold st3
  rw [List.take_length]
  unfold st2
  rw [List.range_succ, List.flatMap_append, rnd_app, List.flatMap_cons, List.flatMap_nil, List.append_nil]
  rfl
variable {c a out src}
theorem st3_skip {r k j : Nat} {l : LkD} (h : (lks c k)[j]? = some l) (ho : out l.i = true) : st3 c a out src r k (j + 1) = st3 c a out src r k j := by
  unfold st3
  rw [List.take_add_one, h, List.filter_append]
  simp [ho]
theorem st3_step {r k j : Nat} {l : LkD} (h : (lks c k)[j]? = some l) (ho : out l.i = false) : st3 c a out src r k (j + 1) = rlx (st3 c a out src r k j) (lkE c a k l) := by
  unfold st3
  rw [List.take_add_one, h, List.filter_append, List.map_append, rnd_app]
  simp [ho, rnd]
theorem rlx_none {s : Mst} {e : Ed} (h : s e.u = none) : rlx s e = s := by unfold rlx; rw [h]
theorem rnd_none {u : Nat} : ∀ {L : List Ed} {s : Mst}, (∀ e ∈ L, e.u = u) → s u = none → rnd L s = s
  | [], _, _, _ => rfl
  | e :: L, s, h, hs => by
    show rnd L (rlx s e) = s
    rw [rlx_none (by rw [h e (.head _)]; exact hs)]
    exact rnd_none (fun e he => h e (.tail _ he)) hs
theorem st3_none {r k j : Nat} (h : st2 c a out src r k k = none) : st3 c a out src r k j = st2 c a out src r k := by
  unfold st3
  refine rnd_none (u := k) (fun e he => ?_) h
  obtain ⟨l, _, rfl⟩ := List.mem_map.1 he
  rfl
theorem lks_to (hO : ChOk c) {k : Nat} {l : LkD} (h : l ∈ lks c k) : l.to ≠ k ∧ l.to < c.n.toNat ∧ ∃ s, c.si[l.i]? = some s := by
  obtain ⟨s, hs, hl⟩ := lks_mem.1 h
  have ho := hO.s s (List.mem_of_getElem? hs)
  have h1 := ho.f0; have h2 := ho.f1; have h3 := ho.t0; have h4 := ho.t1; have h5 := ho.ne
  refine ⟨?_, ?_, s, hs⟩
  all_goals
    unfold lkOf at hl
    split at hl
    · rw [List.mem_singleton.1 hl]; dsimp only; omega
    · split at hl
      · rw [List.mem_singleton.1 hl]; dsimp only; omega
      · cases hl
theorem rlx_self {s : Mst} {e : Ed} {k : Nat} (h : e.v ≠ k) : rlx s e k = s k := by
  rcases rlx_cases s e with ⟨_, h1⟩ | ⟨n, _, ⟨_, h1⟩ | ⟨o, _, ⟨_, h1⟩ | ⟨_, h1⟩⟩⟩
  · rw [h1]
  · rw [h1, put_other _ _ (Ne.symm h)]
  · rw [h1, put_other _ _ (Ne.symm h)]
  · rw [h1]
theorem st3_at (hO : ChOk c) {r k : Nat} : ∀ j, j ≤ (lks c k).length → st3 c a out src r k j k = st2 c a out src r k k
  | 0, _ => by rw [st3_zero]
  | j + 1, h => by
    obtain ⟨l, hl⟩ := ex_of (l := lks c k) (i := j) (by omega)
    have ih := st3_at hO (r := r) (k := k) j (by omega)
    cases ho : out l.i with
    | true => rw [st3_skip hl ho]; exact ih
    | false =>
      rw [st3_step hl ho, rlx_self (by exact (lks_to hO (List.mem_of_getElem? hl)).1)]
      exact ih
theorem lkH_bd (hO : ChOk c) (a : Bool) {l : LkD} {s : SiD} (hs : c.si[l.i]? = some s) : (-1073741824 ≤ lkH c a l ∧ lkH c a l ≤ 1073741824) ∧ -1073741824 ≤ lkL c a l ∧ lkL c a l ≤ 1073741824 := by
  have ho := hO.s s (List.mem_of_getElem? hs)
  have h1 := ho.l a; have h2 := ho.m a; have h3 := ho.h a
  unfold lkH lkL
  rw [hs]
  dsimp only
  cases l.back
  · simp only [Bool.false_eq_true, if_false]; omega
  · simp only [if_true]; omega
theorem MBd.mono {s : Mst} {B B' : Int} (h : MBd s B) (hB : B ≤ B') : MBd s B' := fun v m hm => by have := h v m hm; omega
theorem rnd_bd {K : Int} (hK : 0 ≤ K) : ∀ {L : List Ed} {s : Mst} {B : Int}, MBd s B → (∀ e ∈ L, -K ≤ e.w ∧ e.w ≤ K) → MBd (rnd L s) (B + L.length * K)
  | [], s, B, h, _ => by simpa [rnd] using h
  | e :: L, s, B, h, hw => by
    have h1 := rlx_bd h (hw e (.head _))
    have h2 := rnd_bd hK (L := L) h1 fun x hx => hw x (.tail _ hx)
    show MBd (rnd L (rlx s e)) _
    refine h2.mono ?_
    rw [List.length_cons, Int.natCast_add, Int.add_mul]
    omega
theorem lks_len (c : ChD) (u : Nat) : (lks c u).length ≤ c.si.length := lkT_len c u _
theorem edT1_w (hO : ChOk c) {u : Nat} : ∀ e ∈ edT1 c a out u, -1073741824 ≤ e.w ∧ e.w ≤ 1073741824 := fun e he => by
  obtain ⟨l, hl, rfl⟩ := List.mem_map.1 he
  obtain ⟨_, _, s, hs⟩ := lks_to hO (List.mem_filter.1 hl).1
  exact (lkH_bd hO a hs).1
theorem flat_len (hO : ChOk c) : ∀ k, ((List.range k).flatMap (edT1 c a out)).length ≤ k * 10
  | 0 => by simp
  | k + 1 => by
    have ih := flat_len hO k
    have h1 : (edT1 c a out k).length ≤ 10 := by
      unfold edT1
      rw [List.length_map]
      have := List.length_filter_le (fun l : LkD => !out l.i) (lks c k)
      have := lks_len c k
      have := hO.l
      omega
    rw [List.range_succ, List.flatMap_append, List.length_append, List.flatMap_cons, List.flatMap_nil, List.append_nil]
    omega
theorem st_bd0 (hO : ChOk c) : ∀ r, MBd (rnds (edL c a out) (s0 src) r) (r * 85899345920)
  | 0 => fun v m hm => by
    have hm : s0 src v = some m := hm
    unfold s0 at hm
    split at hm
    · cases hm; simp
    · cases hm
  | r + 1 => by
    have ih := st_bd0 hO r
    have h1 := rnd_bd (K := 1073741824) (by omega) (L := edL c a out) ih fun e he => by
      obtain ⟨u, _, h⟩ := List.mem_flatMap.1 he
      exact edT1_w hO e h
    refine h1.mono ?_
    have h2 : (edL c a out).length ≤ c.n.toNat * 10 := flat_len hO c.n.toNat
    have h3 := hO.n2
    have h4 : ((edL c a out).length : Int) * 1073741824 ≤ 80 * 1073741824 := Int.mul_le_mul_of_nonneg_right (by omega) (by omega)
    rw [Int.natCast_add, Int.add_mul]
    omega
theorem st3_bd (hO : ChOk c) {r k j : Nat} (hr : r ≤ 8) (hk : k ≤ 8) : MBd (st3 c a out src r k j) 1099511627776 := by
  have h1 := rnd_bd (K := 1073741824) (by omega) (L := (List.range k).flatMap (edT1 c a out)) (st_bd0 hO r (a := a) (out := out) (src := src)) fun e he => by
    obtain ⟨u, _, h⟩ := List.mem_flatMap.1 he
    exact edT1_w hO e h
  have h2 := rnd_bd (K := 1073741824) (by omega) (L := (((lks c k).take j).filter fun l => !out l.i).map (lkE c a k)) h1 fun e he => by
    obtain ⟨l, hl, rfl⟩ := List.mem_map.1 he
    obtain ⟨_, _, s, hs⟩ := lks_to hO (List.mem_of_mem_take (List.mem_filter.1 hl).1)
    exact (lkH_bd hO a hs).1
  refine MBd.mono h2 ?_
  have h3 := flat_len (a := a) (out := out) hO k
  have h4 : ((((lks c k).take j).filter fun l => !out l.i).map (lkE c a k)).length ≤ 10 := by
    rw [List.length_map]
    have h5 := List.length_filter_le (fun l : LkD => !out l.i) ((lks c k).take j)
    have h6 := List.length_take_le j (lks c k)
    have h7 := lks_len c k
    have h8 := hO.l
    rw [List.length_take] at h5
    omega
  have h9 : (((List.range k).flatMap (edT1 c a out)).length : Int) * 1073741824 ≤ 80 * 1073741824 := Int.mul_le_mul_of_nonneg_right (by omega) (by omega)
  have h10 : (((((lks c k).take j).filter fun l => !out l.i).map (lkE c a k)).length : Int) * 1073741824 ≤ 10 * 1073741824 := Int.mul_le_mul_of_nonneg_right (by omega) (by omega)
  omega
end
/-- The rule for a number that is put. -/
theorem rlx_put {s : Mst} {e : Ed} {n : Int} (h : s e.u = some n) (hp : s e.v = none ∨ ∃ o, s e.v = some o ∧ n + e.w < o) : rlx s e = put s e.v (n + e.w) := by
  rcases rlx_cases s e with ⟨h1, _⟩ | ⟨n', h1, ⟨_, h2⟩ | ⟨o, h3, ⟨_, h2⟩ | ⟨h4, h2⟩⟩⟩
  · rw [h] at h1; cases h1
  · rw [h] at h1; cases h1; exact h2
  · rw [h] at h1; cases h1; exact h2
  · rw [h] at h1; cases h1
    rcases hp with h5 | ⟨o', h5, h6⟩
    · rw [h3] at h5; cases h5
    · rw [h3] at h5; cases h5; exact absurd h6 h4
theorem rlx_stay {s : Mst} {e : Ed} {n o : Int} (h : s e.u = some n) (ho : s e.v = some o) (hn : ¬ n + e.w < o) : rlx s e = s := by
  rcases rlx_cases s e with ⟨h1, _⟩ | ⟨n', h1, ⟨h3, _⟩ | ⟨o', h3, ⟨h4, _⟩ | ⟨_, h2⟩⟩⟩
  · rw [h] at h1; cases h1
  · rw [ho] at h3; cases h3
  · rw [h] at h1; cases h1; rw [ho] at h3; cases h3; exact absurd h4 hn
  · exact h2
theorem encM_get (s : Mst) (v : Nat) : (encM s (v : Int)).getD (.int .i64 0) = .int .i64 ((s v).getD 0) ∧ (encM s (v : Int)).isSome = (s v).isSome := by
  have e : encM s (v : Int) = (s v).map (Value.int .i64) := by unfold encM; rw [if_neg (by omega), Int.toNat_natCast]
  rw [e]
  cases s v with
  | none => exact ⟨rfl, rfl⟩
  | some x => exact ⟨rfl, rfl⟩
theorem bndV_bd {c : ChD} (hO : ChOk c) (a : Bool) (out : Nat → Bool) (x y : Nat) : -1099511627776 ≤ (bndV c a out x y).getD 0 ∧ (bndV c a out x y).getD 0 ≤ 1099511627776 := by
  have h := st_bd0 (a := a) (out := out) (src := x) hO c.n.toNat
  have h2 := hO.n2
  cases e : bndV c a out x y with
  | none => exact ⟨by decide, by decide⟩
  | some m =>
    have h3 := h y m e
    have h4 : ((c.n.toNat : Nat) : Int) * 85899345920 ≤ 8 * 85899345920 := Int.mul_le_mul_of_nonneg_right (by omega) (by omega)
    show _ ≤ m ∧ m ≤ _
    omega
end Go.ChaM

namespace Go.Proofs.YtccpgpnekoncoaaGreat
open Go Go.Sy Go.ChaM
set_option maxRecDepth 100000 in
theorem p50 (Bv : Nat) (c : ChD) (sa : Option Addr) (cp : Nat) (src : Nat) (ax : Bool) (outN : Nat) (out : Nat → Bool) (u : World) (hV : VAt u Bv c sa cp) (hO : ChOk c) (hs : src < c.n.toNat) (hout : ∀ i, i < c.si.length → outN.testBit i = out i) (hob : outN < 65536) : Calls Tryz.prog 96 #[ptr Bv 0, .int .i64 (src : Nat), axV ax, .int .u64 (outN : Nat)] u (Ret fun v w' => ∃ bm es cm, v = .map (some bm) ∧ MapI .i64 (encM (bndV c ax out src)) es ∧ Hp u [] [(bm, .map es cm)] w') := by
  have hV0 := hV
  obtain ⟨bm, es0, cm0, m, hb, hbm, hM0, hLks, hA⟩ := hV
  have hn1 := hO.n1; have hn2 := hO.n2; have hl10 := hO.l
  refine calls_of Tryz.func96 rfl rfl (fun a hf => ?_)
  have hh := Hp.init u []
  refine sy_sq ?_
  refine o_box hf hh ?_; clear hf hh a; intro B6 a w hf hh
  refine o_v hf hh (yv_assign rfl) ?_; clear hf a; intro a hf
  refine o_end ?_
  refine sy_sq ?_
  refine ops_makeMap hf hh (.inl rfl) rfl ?_; clear hf hh; clear a; intro B18 a w hf hh
  refine o_v hf hh (yv_move rfl) ?_; clear hf a; intro a hf
  refine ops_insI (i := 0) (p := (src : Int)) hf hh Tryz.mt_178 rfl rfl rfl rfl (MapI.nil _) (.inl rfl) fun es1 cm1 w hM hh => ?_
  rw [encM_s0] at hM
  refine o_v hf hh (yv_move rfl) ?_; clear hf a; intro a hf
  refine o_v hf hh (yv_assign rfl) ?_; clear hf a; intro a hf
  refine o_end ?_
  refine sy_seq ?_
  refine sy_sq ?_
  refine o_v hf hh (yv_move rfl) ?_; clear hf a; intro a hf
  refine o_v hf hh (yv_nilCheck rfl) ?_; clear hf a; intro a hf
  refine o_v hf hh (yv_fieldAddr Tryz.fo_121_0 rfl) ?_; clear hf a; intro a hf
  refine o_v hf hh (yv_fieldAddr Tryz.fo_57_0 rfl) ?_; clear hf a; intro a hf
  refine o_v hf hh (y_ld Tryz.sc_3 rfl) ?_; clear hf a; intro a hf
  refine o_v hf hh (yv_move rfl) ?_; clear hf a; intro a hf
  refine o_end ?_
  refine sy_block ?_
  refine sy_loopH (σ := Nat × Array MapEntry × Nat) [10, 11, 12, 14, 15, 16, 17, 26, 27, 28, 29, 30, 31, 32, 33, 34, 35, 36, 37, 38, 39, 40, 41, 42, 43, 44, 45, 46, 47, 48, 49, 50, 51, 52, 53, 54, 55, 56, 57, 58, 59, 60, 61, 62, 63, 64, 65, 66, 67, 68, 69, 70, 71, 72, 73, 74, 75, 76, 77, 78, 79, 80, 81, 82, 83, 84, 85, 86, 87, 88] (fun q => [(26, .int .i64 (q.1 : Nat))]) (fun q => fun w' => q.1 ≤ c.n.toNat ∧ MapI .i64 (encM (st2 c ax out src q.1 0)) q.2.1 ∧ Hp u [] [(B18, .map q.2.1 q.2.2), (B6, .cells (axC ax) 116)] w') (fun q => c.n.toNat - q.1) ((0, es1, cm1)) hf ?_ ?_ ?_
  · repeat' (first | exact True.intro | refine And.intro rfl ?_)
  · exact ⟨Nat.zero_le _, hM, hh⟩
  ·rintro q a w ⟨hr, hM, hh⟩ hf
   obtain ⟨r, es, cm⟩ := q; simp only at hr hM hh hf ⊢
   refine sy_sq ?_
   refine o_v hf hh (yv_bin rfl rfl rfl) ?_; clear hf a; intro a hf
   refine o_end ?_
   refine sy_seq ?_
   refine sy_cond hf rfl (fun hg2 => ?_) (fun hg2 => ?_)
   ·have hG2 := hg2; try simp only [gS] at hG2
    refine sy_skip ?_
    refine then_n ?_
    refine sy_seq ?_
    refine sy_block ?_
    refine sy_sq ?_
    refine o_v hf hh (yv_move rfl) ?_; clear hf a; intro a hf
    refine o_v hf hh (yv_nilCheck rfl) ?_; clear hf a; intro a hf
    refine o_v hf hh (yv_fieldAddr Tryz.fo_121_0 rfl) ?_; clear hf a; intro a hf
    refine o_v hf hh (yv_fieldAddr Tryz.fo_57_0 rfl) ?_; clear hf a; intro a hf
    refine o_v hf hh (y_ld Tryz.sc_3 rfl) ?_; clear hf a; intro a hf
    refine o_v hf hh (yv_move rfl) ?_; clear hf a; intro a hf
    refine o_end ?_
    refine sy_block ?_
    refine sy_loopH (σ := Nat × Array MapEntry × Nat) [10, 11, 12, 14, 15, 16, 17, 33, 34, 35, 36, 37, 38, 39, 40, 41, 42, 43, 44, 45, 46, 47, 48, 49, 50, 51, 52, 53, 54, 55, 56, 57, 58, 59, 60, 61, 62, 63, 64, 65, 66, 67, 68, 69, 70, 71, 72, 73, 74, 75, 76, 77, 78, 79, 80, 81, 82, 83, 84, 85, 86, 87] (fun q => [(33, .int .i64 (q.1 : Nat))]) (fun q => fun w' => q.1 ≤ c.n.toNat ∧ MapI .i64 (encM (st2 c ax out src r q.1)) q.2.1 ∧ Hp u [] [(B18, .map q.2.1 q.2.2), (B6, .cells (axC ax) 116)] w') (fun q => c.n.toNat - q.1) ((0, es, cm)) hf ?_ ?_ ?_
    · repeat' (first | exact True.intro | refine And.intro rfl ?_)
    · exact ⟨Nat.zero_le _, hM, hh⟩
    ·rintro q a w ⟨hk, hM, hh⟩ hf
     obtain ⟨k, es, cm⟩ := q; simp only at hk hM hh hf ⊢
     refine sy_sq ?_
     refine o_v hf hh (yv_bin rfl rfl rfl) ?_; clear hf a; intro a hf
     refine o_end ?_
     refine sy_seq ?_
     refine sy_cond hf rfl (fun hg4 => ?_) (fun hg4 => ?_)
     ·have hG4 := hg4; try simp only [gS] at hG4
      refine sy_skip ?_
      refine then_n ?_
      refine sy_seq ?_
      refine sy_block ?_
      refine sy_sq ?_
      refine o_v hf hh (yv_move rfl) ?_; clear hf a; intro a hf
      refine o_v hf hh (yv_assign rfl) ?_; clear hf a; intro a hf
      refine o_end ?_
      refine sy_seq ?_
      obtain ⟨x, b, e1, e2, hb1, hb0⟩ := encM_cases (st2 c ax out src r k) k
      refine sy_ops ?_
      refine o_v hf hh (yv_move rfl) ?_; clear hf a; intro a hf
      refine o_v hf hh (yv_move rfl) ?_; clear hf a; intro a hf
      refine o_v hf hh (yv_cast (yv_getI2 Tryz.mt_178 Tryz.ze_3 rfl rfl (fun _ h => h.at (i := 0) rfl) hM) (show _ = Value.tuple #[.int .i64 x, .bool b] by rw [e1, e2])) ?_; clear hf a; intro a hf
      refine o_v hf hh (yv_move rfl) ?_; clear hf a; intro a hf
      refine o_v hf hh (yv_extract rfl rfl) ?_; clear hf a; intro a hf
      refine o_v hf hh (yv_extract rfl rfl) ?_; clear hf a; intro a hf
      refine o_v hf hh (yv_assign rfl) ?_; clear hf a; intro a hf
      refine o_v hf hh (yv_assign rfl) ?_; clear hf a; intro a hf
      refine o_end ?_
      refine sy_seq ?_
      refine sy_sq ?_
      refine o_v hf hh (yv_move rfl) ?_; clear hf a; intro a hf
      refine o_v hf hh (yv_not rfl) ?_; clear hf a; intro a hf
      refine o_end ?_
      refine sy_cond hf rfl (fun hg8 => ?_) (fun hg8 => ?_)
      ·have hG8 := hg8; try simp only [gS] at hG8
       refine sy_exit ?_
       refine then_e ?_
       refine blk_e ?_
       refine then_n ?_
       refine sy_ops ?_
       refine o_v hf hh (y_add rfl rfl) ?_; clear hf a; intro a hf
       refine o_v hf hh (yv_move rfl) ?_; clear hf a; intro a hf
       refine ops_end ?_
       refine then_n ?_
       first
         | (have hjl : j = (lks c k).length := by rw [← hL]; omega
            exact ⟨(k + 1, es, cm), ⟨⟨by simp only; omega, by simp only; rw [← st3_all c ax out src hjl]; exact hM, hh⟩, (hf.head (by repeat' (first | exact True.intro | refine And.intro rfl ?_)) (Keep.cons rfl (Keep.cons rfl (Keep.cons rfl (Keep.cons rfl (Keep.cons rfl (Keep.cons rfl (Keep.cons rfl (Keep.cons rfl (Keep.cons rfl (Keep.cons rfl (Keep.cons rfl (Keep.cons rfl (Keep.cons rfl (Keep.cons rfl (Keep.cons rfl (Keep.app rfl (Keep.rm rfl Keep.base))))))))))))))))))⟩, by simp only; omega⟩)
         | (have hz := (hb0 (by assumption)).1
            exact ⟨(k + 1, es, cm), ⟨⟨by simp only; omega, by simp only; rw [← st3_all c ax out src (r := r) (k := k) rfl, st3_none hz]; exact hM, hh⟩, (hf.head (by repeat' (first | exact True.intro | refine And.intro rfl ?_)) (Keep.cons rfl (Keep.cons rfl (Keep.cons rfl (Keep.cons rfl (Keep.cons rfl (Keep.cons rfl (Keep.cons rfl (Keep.cons rfl (Keep.cons rfl (Keep.cons rfl (Keep.cons rfl (Keep.cons rfl (Keep.cons rfl (Keep.cons rfl (Keep.cons rfl (Keep.app rfl (Keep.rm rfl Keep.base))))))))))))))))))⟩, by simp only; omega⟩)
         | omega
      ·have hG8 := hg8; try simp only [gS] at hG8
       refine sy_skip ?_
       refine then_n ?_
       refine sy_seq ?_
       have hsx : st2 c ax out src r k k = some x := hb1 (by assumption)
       obtain ⟨sb, cb, hLv, hLt⟩ := hLks k (by omega)
       have hLl := lks_len c k
       obtain ⟨L, hL⟩ : ∃ z, z = lks c k := ⟨_, rfl⟩
       rw [← hL] at hLv hLt hLl
       refine sy_ops ?_
       refine o_v hf hh (yv_move rfl) ?_; clear hf a; intro a hf
       refine o_v hf hh (yv_nilCheck rfl) ?_; clear hf a; intro a hf
       refine o_v hf hh (yv_fieldAddr Tryz.fo_121_1 rfl) ?_; clear hf a; intro a hf
       refine o_v hf hh (y_ld Tryz.sc_119 rfl) ?_; clear hf a; intro a hf
       refine o_v hf hh (yv_move rfl) ?_; clear hf a; intro a hf
       refine o_v hf hh (yv_cast (yv_getI Tryz.mt_119 Tryz.ze_171 rfl rfl (fun _ h => h.old hbm) hM0) hLv) ?_; clear hf a; intro a hf
       refine o_v hf hh (yv_len Tryz.se_171 rfl) ?_; clear hf a; intro a hf
       refine o_v hf hh (yv_move rfl) ?_; clear hf a; intro a hf
       refine o_end ?_
       refine sy_block ?_
       refine sy_loopH (σ := Nat × Array MapEntry × Nat) [14, 15, 16, 17, 51, 52, 53, 54, 55, 56, 57, 58, 59, 60, 61, 62, 63, 64, 65, 66, 67, 68, 69, 70, 71, 72, 73, 74, 75, 76, 77, 78, 79, 80, 81, 82, 83, 84, 85, 86] (fun q => [(51, .int .i64 (q.1 : Nat))]) (fun q => fun w' => q.1 ≤ L.length ∧ MapI .i64 (encM (st3 c ax out src r k q.1)) q.2.1 ∧ Hp u [] [(B18, .map q.2.1 q.2.2), (B6, .cells (axC ax) 116)] w') (fun q => L.length - q.1) ((0, es, cm)) hf ?_ ?_ ?_
       · repeat' (first | exact True.intro | refine And.intro rfl ?_)
       · exact ⟨Nat.zero_le _, by rw [st3_zero]; exact hM, hh⟩
       ·rintro q a w ⟨hj, hM, hh⟩ hf
        obtain ⟨j, es, cm⟩ := q; simp only at hj hM hh hf ⊢
        refine sy_sq ?_
        refine o_v hf hh (yv_bin rfl rfl rfl) ?_; clear hf a; intro a hf
        refine o_end ?_
        refine sy_seq ?_
        refine sy_cond hf rfl (fun hg11 => ?_) (fun hg11 => ?_)
        ·have hG11 := hg11; try simp only [gS] at hG11
         refine sy_skip ?_
         refine then_n ?_
         refine sy_seq ?_
         refine sy_block ?_
         refine sy_seq ?_
         obtain ⟨l, hl⟩ := ex_of (l := L) (i := j) (by omega)
         obtain ⟨blk, off, cc, T, fr, esb, hb2, hc⟩ := hLt j l hl
         have hlk : (lks c k)[j]? = some l := by rw [← hL]; exact hl
         obtain ⟨hto1, hto2, s, hsi⟩ := lks_to hO (List.mem_of_getElem? hlk)
         have hil := len_of hsi
         have hlb := (lkH_bd hO ax hsi).1
         have h3k := st3_at (a := ax) (out := out) (src := src) (r := r) hO (k := k) j (by rw [← hL]; omega)
         rw [hsx] at h3k
         have hbd := st3_bd (a := ax) (out := out) (src := src) hO (r := r) (k := k) (j := j) (by omega) (by omega)
         have hxb := hbd k x h3k
         refine sy_ops ?_
         refine o_v hf hh (y_ix Tryz.se_171 (congrArg (fun z => some (Value.slice z L.length cb)) esb) rfl) ?_; clear hf a; intro a hf
         refine o_v hf hh (y_lds Tryz.ag_173 rfl) ?_; clear hf a; intro a hf
         refine o_alloc hf hh Tryz.ze_173 ?_; clear hf hh a; intro B14 a w hf hh
         refine o_store hf hh Tryz.sz_173 fun w hh => ?_
         refine o_end ?_
         refine sy_seq ?_
         refine sy_sq ?_
         refine o_v hf hh (yv_move rfl) ?_; clear hf a; intro a hf
         refine o_v hf hh (yv_fieldAddr Tryz.fo_173_0 rfl) ?_; clear hf a; intro a hf
         refine o_v hf hh (y_ld Tryz.sc_3 rfl) ?_; clear hf a; intro a hf
         refine o_v hf hh (yv_shrU rfl rfl (by omega)) ?_; clear hf a; intro a hf
         refine o_v hf hh (yv_and1U rfl rfl (by omega)) ?_; clear hf a; intro a hf
         refine o_v hf hh (yv_bitU rfl rfl) ?_; clear hf a; intro a hf
         refine o_end ?_
         refine sy_cond hf rfl (fun hg16 => ?_) (fun hg16 => ?_)
         ·have hG16 := hg16; try simp only [gS] at hG16
          refine sy_exit ?_
          refine then_e ?_
          refine blk_e ?_
          refine then_n ?_
          refine sy_ops ?_
          refine o_v hf hh (y_add rfl rfl) ?_; clear hf a; intro a hf
          refine o_v hf hh (yv_move rfl) ?_; clear hf a; intro a hf
          refine ops_end ?_
          refine then_n ?_
          first
            | (have ho1 : out l.i = true := by rw [← hout _ hil]; assumption
               exact ⟨(j + 1, es, cm), ⟨⟨by simp only; omega, by simp only; rw [st3_skip hlk ho1]; exact hM, hh.less (.cons _ (.refl _))⟩, (hf.head (by repeat' (first | exact True.intro | refine And.intro rfl ?_)) (Keep.cons rfl (Keep.cons rfl (Keep.cons rfl (Keep.cons rfl (Keep.cons rfl (Keep.cons rfl (Keep.cons rfl (Keep.cons rfl (Keep.cons rfl (Keep.cons rfl (Keep.cons rfl (Keep.cons rfl (Keep.app rfl (Keep.rm rfl Keep.base)))))))))))))))⟩, by simp only; omega⟩)
            | (have hput : rlx (st3 c ax out src r k j) (lkE c ax k l) = put (st3 c ax out src r k j) l.to (x + lkH c ax l) := by
                 refine rlx_put h3k ?_
                 first
                 | (have h9 : b2 = false := by assumption
                    exact .inl (hc0 h9).1)
                 | (have h9 : b2 = true := by assumption
                    exact .inr ⟨y, hc1 h9, by show x + lkH c ax l < y; omega⟩)
               exact ⟨(j + 1, es2, cm2), ⟨⟨by simp only; omega, by simp only; rw [st3_step hlk ho0, hput]; exact hM, hh.less (.cons _ (.refl _))⟩, (hf.head (by repeat' (first | exact True.intro | refine And.intro rfl ?_)) (Keep.cons rfl (Keep.cons rfl (Keep.cons rfl (Keep.cons rfl (Keep.cons rfl (Keep.cons rfl (Keep.cons rfl (Keep.cons rfl (Keep.cons rfl (Keep.cons rfl (Keep.cons rfl (Keep.cons rfl (Keep.app rfl (Keep.rm rfl Keep.base)))))))))))))))⟩, by simp only; omega⟩)
            | (have hst : rlx (st3 c ax out src r k j) (lkE c ax k l) = st3 c ax out src r k j := rlx_stay h3k (hc1 (by assumption)) (by show ¬ x + lkH c ax l < y; omega)
               exact ⟨(j + 1, es, cm), ⟨⟨by simp only; omega, by simp only; rw [st3_step hlk ho0, hst]; exact hM, hh.less (.cons _ (.refl _))⟩, (hf.head (by repeat' (first | exact True.intro | refine And.intro rfl ?_)) (Keep.cons rfl (Keep.cons rfl (Keep.cons rfl (Keep.cons rfl (Keep.cons rfl (Keep.cons rfl (Keep.cons rfl (Keep.cons rfl (Keep.cons rfl (Keep.cons rfl (Keep.cons rfl (Keep.cons rfl (Keep.app rfl (Keep.rm rfl Keep.base)))))))))))))))⟩, by simp only; omega⟩)
            | omega
         ·have hG16 := hg16; try simp only [gS] at hG16
          refine sy_skip ?_
          refine then_n ?_
          refine sy_sq ?_
          refine o_v hf hh (yv_move rfl) ?_; clear hf a; intro a hf
          refine o_v hf hh (yv_move rfl) ?_; clear hf a; intro a hf
          refine o_v hf hh (y_lds Tryz.ag_173 rfl) ?_; clear hf a; intro a hf
          refine o_v hf hh (y_lds Tryz.ag_116 rfl) ?_; clear hf a; intro a hf
          refine o_call hf Tryz.en_130 rfl rfl rfl (p68 Bv c sa cp l s ax _ (hV0.ext hh.ext) hO hsi) ?_; clear hf a; intro v a w hR hf
          obtain ⟨rfl, hx⟩ := hR; replace hh := hh.more hx; clear hx
          refine o_v hf hh (yv_fieldS Tryz.fs_49_1 rfl rfl) ?_; clear hf a; intro a hf
          refine o_v hf hh (y_add rfl rfl) ?_; clear hf a; intro a hf
          refine o_v hf hh (yv_assign rfl) ?_; clear hf a; intro a hf
          refine o_end ?_
          refine sy_seq ?_
          have ho0 : out l.i = false := by rw [← hout _ hil]; assumption
          obtain ⟨y, b2, e3, e4, hc1, hc0⟩ := encM_cases (st3 c ax out src r k j) l.to
          refine sy_ops ?_
          refine o_v hf hh (yv_move rfl) ?_; clear hf a; intro a hf
          refine o_v hf hh (yv_fieldAddr Tryz.fo_173_1 rfl) ?_; clear hf a; intro a hf
          refine o_v hf hh (y_ld Tryz.sc_3 rfl) ?_; clear hf a; intro a hf
          refine o_v hf hh (yv_cast (yv_getI2 Tryz.mt_178 Tryz.ze_3 rfl rfl (fun _ h => h.at (i := 1) rfl) hM) (show _ = Value.tuple #[.int .i64 y, .bool b2] by rw [e3, e4])) ?_; clear hf a; intro a hf
          refine o_v hf hh (yv_move rfl) ?_; clear hf a; intro a hf
          refine o_v hf hh (yv_extract rfl rfl) ?_; clear hf a; intro a hf
          refine o_v hf hh (yv_extract rfl rfl) ?_; clear hf a; intro a hf
          refine o_v hf hh (yv_assign rfl) ?_; clear hf a; intro a hf
          refine o_v hf hh (yv_assign rfl) ?_; clear hf a; intro a hf
          refine o_end ?_
          refine sy_sq ?_
          refine o_v hf hh (yv_move rfl) ?_; clear hf a; intro a hf
          refine o_v hf hh (yv_not rfl) ?_; clear hf a; intro a hf
          refine o_v hf hh (yv_move rfl) ?_; clear hf a; intro a hf
          refine guard_split hf (t := 77) rfl (fun hg21 => ?_) (fun hg21 => ?_)
          ·have hG21 := hg21; try simp only [gS] at hG21
           refine o_off hf ?_; clear hf a; intro a hf
           refine o_off hf ?_; clear hf a; intro a hf
           refine o_off hf ?_; clear hf a; intro a hf
           refine o_v hf hh (y_pt rfl rfl) ?_; clear hf a; intro a hf
           refine o_end ?_
           refine c_t hf ?_
           refine sy_ops ?_
           refine o_v hf hh (yv_move rfl) ?_; clear hf a; intro a hf
           refine o_v hf hh (yv_fieldAddr Tryz.fo_173_1 rfl) ?_; clear hf a; intro a hf
           refine o_v hf hh (y_ld Tryz.sc_3 rfl) ?_; clear hf a; intro a hf
           refine o_v hf hh (yv_move rfl) ?_; clear hf a; intro a hf
           refine ops_putI (i := 1) hf hh Tryz.mt_178 rfl rfl rfl rfl hM (.inl rfl) fun es2 cm2 w hM hh => ?_
           rw [← encM_put] at hM
           refine ops_end ?_
           refine blk_n ?_
           refine then_n ?_
           refine sy_ops ?_
           refine o_v hf hh (y_add rfl rfl) ?_; clear hf a; intro a hf
           refine o_v hf hh (yv_move rfl) ?_; clear hf a; intro a hf
           refine ops_end ?_
           refine then_n ?_
           first
             | (have ho1 : out l.i = true := by rw [← hout _ hil]; assumption
                exact ⟨(j + 1, es, cm), ⟨⟨by simp only; omega, by simp only; rw [st3_skip hlk ho1]; exact hM, hh.less (.cons _ (.refl _))⟩, (hf.head (by repeat' (first | exact True.intro | refine And.intro rfl ?_)) (Keep.cons rfl (Keep.cons rfl (Keep.cons rfl (Keep.cons rfl (Keep.cons rfl (Keep.cons rfl (Keep.cons rfl (Keep.cons rfl (Keep.cons rfl (Keep.cons rfl (Keep.cons rfl (Keep.cons rfl (Keep.cons rfl (Keep.cons rfl (Keep.cons rfl (Keep.cons rfl (Keep.cons rfl (Keep.cons rfl (Keep.cons rfl (Keep.cons rfl (Keep.cons rfl (Keep.cons rfl (Keep.cons rfl (Keep.cons rfl (Keep.cons rfl (Keep.cons rfl (Keep.cons rfl (Keep.cons rfl (Keep.cons rfl (Keep.cons rfl (Keep.cons rfl (Keep.cons rfl (Keep.cons rfl (Keep.cons rfl (Keep.cons rfl (Keep.cons rfl (Keep.cons rfl (Keep.cons rfl (Keep.cons rfl (Keep.cons rfl (Keep.app rfl (Keep.rm rfl Keep.base)))))))))))))))))))))))))))))))))))))))))))⟩, by simp only; omega⟩)
             | (have hput : rlx (st3 c ax out src r k j) (lkE c ax k l) = put (st3 c ax out src r k j) l.to (x + lkH c ax l) := by
                  refine rlx_put h3k ?_
                  first
                  | (have h9 : b2 = false := by assumption
                     exact .inl (hc0 h9).1)
                  | (have h9 : b2 = true := by assumption
                     exact .inr ⟨y, hc1 h9, by show x + lkH c ax l < y; omega⟩)
                exact ⟨(j + 1, es2, cm2), ⟨⟨by simp only; omega, by simp only; rw [st3_step hlk ho0, hput]; exact hM, hh.less (.cons _ (.refl _))⟩, (hf.head (by repeat' (first | exact True.intro | refine And.intro rfl ?_)) (Keep.cons rfl (Keep.cons rfl (Keep.cons rfl (Keep.cons rfl (Keep.cons rfl (Keep.cons rfl (Keep.cons rfl (Keep.cons rfl (Keep.cons rfl (Keep.cons rfl (Keep.cons rfl (Keep.cons rfl (Keep.cons rfl (Keep.cons rfl (Keep.cons rfl (Keep.cons rfl (Keep.cons rfl (Keep.cons rfl (Keep.cons rfl (Keep.cons rfl (Keep.cons rfl (Keep.cons rfl (Keep.cons rfl (Keep.cons rfl (Keep.cons rfl (Keep.cons rfl (Keep.cons rfl (Keep.cons rfl (Keep.cons rfl (Keep.cons rfl (Keep.cons rfl (Keep.cons rfl (Keep.cons rfl (Keep.cons rfl (Keep.cons rfl (Keep.cons rfl (Keep.cons rfl (Keep.cons rfl (Keep.cons rfl (Keep.cons rfl (Keep.app rfl (Keep.rm rfl Keep.base)))))))))))))))))))))))))))))))))))))))))))⟩, by simp only; omega⟩)
             | (have hst : rlx (st3 c ax out src r k j) (lkE c ax k l) = st3 c ax out src r k j := rlx_stay h3k (hc1 (by assumption)) (by show ¬ x + lkH c ax l < y; omega)
                exact ⟨(j + 1, es, cm), ⟨⟨by simp only; omega, by simp only; rw [st3_step hlk ho0, hst]; exact hM, hh.less (.cons _ (.refl _))⟩, (hf.head (by repeat' (first | exact True.intro | refine And.intro rfl ?_)) (Keep.cons rfl (Keep.cons rfl (Keep.cons rfl (Keep.cons rfl (Keep.cons rfl (Keep.cons rfl (Keep.cons rfl (Keep.cons rfl (Keep.cons rfl (Keep.cons rfl (Keep.cons rfl (Keep.cons rfl (Keep.cons rfl (Keep.cons rfl (Keep.cons rfl (Keep.cons rfl (Keep.cons rfl (Keep.cons rfl (Keep.cons rfl (Keep.cons rfl (Keep.cons rfl (Keep.cons rfl (Keep.cons rfl (Keep.cons rfl (Keep.cons rfl (Keep.cons rfl (Keep.cons rfl (Keep.cons rfl (Keep.cons rfl (Keep.cons rfl (Keep.cons rfl (Keep.cons rfl (Keep.cons rfl (Keep.cons rfl (Keep.cons rfl (Keep.cons rfl (Keep.cons rfl (Keep.cons rfl (Keep.cons rfl (Keep.cons rfl (Keep.app rfl (Keep.rm rfl Keep.base)))))))))))))))))))))))))))))))))))))))))))⟩, by simp only; omega⟩)
             | omega
          ·have hG21 := hg21; try simp only [gS] at hG21
           refine o_v hf hh (yv_move rfl) ?_; clear hf a; intro a hf
           refine o_v hf hh (yv_move rfl) ?_; clear hf a; intro a hf
           refine o_v hf hh (yv_bin rfl rfl rfl) ?_; clear hf a; intro a hf
           refine o_v hf hh (y_pf rfl rfl) ?_; clear hf a; intro a hf
           refine o_end ?_
           refine sy_cond hf rfl (fun hg23 => ?_) (fun hg23 => ?_)
           ·have hG23 := hg23; try simp only [gS] at hG23
            refine sy_ops ?_
            refine o_v hf hh (yv_move rfl) ?_; clear hf a; intro a hf
            refine o_v hf hh (yv_fieldAddr Tryz.fo_173_1 rfl) ?_; clear hf a; intro a hf
            refine o_v hf hh (y_ld Tryz.sc_3 rfl) ?_; clear hf a; intro a hf
            refine o_v hf hh (yv_move rfl) ?_; clear hf a; intro a hf
            refine ops_putI (i := 1) hf hh Tryz.mt_178 rfl rfl rfl rfl hM (.inl rfl) fun es2 cm2 w hM hh => ?_
            rw [← encM_put] at hM
            refine ops_end ?_
            refine blk_n ?_
            refine then_n ?_
            refine sy_ops ?_
            refine o_v hf hh (y_add rfl rfl) ?_; clear hf a; intro a hf
            refine o_v hf hh (yv_move rfl) ?_; clear hf a; intro a hf
            refine ops_end ?_
            refine then_n ?_
            first
              | (have ho1 : out l.i = true := by rw [← hout _ hil]; assumption
                 exact ⟨(j + 1, es, cm), ⟨⟨by simp only; omega, by simp only; rw [st3_skip hlk ho1]; exact hM, hh.less (.cons _ (.refl _))⟩, (hf.head (by repeat' (first | exact True.intro | refine And.intro rfl ?_)) (Keep.cons rfl (Keep.cons rfl (Keep.cons rfl (Keep.cons rfl (Keep.cons rfl (Keep.cons rfl (Keep.cons rfl (Keep.cons rfl (Keep.cons rfl (Keep.cons rfl (Keep.cons rfl (Keep.cons rfl (Keep.cons rfl (Keep.cons rfl (Keep.cons rfl (Keep.cons rfl (Keep.cons rfl (Keep.cons rfl (Keep.cons rfl (Keep.cons rfl (Keep.cons rfl (Keep.cons rfl (Keep.cons rfl (Keep.cons rfl (Keep.cons rfl (Keep.cons rfl (Keep.cons rfl (Keep.cons rfl (Keep.cons rfl (Keep.cons rfl (Keep.cons rfl (Keep.cons rfl (Keep.cons rfl (Keep.cons rfl (Keep.cons rfl (Keep.cons rfl (Keep.cons rfl (Keep.cons rfl (Keep.cons rfl (Keep.cons rfl (Keep.app rfl (Keep.rm rfl Keep.base)))))))))))))))))))))))))))))))))))))))))))⟩, by simp only; omega⟩)
              | (have hput : rlx (st3 c ax out src r k j) (lkE c ax k l) = put (st3 c ax out src r k j) l.to (x + lkH c ax l) := by
                   refine rlx_put h3k ?_
                   first
                   | (have h9 : b2 = false := by assumption
                      exact .inl (hc0 h9).1)
                   | (have h9 : b2 = true := by assumption
                      exact .inr ⟨y, hc1 h9, by show x + lkH c ax l < y; omega⟩)
                 exact ⟨(j + 1, es2, cm2), ⟨⟨by simp only; omega, by simp only; rw [st3_step hlk ho0, hput]; exact hM, hh.less (.cons _ (.refl _))⟩, (hf.head (by repeat' (first | exact True.intro | refine And.intro rfl ?_)) (Keep.cons rfl (Keep.cons rfl (Keep.cons rfl (Keep.cons rfl (Keep.cons rfl (Keep.cons rfl (Keep.cons rfl (Keep.cons rfl (Keep.cons rfl (Keep.cons rfl (Keep.cons rfl (Keep.cons rfl (Keep.cons rfl (Keep.cons rfl (Keep.cons rfl (Keep.cons rfl (Keep.cons rfl (Keep.cons rfl (Keep.cons rfl (Keep.cons rfl (Keep.cons rfl (Keep.cons rfl (Keep.cons rfl (Keep.cons rfl (Keep.cons rfl (Keep.cons rfl (Keep.cons rfl (Keep.cons rfl (Keep.cons rfl (Keep.cons rfl (Keep.cons rfl (Keep.cons rfl (Keep.cons rfl (Keep.cons rfl (Keep.cons rfl (Keep.cons rfl (Keep.cons rfl (Keep.cons rfl (Keep.cons rfl (Keep.cons rfl (Keep.app rfl (Keep.rm rfl Keep.base)))))))))))))))))))))))))))))))))))))))))))⟩, by simp only; omega⟩)
              | (have hst : rlx (st3 c ax out src r k j) (lkE c ax k l) = st3 c ax out src r k j := rlx_stay h3k (hc1 (by assumption)) (by show ¬ x + lkH c ax l < y; omega)
                 exact ⟨(j + 1, es, cm), ⟨⟨by simp only; omega, by simp only; rw [st3_step hlk ho0, hst]; exact hM, hh.less (.cons _ (.refl _))⟩, (hf.head (by repeat' (first | exact True.intro | refine And.intro rfl ?_)) (Keep.cons rfl (Keep.cons rfl (Keep.cons rfl (Keep.cons rfl (Keep.cons rfl (Keep.cons rfl (Keep.cons rfl (Keep.cons rfl (Keep.cons rfl (Keep.cons rfl (Keep.cons rfl (Keep.cons rfl (Keep.cons rfl (Keep.cons rfl (Keep.cons rfl (Keep.cons rfl (Keep.cons rfl (Keep.cons rfl (Keep.cons rfl (Keep.cons rfl (Keep.cons rfl (Keep.cons rfl (Keep.cons rfl (Keep.cons rfl (Keep.cons rfl (Keep.cons rfl (Keep.cons rfl (Keep.cons rfl (Keep.cons rfl (Keep.cons rfl (Keep.cons rfl (Keep.cons rfl (Keep.cons rfl (Keep.cons rfl (Keep.cons rfl (Keep.cons rfl (Keep.cons rfl (Keep.cons rfl (Keep.cons rfl (Keep.cons rfl (Keep.app rfl (Keep.rm rfl Keep.base)))))))))))))))))))))))))))))))))))))))))))⟩, by simp only; omega⟩)
              | omega
           ·have hG23 := hg23; try simp only [gS] at hG23
            refine sy_skip ?_
            refine blk_n ?_
            refine then_n ?_
            refine sy_ops ?_
            refine o_v hf hh (y_add rfl rfl) ?_; clear hf a; intro a hf
            refine o_v hf hh (yv_move rfl) ?_; clear hf a; intro a hf
            refine ops_end ?_
            refine then_n ?_
            first
              | (have ho1 : out l.i = true := by rw [← hout _ hil]; assumption
                 exact ⟨(j + 1, es, cm), ⟨⟨by simp only; omega, by simp only; rw [st3_skip hlk ho1]; exact hM, hh.less (.cons _ (.refl _))⟩, (hf.head (by repeat' (first | exact True.intro | refine And.intro rfl ?_)) (Keep.cons rfl (Keep.cons rfl (Keep.cons rfl (Keep.cons rfl (Keep.cons rfl (Keep.cons rfl (Keep.cons rfl (Keep.cons rfl (Keep.cons rfl (Keep.cons rfl (Keep.cons rfl (Keep.cons rfl (Keep.cons rfl (Keep.cons rfl (Keep.cons rfl (Keep.cons rfl (Keep.cons rfl (Keep.cons rfl (Keep.cons rfl (Keep.cons rfl (Keep.cons rfl (Keep.cons rfl (Keep.cons rfl (Keep.cons rfl (Keep.cons rfl (Keep.cons rfl (Keep.cons rfl (Keep.cons rfl (Keep.cons rfl (Keep.cons rfl (Keep.cons rfl (Keep.cons rfl (Keep.cons rfl (Keep.cons rfl (Keep.cons rfl (Keep.cons rfl (Keep.app rfl (Keep.rm rfl Keep.base)))))))))))))))))))))))))))))))))))))))⟩, by simp only; omega⟩)
              | (have hput : rlx (st3 c ax out src r k j) (lkE c ax k l) = put (st3 c ax out src r k j) l.to (x + lkH c ax l) := by
                   refine rlx_put h3k ?_
                   first
                   | (have h9 : b2 = false := by assumption
                      exact .inl (hc0 h9).1)
                   | (have h9 : b2 = true := by assumption
                      exact .inr ⟨y, hc1 h9, by show x + lkH c ax l < y; omega⟩)
                 exact ⟨(j + 1, es2, cm2), ⟨⟨by simp only; omega, by simp only; rw [st3_step hlk ho0, hput]; exact hM, hh.less (.cons _ (.refl _))⟩, (hf.head (by repeat' (first | exact True.intro | refine And.intro rfl ?_)) (Keep.cons rfl (Keep.cons rfl (Keep.cons rfl (Keep.cons rfl (Keep.cons rfl (Keep.cons rfl (Keep.cons rfl (Keep.cons rfl (Keep.cons rfl (Keep.cons rfl (Keep.cons rfl (Keep.cons rfl (Keep.cons rfl (Keep.cons rfl (Keep.cons rfl (Keep.cons rfl (Keep.cons rfl (Keep.cons rfl (Keep.cons rfl (Keep.cons rfl (Keep.cons rfl (Keep.cons rfl (Keep.cons rfl (Keep.cons rfl (Keep.cons rfl (Keep.cons rfl (Keep.cons rfl (Keep.cons rfl (Keep.cons rfl (Keep.cons rfl (Keep.cons rfl (Keep.cons rfl (Keep.cons rfl (Keep.cons rfl (Keep.cons rfl (Keep.cons rfl (Keep.app rfl (Keep.rm rfl Keep.base)))))))))))))))))))))))))))))))))))))))⟩, by simp only; omega⟩)
              | (have hst : rlx (st3 c ax out src r k j) (lkE c ax k l) = st3 c ax out src r k j := rlx_stay h3k (hc1 (by assumption)) (by show ¬ x + lkH c ax l < y; omega)
                 exact ⟨(j + 1, es, cm), ⟨⟨by simp only; omega, by simp only; rw [st3_step hlk ho0, hst]; exact hM, hh.less (.cons _ (.refl _))⟩, (hf.head (by repeat' (first | exact True.intro | refine And.intro rfl ?_)) (Keep.cons rfl (Keep.cons rfl (Keep.cons rfl (Keep.cons rfl (Keep.cons rfl (Keep.cons rfl (Keep.cons rfl (Keep.cons rfl (Keep.cons rfl (Keep.cons rfl (Keep.cons rfl (Keep.cons rfl (Keep.cons rfl (Keep.cons rfl (Keep.cons rfl (Keep.cons rfl (Keep.cons rfl (Keep.cons rfl (Keep.cons rfl (Keep.cons rfl (Keep.cons rfl (Keep.cons rfl (Keep.cons rfl (Keep.cons rfl (Keep.cons rfl (Keep.cons rfl (Keep.cons rfl (Keep.cons rfl (Keep.cons rfl (Keep.cons rfl (Keep.cons rfl (Keep.cons rfl (Keep.cons rfl (Keep.cons rfl (Keep.cons rfl (Keep.cons rfl (Keep.app rfl (Keep.rm rfl Keep.base)))))))))))))))))))))))))))))))))))))))⟩, by simp only; omega⟩)
              | omega
        ·have hG11 := hg11; try simp only [gS] at hG11
         refine sy_exit ?_
         refine then_e ?_
         refine then_e ?_
         refine blk_e ?_
         refine blk_n ?_
         refine then_n ?_
         refine sy_ops ?_
         refine o_v hf hh (y_add rfl rfl) ?_; clear hf a; intro a hf
         refine o_v hf hh (yv_move rfl) ?_; clear hf a; intro a hf
         refine ops_end ?_
         refine then_n ?_
         first
           | (have hjl : j = (lks c k).length := by rw [← hL]; omega
              exact ⟨(k + 1, es, cm), ⟨⟨by simp only; omega, by simp only; rw [← st3_all c ax out src hjl]; exact hM, hh⟩, (hf.head (by repeat' (first | exact True.intro | refine And.intro rfl ?_)) (Keep.cons rfl (Keep.cons rfl (Keep.cons rfl (Keep.app rfl (Keep.rm rfl (Keep.cons rfl (Keep.cons rfl (Keep.cons rfl (Keep.cons rfl (Keep.cons rfl (Keep.cons rfl (Keep.cons rfl (Keep.cons rfl (Keep.cons rfl (Keep.cons rfl (Keep.cons rfl (Keep.cons rfl (Keep.cons rfl (Keep.cons rfl (Keep.cons rfl (Keep.cons rfl (Keep.cons rfl (Keep.cons rfl (Keep.cons rfl (Keep.cons rfl (Keep.cons rfl (Keep.app rfl (Keep.rm rfl Keep.base)))))))))))))))))))))))))))))⟩, by simp only; omega⟩)
           | (have hz := (hb0 (by assumption)).1
              exact ⟨(k + 1, es, cm), ⟨⟨by simp only; omega, by simp only; rw [← st3_all c ax out src (r := r) (k := k) rfl, st3_none hz]; exact hM, hh⟩, (hf.head (by repeat' (first | exact True.intro | refine And.intro rfl ?_)) (Keep.cons rfl (Keep.cons rfl (Keep.cons rfl (Keep.app rfl (Keep.rm rfl (Keep.cons rfl (Keep.cons rfl (Keep.cons rfl (Keep.cons rfl (Keep.cons rfl (Keep.cons rfl (Keep.cons rfl (Keep.cons rfl (Keep.cons rfl (Keep.cons rfl (Keep.cons rfl (Keep.cons rfl (Keep.cons rfl (Keep.cons rfl (Keep.cons rfl (Keep.cons rfl (Keep.cons rfl (Keep.cons rfl (Keep.cons rfl (Keep.cons rfl (Keep.cons rfl (Keep.app rfl (Keep.rm rfl Keep.base)))))))))))))))))))))))))))))⟩, by simp only; omega⟩)
           | omega
     ·have hG4 := hg4; try simp only [gS] at hG4
      refine sy_exit ?_
      refine then_e ?_
      refine then_e ?_
      refine blk_e ?_
      refine blk_n ?_
      refine then_n ?_
      refine sy_ops ?_
      refine o_v hf hh (y_add rfl rfl) ?_; clear hf a; intro a hf
      refine o_v hf hh (yv_move rfl) ?_; clear hf a; intro a hf
      refine ops_end ?_
      refine then_n ?_
      obtain rfl : k = c.n.toNat := by omega
      exact ⟨(r + 1, es, cm), ⟨⟨by simp only; omega, hM, hh⟩, (hf.head (by repeat' (first | exact True.intro | refine And.intro rfl ?_)) (Keep.cons rfl (Keep.cons rfl (Keep.cons rfl (Keep.app rfl (Keep.rm rfl (Keep.cons rfl (Keep.cons rfl (Keep.cons rfl (Keep.cons rfl (Keep.cons rfl (Keep.cons rfl (Keep.cons rfl (Keep.app rfl (Keep.rm rfl Keep.base)))))))))))))))⟩, by simp only; omega⟩
   ·have hG2 := hg2; try simp only [gS] at hG2
    refine sy_exit ?_
    refine then_e ?_
    refine then_e ?_
    refine blk_e ?_
    refine then_n ?_
    refine sy_sq ?_
    refine o_v hf hh (yv_move rfl) ?_; clear hf a; intro a hf
    refine o_v hf hh (yv_assign rfl) ?_; clear hf a; intro a hf
    refine o_end ?_
    refine sy_ret ?_
    refine ret_r hf rfl rfl ?_
    obtain rfl : r = c.n.toNat := by omega
    exact ⟨B18, es, cm, rfl, hM, hh.less (.cons_cons _ (List.nil_sublist _))⟩
end Go.Proofs.YtccpgpnekoncoaaGreat

namespace Go.Proofs.YtccpgpnekoncoaaGreat
open Go Go.Sy Go.ChaM
theorem none_of {α : Type} {o : Option α} (h : o.isSome = false) : o = none := by cases o <;> simp_all
set_option maxRecDepth 100000 in
theorem p45 (Bv : Nat) (c : ChD) (sa : Option Addr) (cp : Nat) (x y : Nat) (ax : Bool) (outN : Nat) (out : Nat → Bool) (u : World) (hV : VAt u Bv c sa cp) (hO : ChOk c) (hx0 : x < c.n.toNat) (hy0 : y < c.n.toNat) (hout : ∀ i, i < c.si.length → outN.testBit i = out i) (hob : outN < 65536) : Calls Tryz.prog 64 #[ptr Bv 0, .int .i64 (x : Nat), .int .i64 (y : Nat), axV ax, .int .u64 (outN : Nat)] u (RetX (fun v w' => v = .agg #[.int .i64 (-(bndV c ax out y x).getD 0), .int .i64 ((bndV c ax out x y).getD 0)] ∧ bndV c ax out x y ≠ none ∧ Ext [] u w') (fun ch w' => bndV c ax out x y = none ∧ ch = misfit 12 ∧ Ext [] u w')) := by
  refine calls_ofX Tryz.func64 rfl rfl (fun a hf => ?_)
  have hh := Hp.init u []
  have hbx := bndV_bd hO ax out y x
  refine sy_sq ?_
  refine o_box hf hh ?_; clear hf hh a; intro B8 a w hf hh
  refine o_alloc hf hh Tryz.ze_49 ?_; clear hf hh a; intro B10 a w hf hh
  refine o_end ?_
  refine sy_sq ?_
  refine o_v hf hh (yv_move rfl) ?_; clear hf a; intro a hf
  refine o_v hf hh (yv_move rfl) ?_; clear hf a; intro a hf
  refine o_v hf hh (y_lds Tryz.ag_116 rfl) ?_; clear hf a; intro a hf
  refine o_v hf hh (yv_move rfl) ?_; clear hf a; intro a hf
  refine o_call hf Tryz.en_96 rfl rfl rfl (p50 Bv c sa cp x ax outN out _ (hV.ext hh.ext) hO hx0 hout hob) ?_; clear hf a; intro v a w hR hf
  obtain ⟨bm1, es1, cm1, rfl, hM1, hx⟩ := hR; replace hh := hh.join hx; clear hx
  refine o_v hf hh (yv_move rfl) ?_; clear hf a; intro a hf
  refine o_v hf hh (yv_cast (yv_getI2 Tryz.mt_178 Tryz.ze_3 rfl rfl (fun _ h => h.at (i := 0) rfl) hM1) (show _ = Value.tuple #[.int .i64 ((bndV c ax out x y).getD 0), .bool (bndV c ax out x y).isSome] by rw [(encM_get (bndV c ax out x) y).1, (encM_get (bndV c ax out x) y).2])) ?_; clear hf a; intro a hf
  refine o_v hf hh (yv_move rfl) ?_; clear hf a; intro a hf
  refine o_v hf hh (yv_extract rfl rfl) ?_; clear hf a; intro a hf
  refine o_v hf hh (yv_extract rfl rfl) ?_; clear hf a; intro a hf
  refine o_v hf hh (yv_assign rfl) ?_; clear hf a; intro a hf
  refine o_v hf hh (yv_assign rfl) ?_; clear hf a; intro a hf
  refine o_end ?_
  refine sy_sq ?_
  refine o_v hf hh (yv_move rfl) ?_; clear hf a; intro a hf
  refine o_callX hf Tryz.en_90 rfl rfl rfl (p60 (bndV c ax out x y).isSome 12 _) ?_ ?_
  ·clear hf a; intro v a w hR hf
   obtain ⟨hsm, hx⟩ := hR; replace hh := hh.more hx; clear hx
   refine o_end ?_
   refine sy_sq ?_
   refine o_v hf hh (yv_move rfl) ?_; clear hf a; intro a hf
   refine o_v hf hh (yv_move rfl) ?_; clear hf a; intro a hf
   refine o_v hf hh (y_lds Tryz.ag_116 rfl) ?_; clear hf a; intro a hf
   refine o_v hf hh (yv_move rfl) ?_; clear hf a; intro a hf
   refine o_call hf Tryz.en_96 rfl rfl rfl (p50 Bv c sa cp y ax outN out _ (hV.ext hh.ext) hO hy0 hout hob) ?_; clear hf a; intro v a w hR hf
   obtain ⟨bm2, es2, cm2, rfl, hM2, hx⟩ := hR; replace hh := hh.join hx; clear hx
   refine o_v hf hh (yv_move rfl) ?_; clear hf a; intro a hf
   refine o_v hf hh (yv_cast (yv_getI Tryz.mt_178 Tryz.ze_3 rfl rfl (fun _ h => h.at (i := 0) rfl) hM2) (encM_get (bndV c ax out y) x).1) ?_; clear hf a; intro a hf
   refine o_v hf hh (yv_neg rfl (by omega) (by omega)) ?_; clear hf a; intro a hf
   refine o_v hf hh (yv_move rfl) ?_; clear hf a; intro a hf
   refine o_v hf hh (yv_buildS Tryz.bs_49 rfl rfl) ?_; clear hf a; intro a hf
   refine o_store hf hh Tryz.sz_49 fun w hh => ?_
   refine o_end ?_
   refine sy_ret ?_
   refine ret_x ?_
   refine ret_c (vs := [.agg #[.int .i64 (-(bndV c ax out y x).getD 0), .int .i64 ((bndV c ax out x y).getD 0)]]) hf ?_ ?_
   · exact ⟨⟨B10, 0, _, _, _, rfl, hh.at (i := 2) rfl, .inr ⟨2, _, Tryz.ag_49, rfl, rfl⟩⟩, True.intro⟩
   · exact ⟨rfl, fun h => (by rw [h] at hsm; cases hsm), hh.ext⟩
  ·intro ch w hX hf
   obtain ⟨hsm, rfl, hx⟩ := hX; replace hh := hh.more hx; clear hx
   refine then_p ?_
   refine pan_x hf ?_
   exact ⟨none_of hsm, rfl, hh.ext⟩
end Go.Proofs.YtccpgpnekoncoaaGreat

namespace Go.Proofs.YtccpgpnekoncoaaGreat
open Go Go.Sy Go.ChaM
def cmpJ (p q : Int) : Int := if p < q then -1 else if q < p then 1 else 0
def cmpS (x y : Nat) : Int := if cmpJ (pc x : Nat) (pc y : Nat) = 0 then cmpJ (x : Nat) (y : Nat) else cmpJ (pc x : Nat) (pc y : Nat)
theorem cmpI_zero {p q : Int} : cmpJ p q = 0 ↔ p = q := by
  unfold cmpJ
  split
  · constructor
    · intro h; cases h
    · intro h; omega
  · split
    · constructor
      · intro h; cases h
      · intro h; omega
    · constructor
      · intro _; omega
      · intro _; rfl
theorem cmpI_neg {p q : Int} : cmpJ p q < 0 ↔ p < q := by
  unfold cmpJ
  split
  · constructor
    · intro _; assumption
    · intro _; decide
  · split
    · constructor
      · intro h; exact absurd h (by decide)
      · intro h; omega
    · constructor
      · intro h; exact absurd h (by decide)
      · intro h; omega
theorem cmpS_neg {x y : Nat} : cmpS x y < 0 ↔ Bet x y := by
  unfold cmpS Bet
  by_cases h : cmpJ (pc x : Nat) (pc y : Nat) = 0
  · rw [if_pos h, cmpI_neg]
    have := cmpI_zero.1 h
    omega
  · rw [if_neg h, cmpI_neg]
    have h2 : ¬ ((pc x : Nat) : Int) = (pc y : Nat) := fun e => h (cmpI_zero.2 e)
    omega
/-- The first of numbers that is not nought. -/
def orL : List Int → Int
  | [] => 0
  | x :: l => if x = 0 then orL l else x
theorem orL_drop {l : List Int} {i : Nat} {x : Int} (h : l[i]? = some x) : orL (l.drop i) = if x = 0 then orL (l.drop (i + 1)) else x := by
  rw [List.drop_eq_getElem_cons (len_of h)]
  have : l[i]'(len_of h) = x := (List.getElem?_eq_some_iff.1 h).2
  rw [this]; rfl
theorem c107 (x : Nat) (hx : x < 65536) (w : World) : Calls Tryz.prog 119 #[.int .u64 x] w (Ret fun v w' => v = .int .i64 (pc x) ∧ Ext [] w w') := by
  refine calls_of Tryz.func119 rfl rfl (fun a hf => ?_)
  have hh := Hp.init w []
  have k1 := sw1_le x hx; have k2 := sw2_le x hx; have k3 := sw3_le x hx; have k4 := sw4_le x hx; have k5 := sw5_le x hx; have k6 := sw6_le x hx
  have n0 := @Nat.and_le_left (x / 2) 6148914691236517205
  have n1 := @Nat.and_le_left (x) 6148914691236517205
  have n2 := @Nat.and_le_left (sw1 x / 4) 3689348814741910323
  have n3 := @Nat.and_le_left (sw1 x) 3689348814741910323
  refine sy_sq ?_
  refine o_v hf hh (yv_assign rfl) ?_; clear hf a; intro a hf
  refine o_end ?_
  refine sy_sq ?_
  refine o_v hf hh (yv_move rfl) ?_; clear hf a; intro a hf
  refine ops_v hf hh (yv_cast (yv_shrx (.inr rfl) rfl rfl (by omega) (by omega) (by omega)) (intv (b := (((x) / 2 : Nat) : Int)) (by simp [Nat.shiftRight_eq_div_pow]))) (.inl rfl) rfl rfl rfl ?_; clear hf; clear a; intro a hf
  refine ops_v hf hh (yv_cast (yv_and (.inr rfl) rfl rfl (by omega) (by simp only [IntKind.top]; omega) (by omega) (by simp only [IntKind.top]; omega)) (intv (b := ((x / 2 &&& 6148914691236517205 : Nat) : Int)) rfl)) (.inl rfl) rfl rfl rfl ?_; clear hf; clear a; intro a hf
  refine o_v hf hh (yv_move rfl) ?_; clear hf a; intro a hf
  refine ops_v hf hh (yv_cast (yv_and (.inr rfl) rfl rfl (by omega) (by simp only [IntKind.top]; omega) (by omega) (by simp only [IntKind.top]; omega)) (intv (b := ((x &&& 6148914691236517205 : Nat) : Int)) rfl)) (.inl rfl) rfl rfl rfl ?_; clear hf; clear a; intro a hf
  first | refine o_v hf hh (yv_addx (.inr rfl) rfl rfl (by omega) (by simp only [IntKind.top]; omega)) ?_; clear hf a; intro a hf | refine o_v hf hh (yv_bin rfl rfl rfl) ?_; clear hf a; intro a hf
  refine ops_v hf hh (yv_cast (yv_assign rfl) (intv (b := ((sw1 x : Nat) : Int)) rfl)) (.inl rfl) rfl rfl rfl ?_; clear hf; clear a; intro a hf
  refine o_end ?_
  refine sy_sq ?_
  refine o_v hf hh (yv_move rfl) ?_; clear hf a; intro a hf
  refine ops_v hf hh (yv_cast (yv_shrx (.inr rfl) rfl rfl (by omega) (by omega) (by omega)) (intv (b := ((((sw1 x)) / 4 : Nat) : Int)) (by simp [Nat.shiftRight_eq_div_pow]))) (.inl rfl) rfl rfl rfl ?_; clear hf; clear a; intro a hf
  refine ops_v hf hh (yv_cast (yv_and (.inr rfl) rfl rfl (by omega) (by simp only [IntKind.top]; omega) (by omega) (by simp only [IntKind.top]; omega)) (intv (b := ((sw1 x / 4 &&& 3689348814741910323 : Nat) : Int)) rfl)) (.inl rfl) rfl rfl rfl ?_; clear hf; clear a; intro a hf
  refine o_v hf hh (yv_move rfl) ?_; clear hf a; intro a hf
  refine ops_v hf hh (yv_cast (yv_and (.inr rfl) rfl rfl (by omega) (by simp only [IntKind.top]; omega) (by omega) (by simp only [IntKind.top]; omega)) (intv (b := ((sw1 x &&& 3689348814741910323 : Nat) : Int)) rfl)) (.inl rfl) rfl rfl rfl ?_; clear hf; clear a; intro a hf
  first | refine o_v hf hh (yv_addx (.inr rfl) rfl rfl (by omega) (by simp only [IntKind.top]; omega)) ?_; clear hf a; intro a hf | refine o_v hf hh (yv_bin rfl rfl rfl) ?_; clear hf a; intro a hf
  refine ops_v hf hh (yv_cast (yv_assign rfl) (intv (b := ((sw2 (sw1 x) : Nat) : Int)) rfl)) (.inl rfl) rfl rfl rfl ?_; clear hf; clear a; intro a hf
  refine o_end ?_
  refine sy_sq ?_
  refine o_v hf hh (yv_move rfl) ?_; clear hf a; intro a hf
  refine ops_v hf hh (yv_cast (yv_shrx (.inr rfl) rfl rfl (by omega) (by omega) (by omega)) (intv (b := ((((sw2 (sw1 x))) / 16 : Nat) : Int)) (by simp [Nat.shiftRight_eq_div_pow]))) (.inl rfl) rfl rfl rfl ?_; clear hf; clear a; intro a hf
  refine o_v hf hh (yv_move rfl) ?_; clear hf a; intro a hf
  first | refine o_v hf hh (yv_addx (.inr rfl) rfl rfl (by omega) (by simp only [IntKind.top]; omega)) ?_; clear hf a; intro a hf | refine o_v hf hh (yv_bin rfl rfl rfl) ?_; clear hf a; intro a hf
  first | refine o_v hf hh (yv_and (.inr rfl) rfl rfl (by omega) (by simp only [IntKind.top]; omega) (by omega) (by simp only [IntKind.top]; omega)) ?_; clear hf a; intro a hf | refine o_v hf hh (yv_bin rfl rfl rfl) ?_; clear hf a; intro a hf
  refine ops_v hf hh (yv_cast (yv_assign rfl) (intv (b := ((sw3 (sw2 (sw1 x)) : Nat) : Int)) rfl)) (.inl rfl) rfl rfl rfl ?_; clear hf; clear a; intro a hf
  refine o_end ?_
  refine sy_sq ?_
  refine o_v hf hh (yv_move rfl) ?_; clear hf a; intro a hf
  refine o_v hf hh (yv_move rfl) ?_; clear hf a; intro a hf
  refine ops_v hf hh (yv_cast (yv_shrx (.inr rfl) rfl rfl (by omega) (by omega) (by omega)) (intv (b := ((((sw3 (sw2 (sw1 x)))) / 256 : Nat) : Int)) (by simp [Nat.shiftRight_eq_div_pow]))) (.inl rfl) rfl rfl rfl ?_; clear hf; clear a; intro a hf
  first | refine o_v hf hh (yv_addx (.inr rfl) rfl rfl (by omega) (by simp only [IntKind.top]; omega)) ?_; clear hf a; intro a hf | refine o_v hf hh (yv_bin rfl rfl rfl) ?_; clear hf a; intro a hf
  refine ops_v hf hh (yv_cast (yv_assign rfl) (intv (b := ((sw4 (sw3 (sw2 (sw1 x))) : Nat) : Int)) rfl)) (.inl rfl) rfl rfl rfl ?_; clear hf; clear a; intro a hf
  refine o_end ?_
  refine sy_sq ?_
  refine o_v hf hh (yv_move rfl) ?_; clear hf a; intro a hf
  refine o_v hf hh (yv_move rfl) ?_; clear hf a; intro a hf
  refine ops_v hf hh (yv_cast (yv_shrx (.inr rfl) rfl rfl (by omega) (by omega) (by omega)) (intv (b := ((((sw4 (sw3 (sw2 (sw1 x))))) / 65536 : Nat) : Int)) (by simp [Nat.shiftRight_eq_div_pow]))) (.inl rfl) rfl rfl rfl ?_; clear hf; clear a; intro a hf
  first | refine o_v hf hh (yv_addx (.inr rfl) rfl rfl (by omega) (by simp only [IntKind.top]; omega)) ?_; clear hf a; intro a hf | refine o_v hf hh (yv_bin rfl rfl rfl) ?_; clear hf a; intro a hf
  refine ops_v hf hh (yv_cast (yv_assign rfl) (intv (b := ((sw5 (sw4 (sw3 (sw2 (sw1 x)))) : Nat) : Int)) rfl)) (.inl rfl) rfl rfl rfl ?_; clear hf; clear a; intro a hf
  refine o_end ?_
  refine sy_sq ?_
  refine o_v hf hh (yv_move rfl) ?_; clear hf a; intro a hf
  refine o_v hf hh (yv_move rfl) ?_; clear hf a; intro a hf
  refine ops_v hf hh (yv_cast (yv_shrx (.inr rfl) rfl rfl (by omega) (by omega) (by omega)) (intv (b := ((((sw5 (sw4 (sw3 (sw2 (sw1 x)))))) / 4294967296 : Nat) : Int)) (by simp [Nat.shiftRight_eq_div_pow]))) (.inl rfl) rfl rfl rfl ?_; clear hf; clear a; intro a hf
  first | refine o_v hf hh (yv_addx (.inr rfl) rfl rfl (by omega) (by simp only [IntKind.top]; omega)) ?_; clear hf a; intro a hf | refine o_v hf hh (yv_bin rfl rfl rfl) ?_; clear hf a; intro a hf
  refine ops_v hf hh (yv_cast (yv_assign rfl) (intv (b := ((sw6 (sw5 (sw4 (sw3 (sw2 (sw1 x))))) : Nat) : Int)) rfl)) (.inl rfl) rfl rfl rfl ?_; clear hf; clear a; intro a hf
  refine o_end ?_
  refine sy_sq ?_
  refine o_v hf hh (yv_move rfl) ?_; clear hf a; intro a hf
  first | refine o_v hf hh (yv_convx (.inl rfl) (by kernel_rfl) Tryz.un_3 rfl (by omega) (by simp only [IntKind.top]; omega)) ?_; clear hf a; intro a hf | refine o_v hf hh (yv_conv (by kernel_rfl) Tryz.un_3 rfl) ?_; clear hf a; intro a hf
  first | refine o_v hf hh (yv_and (.inl rfl) rfl rfl (by omega) (by simp only [IntKind.top]; omega) (by omega) (by simp only [IntKind.top]; omega)) ?_; clear hf a; intro a hf | refine o_v hf hh (yv_bin rfl rfl rfl) ?_; clear hf a; intro a hf
  refine o_v hf hh (yv_assign rfl) ?_; clear hf a; intro a hf
  refine o_end ?_
  refine sy_ret ?_
  refine ret_r hf rfl rfl ?_
  refine ⟨?_, hh.ext⟩
  rw [← sw_pc hx]
  exact intv (by unfold sw; rfl)
theorem c92 (x : Nat) (hx : x < 65536) (w : World) : Calls Tryz.prog 82 #[.int .u64 x] w (Ret fun v w' => v = .int .i64 (pc x) ∧ Ext [] w w') := by
  refine calls_of Tryz.func82 rfl rfl (fun a hf => ?_)
  have hh := Hp.init w []
  refine sy_sq ?_
  refine o_v hf hh (yv_assign rfl) ?_; clear hf a; intro a hf
  refine o_end ?_
  refine sy_seq ?_
  refine c_f hf ?_
  refine sy_skip ?_
  refine then_n ?_
  refine sy_sq ?_
  refine o_v hf hh (yv_move rfl) ?_; clear hf a; intro a hf
  refine o_call hf Tryz.en_119 rfl rfl rfl (c107 x hx _) ?_; clear hf a; intro v a w hR hf
  obtain ⟨rfl, hx⟩ := hR; replace hh := hh.more hx; clear hx
  refine o_v hf hh (yv_assign rfl) ?_; clear hf a; intro a hf
  refine o_end ?_
  refine sy_ret ?_
  refine ret_r hf rfl rfl ?_
  exact ⟨rfl, hh.ext⟩
theorem p77 (x : Nat) (hx : x < 65536) (w : World) : Calls Tryz.prog 156 #[.int .u64 (x : Nat)] w (Ret fun v w' => v = .int .i64 (pc x : Nat) ∧ Ext [] w w') := by
  refine calls_of Tryz.func156 rfl rfl (fun a hf => ?_)
  have hh := Hp.init w []
  refine sy_sq ?_
  refine o_v hf hh (yv_assign rfl) ?_; clear hf a; intro a hf
  refine o_end ?_
  refine sy_sq ?_
  refine o_v hf hh (yv_move rfl) ?_; clear hf a; intro a hf
  refine o_call hf Tryz.en_82 rfl rfl rfl (c92 x hx _) ?_; clear hf a; intro v a w hR hf
  obtain ⟨rfl, hx⟩ := hR; replace hh := hh.more hx; clear hx
  refine o_v hf hh (yv_assign rfl) ?_; clear hf a; intro a hf
  refine o_end ?_
  refine sy_ret ?_
  refine ret_r hf rfl rfl ?_
  exact ⟨rfl, hh.ext⟩
theorem p91 (n : Int) (w : World) : Calls Tryz.prog 121 #[.int .i64 n] w (Ret fun v w' => v = .bool false ∧ Ext [] w w') := by
  refine calls_of Tryz.func121 rfl rfl (fun a hf => ?_)
  have hh := Hp.init w []
  refine sy_sq ?_
  refine o_v hf hh (yv_assign rfl) ?_; clear hf a; intro a hf
  refine o_end ?_
  refine sy_sq ?_
  refine o_v hf hh (yv_move rfl) ?_; clear hf a; intro a hf
  refine o_v hf hh (yv_move rfl) ?_; clear hf a; intro a hf
  refine o_v hf hh (yv_bin rfl rfl rfl) ?_; clear hf a; intro a hf
  refine o_v hf hh (yv_assign rfl) ?_; clear hf a; intro a hf
  refine o_end ?_
  refine sy_ret ?_
  refine ret_r hf rfl rfl ?_
  exact ⟨by simp [tup], hh.ext⟩
theorem p93 (n : Int) (w : World) : Calls Tryz.prog 171 #[.int .u64 n] w (Ret fun v w' => v = .bool false ∧ Ext [] w w') := by
  refine calls_of Tryz.func171 rfl rfl (fun a hf => ?_)
  have hh := Hp.init w []
  refine sy_sq ?_
  refine o_v hf hh (yv_assign rfl) ?_; clear hf a; intro a hf
  refine o_end ?_
  refine sy_sq ?_
  refine o_v hf hh (yv_move rfl) ?_; clear hf a; intro a hf
  refine o_v hf hh (yv_move rfl) ?_; clear hf a; intro a hf
  refine o_v hf hh (yv_bin rfl rfl rfl) ?_; clear hf a; intro a hf
  refine o_v hf hh (yv_assign rfl) ?_; clear hf a; intro a hf
  refine o_end ?_
  refine sy_ret ?_
  refine ret_r hf rfl rfl ?_
  exact ⟨by simp [tup], hh.ext⟩
theorem p76 (p q : Int) (w : World) : Calls Tryz.prog 87 #[.int .i64 p, .int .i64 q] w (Ret fun v w' => v = .int .i64 (cmpJ p q) ∧ Ext [] w w') := by
  refine calls_of Tryz.func87 rfl rfl (fun a hf => ?_)
  have hh := Hp.init w []
  refine sy_sq ?_
  refine o_v hf hh (yv_assign rfl) ?_; clear hf a; intro a hf
  refine o_end ?_
  refine sy_sq ?_
  refine o_v hf hh (yv_move rfl) ?_; clear hf a; intro a hf
  refine o_call hf Tryz.en_121 rfl rfl rfl (p91 _ _) ?_; clear hf a; intro v a w hR hf
  obtain ⟨rfl, hx⟩ := hR; replace hh := hh.more hx; clear hx
  refine o_v hf hh (yv_assign rfl) ?_; clear hf a; intro a hf
  refine o_end ?_
  refine sy_sq ?_
  refine o_v hf hh (yv_move rfl) ?_; clear hf a; intro a hf
  refine o_call hf Tryz.en_121 rfl rfl rfl (p91 _ _) ?_; clear hf a; intro v a w hR hf
  obtain ⟨rfl, hx⟩ := hR; replace hh := hh.more hx; clear hx
  refine o_v hf hh (yv_assign rfl) ?_; clear hf a; intro a hf
  refine o_end ?_
  refine sy_seq ?_
  refine sy_sq ?_
  refine o_v hf hh (yv_move rfl) ?_; clear hf a; intro a hf
  refine o_end ?_
  refine c_f hf ?_
  refine sy_skip ?_
  refine then_n ?_
  refine sy_seq ?_
  refine sy_sq ?_
  refine o_v hf hh (yv_move rfl) ?_; clear hf a; intro a hf
  refine o_end ?_
  refine c_f hf ?_
  refine sy_skip ?_
  refine then_n ?_
  refine sy_seq ?_
  refine sy_sq ?_
  refine o_v hf hh (yv_move rfl) ?_; clear hf a; intro a hf
  refine o_v hf hh (yv_move rfl) ?_; clear hf a; intro a hf
  refine o_v hf hh (yv_bin rfl rfl rfl) ?_; clear hf a; intro a hf
  refine o_end ?_
  refine sy_cond hf rfl (fun hg4 => ?_) (fun hg4 => ?_)
  ·have hG4 := hg4; try simp only [gS] at hG4
   refine sy_sq ?_
   refine o_v hf hh (yv_assign rfl) ?_; clear hf a; intro a hf
   refine o_end ?_
   refine sy_ret ?_
   refine then_r ?_
   refine ret_r hf rfl rfl ?_
   exact ⟨by unfold cmpJ; rw [if_pos (by omega)]; rfl, hh.ext⟩
  ·have hG4 := hg4; try simp only [gS] at hG4
   refine sy_skip ?_
   refine then_n ?_
   refine sy_seq ?_
   refine sy_sq ?_
   refine o_v hf hh (yv_move rfl) ?_; clear hf a; intro a hf
   refine o_v hf hh (yv_move rfl) ?_; clear hf a; intro a hf
   refine o_v hf hh (yv_bin rfl rfl rfl) ?_; clear hf a; intro a hf
   refine o_end ?_
   refine sy_cond hf rfl (fun hg6 => ?_) (fun hg6 => ?_)
   ·have hG6 := hg6; try simp only [gS] at hG6
    refine sy_sq ?_
    refine o_v hf hh (yv_assign rfl) ?_; clear hf a; intro a hf
    refine o_end ?_
    refine sy_ret ?_
    refine then_r ?_
    refine ret_r hf rfl rfl ?_
    exact ⟨by unfold cmpJ; rw [if_neg (by omega), if_pos (by omega)]; rfl, hh.ext⟩
   ·have hG6 := hg6; try simp only [gS] at hG6
    refine sy_skip ?_
    refine then_n ?_
    refine sy_sq ?_
    refine o_v hf hh (yv_assign rfl) ?_; clear hf a; intro a hf
    refine o_end ?_
    refine sy_ret ?_
    refine ret_r hf rfl rfl ?_
    exact ⟨by unfold cmpJ; rw [if_neg (by omega), if_neg (by omega)]; rfl, hh.ext⟩
theorem p78 (p q : Int) (w : World) : Calls Tryz.prog 157 #[.int .u64 p, .int .u64 q] w (Ret fun v w' => v = .int .i64 (cmpJ p q) ∧ Ext [] w w') := by
  refine calls_of Tryz.func157 rfl rfl (fun a hf => ?_)
  have hh := Hp.init w []
  refine sy_sq ?_
  refine o_v hf hh (yv_assign rfl) ?_; clear hf a; intro a hf
  refine o_end ?_
  refine sy_sq ?_
  refine o_v hf hh (yv_move rfl) ?_; clear hf a; intro a hf
  refine o_call hf Tryz.en_171 rfl rfl rfl (p93 _ _) ?_; clear hf a; intro v a w hR hf
  obtain ⟨rfl, hx⟩ := hR; replace hh := hh.more hx; clear hx
  refine o_v hf hh (yv_assign rfl) ?_; clear hf a; intro a hf
  refine o_end ?_
  refine sy_sq ?_
  refine o_v hf hh (yv_move rfl) ?_; clear hf a; intro a hf
  refine o_call hf Tryz.en_171 rfl rfl rfl (p93 _ _) ?_; clear hf a; intro v a w hR hf
  obtain ⟨rfl, hx⟩ := hR; replace hh := hh.more hx; clear hx
  refine o_v hf hh (yv_assign rfl) ?_; clear hf a; intro a hf
  refine o_end ?_
  refine sy_seq ?_
  refine sy_sq ?_
  refine o_v hf hh (yv_move rfl) ?_; clear hf a; intro a hf
  refine o_end ?_
  refine c_f hf ?_
  refine sy_skip ?_
  refine then_n ?_
  refine sy_seq ?_
  refine sy_sq ?_
  refine o_v hf hh (yv_move rfl) ?_; clear hf a; intro a hf
  refine o_end ?_
  refine c_f hf ?_
  refine sy_skip ?_
  refine then_n ?_
  refine sy_seq ?_
  refine sy_sq ?_
  refine o_v hf hh (yv_move rfl) ?_; clear hf a; intro a hf
  refine o_v hf hh (yv_move rfl) ?_; clear hf a; intro a hf
  refine o_v hf hh (yv_bin rfl rfl rfl) ?_; clear hf a; intro a hf
  refine o_end ?_
  refine sy_cond hf rfl (fun hg4 => ?_) (fun hg4 => ?_)
  ·have hG4 := hg4; try simp only [gS] at hG4
   refine sy_sq ?_
   refine o_v hf hh (yv_assign rfl) ?_; clear hf a; intro a hf
   refine o_end ?_
   refine sy_ret ?_
   refine then_r ?_
   refine ret_r hf rfl rfl ?_
   exact ⟨by unfold cmpJ; rw [if_pos (by omega)]; rfl, hh.ext⟩
  ·have hG4 := hg4; try simp only [gS] at hG4
   refine sy_skip ?_
   refine then_n ?_
   refine sy_seq ?_
   refine sy_sq ?_
   refine o_v hf hh (yv_move rfl) ?_; clear hf a; intro a hf
   refine o_v hf hh (yv_move rfl) ?_; clear hf a; intro a hf
   refine o_v hf hh (yv_bin rfl rfl rfl) ?_; clear hf a; intro a hf
   refine o_end ?_
   refine sy_cond hf rfl (fun hg6 => ?_) (fun hg6 => ?_)
   ·have hG6 := hg6; try simp only [gS] at hG6
    refine sy_sq ?_
    refine o_v hf hh (yv_assign rfl) ?_; clear hf a; intro a hf
    refine o_end ?_
    refine sy_ret ?_
    refine then_r ?_
    refine ret_r hf rfl rfl ?_
    exact ⟨by unfold cmpJ; rw [if_neg (by omega), if_pos (by omega)]; rfl, hh.ext⟩
   ·have hG6 := hg6; try simp only [gS] at hG6
    refine sy_skip ?_
    refine then_n ?_
    refine sy_sq ?_
    refine o_v hf hh (yv_assign rfl) ?_; clear hf a; intro a hf
    refine o_end ?_
    refine sy_ret ?_
    refine ret_r hf rfl rfl ?_
    exact ⟨by unfold cmpJ; rw [if_neg (by omega), if_neg (by omega)]; rfl, hh.ext⟩
theorem p75 (l : List Int) (so : Option Addr) (n co : Nat) (u : World) (hA : IAt u so l) (hn : n = l.length) (hl : l.length ≤ 1000) : Calls Tryz.prog 155 #[.slice so n co] u (Ret fun v w' => v = .int .i64 (orL l) ∧ Ext [] u w') := by
  subst hn
  refine calls_of Tryz.func155 rfl rfl (fun a hf => ?_)
  have hh := Hp.init u []
  refine sy_sq ?_
  refine o_v hf hh (yv_assign rfl) ?_; clear hf a; intro a hf
  refine o_end ?_
  refine sy_sq ?_
  refine o_v hf hh (yv_assign rfl) ?_; clear hf a; intro a hf
  refine o_end ?_
  refine sy_seq ?_
  refine sy_sq ?_
  refine o_v hf hh (yv_move rfl) ?_; clear hf a; intro a hf
  refine o_v hf hh (yv_len Tryz.se_28 rfl) ?_; clear hf a; intro a hf
  refine o_v hf hh (yv_move rfl) ?_; clear hf a; intro a hf
  refine o_end ?_
  refine sy_block ?_
  refine sy_loopF (σ := Nat) [2, 5, 8, 9, 10, 11, 12, 13, 14, 15, 16] (fun i => [(8, .int .i64 i)]) (fun i => i ≤ l.length ∧ orL l = orL (l.drop i)) (fun i => l.length - i) (0) hf hh ?_ ?_ ?_
  · repeat' (first | exact True.intro | refine And.intro rfl ?_)
  · exact ⟨Nat.zero_le _, rfl⟩
  ·rintro i a w ⟨hi, hq⟩ hf hh
   refine sy_sq ?_
   refine o_v hf hh (yv_bin rfl rfl rfl) ?_; clear hf a; intro a hf
   refine o_end ?_
   refine sy_seq ?_
   refine sy_cond hf rfl (fun hg2 => ?_) (fun hg2 => ?_)
   ·have hG2 := hg2; try simp only [gS] at hG2
    refine sy_skip ?_
    refine then_n ?_
    refine sy_seq ?_
    refine sy_block ?_
    refine sy_seq ?_
    obtain ⟨x, hx⟩ := ex_of (l := l) (i := i) (by omega)
    obtain ⟨blk, off, cc, T, fr, e, hb, hc⟩ := hA i x hx; subst e
    refine sy_ops ?_
    refine o_v hf hh (y_ix Tryz.se_28 rfl rfl) ?_; clear hf a; intro a hf
    refine o_v hf hh (y_ld Tryz.sc_3 rfl) ?_; clear hf a; intro a hf
    refine o_v hf hh (yv_assign rfl) ?_; clear hf a; intro a hf
    refine o_end ?_
    refine sy_sq ?_
    refine o_v hf hh (yv_move rfl) ?_; clear hf a; intro a hf
    refine o_v hf hh (yv_move rfl) ?_; clear hf a; intro a hf
    refine o_v hf hh (yv_bin rfl rfl rfl) ?_; clear hf a; intro a hf
    refine o_end ?_
    refine sy_cond hf rfl (fun hg4 => ?_) (fun hg4 => ?_)
    ·have hG4 := hg4; try simp only [gS] at hG4
     refine sy_sq ?_
     refine o_v hf hh (yv_move rfl) ?_; clear hf a; intro a hf
     refine o_v hf hh (yv_assign rfl) ?_; clear hf a; intro a hf
     refine o_end ?_
     refine sy_ret ?_
     refine blk_r ?_
     refine then_r ?_
     refine then_r ?_
     refine blk_r ?_
     refine then_r ?_
     refine ret_r hf rfl rfl ?_
     exact ⟨congrArg (Value.int .i64) (by rw [hq, orL_drop hx, if_neg (by simp_all)]), hh.ext⟩
    ·have hG4 := hg4; try simp only [gS] at hG4
     refine sy_skip ?_
     refine blk_n ?_
     refine then_n ?_
     refine sy_ops ?_
     refine o_v hf hh (y_add rfl rfl) ?_; clear hf a; intro a hf
     refine o_v hf hh (yv_move rfl) ?_; clear hf a; intro a hf
     refine ops_end ?_
     refine then_n ?_
     refine ⟨i + 1, ⟨⟨by omega, by rw [hq, orL_drop hx, if_pos (by simp_all)]⟩, (hf.head (by repeat' (first | exact True.intro | refine And.intro rfl ?_)) (Keep.cons rfl (Keep.cons rfl (Keep.cons rfl (Keep.cons rfl (Keep.cons rfl (Keep.cons rfl (Keep.cons rfl (Keep.cons rfl (Keep.cons rfl (Keep.app rfl (Keep.rm rfl Keep.base)))))))))))), hh⟩, by omega⟩
   ·have hG2 := hg2; try simp only [gS] at hG2
    refine sy_exit ?_
    refine then_e ?_
    refine then_e ?_
    refine blk_e ?_
    refine then_n ?_
    refine sy_sq ?_
    refine o_v hf hh (yv_move rfl) ?_; clear hf a; intro a hf
    refine o_v hf hh (yv_assign rfl) ?_; clear hf a; intro a hf
    refine o_end ?_
    refine sy_ret ?_
    refine ret_r hf rfl rfl ?_
    exact ⟨congrArg (Value.int .i64) (by rw [hq, List.drop_eq_nil_of_le (by omega)]; rfl), hh.ext⟩
theorem p55 (x y : Nat) (hx : x < 65536) (hy : y < 65536) (u : World) : Calls Tryz.prog 133 #[.int .u64 (x : Nat), .int .u64 (y : Nat)] u (Ret fun v w' => v = .int .i64 (cmpS x y) ∧ Ext [] u w') := by
  refine calls_of Tryz.func133 rfl rfl (fun a hf => ?_)
  have hh := Hp.init u []
  refine sy_sq ?_
  refine o_v hf hh (yv_assign rfl) ?_; clear hf a; intro a hf
  refine o_end ?_
  refine sy_sq ?_
  refine o_v hf hh (yv_move rfl) ?_; clear hf a; intro a hf
  refine o_call hf Tryz.en_156 rfl rfl rfl (p77 x hx _) ?_; clear hf a; intro v a w hR hf
  obtain ⟨rfl, hx⟩ := hR; replace hh := hh.more hx; clear hx
  refine o_v hf hh (yv_move rfl) ?_; clear hf a; intro a hf
  refine o_call hf Tryz.en_156 rfl rfl rfl (p77 y hy _) ?_; clear hf a; intro v a w hR hf
  obtain ⟨rfl, hx⟩ := hR; replace hh := hh.more hx; clear hx
  refine o_call hf Tryz.en_87 rfl rfl rfl (p76 _ _ _) ?_; clear hf a; intro v a w hR hf
  obtain ⟨rfl, hx⟩ := hR; replace hh := hh.more hx; clear hx
  refine o_v hf hh (yv_move rfl) ?_; clear hf a; intro a hf
  refine o_v hf hh (yv_move rfl) ?_; clear hf a; intro a hf
  refine o_call hf Tryz.en_157 rfl rfl rfl (p78 _ _ _) ?_; clear hf a; intro v a w hR hf
  obtain ⟨rfl, hx⟩ := hR; replace hh := hh.more hx; clear hx
  refine ops_buildSl hf hh Tryz.bl_28_2 rfl rfl (.inl rfl) rfl ?_; clear hf hh; clear a; intro B13 a w hf hh
  refine o_call hf Tryz.en_155 rfl rfl rfl (p75 [cmpJ (pc x : Nat) (pc y : Nat), cmpJ (x : Nat) (y : Nat)] (some ⟨B13, 0, none⟩) 2 2 _ (fun i z hz => by
      match i, hz with
      | 0, hz => cases hz; exact ⟨B13, 0, _, _, _, rfl, hh.at (i := 0) rfl, rfl⟩
      | 1, hz => cases hz; exact ⟨B13, 0, _, _, _, rfl, hh.at (i := 0) rfl, rfl⟩
      | i + 2, hz => simp at hz) rfl (show 2 ≤ 1000 by decide)) ?_; clear hf a; intro v a w hR hf
  obtain ⟨rfl, hx⟩ := hR; replace hh := hh.more hx; clear hx
  refine o_v hf hh (yv_assign rfl) ?_; clear hf a; intro a hf
  refine o_end ?_
  refine sy_ret ?_
  refine ret_r hf rfl rfl ?_
  refine ⟨congrArg (Value.int .i64) ?_, hh.ext⟩
  show (if _ = 0 then (if _ = 0 then 0 else _) else _) = cmpS x y
  unfold cmpS
  split
  · split
    · simp_all
    · rfl
  · rfl
end Go.Proofs.YtccpgpnekoncoaaGreat

