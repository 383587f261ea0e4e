/- Lemmas, in order: Closed facts on the loaded program's types and functions, by program. Panics, and what becomes of them. The first that is not valid. Shares, terms and reports that are valid. Royalties that are valid. Royalties that are opened. Plain laws: all truths; the least of them, and the first that reaches it. Claims, counts and spans as they lie in memory. Claims. Commissions, counts, spans. Plain laws: pence that are left, one after the other, as the document shares them. Numbers in a block of one's own; parts in their row. Parts in their row. Pence are shared. What the exported functions tell, in terms of values. Split, Commission, Claims. Cards that are sold, one after the other.. -/
import Derived.Test.YtccpgpnekoncoaaQ6
import Derived.Test.YtccpgpnekoncoaaProg
namespace Go.Proofs.Ytccpgpnekoncoaa
open Go Go.Sy
theorem Try.follows : Try.prog.follows .mixedOrders = true := by kernel_rfl
theorem Try.ae_115 : arrayElem Try.prog 115 = some (4, 3, 1) := by kernel_rfl
theorem Try.ae_135 : arrayElem Try.prog 135 = some (2, 3, 1) := by kernel_rfl
theorem Try.ae_149 : arrayElem Try.prog 149 = some (4, 3, 1) := by kernel_rfl
theorem Try.ae_178 : arrayElem Try.prog 178 = some (4, 111, 1) := by kernel_rfl
theorem Try.ae_24 : arrayElem Try.prog 24 = some (2, 23, 3) := by kernel_rfl
theorem Try.ae_254 : arrayElem Try.prog 254 = some (5, 253, 1) := by kernel_rfl
theorem Try.ag_115 : aggB Try.prog 115 = some 4 := by kernel_rfl
theorem Try.ag_117 : aggB Try.prog 117 = some 5 := by kernel_rfl
theorem Try.ag_135 : aggB Try.prog 135 = some 2 := by kernel_rfl
theorem Try.ag_149 : aggB Try.prog 149 = some 4 := by kernel_rfl
theorem Try.ag_156 : aggB Try.prog 156 = some 5 := by kernel_rfl
theorem Try.ag_159 : aggB Try.prog 159 = some 2 := by kernel_rfl
theorem Try.ag_178 : aggB Try.prog 178 = some 4 := by kernel_rfl
theorem Try.ag_204 : aggB Try.prog 204 = some 5 := by kernel_rfl
theorem Try.ag_215 : aggB Try.prog 215 = some 2 := by kernel_rfl
theorem Try.ag_23 : aggB Try.prog 23 = some 3 := by kernel_rfl
theorem Try.ag_24 : aggB Try.prog 24 = some 6 := by kernel_rfl
theorem Try.ag_254 : aggB Try.prog 254 = some 5 := by kernel_rfl
theorem Try.ag_30 : aggB Try.prog 30 = some 2 := by kernel_rfl
theorem Try.ag_32 : aggB Try.prog 32 = some 6 := by kernel_rfl
theorem Try.ag_36 : aggB Try.prog 36 = some 2 := by kernel_rfl
theorem Try.ag_38 : aggB Try.prog 38 = some 10 := by kernel_rfl
theorem Try.ag_41 : aggB Try.prog 41 = some 3 := by kernel_rfl
theorem Try.ag_49 : aggB Try.prog 49 = some 4 := by kernel_rfl
theorem Try.ag_52 : aggB Try.prog 52 = some 5 := by kernel_rfl
theorem Try.ag_64 : aggB Try.prog 64 = some 8 := by kernel_rfl
theorem Try.ag_66 : aggB Try.prog 66 = some 17 := by kernel_rfl
theorem Try.ag_71 : aggB Try.prog 71 = some 4 := by kernel_rfl
theorem Try.ag_73 : aggB Try.prog 73 = some 9 := by kernel_rfl
theorem Try.ag_77 : aggB Try.prog 77 = some 4 := by kernel_rfl
theorem Try.ba_115 : arrayB Try.prog 115 = some ([(.int .i64 0), (.int .i64 0), (.int .i64 0), (.int .i64 0)], 1) := by kernel_rfl
theorem Try.ba_135 : arrayB Try.prog 135 = some ([(.int .i64 0), (.int .i64 0)], 1) := by kernel_rfl
theorem Try.ba_149 : arrayB Try.prog 149 = some ([(.int .i64 0), (.int .i64 0), (.int .i64 0), (.int .i64 0)], 1) := by kernel_rfl
theorem Try.ba_254 : arrayB Try.prog 254 = some ([.nilIface, .nilIface, .nilIface, .nilIface, .nilIface], 1) := by kernel_rfl
theorem Try.bl_106_1 : sliceB Try.prog 106 1 = some (111, 1, [(.int .u64 0)]) := by kernel_rfl
theorem Try.bl_198_1 : sliceB Try.prog 198 1 = some (135, 2, [(.int .i64 0), (.int .i64 0)]) := by kernel_rfl
theorem Try.bl_199_1 : sliceB Try.prog 199 1 = some (77, 4, [(.int .i64 0), (.int .i64 0), (.int .i64 0), (.int .i64 0)]) := by kernel_rfl
theorem Try.bl_211_1 : sliceB Try.prog 211 1 = some (159, 2, [(.int .i64 0), (.int .i64 0)]) := by kernel_rfl
theorem Try.bl_211_2 : sliceB Try.prog 211 2 = some (159, 2, [(.int .i64 0), (.int .i64 0), (.int .i64 0), (.int .i64 0)]) := by kernel_rfl
theorem Try.bl_239_4 : sliceB Try.prog 239 4 = some (241, 1, [.nilFunc, .nilFunc, .nilFunc, .nilFunc]) := by kernel_rfl
theorem Try.bl_25_1 : sliceB Try.prog 25 1 = some (3, 1, [(.int .i64 0)]) := by kernel_rfl
theorem Try.bl_25_2 : sliceB Try.prog 25 2 = some (3, 1, [(.int .i64 0), (.int .i64 0)]) := by kernel_rfl
theorem Try.bl_25_3 : sliceB Try.prog 25 3 = some (3, 1, [(.int .i64 0), (.int .i64 0), (.int .i64 0)]) := by kernel_rfl
theorem Try.bl_25_4 : sliceB Try.prog 25 4 = some (3, 1, [(.int .i64 0), (.int .i64 0), (.int .i64 0), (.int .i64 0)]) := by kernel_rfl
theorem Try.bl_34_3 : sliceB Try.prog 34 3 = some (32, 6, [(.int .i64 0), (.slice none 0 0), (.int .i64 0), (.int .i64 0), (.int .i64 0), (.int .i64 0), (.int .i64 0), (.slice none 0 0), (.int .i64 0), (.int .i64 0), (.int .i64 0), (.int .i64 0), (.int .i64 0), (.slice none 0 0), (.int .i64 0), (.int .i64 0), (.int .i64 0), (.int .i64 0)]) := by kernel_rfl
theorem Try.bl_39_1 : sliceB Try.prog 39 1 = some (36, 2, [(.int .i64 0), (.int .i64 0)]) := by kernel_rfl
theorem Try.bl_39_2 : sliceB Try.prog 39 2 = some (36, 2, [(.int .i64 0), (.int .i64 0), (.int .i64 0), (.int .i64 0)]) := by kernel_rfl
theorem Try.bl_47_1 : sliceB Try.prog 47 1 = some (25, 1, [(.slice none 0 0)]) := by kernel_rfl
theorem Try.bl_50_2 : sliceB Try.prog 50 2 = some (49, 4, [(.int .i64 0), (.int .i64 0), (.int .i64 0), (.int .i64 0), (.int .i64 0), (.int .i64 0), (.int .i64 0), (.int .i64 0)]) := by kernel_rfl
theorem Try.bl_62_0 : sliceB Try.prog 62 0 = some (73, 9, []) := by kernel_rfl
theorem Try.bl_62_2 : sliceB Try.prog 62 2 = some (73, 9, [(.int .i64 0), (.int .i64 0), (.int .i64 0), (.int .i64 0), (.int .i64 0), (.int .i64 0), (.int .i64 0), (.int .i64 0), (.int .i64 0), (.int .i64 0), (.int .i64 0), (.int .i64 0), (.int .i64 0), (.int .i64 0), (.int .i64 0), (.int .i64 0), (.int .i64 0), (.int .i64 0)]) := by kernel_rfl
theorem Try.bs_117 : structB Try.prog 117 = some ([(.int .i64 0), (.int .i64 0), (.int .i64 0), (.int .i64 0), (.int .i64 0)], [(0, 1), (1, 4)]) := by kernel_rfl
theorem Try.bs_123 : structB Try.prog 123 = some ([(.slice none 0 0), (.slice none 0 0), (.slice none 0 0), (.slice none 0 0), (.slice none 0 0)], [(0, 5)]) := by kernel_rfl
theorem Try.bs_137 : structB Try.prog 137 = some ([(.int .i64 0), (.int .i64 0), (.int .i64 0), (.int .i64 0), (.int .i64 0), (.int .i64 0), (.int .i64 0), (.slice none 0 0), (.int .i64 0), (.int .i64 0)], [(0, 8), (8, 2)]) := by kernel_rfl
theorem Try.bs_148 : structB Try.prog 148 = some ([(.int .i64 0), (.int .i64 0), (.int .i64 0), (.int .i64 0), (.int .i64 0), (.int .i64 0), (.int .i64 0), (.slice none 0 0), (.int .i64 0), (.int .i64 0), (.int .i64 0), (.int .i64 0), (.int .i64 0), (.int .i64 0), (.int .i64 0), (.int .i64 0), (.int .i64 0), (.map none)], [(0, 17), (17, 1)]) := by kernel_rfl
theorem Try.bs_156 : structB Try.prog 156 = some ([(.pointer none), (.int .i64 0), (.int .i64 0), (.int .i64 0), (.int .i64 0)], [(0, 1), (1, 4)]) := by kernel_rfl
theorem Try.bs_159 : structB Try.prog 159 = some ([(.int .i64 0), (.int .i64 0)], [(0, 1), (1, 1)]) := by kernel_rfl
theorem Try.bs_169 : structB Try.prog 169 = some ([(.int .i64 0)], [(0, 1)]) := by kernel_rfl
theorem Try.bs_174 : structB Try.prog 174 = some ([(.int .i64 0)], [(0, 1)]) := by kernel_rfl
theorem Try.bs_184 : structB Try.prog 184 = some ([(.slice none 0 0), .nilFunc], [(0, 1), (1, 1)]) := by kernel_rfl
theorem Try.bs_190 : structB Try.prog 190 = some ([(.int .i64 0)], [(0, 1)]) := by kernel_rfl
theorem Try.bs_204 : structB Try.prog 204 = some ([(.int .i64 0), (.int .i64 0), (.int .i64 0), (.int .i64 0), (.int .i64 0)], [(0, 1), (1, 4)]) := by kernel_rfl
theorem Try.bs_215 : structB Try.prog 215 = some ([(.int .i64 0), (.int .i64 0)], [(0, 1), (1, 1)]) := by kernel_rfl
theorem Try.bs_222 : structB Try.prog 222 = some ([.nilFunc, .nilFunc], [(0, 1), (1, 1)]) := by kernel_rfl
theorem Try.bs_235 : structB Try.prog 235 = some ([(.int .i64 0)], [(0, 1)]) := by kernel_rfl
theorem Try.bs_237 : structB Try.prog 237 = some ([(.int .i64 0), (.int .i64 0)], [(0, 1), (1, 1)]) := by kernel_rfl
theorem Try.bs_247 : structB Try.prog 247 = some ([], []) := by kernel_rfl
theorem Try.bs_248 : structB Try.prog 248 = some ([], []) := by kernel_rfl
theorem Try.bs_249 : structB Try.prog 249 = some ([], []) := by kernel_rfl
theorem Try.bs_250 : structB Try.prog 250 = some ([], []) := by kernel_rfl
theorem Try.bs_251 : structB Try.prog 251 = some ([], []) := by kernel_rfl
theorem Try.bs_30 : structB Try.prog 30 = some ([(.slice none 0 0), (.int .i64 0)], [(0, 1), (1, 1)]) := by kernel_rfl
theorem Try.bs_32 : structB Try.prog 32 = some ([(.int .i64 0), (.slice none 0 0), (.int .i64 0), (.int .i64 0), (.int .i64 0), (.int .i64 0)], [(0, 1), (1, 2), (3, 1), (4, 1), (5, 1)]) := by kernel_rfl
theorem Try.bs_36 : structB Try.prog 36 = some ([(.int .i64 0), (.int .i64 0)], [(0, 1), (1, 1)]) := by kernel_rfl
theorem Try.bs_38 : structB Try.prog 38 = some ([(.int .i64 0), (.int .i64 0), (.int .i64 0), (.int .i64 0), (.int .i64 0), (.int .i64 0), (.slice none 0 0), (.int .i64 0), (.int .i64 0), (.slice none 0 0)], [(0, 1), (1, 1), (2, 2), (4, 1), (5, 1), (6, 1), (7, 1), (8, 1), (9, 1)]) := by kernel_rfl
theorem Try.bs_41 : structB Try.prog 41 = some ([(.int .i64 0), (.int .i64 0), (.slice none 0 0)], [(0, 1), (1, 1), (2, 1)]) := by kernel_rfl
theorem Try.bs_49 : structB Try.prog 49 = some ([(.int .i64 0), (.int .i64 0), (.int .i64 0), (.int .i64 0)], [(0, 1), (1, 1), (2, 1), (3, 1)]) := by kernel_rfl
theorem Try.bs_52 : structB Try.prog 52 = some ([(.slice none 0 0), (.slice none 0 0), (.slice none 0 0), (.slice none 0 0), (.slice none 0 0)], [(0, 1), (1, 1), (2, 1), (3, 1), (4, 1)]) := by kernel_rfl
theorem Try.bs_64 : structB Try.prog 64 = some ([(.int .i64 0), (.int .i64 0), (.int .i64 0), (.int .i64 0), (.int .i64 0), (.int .i64 0), (.int .i64 0), (.slice none 0 0)], [(0, 2), (2, 2), (4, 1), (5, 1), (6, 1), (7, 1)]) := by kernel_rfl
theorem Try.bs_66 : structB Try.prog 66 = some ([(.int .i64 0), (.int .i64 0), (.int .i64 0), (.int .i64 0), (.int .i64 0), (.int .i64 0), (.int .i64 0), (.slice none 0 0), (.int .i64 0), (.int .i64 0), (.int .i64 0), (.int .i64 0), (.int .i64 0), (.int .i64 0), (.int .i64 0), (.int .i64 0), (.int .i64 0)], [(0, 8), (8, 1), (9, 1), (10, 1), (11, 2), (13, 1), (14, 1), (15, 1), (16, 1)]) := by kernel_rfl
theorem Try.bs_71 : structB Try.prog 71 = some ([(.int .i64 0), (.int .i64 0), (.int .i64 0), (.int .i64 0)], [(0, 2), (2, 2)]) := by kernel_rfl
theorem Try.bs_73 : structB Try.prog 73 = some ([(.int .i64 0), (.int .i64 0), (.int .i64 0), (.int .i64 0), (.int .i64 0), (.int .i64 0), (.int .i64 0), (.int .i64 0), (.int .i64 0)], [(0, 4), (4, 4), (8, 1)]) := by kernel_rfl
theorem Try.bs_77 : structB Try.prog 77 = some ([(.int .i64 0), (.int .i64 0), (.int .i64 0), (.int .i64 0)], [(0, 1), (1, 1), (2, 1), (3, 1)]) := by kernel_rfl
theorem Try.bs_97 : structB Try.prog 97 = some ([(.int .i64 0), (.int .i64 0), (.int .i64 0), (.int .i64 0), (.int .i64 0), (.int .i64 0), (.slice none 0 0), (.int .i64 0), (.int .i64 0), (.slice none 0 0)], [(0, 10)]) := by kernel_rfl
theorem Try.eb_106 : elemB Try.prog 106 = some (111, 1, 8, (.int .u64 0)) := by kernel_rfl
theorem Try.eb_25 : elemB Try.prog 25 = some (3, 1, 8, (.int .i64 0)) := by kernel_rfl
theorem Try.eb_39 : elemB Try.prog 39 = some (36, 2, 16, (.agg #[(.int .i64 0), (.int .i64 0)])) := by kernel_rfl
theorem Try.eb_62 : elemB Try.prog 62 = some (73, 9, 72, (.agg #[(.int .i64 0), (.int .i64 0), (.int .i64 0), (.int .i64 0), (.int .i64 0), (.int .i64 0), (.int .i64 0), (.int .i64 0), (.int .i64 0)])) := by kernel_rfl
theorem Try.en_10 : Enters Try.prog 10 := enters_of Try.func10 (by kernel_rfl) rfl
theorem Try.en_100 : Enters Try.prog 100 := enters_of Try.func100 (by kernel_rfl) rfl
theorem Try.en_101 : Enters Try.prog 101 := enters_of Try.func101 (by kernel_rfl) rfl
theorem Try.en_102 : Enters Try.prog 102 := enters_of Try.func102 (by kernel_rfl) rfl
theorem Try.en_103 : Enters Try.prog 103 := enters_of Try.func103 (by kernel_rfl) rfl
theorem Try.en_104 : Enters Try.prog 104 := enters_of Try.func104 (by kernel_rfl) rfl
theorem Try.en_105 : Enters Try.prog 105 := enters_of Try.func105 (by kernel_rfl) rfl
theorem Try.en_106 : Enters Try.prog 106 := enters_of Try.func106 (by kernel_rfl) rfl
theorem Try.en_107 : Enters Try.prog 107 := enters_of Try.func107 (by kernel_rfl) rfl
theorem Try.en_108 : Enters Try.prog 108 := enters_of Try.func108 (by kernel_rfl) rfl
theorem Try.en_109 : Enters Try.prog 109 := enters_of Try.func109 (by kernel_rfl) rfl
theorem Try.en_11 : Enters Try.prog 11 := enters_of Try.func11 (by kernel_rfl) rfl
theorem Try.en_110 : Enters Try.prog 110 := enters_of Try.func110 (by kernel_rfl) rfl
theorem Try.en_111 : Enters Try.prog 111 := enters_of Try.func111 (by kernel_rfl) rfl
theorem Try.en_112 : Enters Try.prog 112 := enters_of Try.func112 (by kernel_rfl) rfl
theorem Try.en_113 : Enters Try.prog 113 := enters_of Try.func113 (by kernel_rfl) rfl
theorem Try.en_114 : Enters Try.prog 114 := enters_of Try.func114 (by kernel_rfl) rfl
theorem Try.en_115 : Enters Try.prog 115 := enters_of Try.func115 (by kernel_rfl) rfl
theorem Try.en_116 : Enters Try.prog 116 := enters_of Try.func116 (by kernel_rfl) rfl
theorem Try.en_117 : Enters Try.prog 117 := enters_of Try.func117 (by kernel_rfl) rfl
theorem Try.en_118 : Enters Try.prog 118 := enters_of Try.func118 (by kernel_rfl) rfl
theorem Try.en_119 : Enters Try.prog 119 := enters_of Try.func119 (by kernel_rfl) rfl
theorem Try.en_12 : Enters Try.prog 12 := enters_of Try.func12 (by kernel_rfl) rfl
theorem Try.en_120 : Enters Try.prog 120 := enters_of Try.func120 (by kernel_rfl) rfl
theorem Try.en_121 : Enters Try.prog 121 := enters_of Try.func121 (by kernel_rfl) rfl
theorem Try.en_122 : Enters Try.prog 122 := enters_of Try.func122 (by kernel_rfl) rfl
theorem Try.en_123 : Enters Try.prog 123 := enters_of Try.func123 (by kernel_rfl) rfl
theorem Try.en_124 : Enters Try.prog 124 := enters_of Try.func124 (by kernel_rfl) rfl
theorem Try.en_125 : Enters Try.prog 125 := enters_of Try.func125 (by kernel_rfl) rfl
theorem Try.en_126 : Enters Try.prog 126 := enters_of Try.func126 (by kernel_rfl) rfl
theorem Try.en_127 : Enters Try.prog 127 := enters_of Try.func127 (by kernel_rfl) rfl
theorem Try.en_128 : Enters Try.prog 128 := enters_of Try.func128 (by kernel_rfl) rfl
theorem Try.en_129 : Enters Try.prog 129 := enters_of Try.func129 (by kernel_rfl) rfl
theorem Try.en_13 : Enters Try.prog 13 := enters_of Try.func13 (by kernel_rfl) rfl
theorem Try.en_130 : Enters Try.prog 130 := enters_of Try.func130 (by kernel_rfl) rfl
theorem Try.en_131 : Enters Try.prog 131 := enters_of Try.func131 (by kernel_rfl) rfl
theorem Try.en_132 : Enters Try.prog 132 := enters_of Try.func132 (by kernel_rfl) rfl
theorem Try.en_133 : Enters Try.prog 133 := enters_of Try.func133 (by kernel_rfl) rfl
theorem Try.en_134 : Enters Try.prog 134 := enters_of Try.func134 (by kernel_rfl) rfl
theorem Try.en_135 : Enters Try.prog 135 := enters_of Try.func135 (by kernel_rfl) rfl
theorem Try.en_136 : Enters Try.prog 136 := enters_of Try.func136 (by kernel_rfl) rfl
theorem Try.en_137 : Enters Try.prog 137 := enters_of Try.func137 (by kernel_rfl) rfl
theorem Try.en_138 : Enters Try.prog 138 := enters_of Try.func138 (by kernel_rfl) rfl
theorem Try.en_139 : Enters Try.prog 139 := enters_of Try.func139 (by kernel_rfl) rfl
theorem Try.en_14 : Enters Try.prog 14 := enters_of Try.func14 (by kernel_rfl) rfl
theorem Try.en_140 : Enters Try.prog 140 := enters_of Try.func140 (by kernel_rfl) rfl
theorem Try.en_141 : Enters Try.prog 141 := enters_of Try.func141 (by kernel_rfl) rfl
theorem Try.en_142 : Enters Try.prog 142 := enters_of Try.func142 (by kernel_rfl) rfl
theorem Try.en_143 : Enters Try.prog 143 := enters_of Try.func143 (by kernel_rfl) rfl
theorem Try.en_144 : Enters Try.prog 144 := enters_of Try.func144 (by kernel_rfl) rfl
theorem Try.en_145 : Enters Try.prog 145 := enters_of Try.func145 (by kernel_rfl) rfl
theorem Try.en_146 : Enters Try.prog 146 := enters_of Try.func146 (by kernel_rfl) rfl
theorem Try.en_147 : Enters Try.prog 147 := enters_of Try.func147 (by kernel_rfl) rfl
theorem Try.en_148 : Enters Try.prog 148 := enters_of Try.func148 (by kernel_rfl) rfl
theorem Try.en_149 : Enters Try.prog 149 := enters_of Try.func149 (by kernel_rfl) rfl
theorem Try.en_15 : Enters Try.prog 15 := enters_of Try.func15 (by kernel_rfl) rfl
theorem Try.en_150 : Enters Try.prog 150 := enters_of Try.func150 (by kernel_rfl) rfl
theorem Try.en_151 : Enters Try.prog 151 := enters_of Try.func151 (by kernel_rfl) rfl
theorem Try.en_152 : Enters Try.prog 152 := enters_of Try.func152 (by kernel_rfl) rfl
theorem Try.en_153 : Enters Try.prog 153 := enters_of Try.func153 (by kernel_rfl) rfl
theorem Try.en_154 : Enters Try.prog 154 := enters_of Try.func154 (by kernel_rfl) rfl
theorem Try.en_155 : Enters Try.prog 155 := enters_of Try.func155 (by kernel_rfl) rfl
theorem Try.en_156 : Enters Try.prog 156 := enters_of Try.func156 (by kernel_rfl) rfl
theorem Try.en_157 : Enters Try.prog 157 := enters_of Try.func157 (by kernel_rfl) rfl
theorem Try.en_158 : Enters Try.prog 158 := enters_of Try.func158 (by kernel_rfl) rfl
theorem Try.en_159 : Enters Try.prog 159 := enters_of Try.func159 (by kernel_rfl) rfl
theorem Try.en_16 : Enters Try.prog 16 := enters_of Try.func16 (by kernel_rfl) rfl
theorem Try.en_160 : Enters Try.prog 160 := enters_of Try.func160 (by kernel_rfl) rfl
theorem Try.en_161 : Enters Try.prog 161 := enters_of Try.func161 (by kernel_rfl) rfl
theorem Try.en_162 : Enters Try.prog 162 := enters_of Try.func162 (by kernel_rfl) rfl
theorem Try.en_163 : Enters Try.prog 163 := enters_of Try.func163 (by kernel_rfl) rfl
theorem Try.en_164 : Enters Try.prog 164 := enters_of Try.func164 (by kernel_rfl) rfl
theorem Try.en_165 : Enters Try.prog 165 := enters_of Try.func165 (by kernel_rfl) rfl
theorem Try.en_166 : Enters Try.prog 166 := enters_of Try.func166 (by kernel_rfl) rfl
theorem Try.en_167 : Enters Try.prog 167 := enters_of Try.func167 (by kernel_rfl) rfl
theorem Try.en_168 : Enters Try.prog 168 := enters_of Try.func168 (by kernel_rfl) rfl
theorem Try.en_169 : Enters Try.prog 169 := enters_of Try.func169 (by kernel_rfl) rfl
theorem Try.en_17 : Enters Try.prog 17 := enters_of Try.func17 (by kernel_rfl) rfl
theorem Try.en_170 : Enters Try.prog 170 := enters_of Try.func170 (by kernel_rfl) rfl
theorem Try.en_18 : Enters Try.prog 18 := enters_of Try.func18 (by kernel_rfl) rfl
theorem Try.en_19 : Enters Try.prog 19 := enters_of Try.func19 (by kernel_rfl) rfl
theorem Try.en_190 : Enters Try.prog 190 := enters_of Try.func190 (by kernel_rfl) rfl
theorem Try.en_191 : Enters Try.prog 191 := enters_of Try.func191 (by kernel_rfl) rfl
theorem Try.en_192 : Enters Try.prog 192 := enters_of Try.func192 (by kernel_rfl) rfl
theorem Try.en_193 : Enters Try.prog 193 := enters_of Try.func193 (by kernel_rfl) rfl
theorem Try.en_194 : Enters Try.prog 194 := enters_of Try.func194 (by kernel_rfl) rfl
theorem Try.en_195 : Enters Try.prog 195 := enters_of Try.func195 (by kernel_rfl) rfl
theorem Try.en_196 : Enters Try.prog 196 := enters_of Try.func196 (by kernel_rfl) rfl
theorem Try.en_20 : Enters Try.prog 20 := enters_of Try.func20 (by kernel_rfl) rfl
theorem Try.en_21 : Enters Try.prog 21 := enters_of Try.func21 (by kernel_rfl) rfl
theorem Try.en_22 : Enters Try.prog 22 := enters_of Try.func22 (by kernel_rfl) rfl
theorem Try.en_23 : Enters Try.prog 23 := enters_of Try.func23 (by kernel_rfl) rfl
theorem Try.en_24 : Enters Try.prog 24 := enters_of Try.func24 (by kernel_rfl) rfl
theorem Try.en_25 : Enters Try.prog 25 := enters_of Try.func25 (by kernel_rfl) rfl
theorem Try.en_26 : Enters Try.prog 26 := enters_of Try.func26 (by kernel_rfl) rfl
theorem Try.en_27 : Enters Try.prog 27 := enters_of Try.func27 (by kernel_rfl) rfl
theorem Try.en_28 : Enters Try.prog 28 := enters_of Try.func28 (by kernel_rfl) rfl
theorem Try.en_29 : Enters Try.prog 29 := enters_of Try.func29 (by kernel_rfl) rfl
theorem Try.en_3 : Enters Try.prog 3 := enters_of Try.func3 (by kernel_rfl) rfl
theorem Try.en_30 : Enters Try.prog 30 := enters_of Try.func30 (by kernel_rfl) rfl
theorem Try.en_31 : Enters Try.prog 31 := enters_of Try.func31 (by kernel_rfl) rfl
theorem Try.en_32 : Enters Try.prog 32 := enters_of Try.func32 (by kernel_rfl) rfl
theorem Try.en_33 : Enters Try.prog 33 := enters_of Try.func33 (by kernel_rfl) rfl
theorem Try.en_34 : Enters Try.prog 34 := enters_of Try.func34 (by kernel_rfl) rfl
theorem Try.en_35 : Enters Try.prog 35 := enters_of Try.func35 (by kernel_rfl) rfl
theorem Try.en_36 : Enters Try.prog 36 := enters_of Try.func36 (by kernel_rfl) rfl
theorem Try.en_37 : Enters Try.prog 37 := enters_of Try.func37 (by kernel_rfl) rfl
theorem Try.en_38 : Enters Try.prog 38 := enters_of Try.func38 (by kernel_rfl) rfl
theorem Try.en_39 : Enters Try.prog 39 := enters_of Try.func39 (by kernel_rfl) rfl
theorem Try.en_4 : Enters Try.prog 4 := enters_of Try.func4 (by kernel_rfl) rfl
theorem Try.en_40 : Enters Try.prog 40 := enters_of Try.func40 (by kernel_rfl) rfl
theorem Try.en_41 : Enters Try.prog 41 := enters_of Try.func41 (by kernel_rfl) rfl
theorem Try.en_42 : Enters Try.prog 42 := enters_of Try.func42 (by kernel_rfl) rfl
theorem Try.en_43 : Enters Try.prog 43 := enters_of Try.func43 (by kernel_rfl) rfl
theorem Try.en_44 : Enters Try.prog 44 := enters_of Try.func44 (by kernel_rfl) rfl
theorem Try.en_45 : Enters Try.prog 45 := enters_of Try.func45 (by kernel_rfl) rfl
theorem Try.en_46 : Enters Try.prog 46 := enters_of Try.func46 (by kernel_rfl) rfl
theorem Try.en_47 : Enters Try.prog 47 := enters_of Try.func47 (by kernel_rfl) rfl
theorem Try.en_48 : Enters Try.prog 48 := enters_of Try.func48 (by kernel_rfl) rfl
theorem Try.en_49 : Enters Try.prog 49 := enters_of Try.func49 (by kernel_rfl) rfl
theorem Try.en_5 : Enters Try.prog 5 := enters_of Try.func5 (by kernel_rfl) rfl
theorem Try.en_50 : Enters Try.prog 50 := enters_of Try.func50 (by kernel_rfl) rfl
theorem Try.en_51 : Enters Try.prog 51 := enters_of Try.func51 (by kernel_rfl) rfl
theorem Try.en_52 : Enters Try.prog 52 := enters_of Try.func52 (by kernel_rfl) rfl
theorem Try.en_53 : Enters Try.prog 53 := enters_of Try.func53 (by kernel_rfl) rfl
theorem Try.en_54 : Enters Try.prog 54 := enters_of Try.func54 (by kernel_rfl) rfl
theorem Try.en_55 : Enters Try.prog 55 := enters_of Try.func55 (by kernel_rfl) rfl
theorem Try.en_56 : Enters Try.prog 56 := enters_of Try.func56 (by kernel_rfl) rfl
theorem Try.en_57 : Enters Try.prog 57 := enters_of Try.func57 (by kernel_rfl) rfl
theorem Try.en_58 : Enters Try.prog 58 := enters_of Try.func58 (by kernel_rfl) rfl
theorem Try.en_59 : Enters Try.prog 59 := enters_of Try.func59 (by kernel_rfl) rfl
theorem Try.en_6 : Enters Try.prog 6 := enters_of Try.func6 (by kernel_rfl) rfl
theorem Try.en_60 : Enters Try.prog 60 := enters_of Try.func60 (by kernel_rfl) rfl
theorem Try.en_61 : Enters Try.prog 61 := enters_of Try.func61 (by kernel_rfl) rfl
theorem Try.en_62 : Enters Try.prog 62 := enters_of Try.func62 (by kernel_rfl) rfl
theorem Try.en_63 : Enters Try.prog 63 := enters_of Try.func63 (by kernel_rfl) rfl
theorem Try.en_64 : Enters Try.prog 64 := enters_of Try.func64 (by kernel_rfl) rfl
theorem Try.en_65 : Enters Try.prog 65 := enters_of Try.func65 (by kernel_rfl) rfl
theorem Try.en_66 : Enters Try.prog 66 := enters_of Try.func66 (by kernel_rfl) rfl
theorem Try.en_67 : Enters Try.prog 67 := enters_of Try.func67 (by kernel_rfl) rfl
theorem Try.en_68 : Enters Try.prog 68 := enters_of Try.func68 (by kernel_rfl) rfl
theorem Try.en_69 : Enters Try.prog 69 := enters_of Try.func69 (by kernel_rfl) rfl
theorem Try.en_7 : Enters Try.prog 7 := enters_of Try.func7 (by kernel_rfl) rfl
theorem Try.en_70 : Enters Try.prog 70 := enters_of Try.func70 (by kernel_rfl) rfl
theorem Try.en_71 : Enters Try.prog 71 := enters_of Try.func71 (by kernel_rfl) rfl
theorem Try.en_72 : Enters Try.prog 72 := enters_of Try.func72 (by kernel_rfl) rfl
theorem Try.en_73 : Enters Try.prog 73 := enters_of Try.func73 (by kernel_rfl) rfl
theorem Try.en_74 : Enters Try.prog 74 := enters_of Try.func74 (by kernel_rfl) rfl
theorem Try.en_75 : Enters Try.prog 75 := enters_of Try.func75 (by kernel_rfl) rfl
theorem Try.en_76 : Enters Try.prog 76 := enters_of Try.func76 (by kernel_rfl) rfl
theorem Try.en_77 : Enters Try.prog 77 := enters_of Try.func77 (by kernel_rfl) rfl
theorem Try.en_78 : Enters Try.prog 78 := enters_of Try.func78 (by kernel_rfl) rfl
theorem Try.en_79 : Enters Try.prog 79 := enters_of Try.func79 (by kernel_rfl) rfl
theorem Try.en_8 : Enters Try.prog 8 := enters_of Try.func8 (by kernel_rfl) rfl
theorem Try.en_80 : Enters Try.prog 80 := enters_of Try.func80 (by kernel_rfl) rfl
theorem Try.en_81 : Enters Try.prog 81 := enters_of Try.func81 (by kernel_rfl) rfl
theorem Try.en_82 : Enters Try.prog 82 := enters_of Try.func82 (by kernel_rfl) rfl
theorem Try.en_83 : Enters Try.prog 83 := enters_of Try.func83 (by kernel_rfl) rfl
theorem Try.en_84 : Enters Try.prog 84 := enters_of Try.func84 (by kernel_rfl) rfl
theorem Try.en_85 : Enters Try.prog 85 := enters_of Try.func85 (by kernel_rfl) rfl
theorem Try.en_86 : Enters Try.prog 86 := enters_of Try.func86 (by kernel_rfl) rfl
theorem Try.en_87 : Enters Try.prog 87 := enters_of Try.func87 (by kernel_rfl) rfl
theorem Try.en_88 : Enters Try.prog 88 := enters_of Try.func88 (by kernel_rfl) rfl
theorem Try.en_89 : Enters Try.prog 89 := enters_of Try.func89 (by kernel_rfl) rfl
theorem Try.en_9 : Enters Try.prog 9 := enters_of Try.func9 (by kernel_rfl) rfl
theorem Try.en_90 : Enters Try.prog 90 := enters_of Try.func90 (by kernel_rfl) rfl
theorem Try.en_91 : Enters Try.prog 91 := enters_of Try.func91 (by kernel_rfl) rfl
theorem Try.en_92 : Enters Try.prog 92 := enters_of Try.func92 (by kernel_rfl) rfl
theorem Try.en_93 : Enters Try.prog 93 := enters_of Try.func93 (by kernel_rfl) rfl
theorem Try.en_94 : Enters Try.prog 94 := enters_of Try.func94 (by kernel_rfl) rfl
theorem Try.en_95 : Enters Try.prog 95 := enters_of Try.func95 (by kernel_rfl) rfl
theorem Try.en_96 : Enters Try.prog 96 := enters_of Try.func96 (by kernel_rfl) rfl
theorem Try.en_97 : Enters Try.prog 97 := enters_of Try.func97 (by kernel_rfl) rfl
theorem Try.en_98 : Enters Try.prog 98 := enters_of Try.func98 (by kernel_rfl) rfl
theorem Try.en_99 : Enters Try.prog 99 := enters_of Try.func99 (by kernel_rfl) rfl
theorem Try.fg_66_0 : fieldG Try.prog 66 0 = some (0, 8) := by kernel_rfl
theorem Try.fo_117_0 : fieldOff Try.prog 117 0 = some 0 := by kernel_rfl
theorem Try.fo_117_1 : fieldOff Try.prog 117 1 = some 1 := by kernel_rfl
theorem Try.fo_121_0 : fieldOff Try.prog 121 0 = some 0 := by kernel_rfl
theorem Try.fo_121_1 : fieldOff Try.prog 121 1 = some 1 := by kernel_rfl
theorem Try.fo_121_2 : fieldOff Try.prog 121 2 = some 2 := by kernel_rfl
theorem Try.fo_123_0 : fieldOff Try.prog 123 0 = some 0 := by kernel_rfl
theorem Try.fo_137_0 : fieldOff Try.prog 137 0 = some 0 := by kernel_rfl
theorem Try.fo_137_1 : fieldOff Try.prog 137 1 = some 8 := by kernel_rfl
theorem Try.fo_148_0 : fieldOff Try.prog 148 0 = some 0 := by kernel_rfl
theorem Try.fo_148_1 : fieldOff Try.prog 148 1 = some 17 := by kernel_rfl
theorem Try.fo_156_0 : fieldOff Try.prog 156 0 = some 0 := by kernel_rfl
theorem Try.fo_156_1 : fieldOff Try.prog 156 1 = some 1 := by kernel_rfl
theorem Try.fo_159_0 : fieldOff Try.prog 159 0 = some 0 := by kernel_rfl
theorem Try.fo_159_1 : fieldOff Try.prog 159 1 = some 1 := by kernel_rfl
theorem Try.fo_169_0 : fieldOff Try.prog 169 0 = some 0 := by kernel_rfl
theorem Try.fo_174_0 : fieldOff Try.prog 174 0 = some 0 := by kernel_rfl
theorem Try.fo_184_0 : fieldOff Try.prog 184 0 = some 0 := by kernel_rfl
theorem Try.fo_184_1 : fieldOff Try.prog 184 1 = some 1 := by kernel_rfl
theorem Try.fo_190_0 : fieldOff Try.prog 190 0 = some 0 := by kernel_rfl
theorem Try.fo_204_0 : fieldOff Try.prog 204 0 = some 0 := by kernel_rfl
theorem Try.fo_204_1 : fieldOff Try.prog 204 1 = some 1 := by kernel_rfl
theorem Try.fo_215_0 : fieldOff Try.prog 215 0 = some 0 := by kernel_rfl
theorem Try.fo_215_1 : fieldOff Try.prog 215 1 = some 1 := by kernel_rfl
theorem Try.fo_222_0 : fieldOff Try.prog 222 0 = some 0 := by kernel_rfl
theorem Try.fo_23_0 : fieldOff Try.prog 23 0 = some 0 := by kernel_rfl
theorem Try.fo_23_1 : fieldOff Try.prog 23 1 = some 1 := by kernel_rfl
theorem Try.fo_23_2 : fieldOff Try.prog 23 2 = some 2 := by kernel_rfl
theorem Try.fo_235_0 : fieldOff Try.prog 235 0 = some 0 := by kernel_rfl
theorem Try.fo_237_0 : fieldOff Try.prog 237 0 = some 0 := by kernel_rfl
theorem Try.fo_237_1 : fieldOff Try.prog 237 1 = some 1 := by kernel_rfl
theorem Try.fo_30_0 : fieldOff Try.prog 30 0 = some 0 := by kernel_rfl
theorem Try.fo_30_1 : fieldOff Try.prog 30 1 = some 1 := by kernel_rfl
theorem Try.fo_32_0 : fieldOff Try.prog 32 0 = some 0 := by kernel_rfl
theorem Try.fo_32_1 : fieldOff Try.prog 32 1 = some 1 := by kernel_rfl
theorem Try.fo_32_2 : fieldOff Try.prog 32 2 = some 3 := by kernel_rfl
theorem Try.fo_32_3 : fieldOff Try.prog 32 3 = some 4 := by kernel_rfl
theorem Try.fo_32_4 : fieldOff Try.prog 32 4 = some 5 := by kernel_rfl
theorem Try.fo_36_0 : fieldOff Try.prog 36 0 = some 0 := by kernel_rfl
theorem Try.fo_36_1 : fieldOff Try.prog 36 1 = some 1 := by kernel_rfl
theorem Try.fo_38_0 : fieldOff Try.prog 38 0 = some 0 := by kernel_rfl
theorem Try.fo_38_1 : fieldOff Try.prog 38 1 = some 1 := by kernel_rfl
theorem Try.fo_38_2 : fieldOff Try.prog 38 2 = some 2 := by kernel_rfl
theorem Try.fo_38_3 : fieldOff Try.prog 38 3 = some 4 := by kernel_rfl
theorem Try.fo_38_4 : fieldOff Try.prog 38 4 = some 5 := by kernel_rfl
theorem Try.fo_38_5 : fieldOff Try.prog 38 5 = some 6 := by kernel_rfl
theorem Try.fo_38_6 : fieldOff Try.prog 38 6 = some 7 := by kernel_rfl
theorem Try.fo_38_7 : fieldOff Try.prog 38 7 = some 8 := by kernel_rfl
theorem Try.fo_38_8 : fieldOff Try.prog 38 8 = some 9 := by kernel_rfl
theorem Try.fo_41_0 : fieldOff Try.prog 41 0 = some 0 := by kernel_rfl
theorem Try.fo_41_1 : fieldOff Try.prog 41 1 = some 1 := by kernel_rfl
theorem Try.fo_41_2 : fieldOff Try.prog 41 2 = some 2 := by kernel_rfl
theorem Try.fo_49_0 : fieldOff Try.prog 49 0 = some 0 := by kernel_rfl
theorem Try.fo_49_1 : fieldOff Try.prog 49 1 = some 1 := by kernel_rfl
theorem Try.fo_49_2 : fieldOff Try.prog 49 2 = some 2 := by kernel_rfl
theorem Try.fo_49_3 : fieldOff Try.prog 49 3 = some 3 := by kernel_rfl
theorem Try.fo_52_0 : fieldOff Try.prog 52 0 = some 0 := by kernel_rfl
theorem Try.fo_52_1 : fieldOff Try.prog 52 1 = some 1 := by kernel_rfl
theorem Try.fo_52_2 : fieldOff Try.prog 52 2 = some 2 := by kernel_rfl
theorem Try.fo_52_3 : fieldOff Try.prog 52 3 = some 3 := by kernel_rfl
theorem Try.fo_52_4 : fieldOff Try.prog 52 4 = some 4 := by kernel_rfl
theorem Try.fo_64_0 : fieldOff Try.prog 64 0 = some 0 := by kernel_rfl
theorem Try.fo_64_1 : fieldOff Try.prog 64 1 = some 2 := by kernel_rfl
theorem Try.fo_64_2 : fieldOff Try.prog 64 2 = some 4 := by kernel_rfl
theorem Try.fo_64_3 : fieldOff Try.prog 64 3 = some 5 := by kernel_rfl
theorem Try.fo_64_4 : fieldOff Try.prog 64 4 = some 6 := by kernel_rfl
theorem Try.fo_64_5 : fieldOff Try.prog 64 5 = some 7 := by kernel_rfl
theorem Try.fo_66_0 : fieldOff Try.prog 66 0 = some 0 := by kernel_rfl
theorem Try.fo_66_1 : fieldOff Try.prog 66 1 = some 8 := by kernel_rfl
theorem Try.fo_66_2 : fieldOff Try.prog 66 2 = some 9 := by kernel_rfl
theorem Try.fo_66_3 : fieldOff Try.prog 66 3 = some 10 := by kernel_rfl
theorem Try.fo_66_4 : fieldOff Try.prog 66 4 = some 11 := by kernel_rfl
theorem Try.fo_66_5 : fieldOff Try.prog 66 5 = some 13 := by kernel_rfl
theorem Try.fo_66_6 : fieldOff Try.prog 66 6 = some 14 := by kernel_rfl
theorem Try.fo_66_7 : fieldOff Try.prog 66 7 = some 15 := by kernel_rfl
theorem Try.fo_66_8 : fieldOff Try.prog 66 8 = some 16 := by kernel_rfl
theorem Try.fo_71_0 : fieldOff Try.prog 71 0 = some 0 := by kernel_rfl
theorem Try.fo_71_1 : fieldOff Try.prog 71 1 = some 2 := by kernel_rfl
theorem Try.fo_73_0 : fieldOff Try.prog 73 0 = some 0 := by kernel_rfl
theorem Try.fo_73_1 : fieldOff Try.prog 73 1 = some 4 := by kernel_rfl
theorem Try.fo_73_2 : fieldOff Try.prog 73 2 = some 8 := by kernel_rfl
theorem Try.fo_77_0 : fieldOff Try.prog 77 0 = some 0 := by kernel_rfl
theorem Try.fo_77_1 : fieldOff Try.prog 77 1 = some 1 := by kernel_rfl
theorem Try.fo_77_2 : fieldOff Try.prog 77 2 = some 2 := by kernel_rfl
theorem Try.fo_77_3 : fieldOff Try.prog 77 3 = some 3 := by kernel_rfl
theorem Try.fo_97_0 : fieldOff Try.prog 97 0 = some 0 := by kernel_rfl
theorem Try.fs_222_1 : fieldS Try.prog 222 1 = some 1 := by kernel_rfl
theorem Try.fs_36_0 : fieldS Try.prog 36 0 = some 0 := by kernel_rfl
theorem Try.fs_36_1 : fieldS Try.prog 36 1 = some 1 := by kernel_rfl
theorem Try.mt_146 : mapTypes Try.prog 146 = some (3, 159, .i64) := by kernel_rfl
theorem Try.mt_217 : mapTypes Try.prog 217 = some (3, 222, .i64) := by kernel_rfl
theorem Try.sc_102 : scalB Try.prog 102 = true := by kernel_rfl
theorem Try.sc_106 : scalB Try.prog 106 = true := by kernel_rfl
theorem Try.sc_111 : scalB Try.prog 111 = true := by kernel_rfl
theorem Try.sc_112 : scalB Try.prog 112 = true := by kernel_rfl
theorem Try.sc_113 : scalB Try.prog 113 = true := by kernel_rfl
theorem Try.sc_126 : scalB Try.prog 126 = true := by kernel_rfl
theorem Try.sc_133 : scalB Try.prog 133 = true := by kernel_rfl
theorem Try.sc_143 : scalB Try.prog 143 = true := by kernel_rfl
theorem Try.sc_146 : scalB Try.prog 146 = true := by kernel_rfl
theorem Try.sc_163 : scalB Try.prog 163 = true := by kernel_rfl
theorem Try.sc_182 : scalB Try.prog 182 = true := by kernel_rfl
theorem Try.sc_186 : scalB Try.prog 186 = true := by kernel_rfl
theorem Try.sc_217 : scalB Try.prog 217 = true := by kernel_rfl
theorem Try.sc_219 : scalB Try.prog 219 = true := by kernel_rfl
theorem Try.sc_241 : scalB Try.prog 241 = true := by kernel_rfl
theorem Try.sc_25 : scalB Try.prog 25 = true := by kernel_rfl
theorem Try.sc_253 : scalB Try.prog 253 = true := by kernel_rfl
theorem Try.sc_3 : scalB Try.prog 3 = true := by kernel_rfl
theorem Try.sc_34 : scalB Try.prog 34 = true := by kernel_rfl
theorem Try.sc_39 : scalB Try.prog 39 = true := by kernel_rfl
theorem Try.sc_4 : scalB Try.prog 4 = true := by kernel_rfl
theorem Try.sc_42 : scalB Try.prog 42 = true := by kernel_rfl
theorem Try.sc_46 : scalB Try.prog 46 = true := by kernel_rfl
theorem Try.sc_47 : scalB Try.prog 47 = true := by kernel_rfl
theorem Try.sc_50 : scalB Try.prog 50 = true := by kernel_rfl
theorem Try.sc_62 : scalB Try.prog 62 = true := by kernel_rfl
theorem Try.se_106 : sliceElem Try.prog 106 = some (111, 1) := by kernel_rfl
theorem Try.se_198 : sliceElem Try.prog 198 = some (135, 2) := by kernel_rfl
theorem Try.se_199 : sliceElem Try.prog 199 = some (77, 4) := by kernel_rfl
theorem Try.se_211 : sliceElem Try.prog 211 = some (159, 2) := by kernel_rfl
theorem Try.se_239 : sliceElem Try.prog 239 = some (241, 1) := by kernel_rfl
theorem Try.se_25 : sliceElem Try.prog 25 = some (3, 1) := by kernel_rfl
theorem Try.se_34 : sliceElem Try.prog 34 = some (32, 6) := by kernel_rfl
theorem Try.se_39 : sliceElem Try.prog 39 = some (36, 2) := by kernel_rfl
theorem Try.se_46 : sliceElem Try.prog 46 = some (23, 3) := by kernel_rfl
theorem Try.se_47 : sliceElem Try.prog 47 = some (25, 1) := by kernel_rfl
theorem Try.se_50 : sliceElem Try.prog 50 = some (49, 4) := by kernel_rfl
theorem Try.se_62 : sliceElem Try.prog 62 = some (73, 9) := by kernel_rfl
theorem Try.sz_102 : (Try.prog.info? 102).map (·.size) = some 1 := by kernel_rfl
theorem Try.sz_106 : (Try.prog.info? 106).map (·.size) = some 1 := by kernel_rfl
theorem Try.sz_111 : (Try.prog.info? 111).map (·.size) = some 1 := by kernel_rfl
theorem Try.sz_112 : (Try.prog.info? 112).map (·.size) = some 1 := by kernel_rfl
theorem Try.sz_113 : (Try.prog.info? 113).map (·.size) = some 1 := by kernel_rfl
theorem Try.sz_115 : (Try.prog.info? 115).map (·.size) = some 4 := by kernel_rfl
theorem Try.sz_117 : (Try.prog.info? 117).map (·.size) = some 5 := by kernel_rfl
theorem Try.sz_121 : (Try.prog.info? 121).map (·.size) = some 3 := by kernel_rfl
theorem Try.sz_126 : (Try.prog.info? 126).map (·.size) = some 1 := by kernel_rfl
theorem Try.sz_133 : (Try.prog.info? 133).map (·.size) = some 1 := by kernel_rfl
theorem Try.sz_135 : (Try.prog.info? 135).map (·.size) = some 2 := by kernel_rfl
theorem Try.sz_149 : (Try.prog.info? 149).map (·.size) = some 4 := by kernel_rfl
theorem Try.sz_156 : (Try.prog.info? 156).map (·.size) = some 5 := by kernel_rfl
theorem Try.sz_159 : (Try.prog.info? 159).map (·.size) = some 2 := by kernel_rfl
theorem Try.sz_169 : (Try.prog.info? 169).map (·.size) = some 1 := by kernel_rfl
theorem Try.sz_174 : (Try.prog.info? 174).map (·.size) = some 1 := by kernel_rfl
theorem Try.sz_178 : (Try.prog.info? 178).map (·.size) = some 4 := by kernel_rfl
theorem Try.sz_184 : (Try.prog.info? 184).map (·.size) = some 2 := by kernel_rfl
theorem Try.sz_186 : (Try.prog.info? 186).map (·.size) = some 1 := by kernel_rfl
theorem Try.sz_190 : (Try.prog.info? 190).map (·.size) = some 1 := by kernel_rfl
theorem Try.sz_204 : (Try.prog.info? 204).map (·.size) = some 5 := by kernel_rfl
theorem Try.sz_215 : (Try.prog.info? 215).map (·.size) = some 2 := by kernel_rfl
theorem Try.sz_217 : (Try.prog.info? 217).map (·.size) = some 1 := by kernel_rfl
theorem Try.sz_222 : (Try.prog.info? 222).map (·.size) = some 2 := by kernel_rfl
theorem Try.sz_23 : (Try.prog.info? 23).map (·.size) = some 3 := by kernel_rfl
theorem Try.sz_25 : (Try.prog.info? 25).map (·.size) = some 1 := by kernel_rfl
theorem Try.sz_254 : (Try.prog.info? 254).map (·.size) = some 5 := by kernel_rfl
theorem Try.sz_3 : (Try.prog.info? 3).map (·.size) = some 1 := by kernel_rfl
theorem Try.sz_32 : (Try.prog.info? 32).map (·.size) = some 6 := by kernel_rfl
theorem Try.sz_36 : (Try.prog.info? 36).map (·.size) = some 2 := by kernel_rfl
theorem Try.sz_38 : (Try.prog.info? 38).map (·.size) = some 10 := by kernel_rfl
theorem Try.sz_39 : (Try.prog.info? 39).map (·.size) = some 1 := by kernel_rfl
theorem Try.sz_4 : (Try.prog.info? 4).map (·.size) = some 1 := by kernel_rfl
theorem Try.sz_41 : (Try.prog.info? 41).map (·.size) = some 3 := by kernel_rfl
theorem Try.sz_42 : (Try.prog.info? 42).map (·.size) = some 1 := by kernel_rfl
theorem Try.sz_49 : (Try.prog.info? 49).map (·.size) = some 4 := by kernel_rfl
theorem Try.sz_52 : (Try.prog.info? 52).map (·.size) = some 5 := by kernel_rfl
theorem Try.sz_62 : (Try.prog.info? 62).map (·.size) = some 1 := by kernel_rfl
theorem Try.sz_64 : (Try.prog.info? 64).map (·.size) = some 8 := by kernel_rfl
theorem Try.sz_66 : (Try.prog.info? 66).map (·.size) = some 17 := by kernel_rfl
theorem Try.sz_73 : (Try.prog.info? 73).map (·.size) = some 9 := by kernel_rfl
theorem Try.sz_77 : (Try.prog.info? 77).map (·.size) = some 4 := by kernel_rfl
theorem Try.un_110 : Try.prog.underlying 110 = some (.int .u64) := by kernel_rfl
theorem Try.un_3 : Try.prog.underlying 3 = some (.int .i64) := by kernel_rfl
theorem Try.ze_102 : zeroOf Try.prog 102 = some (.pointer none) := by kernel_rfl
theorem Try.ze_106 : zeroOf Try.prog 106 = some (.slice none 0 0) := by kernel_rfl
theorem Try.ze_112 : zeroOf Try.prog 112 = some (.map none) := by kernel_rfl
theorem Try.ze_113 : zeroOf Try.prog 113 = some .nilFunc := by kernel_rfl
theorem Try.ze_115 : zeroOf Try.prog 115 = some (.agg #[(.int .i64 0), (.int .i64 0), (.int .i64 0), (.int .i64 0)]) := by kernel_rfl
theorem Try.ze_117 : zeroOf Try.prog 117 = some (.agg #[(.int .i64 0), (.int .i64 0), (.int .i64 0), (.int .i64 0), (.int .i64 0)]) := by kernel_rfl
theorem Try.ze_121 : zeroOf Try.prog 121 = some (.agg #[(.int .i64 0), (.int .i64 0), (.bool false)]) := by kernel_rfl
theorem Try.ze_126 : zeroOf Try.prog 126 = some (.map none) := by kernel_rfl
theorem Try.ze_133 : zeroOf Try.prog 133 = some (.pointer none) := by kernel_rfl
theorem Try.ze_135 : zeroOf Try.prog 135 = some (.agg #[(.int .i64 0), (.int .i64 0)]) := by kernel_rfl
theorem Try.ze_149 : zeroOf Try.prog 149 = some (.agg #[(.int .i64 0), (.int .i64 0), (.int .i64 0), (.int .i64 0)]) := by kernel_rfl
theorem Try.ze_156 : zeroOf Try.prog 156 = some (.agg #[(.pointer none), (.int .i64 0), (.int .i64 0), (.int .i64 0), (.int .i64 0)]) := by kernel_rfl
theorem Try.ze_159 : zeroOf Try.prog 159 = some (.agg #[(.int .i64 0), (.int .i64 0)]) := by kernel_rfl
theorem Try.ze_169 : zeroOf Try.prog 169 = some (.agg #[(.int .i64 0)]) := by kernel_rfl
theorem Try.ze_174 : zeroOf Try.prog 174 = some (.agg #[(.int .i64 0)]) := by kernel_rfl
theorem Try.ze_178 : zeroOf Try.prog 178 = some (.agg #[(.int .u64 0), (.int .u64 0), (.int .u64 0), (.int .u64 0)]) := by kernel_rfl
theorem Try.ze_184 : zeroOf Try.prog 184 = some (.agg #[(.slice none 0 0), .nilFunc]) := by kernel_rfl
theorem Try.ze_186 : zeroOf Try.prog 186 = some .nilFunc := by kernel_rfl
theorem Try.ze_190 : zeroOf Try.prog 190 = some (.agg #[(.int .i64 0)]) := by kernel_rfl
theorem Try.ze_204 : zeroOf Try.prog 204 = some (.agg #[(.int .i64 0), (.int .i64 0), (.int .i64 0), (.int .i64 0), (.int .i64 0)]) := by kernel_rfl
theorem Try.ze_215 : zeroOf Try.prog 215 = some (.agg #[(.int .i64 0), (.int .i64 0)]) := by kernel_rfl
theorem Try.ze_217 : zeroOf Try.prog 217 = some (.map none) := by kernel_rfl
theorem Try.ze_222 : zeroOf Try.prog 222 = some (.agg #[.nilFunc, .nilFunc]) := by kernel_rfl
theorem Try.ze_23 : zeroOf Try.prog 23 = some (.agg #[(.int .i64 0), (.int .i64 0), (.int .i64 0)]) := by kernel_rfl
theorem Try.ze_254 : zeroOf Try.prog 254 = some (.agg #[.nilIface, .nilIface, .nilIface, .nilIface, .nilIface]) := by kernel_rfl
theorem Try.ze_32 : zeroOf Try.prog 32 = some (.agg #[(.int .i64 0), (.slice none 0 0), (.int .i64 0), (.int .i64 0), (.int .i64 0), (.int .i64 0)]) := by kernel_rfl
theorem Try.ze_36 : zeroOf Try.prog 36 = some (.agg #[(.int .i64 0), (.int .i64 0)]) := by kernel_rfl
theorem Try.ze_38 : zeroOf Try.prog 38 = some (.agg #[(.int .i64 0), (.int .i64 0), (.int .i64 0), (.int .i64 0), (.int .i64 0), (.int .i64 0), (.slice none 0 0), (.int .i64 0), (.int .i64 0), (.slice none 0 0)]) := by kernel_rfl
theorem Try.ze_4 : zeroOf Try.prog 4 = some (.bool false) := by kernel_rfl
theorem Try.ze_41 : zeroOf Try.prog 41 = some (.agg #[(.int .i64 0), (.int .i64 0), (.slice none 0 0)]) := by kernel_rfl
theorem Try.ze_42 : zeroOf Try.prog 42 = some (.int .i64 0) := by kernel_rfl
theorem Try.ze_49 : zeroOf Try.prog 49 = some (.agg #[(.int .i64 0), (.int .i64 0), (.int .i64 0), (.int .i64 0)]) := by kernel_rfl
theorem Try.ze_52 : zeroOf Try.prog 52 = some (.agg #[(.slice none 0 0), (.slice none 0 0), (.slice none 0 0), (.slice none 0 0), (.slice none 0 0)]) := by kernel_rfl
theorem Try.ze_64 : zeroOf Try.prog 64 = some (.agg #[(.int .i64 0), (.int .i64 0), (.int .i64 0), (.int .i64 0), (.int .i64 0), (.int .i64 0), (.int .i64 0), (.slice none 0 0)]) := by kernel_rfl
theorem Try.ze_66 : zeroOf Try.prog 66 = some (.agg #[(.int .i64 0), (.int .i64 0), (.int .i64 0), (.int .i64 0), (.int .i64 0), (.int .i64 0), (.int .i64 0), (.slice none 0 0), (.int .i64 0), (.int .i64 0), (.int .i64 0), (.int .i64 0), (.int .i64 0), (.int .i64 0), (.int .i64 0), (.int .i64 0), (.int .i64 0)]) := by kernel_rfl
theorem Try.ze_73 : zeroOf Try.prog 73 = some (.agg #[(.int .i64 0), (.int .i64 0), (.int .i64 0), (.int .i64 0), (.int .i64 0), (.int .i64 0), (.int .i64 0), (.int .i64 0), (.int .i64 0)]) := by kernel_rfl
theorem Try.ze_77 : zeroOf Try.prog 77 = some (.agg #[(.int .i64 0), (.int .i64 0), (.int .i64 0), (.int .i64 0)]) := by kernel_rfl
end Go.Proofs.Ytccpgpnekoncoaa
namespace Go.Proofs.Ytccpgpnekoncoaa
open Go Go.Sy Go.RoyM
/-- The panic of what cannot be told. -/
abbrev misfit (e : Int) : List PanicEntry := [{ v := .iface 174 (.agg #[.int .i64 e]), recovered := false }]
theorem p94 (b : Bool) (e : Int) (u : World) : Calls Try.prog 90 #[.bool b, .int .i64 e] u (RetX (fun v w' => b = true ∧ Ext [] u w') (fun ch w' => b = false ∧ ch = misfit e ∧ Ext [] u w')) := by
  refine calls_ofX Try.func90 rfl rfl (fun a hf => ?_)
  have hh := Hp.init u []
  refine sy_sq ?_
  refine o_v hf hh (yv_move rfl) ?_; clear hf a; intro a hf
  refine o_v hf hh (yv_not rfl) ?_; clear hf a; intro a hf
  refine o_end ?_
  refine sy_cond hf rfl (fun hg2 => ?_) (fun hg2 => ?_)
  ·have hG2 := hg2; try simp only [gS] at hG2
   refine sy_ops ?_
   refine o_v hf hh (yv_move rfl) ?_; clear hf a; intro a hf
   refine o_v hf hh (yv_buildS Try.bs_174 rfl rfl) ?_; clear hf a; intro a hf
   refine o_v hf hh (yv_makeIface (by kernel_rfl) rfl) ?_; clear hf a; intro a hf
   refine o_panic hf fun hf => ?_
   refine pan_x hf ?_
   exact ⟨by simp_all, rfl, hh.ext⟩
  ·have hG2 := hg2; try simp only [gS] at hG2
   refine sy_skip ?_
   refine ret_xn ?_
   refine ret_n hf rfl rfl ?_
   exact ⟨by simp_all, hh.ext⟩
theorem p48 (n l h : Int) (w : World) : Calls Try.prog 52 #[.int .i64 n, .int .i64 l, .int .i64 h] w (Ret fun v w' => v = .bool (inI n l h) ∧ Ext [] w w') := by
  refine calls_of Try.func52 rfl rfl (fun a hf => ?_)
  have hh := Hp.init w []
  refine sy_sq ?_
  refine o_v hf hh (yv_assign rfl) ?_; clear hf a; intro a hf
  refine o_end ?_
  refine sy_sq ?_
  refine o_v hf hh (yv_move rfl) ?_; clear hf a; intro a hf
  refine o_v hf hh (yv_move rfl) ?_; clear hf a; intro a hf
  refine o_v hf hh (yv_bin rfl rfl rfl) ?_; clear hf a; intro a hf
  refine o_v hf hh (yv_move rfl) ?_; clear hf a; intro a hf
  refine guard_split hf (t := 10) rfl (fun hg2 => ?_) (fun hg2 => ?_)
  ·have hG2 := hg2; try simp only [gS] at hG2
   refine o_v hf hh (yv_move rfl) ?_; clear hf a; intro a hf
   refine o_v hf hh (yv_move rfl) ?_; clear hf a; intro a hf
   refine o_v hf hh (yv_bin rfl rfl rfl) ?_; clear hf a; intro a hf
   refine o_v hf hh (y_pt rfl rfl) ?_; clear hf a; intro a hf
   refine o_v hf hh (yv_assign rfl) ?_; clear hf a; intro a hf
   refine o_end ?_
   refine sy_ret ?_
   refine ret_r hf rfl rfl ?_
   unfold inI
   first
     | (rw [decide_eq_true (show l ≤ n by omega), Bool.true_and]; exact ⟨rfl, hh.ext⟩)
     | (rw [decide_eq_false (show ¬ l ≤ n by omega), Bool.false_and]; exact ⟨rfl, hh.ext⟩)
  ·have hG2 := hg2; try simp only [gS] at hG2
   refine o_off hf ?_; clear hf a; intro a hf
   refine o_off hf ?_; clear hf a; intro a hf
   refine o_off hf ?_; clear hf a; intro a hf
   refine o_v hf hh (y_pf rfl rfl) ?_; clear hf a; intro a hf
   refine o_v hf hh (yv_assign rfl) ?_; clear hf a; intro a hf
   refine o_end ?_
   refine sy_ret ?_
   refine ret_r hf rfl rfl ?_
   unfold inI
   first
     | (rw [decide_eq_true (show l ≤ n by omega), Bool.true_and]; exact ⟨rfl, hh.ext⟩)
     | (rw [decide_eq_false (show ¬ l ≤ n by omega), Bool.false_and]; exact ⟨rfl, hh.ext⟩)
theorem p56n (Be : Nat) (u : World) : Calls Try.prog 38 #[.nilIface, ptr Be 0] u (Ret fun v w' => Ext [] u w') := by
  refine calls_of Try.func38 rfl rfl (fun a hf => ?_)
  have hh := Hp.init u []
  refine sy_seq ?_
  refine sy_sq ?_
  refine o_v hf hh (yv_move rfl) ?_; clear hf a; intro a hf
  refine o_v hf hh (yv_isNil (by kernel_rfl) rfl rfl) ?_; clear hf a; intro a hf
  refine o_end ?_
  refine c_t hf ?_
  refine sy_ret ?_
  refine then_r ?_
  refine ret_r hf rfl rfl ?_
  exact hh.ext
theorem p56s (Be : Nat) (e x : Int) (u : World) (hb : u.heap[Be]? = some (.cells #[.int .i64 x] 42 (0, 0))) : Calls Try.prog 38 #[.iface 174 (.agg #[.int .i64 e]), ptr Be 0] u (Ret fun v w' => Hp u [Be] [(Be, .cells #[.int .i64 e] 42)] w') := by
  refine calls_of Try.func38 rfl rfl (fun a hf => ?_)
  have hh := Hp.init1 hb
  refine sy_seq ?_
  refine sy_sq ?_
  refine o_v hf hh (yv_move rfl) ?_; clear hf a; intro a hf
  refine o_v hf hh (yv_notNil (by kernel_rfl) rfl rfl) ?_; clear hf a; intro a hf
  refine o_end ?_
  refine c_f hf ?_
  refine sy_skip ?_
  refine then_n ?_
  refine sy_sq ?_
  refine o_v hf hh (yv_move rfl) ?_; clear hf a; intro a hf
  refine o_v hf hh (yv_assert (by kernel_rfl) rfl) ?_; clear hf a; intro a hf
  refine o_v hf hh (yv_move rfl) ?_; clear hf a; intro a hf
  refine o_v hf hh (yv_extract rfl rfl) ?_; clear hf a; intro a hf
  refine o_v hf hh (yv_extract rfl rfl) ?_; clear hf a; intro a hf
  refine o_alloc hf hh Try.ze_174 ?_; clear hf hh a; intro B4 a w hf hh
  refine o_store hf hh Try.sz_174 fun w hh => ?_
  refine o_v hf hh (yv_assign rfl) ?_; clear hf a; intro a hf
  refine o_end ?_
  refine sy_seq ?_
  refine sy_sq ?_
  refine o_v hf hh (yv_move rfl) ?_; clear hf a; intro a hf
  refine o_v hf hh (yv_not rfl) ?_; clear hf a; intro a hf
  refine o_end ?_
  refine c_f hf ?_
  refine sy_skip ?_
  refine then_n ?_
  refine sy_ops ?_
  refine o_v hf hh (yv_move rfl) ?_; clear hf a; intro a hf
  refine o_v hf hh (yv_fieldAddr Try.fo_174_0 rfl) ?_; clear hf a; intro a hf
  refine o_v hf hh (y_ld Try.sc_42 rfl) ?_; clear hf a; intro a hf
  refine o_v hf hh (yv_nilCheck rfl) ?_; clear hf a; intro a hf
  refine o_store hf hh Try.sz_42 fun w hh => ?_
  refine ops_end ?_
  refine ret_n hf rfl rfl ?_
  exact hh.less (.cons _ (.cons_cons _ (.refl _)))
theorem d74r (Be : Nat) (w : World) : CallsDIn (FR none) 0 Try.prog 48 #[ptr Be 0] .returning w (fun e u' w' => (∃ v, e = .returned v) ∧ u' = .returning ∧ Ext [] w w') := by
  refine callsDIn_of_wpSIn Try.func48 rfl trivial fun c₀ cs hu => ?_
  refine wpSIn_recover (v := .nilIface) (cs' := c₀ :: cs) rfl rfl (.inr ⟨by simp [recoverD, hu], rfl, rfl⟩) ?_
  have hf := (Fr.enter [ptr Be 0] Try.f48.ntmps (Nat.le_of_ble_eq_true rfl)).put (d := 1) (blt_lt rfl) .nilIface
  refine o_call hf Try.en_38 rfl rfl rfl (p56n Be w) ?_; clear hf; intro v a w' hR hf
  refine ops_end ?_
  exact ends_s hf rfl (frame_same hu) ⟨⟨_, rfl⟩, rfl, hR⟩
theorem d74p (Be : Nat) (e x : Int) (w : World) (hb : w.heap[Be]? = some (.cells #[.int .i64 x] 42 (0, 0))) : CallsDIn (FR none) 0 Try.prog 48 #[ptr Be 0] (.panicking (misfit e)) w (fun e' u' w' => (∃ v, e' = .returned v) ∧ u' = .panicking [{ v := .iface 174 (.agg #[.int .i64 e]), recovered := true }] ∧ Hp w [Be] [(Be, .cells #[.int .i64 e] 42)] w') := by
  refine callsDIn_of_wpSIn Try.func48 rfl trivial fun c₀ cs hu => ?_
  refine wpSIn_recover (v := .iface 174 (.agg #[.int .i64 e])) (cs' := { c₀ with mode := .panicking [{ v := .iface 174 (.agg #[.int .i64 e]), recovered := true }] } :: cs) rfl rfl (.inl (by simp [recoverD, hu])) ?_
  have hf := (Fr.enter [ptr Be 0] Try.f48.ntmps (Nat.le_of_ble_eq_true rfl)).put (d := 1) (blt_lt rfl) (.iface 174 (.agg #[.int .i64 e]))
  refine o_call hf Try.en_38 rfl rfl rfl (p56s Be e x w hb) ?_; clear hf; intro v a w' hR hf
  refine ops_end ?_
  exact ends_s hf rfl rfl ⟨⟨_, rfl⟩, rfl, hR⟩
theorem d80r (Be : Nat) (w : World) : CallsDIn (FR none) 0 Try.prog 37 #[ptr Be 0] .returning w (fun e u' w' => (∃ v, e = .returned v) ∧ u' = .returning ∧ Ext [] w w') := by
  refine callsDIn_of_wpSIn Try.func37 rfl trivial fun c₀ cs hu => ?_
  refine wpSIn_recover (v := .nilIface) (cs' := c₀ :: cs) rfl rfl (.inr ⟨by simp [recoverD, hu], rfl, rfl⟩) ?_
  have hf := (Fr.enter [ptr Be 0] Try.f37.ntmps (Nat.le_of_ble_eq_true rfl)).put (d := 1) (blt_lt rfl) .nilIface
  refine o_call hf Try.en_38 rfl rfl rfl (p56n Be w) ?_; clear hf; intro v a w' hR hf
  refine ops_end ?_
  exact ends_s hf rfl (frame_same hu) ⟨⟨_, rfl⟩, rfl, hR⟩
theorem d80p (Be : Nat) (e x : Int) (w : World) (hb : w.heap[Be]? = some (.cells #[.int .i64 x] 42 (0, 0))) : CallsDIn (FR none) 0 Try.prog 37 #[ptr Be 0] (.panicking (misfit e)) w (fun e' u' w' => (∃ v, e' = .returned v) ∧ u' = .panicking [{ v := .iface 174 (.agg #[.int .i64 e]), recovered := true }] ∧ Hp w [Be] [(Be, .cells #[.int .i64 e] 42)] w') := by
  refine callsDIn_of_wpSIn Try.func37 rfl trivial fun c₀ cs hu => ?_
  refine wpSIn_recover (v := .iface 174 (.agg #[.int .i64 e])) (cs' := { c₀ with mode := .panicking [{ v := .iface 174 (.agg #[.int .i64 e]), recovered := true }] } :: cs) rfl rfl (.inl (by simp [recoverD, hu])) ?_
  have hf := (Fr.enter [ptr Be 0] Try.f37.ntmps (Nat.le_of_ble_eq_true rfl)).put (d := 1) (blt_lt rfl) (.iface 174 (.agg #[.int .i64 e]))
  refine o_call hf Try.en_38 rfl rfl rfl (p56s Be e x w hb) ?_; clear hf; intro v a w' hR hf
  refine ops_end ?_
  exact ends_s hf rfl rfl ⟨⟨_, rfl⟩, rfl, hR⟩
theorem d86r (Be : Nat) (w : World) : CallsDIn (FR none) 0 Try.prog 56 #[ptr Be 0] .returning w (fun e u' w' => (∃ v, e = .returned v) ∧ u' = .returning ∧ Ext [] w w') := by
  refine callsDIn_of_wpSIn Try.func56 rfl trivial fun c₀ cs hu => ?_
  refine wpSIn_recover (v := .nilIface) (cs' := c₀ :: cs) rfl rfl (.inr ⟨by simp [recoverD, hu], rfl, rfl⟩) ?_
  have hf := (Fr.enter [ptr Be 0] Try.f56.ntmps (Nat.le_of_ble_eq_true rfl)).put (d := 1) (blt_lt rfl) .nilIface
  refine o_call hf Try.en_38 rfl rfl rfl (p56n Be w) ?_; clear hf; intro v a w' hR hf
  refine ops_end ?_
  exact ends_s hf rfl (frame_same hu) ⟨⟨_, rfl⟩, rfl, hR⟩
theorem d86p (Be : Nat) (e x : Int) (w : World) (hb : w.heap[Be]? = some (.cells #[.int .i64 x] 42 (0, 0))) : CallsDIn (FR none) 0 Try.prog 56 #[ptr Be 0] (.panicking (misfit e)) w (fun e' u' w' => (∃ v, e' = .returned v) ∧ u' = .panicking [{ v := .iface 174 (.agg #[.int .i64 e]), recovered := true }] ∧ Hp w [Be] [(Be, .cells #[.int .i64 e] 42)] w') := by
  refine callsDIn_of_wpSIn Try.func56 rfl trivial fun c₀ cs hu => ?_
  refine wpSIn_recover (v := .iface 174 (.agg #[.int .i64 e])) (cs' := { c₀ with mode := .panicking [{ v := .iface 174 (.agg #[.int .i64 e]), recovered := true }] } :: cs) rfl rfl (.inl (by simp [recoverD, hu])) ?_
  have hf := (Fr.enter [ptr Be 0] Try.f56.ntmps (Nat.le_of_ble_eq_true rfl)).put (d := 1) (blt_lt rfl) (.iface 174 (.agg #[.int .i64 e]))
  refine o_call hf Try.en_38 rfl rfl rfl (p56s Be e x w hb) ?_; clear hf; intro v a w' hR hf
  refine ops_end ?_
  exact ends_s hf rfl rfl ⟨⟨_, rfl⟩, rfl, hR⟩
end Go.Proofs.Ytccpgpnekoncoaa
namespace Go.Proofs.Ytccpgpnekoncoaa
open Go Go.Sy Go.RoyM
theorem p101 (ok : Int → Bool) (l : List (Int)) (sa : Option Addr) (c0 : Nat) (f : Nat) (fcs : Array Value) (u : World) (hM : IAt u sa l) (hl : l.length ≤ 1000) (hE : Enters Try.prog f) (hcall : ∀ (x : Int), x ∈ l → ∀ (w1 : World), Ext [] u w1 → Calls Try.prog f (#[] ++ [.int .i64 x].toArray ++ fcs) w1 (Ret fun v w'' => v = .bool (!ok x) ∧ Ext [] w1 w'')) : Calls Try.prog 138 #[.slice sa l.length c0, .func (.func f) #[] fcs] u (Ret fun v w' => v = .int .i64 (fbad ok l 0) ∧ Ext [] u w') := by
  refine calls_of Try.func138 rfl rfl (fun a hf => ?_)
  have hh := Hp.init u []
  refine sy_sq ?_
  refine o_v hf hh (yv_assign rfl) ?_; clear hf a; intro a hf
  refine o_end ?_
  refine sy_seq ?_
  refine sy_sq ?_
  refine o_v hf hh (yv_move rfl) ?_; clear hf a; intro a hf
  refine o_v hf hh (yv_len Try.se_25 rfl) ?_; clear hf a; intro a hf
  refine o_v hf hh (yv_move rfl) ?_; clear hf a; intro a hf
  refine o_end ?_
  refine sy_block ?_
  refine sy_loopF (σ := Nat) [4, 5, 8, 9, 10, 11, 12, 13, 14, 15, 16, 17, 18] (fun i => [(8, .int .i64 i)]) (fun i => i ≤ l.length ∧ fbad ok l 0 = fbad ok (l.drop i) i) (fun i => l.length - i) (0) hf hh ?_ ?_ ?_
  · repeat' (first | exact True.intro | refine And.intro rfl ?_)
  · exact ⟨Nat.zero_le _, rfl⟩
  ·rintro i a w ⟨hi, hq⟩ hf hh
   refine sy_sq ?_
   refine o_v hf hh (yv_bin rfl rfl rfl) ?_; clear hf a; intro a hf
   refine o_end ?_
   refine sy_seq ?_
   refine sy_cond hf rfl (fun hg2 => ?_) (fun hg2 => ?_)
   ·have hG2 := hg2; try simp only [gS] at hG2
    refine sy_skip ?_
    refine then_n ?_
    refine sy_seq ?_
    refine sy_block ?_
    refine sy_seq ?_
    obtain ⟨m, hm⟩ := ex_of (l := l) (i := i) (by omega)
    obtain ⟨blk, off, cc, T, fr, e, hb, hc⟩ := hM i m hm; subst e
    refine sy_ops ?_
    refine o_v hf hh (yv_move rfl) ?_; clear hf a; intro a hf
    refine o_v hf hh (yv_assign rfl) ?_; clear hf a; intro a hf
    refine o_end ?_
    refine sy_sq ?_
    refine o_v hf hh (yv_move rfl) ?_; clear hf a; intro a hf
    refine o_v hf hh (yv_move rfl) ?_; clear hf a; intro a hf
    refine o_v hf hh (yv_move rfl) ?_; clear hf a; intro a hf
    refine o_v hf hh (y_ix Try.se_25 rfl rfl) ?_; clear hf a; intro a hf
    refine o_v hf hh (y_ld Try.sc_3 rfl) ?_; clear hf a; intro a hf
    refine o_call hf hE rfl rfl rfl (hcall m (List.mem_of_getElem? hm) _ hh.ext) ?_; clear hf a; intro v a w hR hf
    obtain ⟨rfl, hx⟩ := hR; replace hh := hh.more hx; clear hx
    refine o_end ?_
    refine sy_cond hf rfl (fun hg4 => ?_) (fun hg4 => ?_)
    ·have hG4 := hg4; try simp only [gS] at hG4
     refine sy_sq ?_
     refine o_v hf hh (yv_move rfl) ?_; clear hf a; intro a hf
     refine o_v hf hh (yv_assign rfl) ?_; clear hf a; intro a hf
     refine o_end ?_
     refine sy_ret ?_
     refine blk_r ?_
     refine then_r ?_
     refine then_r ?_
     refine blk_r ?_
     refine then_r ?_
     refine ret_r hf rfl rfl ?_
     exact ⟨congrArg (Value.int .i64) (by rw [hq, fbad_drop hm, if_neg (by simp_all)]), hh.ext⟩
    ·have hG4 := hg4; try simp only [gS] at hG4
     refine sy_skip ?_
     refine blk_n ?_
     refine then_n ?_
     refine sy_ops ?_
     refine o_v hf hh (y_add rfl rfl) ?_; clear hf a; intro a hf
     refine o_v hf hh (yv_move rfl) ?_; clear hf a; intro a hf
     refine ops_end ?_
     refine then_n ?_
     refine ⟨i + 1, ⟨⟨by omega, by rw [hq, fbad_drop hm, if_pos (by simp_all)]⟩, (hf.head (by repeat' (first | exact True.intro | refine And.intro rfl ?_)) (Keep.cons rfl (Keep.cons rfl (Keep.cons rfl (Keep.cons rfl (Keep.cons rfl (Keep.cons rfl (Keep.cons rfl (Keep.cons rfl (Keep.cons rfl (Keep.cons rfl (Keep.cons rfl (Keep.app rfl (Keep.rm rfl Keep.base)))))))))))))), hh⟩, by omega⟩
   ·have hG2 := hg2; try simp only [gS] at hG2
    refine sy_exit ?_
    refine then_e ?_
    refine then_e ?_
    refine blk_e ?_
    refine then_n ?_
    refine sy_sq ?_
    refine o_v hf hh (yv_assign rfl) ?_; clear hf a; intro a hf
    refine o_end ?_
    refine sy_ret ?_
    refine ret_r hf rfl rfl ?_
    exact ⟨congrArg (Value.int .i64) (by rw [hq, List.drop_eq_nil_of_le (by omega)]; rfl), hh.ext⟩
theorem p90 (ok : Int → Bool) (l : List (Int)) (sa : Option Addr) (c0 : Nat) (f : Nat) (fcs : Array Value) (u : World) (hM : IAt u sa l) (hl : l.length ≤ 1000) (hE : Enters Try.prog f) (hcall : ∀ (x : Int), x ∈ l → ∀ (w1 : World), Ext [] u w1 → Calls Try.prog f (#[] ++ [.int .i64 x].toArray ++ fcs) w1 (Ret fun v w'' => v = .bool (!ok x) ∧ Ext [] w1 w'')) : Calls Try.prog 95 #[.slice sa l.length c0, .func (.func f) #[] fcs] u (Ret fun v w' => v = .bool (!l.all ok) ∧ Ext [] u w') := by
  refine calls_of Try.func95 rfl rfl (fun a hf => ?_)
  have hh := Hp.init u []
  refine sy_sq ?_
  refine o_v hf hh (yv_assign rfl) ?_; clear hf a; intro a hf
  refine o_end ?_
  refine sy_sq ?_
  refine o_v hf hh (yv_move rfl) ?_; clear hf a; intro a hf
  refine o_v hf hh (yv_move rfl) ?_; clear hf a; intro a hf
  refine o_call hf Try.en_138 rfl rfl rfl (p101 ok l sa c0 f fcs _ (hM.ext hh.ext) hl hE (fun x hx w1 e => hcall x hx w1 (hh.ext.trans e))) ?_; clear hf a; intro v a w hR hf
  obtain ⟨rfl, hx⟩ := hR; replace hh := hh.more hx; clear hx
  refine o_v hf hh (yv_bin rfl rfl rfl) ?_; clear hf a; intro a hf
  refine o_v hf hh (yv_assign rfl) ?_; clear hf a; intro a hf
  refine o_end ?_
  refine sy_ret ?_
  refine ret_r hf rfl rfl ?_
  exact ⟨congrArg Value.bool (fbad_all ok l 0), hh.ext⟩
theorem p116 (ok : TermD → Bool) (l : List (TermD)) (sa : Option Addr) (c0 : Nat) (f : Nat) (fcs : Array Value) (u : World) (hM : TAt 3 tmC u sa l) (hl : l.length ≤ 1000) (hE : Enters Try.prog f) (hcall : ∀ (x : TermD), x ∈ l → ∀ (w1 : World), Ext [] u w1 → Calls Try.prog f (#[] ++ [tmV x].toArray ++ fcs) w1 (Ret fun v w'' => v = .bool (!ok x) ∧ Ext [] w1 w'')) : Calls Try.prog 159 #[.slice sa l.length c0, .func (.func f) #[] fcs] u (Ret fun v w' => v = .int .i64 (fbad ok l 0) ∧ Ext [] u w') := by
  refine calls_of Try.func159 rfl rfl (fun a hf => ?_)
  have hh := Hp.init u []
  refine sy_sq ?_
  refine o_v hf hh (yv_assign rfl) ?_; clear hf a; intro a hf
  refine o_end ?_
  refine sy_seq ?_
  refine sy_sq ?_
  refine o_v hf hh (yv_move rfl) ?_; clear hf a; intro a hf
  refine o_v hf hh (yv_len Try.se_46 rfl) ?_; clear hf a; intro a hf
  refine o_v hf hh (yv_move rfl) ?_; clear hf a; intro a hf
  refine o_end ?_
  refine sy_block ?_
  refine sy_loopF (σ := Nat) [4, 5, 8, 9, 10, 11, 12, 13, 14, 15, 16, 17, 18] (fun i => [(8, .int .i64 i)]) (fun i => i ≤ l.length ∧ fbad ok l 0 = fbad ok (l.drop i) i) (fun i => l.length - i) (0) hf hh ?_ ?_ ?_
  · repeat' (first | exact True.intro | refine And.intro rfl ?_)
  · exact ⟨Nat.zero_le _, rfl⟩
  ·rintro i a w ⟨hi, hq⟩ hf hh
   refine sy_sq ?_
   refine o_v hf hh (yv_bin rfl rfl rfl) ?_; clear hf a; intro a hf
   refine o_end ?_
   refine sy_seq ?_
   refine sy_cond hf rfl (fun hg2 => ?_) (fun hg2 => ?_)
   ·have hG2 := hg2; try simp only [gS] at hG2
    refine sy_skip ?_
    refine then_n ?_
    refine sy_seq ?_
    refine sy_block ?_
    refine sy_seq ?_
    obtain ⟨m, hm⟩ := ex_of (l := l) (i := i) (by omega)
    obtain ⟨blk, off, cc, T, fr, e, hb, hc⟩ := hM i m hm; subst e
    refine sy_ops ?_
    refine o_v hf hh (yv_move rfl) ?_; clear hf a; intro a hf
    refine o_v hf hh (yv_assign rfl) ?_; clear hf a; intro a hf
    refine o_end ?_
    refine sy_sq ?_
    refine o_v hf hh (yv_move rfl) ?_; clear hf a; intro a hf
    refine o_v hf hh (yv_move rfl) ?_; clear hf a; intro a hf
    refine o_v hf hh (yv_move rfl) ?_; clear hf a; intro a hf
    refine o_v hf hh (y_ix Try.se_46 rfl rfl) ?_; clear hf a; intro a hf
    refine o_v hf hh (y_lds Try.ag_23 rfl) ?_; clear hf a; intro a hf
    refine o_call hf hE rfl rfl rfl (hcall m (List.mem_of_getElem? hm) _ hh.ext) ?_; clear hf a; intro v a w hR hf
    obtain ⟨rfl, hx⟩ := hR; replace hh := hh.more hx; clear hx
    refine o_end ?_
    refine sy_cond hf rfl (fun hg4 => ?_) (fun hg4 => ?_)
    ·have hG4 := hg4; try simp only [gS] at hG4
     refine sy_sq ?_
     refine o_v hf hh (yv_move rfl) ?_; clear hf a; intro a hf
     refine o_v hf hh (yv_assign rfl) ?_; clear hf a; intro a hf
     refine o_end ?_
     refine sy_ret ?_
     refine blk_r ?_
     refine then_r ?_
     refine then_r ?_
     refine blk_r ?_
     refine then_r ?_
     refine ret_r hf rfl rfl ?_
     exact ⟨congrArg (Value.int .i64) (by rw [hq, fbad_drop hm, if_neg (by simp_all)]), hh.ext⟩
    ·have hG4 := hg4; try simp only [gS] at hG4
     refine sy_skip ?_
     refine blk_n ?_
     refine then_n ?_
     refine sy_ops ?_
     refine o_v hf hh (y_add rfl rfl) ?_; clear hf a; intro a hf
     refine o_v hf hh (yv_move rfl) ?_; clear hf a; intro a hf
     refine ops_end ?_
     refine then_n ?_
     refine ⟨i + 1, ⟨⟨by omega, by rw [hq, fbad_drop hm, if_pos (by simp_all)]⟩, (hf.head (by repeat' (first | exact True.intro | refine And.intro rfl ?_)) (Keep.cons rfl (Keep.cons rfl (Keep.cons rfl (Keep.cons rfl (Keep.cons rfl (Keep.cons rfl (Keep.cons rfl (Keep.cons rfl (Keep.cons rfl (Keep.cons rfl (Keep.cons rfl (Keep.app rfl (Keep.rm rfl Keep.base)))))))))))))), hh⟩, by omega⟩
   ·have hG2 := hg2; try simp only [gS] at hG2
    refine sy_exit ?_
    refine then_e ?_
    refine then_e ?_
    refine blk_e ?_
    refine then_n ?_
    refine sy_sq ?_
    refine o_v hf hh (yv_assign rfl) ?_; clear hf a; intro a hf
    refine o_end ?_
    refine sy_ret ?_
    refine ret_r hf rfl rfl ?_
    exact ⟨congrArg (Value.int .i64) (by rw [hq, List.drop_eq_nil_of_le (by omega)]; rfl), hh.ext⟩
theorem p109 (ok : TermD → Bool) (l : List (TermD)) (sa : Option Addr) (c0 : Nat) (f : Nat) (fcs : Array Value) (u : World) (hM : TAt 3 tmC u sa l) (hl : l.length ≤ 1000) (hE : Enters Try.prog f) (hcall : ∀ (x : TermD), x ∈ l → ∀ (w1 : World), Ext [] u w1 → Calls Try.prog f (#[] ++ [tmV x].toArray ++ fcs) w1 (Ret fun v w'' => v = .bool (!ok x) ∧ Ext [] w1 w'')) : Calls Try.prog 134 #[.slice sa l.length c0, .func (.func f) #[] fcs] u (Ret fun v w' => v = .bool (!l.all ok) ∧ Ext [] u w') := by
  refine calls_of Try.func134 rfl rfl (fun a hf => ?_)
  have hh := Hp.init u []
  refine sy_sq ?_
  refine o_v hf hh (yv_assign rfl) ?_; clear hf a; intro a hf
  refine o_end ?_
  refine sy_sq ?_
  refine o_v hf hh (yv_move rfl) ?_; clear hf a; intro a hf
  refine o_v hf hh (yv_move rfl) ?_; clear hf a; intro a hf
  refine o_call hf Try.en_159 rfl rfl rfl (p116 ok l sa c0 f fcs _ (hM.ext hh.ext) hl hE (fun x hx w1 e => hcall x hx w1 (hh.ext.trans e))) ?_; clear hf a; intro v a w hR hf
  obtain ⟨rfl, hx⟩ := hR; replace hh := hh.more hx; clear hx
  refine o_v hf hh (yv_bin rfl rfl rfl) ?_; clear hf a; intro a hf
  refine o_v hf hh (yv_assign rfl) ?_; clear hf a; intro a hf
  refine o_end ?_
  refine sy_ret ?_
  refine ret_r hf rfl rfl ?_
  exact ⟨congrArg Value.bool (fbad_all ok l 0), hh.ext⟩
theorem p117 (ok : List Int → Bool) (l : List (List Int)) (sa : Option Addr) (c0 : Nat) (f : Nat) (fcs : Array Value) (u : World) (hM : LAt u sa l) (hl : l.length ≤ 1000) (hE : Enters Try.prog f) (hcall : ∀ (x : List Int), x ∈ l → ∀ (sb : Option Addr) (cb : Nat) (w1 : World), Ext [] u w1 → IAt w1 sb x → Calls Try.prog f (#[] ++ [.slice sb x.length cb].toArray ++ fcs) w1 (Ret fun v w'' => v = .bool (!ok x) ∧ Ext [] w1 w'')) : Calls Try.prog 160 #[.slice sa l.length c0, .func (.func f) #[] fcs] u (Ret fun v w' => v = .int .i64 (fbad ok l 0) ∧ Ext [] u w') := by
  refine calls_of Try.func160 rfl rfl (fun a hf => ?_)
  have hh := Hp.init u []
  refine sy_sq ?_
  refine o_v hf hh (yv_assign rfl) ?_; clear hf a; intro a hf
  refine o_end ?_
  refine sy_seq ?_
  refine sy_sq ?_
  refine o_v hf hh (yv_move rfl) ?_; clear hf a; intro a hf
  refine o_v hf hh (yv_len Try.se_47 rfl) ?_; clear hf a; intro a hf
  refine o_v hf hh (yv_move rfl) ?_; clear hf a; intro a hf
  refine o_end ?_
  refine sy_block ?_
  refine sy_loopF (σ := Nat) [4, 5, 8, 9, 10, 11, 12, 13, 14, 15, 16, 17, 18] (fun i => [(8, .int .i64 i)]) (fun i => i ≤ l.length ∧ fbad ok l 0 = fbad ok (l.drop i) i) (fun i => l.length - i) (0) hf hh ?_ ?_ ?_
  · repeat' (first | exact True.intro | refine And.intro rfl ?_)
  · exact ⟨Nat.zero_le _, rfl⟩
  ·rintro i a w ⟨hi, hq⟩ hf hh
   refine sy_sq ?_
   refine o_v hf hh (yv_bin rfl rfl rfl) ?_; clear hf a; intro a hf
   refine o_end ?_
   refine sy_seq ?_
   refine sy_cond hf rfl (fun hg2 => ?_) (fun hg2 => ?_)
   ·have hG2 := hg2; try simp only [gS] at hG2
    refine sy_skip ?_
    refine then_n ?_
    refine sy_seq ?_
    refine sy_block ?_
    refine sy_seq ?_
    obtain ⟨m, hm⟩ := ex_of (l := l) (i := i) (by omega)
    obtain ⟨blk, off, cc, T, fr, sb, cb, e, hb, hc, hI⟩ := hM i m hm; subst e
    refine sy_ops ?_
    refine o_v hf hh (yv_move rfl) ?_; clear hf a; intro a hf
    refine o_v hf hh (yv_assign rfl) ?_; clear hf a; intro a hf
    refine o_end ?_
    refine sy_sq ?_
    refine o_v hf hh (yv_move rfl) ?_; clear hf a; intro a hf
    refine o_v hf hh (yv_move rfl) ?_; clear hf a; intro a hf
    refine o_v hf hh (yv_move rfl) ?_; clear hf a; intro a hf
    refine o_v hf hh (y_ix Try.se_47 rfl rfl) ?_; clear hf a; intro a hf
    refine o_v hf hh (y_ld Try.sc_25 rfl) ?_; clear hf a; intro a hf
    refine o_call hf hE rfl rfl rfl (hcall m (List.mem_of_getElem? hm) sb cb _ hh.ext (hI.ext hh.ext)) ?_; clear hf a; intro v a w hR hf
    obtain ⟨rfl, hx⟩ := hR; replace hh := hh.more hx; clear hx
    refine o_end ?_
    refine sy_cond hf rfl (fun hg4 => ?_) (fun hg4 => ?_)
    ·have hG4 := hg4; try simp only [gS] at hG4
     refine sy_sq ?_
     refine o_v hf hh (yv_move rfl) ?_; clear hf a; intro a hf
     refine o_v hf hh (yv_assign rfl) ?_; clear hf a; intro a hf
     refine o_end ?_
     refine sy_ret ?_
     refine blk_r ?_
     refine then_r ?_
     refine then_r ?_
     refine blk_r ?_
     refine then_r ?_
     refine ret_r hf rfl rfl ?_
     exact ⟨congrArg (Value.int .i64) (by rw [hq, fbad_drop hm, if_neg (by simp_all)]), hh.ext⟩
    ·have hG4 := hg4; try simp only [gS] at hG4
     refine sy_skip ?_
     refine blk_n ?_
     refine then_n ?_
     refine sy_ops ?_
     refine o_v hf hh (y_add rfl rfl) ?_; clear hf a; intro a hf
     refine o_v hf hh (yv_move rfl) ?_; clear hf a; intro a hf
     refine ops_end ?_
     refine then_n ?_
     refine ⟨i + 1, ⟨⟨by omega, by rw [hq, fbad_drop hm, if_pos (by simp_all)]⟩, (hf.head (by repeat' (first | exact True.intro | refine And.intro rfl ?_)) (Keep.cons rfl (Keep.cons rfl (Keep.cons rfl (Keep.cons rfl (Keep.cons rfl (Keep.cons rfl (Keep.cons rfl (Keep.cons rfl (Keep.cons rfl (Keep.cons rfl (Keep.cons rfl (Keep.app rfl (Keep.rm rfl Keep.base)))))))))))))), hh⟩, by omega⟩
   ·have hG2 := hg2; try simp only [gS] at hG2
    refine sy_exit ?_
    refine then_e ?_
    refine then_e ?_
    refine blk_e ?_
    refine then_n ?_
    refine sy_sq ?_
    refine o_v hf hh (yv_assign rfl) ?_; clear hf a; intro a hf
    refine o_end ?_
    refine sy_ret ?_
    refine ret_r hf rfl rfl ?_
    exact ⟨congrArg (Value.int .i64) (by rw [hq, List.drop_eq_nil_of_le (by omega)]; rfl), hh.ext⟩
theorem p110 (ok : List Int → Bool) (l : List (List Int)) (sa : Option Addr) (c0 : Nat) (f : Nat) (fcs : Array Value) (u : World) (hM : LAt u sa l) (hl : l.length ≤ 1000) (hE : Enters Try.prog f) (hcall : ∀ (x : List Int), x ∈ l → ∀ (sb : Option Addr) (cb : Nat) (w1 : World), Ext [] u w1 → IAt w1 sb x → Calls Try.prog f (#[] ++ [.slice sb x.length cb].toArray ++ fcs) w1 (Ret fun v w'' => v = .bool (!ok x) ∧ Ext [] w1 w'')) : Calls Try.prog 135 #[.slice sa l.length c0, .func (.func f) #[] fcs] u (Ret fun v w' => v = .bool (!l.all ok) ∧ Ext [] u w') := by
  refine calls_of Try.func135 rfl rfl (fun a hf => ?_)
  have hh := Hp.init u []
  refine sy_sq ?_
  refine o_v hf hh (yv_assign rfl) ?_; clear hf a; intro a hf
  refine o_end ?_
  refine sy_sq ?_
  refine o_v hf hh (yv_move rfl) ?_; clear hf a; intro a hf
  refine o_v hf hh (yv_move rfl) ?_; clear hf a; intro a hf
  refine o_call hf Try.en_160 rfl rfl rfl (p117 ok l sa c0 f fcs _ (hM.ext hh.ext) hl hE (fun x hx sb cb w1 e => hcall x hx sb cb w1 (hh.ext.trans e))) ?_; clear hf a; intro v a w hR hf
  obtain ⟨rfl, hx⟩ := hR; replace hh := hh.more hx; clear hx
  refine o_v hf hh (yv_bin rfl rfl rfl) ?_; clear hf a; intro a hf
  refine o_v hf hh (yv_assign rfl) ?_; clear hf a; intro a hf
  refine o_end ?_
  refine sy_ret ?_
  refine ret_r hf rfl rfl ?_
  exact ⟨congrArg Value.bool (fbad_all ok l 0), hh.ext⟩
theorem p118 (ok : RepD → Bool) (l : List (RepD)) (sa : Option Addr) (c0 : Nat) (f : Nat) (fcs : Array Value) (u : World) (hM : TAt 4 rpC u sa l) (hl : l.length ≤ 1000) (hE : Enters Try.prog f) (hcall : ∀ (x : RepD), x ∈ l → ∀ (w1 : World), Ext [] u w1 → Calls Try.prog f (#[] ++ [rpV x].toArray ++ fcs) w1 (Ret fun v w'' => v = .bool (!ok x) ∧ Ext [] w1 w'')) : Calls Try.prog 161 #[.slice sa l.length c0, .func (.func f) #[] fcs] u (Ret fun v w' => v = .int .i64 (fbad ok l 0) ∧ Ext [] u w') := by
  refine calls_of Try.func161 rfl rfl (fun a hf => ?_)
  have hh := Hp.init u []
  refine sy_sq ?_
  refine o_v hf hh (yv_assign rfl) ?_; clear hf a; intro a hf
  refine o_end ?_
  refine sy_seq ?_
  refine sy_sq ?_
  refine o_v hf hh (yv_move rfl) ?_; clear hf a; intro a hf
  refine o_v hf hh (yv_len Try.se_50 rfl) ?_; clear hf a; intro a hf
  refine o_v hf hh (yv_move rfl) ?_; clear hf a; intro a hf
  refine o_end ?_
  refine sy_block ?_
  refine sy_loopF (σ := Nat) [4, 5, 8, 9, 10, 11, 12, 13, 14, 15, 16, 17, 18] (fun i => [(8, .int .i64 i)]) (fun i => i ≤ l.length ∧ fbad ok l 0 = fbad ok (l.drop i) i) (fun i => l.length - i) (0) hf hh ?_ ?_ ?_
  · repeat' (first | exact True.intro | refine And.intro rfl ?_)
  · exact ⟨Nat.zero_le _, rfl⟩
  ·rintro i a w ⟨hi, hq⟩ hf hh
   refine sy_sq ?_
   refine o_v hf hh (yv_bin rfl rfl rfl) ?_; clear hf a; intro a hf
   refine o_end ?_
   refine sy_seq ?_
   refine sy_cond hf rfl (fun hg2 => ?_) (fun hg2 => ?_)
   ·have hG2 := hg2; try simp only [gS] at hG2
    refine sy_skip ?_
    refine then_n ?_
    refine sy_seq ?_
    refine sy_block ?_
    refine sy_seq ?_
    obtain ⟨m, hm⟩ := ex_of (l := l) (i := i) (by omega)
    obtain ⟨blk, off, cc, T, fr, e, hb, hc⟩ := hM i m hm; subst e
    refine sy_ops ?_
    refine o_v hf hh (yv_move rfl) ?_; clear hf a; intro a hf
    refine o_v hf hh (yv_assign rfl) ?_; clear hf a; intro a hf
    refine o_end ?_
    refine sy_sq ?_
    refine o_v hf hh (yv_move rfl) ?_; clear hf a; intro a hf
    refine o_v hf hh (yv_move rfl) ?_; clear hf a; intro a hf
    refine o_v hf hh (yv_move rfl) ?_; clear hf a; intro a hf
    refine o_v hf hh (y_ix Try.se_50 rfl rfl) ?_; clear hf a; intro a hf
    refine o_v hf hh (y_lds Try.ag_49 rfl) ?_; clear hf a; intro a hf
    refine o_call hf hE rfl rfl rfl (hcall m (List.mem_of_getElem? hm) _ hh.ext) ?_; clear hf a; intro v a w hR hf
    obtain ⟨rfl, hx⟩ := hR; replace hh := hh.more hx; clear hx
    refine o_end ?_
    refine sy_cond hf rfl (fun hg4 => ?_) (fun hg4 => ?_)
    ·have hG4 := hg4; try simp only [gS] at hG4
     refine sy_sq ?_
     refine o_v hf hh (yv_move rfl) ?_; clear hf a; intro a hf
     refine o_v hf hh (yv_assign rfl) ?_; clear hf a; intro a hf
     refine o_end ?_
     refine sy_ret ?_
     refine blk_r ?_
     refine then_r ?_
     refine then_r ?_
     refine blk_r ?_
     refine then_r ?_
     refine ret_r hf rfl rfl ?_
     exact ⟨congrArg (Value.int .i64) (by rw [hq, fbad_drop hm, if_neg (by simp_all)]), hh.ext⟩
    ·have hG4 := hg4; try simp only [gS] at hG4
     refine sy_skip ?_
     refine blk_n ?_
     refine then_n ?_
     refine sy_ops ?_
     refine o_v hf hh (y_add rfl rfl) ?_; clear hf a; intro a hf
     refine o_v hf hh (yv_move rfl) ?_; clear hf a; intro a hf
     refine ops_end ?_
     refine then_n ?_
     refine ⟨i + 1, ⟨⟨by omega, by rw [hq, fbad_drop hm, if_pos (by simp_all)]⟩, (hf.head (by repeat' (first | exact True.intro | refine And.intro rfl ?_)) (Keep.cons rfl (Keep.cons rfl (Keep.cons rfl (Keep.cons rfl (Keep.cons rfl (Keep.cons rfl (Keep.cons rfl (Keep.cons rfl (Keep.cons rfl (Keep.cons rfl (Keep.cons rfl (Keep.app rfl (Keep.rm rfl Keep.base)))))))))))))), hh⟩, by omega⟩
   ·have hG2 := hg2; try simp only [gS] at hG2
    refine sy_exit ?_
    refine then_e ?_
    refine then_e ?_
    refine blk_e ?_
    refine then_n ?_
    refine sy_sq ?_
    refine o_v hf hh (yv_assign rfl) ?_; clear hf a; intro a hf
    refine o_end ?_
    refine sy_ret ?_
    refine ret_r hf rfl rfl ?_
    exact ⟨congrArg (Value.int .i64) (by rw [hq, List.drop_eq_nil_of_le (by omega)]; rfl), hh.ext⟩
theorem p111 (ok : RepD → Bool) (l : List (RepD)) (sa : Option Addr) (c0 : Nat) (f : Nat) (fcs : Array Value) (u : World) (hM : TAt 4 rpC u sa l) (hl : l.length ≤ 1000) (hE : Enters Try.prog f) (hcall : ∀ (x : RepD), x ∈ l → ∀ (w1 : World), Ext [] u w1 → Calls Try.prog f (#[] ++ [rpV x].toArray ++ fcs) w1 (Ret fun v w'' => v = .bool (!ok x) ∧ Ext [] w1 w'')) : Calls Try.prog 136 #[.slice sa l.length c0, .func (.func f) #[] fcs] u (Ret fun v w' => v = .bool (!l.all ok) ∧ Ext [] u w') := by
  refine calls_of Try.func136 rfl rfl (fun a hf => ?_)
  have hh := Hp.init u []
  refine sy_sq ?_
  refine o_v hf hh (yv_assign rfl) ?_; clear hf a; intro a hf
  refine o_end ?_
  refine sy_sq ?_
  refine o_v hf hh (yv_move rfl) ?_; clear hf a; intro a hf
  refine o_v hf hh (yv_move rfl) ?_; clear hf a; intro a hf
  refine o_call hf Try.en_161 rfl rfl rfl (p118 ok l sa c0 f fcs _ (hM.ext hh.ext) hl hE (fun x hx w1 e => hcall x hx w1 (hh.ext.trans e))) ?_; clear hf a; intro v a w hR hf
  obtain ⟨rfl, hx⟩ := hR; replace hh := hh.more hx; clear hx
  refine o_v hf hh (yv_bin rfl rfl rfl) ?_; clear hf a; intro a hf
  refine o_v hf hh (yv_assign rfl) ?_; clear hf a; intro a hf
  refine o_end ?_
  refine sy_ret ?_
  refine ret_r hf rfl rfl ?_
  exact ⟨congrArg Value.bool (fbad_all ok l 0), hh.ext⟩
end Go.Proofs.Ytccpgpnekoncoaa
namespace Go.Proofs.Ytccpgpnekoncoaa
set_option maxRecDepth 100000
open Go Go.Sy Go.RoyM
theorem p89 (n : Int) (w : World) : Calls Try.prog 94 #[.int .i64 n] w (Ret fun v w' => v = .bool (!inI n 0 1000) ∧ Ext [] w w') := by
  refine calls_of Try.func94 rfl rfl (fun a hf => ?_)
  have hh := Hp.init w []
  refine sy_sq ?_
  refine o_v hf hh (yv_assign rfl) ?_; clear hf a; intro a hf
  refine o_end ?_
  refine sy_sq ?_
  refine o_v hf hh (yv_move rfl) ?_; clear hf a; intro a hf
  refine o_call hf Try.en_52 rfl rfl rfl (p48 _ _ _ _) ?_; clear hf a; intro v a w hR hf
  obtain ⟨rfl, hx⟩ := hR; replace hh := hh.more hx; clear hx
  refine o_v hf hh (yv_not rfl) ?_; clear hf a; intro a hf
  refine o_v hf hh (yv_assign rfl) ?_; clear hf a; intro a hf
  refine o_end ?_
  refine sy_ret ?_
  refine ret_r hf rfl rfl ?_
  exact ⟨rfl, hh.ext⟩
theorem p105 (n : Int) (w : World) : Calls Try.prog 130 #[.int .i64 n] w (Ret fun v w' => v = .bool (!inI n 0 1099511627776) ∧ Ext [] w w') := by
  refine calls_of Try.func130 rfl rfl (fun a hf => ?_)
  have hh := Hp.init w []
  refine sy_sq ?_
  refine o_v hf hh (yv_assign rfl) ?_; clear hf a; intro a hf
  refine o_end ?_
  refine sy_sq ?_
  refine o_v hf hh (yv_move rfl) ?_; clear hf a; intro a hf
  refine o_call hf Try.en_52 rfl rfl rfl (p48 _ _ _ _) ?_; clear hf a; intro v a w hR hf
  obtain ⟨rfl, hx⟩ := hR; replace hh := hh.more hx; clear hx
  refine o_v hf hh (yv_not rfl) ?_; clear hf a; intro a hf
  refine o_v hf hh (yv_assign rfl) ?_; clear hf a; intro a hf
  refine o_end ?_
  refine sy_ret ?_
  refine ret_r hf rfl rfl ?_
  exact ⟨rfl, hh.ext⟩
theorem p106 (n : Int) (w : World) : Calls Try.prog 131 #[.int .i64 n] w (Ret fun v w' => v = .bool (!inI n 0 1048576) ∧ Ext [] w w') := by
  refine calls_of Try.func131 rfl rfl (fun a hf => ?_)
  have hh := Hp.init w []
  refine sy_sq ?_
  refine o_v hf hh (yv_assign rfl) ?_; clear hf a; intro a hf
  refine o_end ?_
  refine sy_sq ?_
  refine o_v hf hh (yv_move rfl) ?_; clear hf a; intro a hf
  refine o_call hf Try.en_52 rfl rfl rfl (p48 _ _ _ _) ?_; clear hf a; intro v a w hR hf
  obtain ⟨rfl, hx⟩ := hR; replace hh := hh.more hx; clear hx
  refine o_v hf hh (yv_not rfl) ?_; clear hf a; intro a hf
  refine o_v hf hh (yv_assign rfl) ?_; clear hf a; intro a hf
  refine o_end ?_
  refine sy_ret ?_
  refine ret_r hf rfl rfl ?_
  exact ⟨rfl, hh.ext⟩
theorem termB_in (t : TermD) : termB t = (inI t.f 0 100 && inI t.b 0 100 && inI t.u 0 12) := rfl
theorem p52 (t : TermD) (w : World) : Calls Try.prog 51 #[tmV t] w (Ret fun v w' => v = .bool (termB t) ∧ Ext [] w w') := by
  refine calls_of Try.func51 rfl rfl (fun a hf => ?_)
  have hh := Hp.init w []
  rw [termB_in]
  refine sy_sq ?_
  refine o_box hf hh ?_; clear hf hh a; intro B1 a w hf hh
  refine o_v hf hh (yv_assign rfl) ?_; clear hf a; intro a hf
  refine o_end ?_
  refine sy_sq ?_
  refine o_v hf hh (yv_fieldAddr Try.fo_23_0 rfl) ?_; clear hf a; intro a hf
  refine o_v hf hh (y_ld Try.sc_3 rfl) ?_; clear hf a; intro a hf
  refine o_call hf Try.en_52 rfl rfl rfl (p48 _ _ _ _) ?_; clear hf a; intro v a w hR hf
  obtain ⟨rfl, hx⟩ := hR; replace hh := hh.more hx; clear hx
  refine o_v hf hh (yv_move rfl) ?_; clear hf a; intro a hf
  refine guard_split hf (t := 6) rfl (fun hg2 => ?_) (fun hg2 => ?_)
  ·have hG2 := hg2; try simp only [gS] at hG2
   refine o_v hf hh (yv_fieldAddr Try.fo_23_2 rfl) ?_; clear hf a; intro a hf
   refine o_v hf hh (y_ld Try.sc_3 rfl) ?_; clear hf a; intro a hf
   refine o_call hf Try.en_52 rfl rfl rfl (p48 _ _ _ _) ?_; clear hf a; intro v a w hR hf
   obtain ⟨rfl, hx⟩ := hR; replace hh := hh.more hx; clear hx
   refine o_v hf hh (y_pt rfl rfl) ?_; clear hf a; intro a hf
   refine o_v hf hh (yv_move rfl) ?_; clear hf a; intro a hf
   refine guard_split hf (t := 11) rfl (fun hg4 => ?_) (fun hg4 => ?_)
   ·have hG4 := hg4; try simp only [gS] at hG4
    refine o_v hf hh (yv_fieldAddr Try.fo_23_1 rfl) ?_; clear hf a; intro a hf
    refine o_v hf hh (y_ld Try.sc_3 rfl) ?_; clear hf a; intro a hf
    refine o_call hf Try.en_52 rfl rfl rfl (p48 _ _ _ _) ?_; clear hf a; intro v a w hR hf
    obtain ⟨rfl, hx⟩ := hR; replace hh := hh.more hx; clear hx
    refine o_v hf hh (y_pt rfl rfl) ?_; clear hf a; intro a hf
    refine o_v hf hh (yv_assign rfl) ?_; clear hf a; intro a hf
    refine o_end ?_
    refine sy_ret ?_
    refine ret_r hf rfl rfl ?_
    refine ⟨congrArg Value.bool ?_, hh.ext⟩
    clear hf hh
    first
      | (simp_all; done)
      | (simp only [*, Bool.false_and, Bool.and_false, Bool.true_and, Bool.and_true, Bool.not_true, Bool.not_false]; done)
      | (rw [Bool.eq_iff_iff]; simp_all <;> omega)
   ·have hG4 := hg4; try simp only [gS] at hG4
    refine o_off hf ?_; clear hf a; intro a hf
    refine o_off hf ?_; clear hf a; intro a hf
    refine o_off hf ?_; clear hf a; intro a hf
    refine o_v hf hh (y_pf rfl rfl) ?_; clear hf a; intro a hf
    refine o_v hf hh (yv_assign rfl) ?_; clear hf a; intro a hf
    refine o_end ?_
    refine sy_ret ?_
    refine ret_r hf rfl rfl ?_
    refine ⟨congrArg Value.bool ?_, hh.ext⟩
    clear hf hh
    first
      | (simp_all; done)
      | (simp only [*, Bool.false_and, Bool.and_false, Bool.true_and, Bool.and_true, Bool.not_true, Bool.not_false]; done)
      | (rw [Bool.eq_iff_iff]; simp_all <;> omega)
  ·have hG2 := hg2; try simp only [gS] at hG2
   refine o_off hf ?_; clear hf a; intro a hf
   refine o_off hf ?_; clear hf a; intro a hf
   refine o_off hf ?_; clear hf a; intro a hf
   refine o_v hf hh (y_pf rfl rfl) ?_; clear hf a; intro a hf
   refine o_v hf hh (yv_move rfl) ?_; clear hf a; intro a hf
   refine o_off hf ?_; clear hf a; intro a hf
   refine o_off hf ?_; clear hf a; intro a hf
   refine o_off hf ?_; clear hf a; intro a hf
   refine o_v hf hh (y_pf rfl rfl) ?_; clear hf a; intro a hf
   refine o_v hf hh (yv_assign rfl) ?_; clear hf a; intro a hf
   refine o_end ?_
   refine sy_ret ?_
   refine ret_r hf rfl rfl ?_
   refine ⟨congrArg Value.bool ?_, hh.ext⟩
   clear hf hh
   first
     | (simp_all; done)
     | (simp only [*, Bool.false_and, Bool.and_false, Bool.true_and, Bool.and_true, Bool.not_true, Bool.not_false]; done)
     | (rw [Bool.eq_iff_iff]; simp_all <;> omega)
theorem p104 (t : TermD) (w : World) : Calls Try.prog 129 #[tmV t] w (Ret fun v w' => v = .bool (!termB t) ∧ Ext [] w w') := by
  refine calls_of Try.func129 rfl rfl (fun a hf => ?_)
  have hh := Hp.init w []
  refine sy_sq ?_
  refine o_box hf hh ?_; clear hf hh a; intro B1 a w hf hh
  refine o_v hf hh (yv_assign rfl) ?_; clear hf a; intro a hf
  refine o_end ?_
  refine sy_sq ?_
  refine o_v hf hh (y_lds Try.ag_23 rfl) ?_; clear hf a; intro a hf
  refine o_call hf Try.en_51 rfl rfl rfl (p52 _ _) ?_; clear hf a; intro v a w hR hf
  obtain ⟨rfl, hx⟩ := hR; replace hh := hh.more hx; clear hx
  refine o_v hf hh (yv_not rfl) ?_; clear hf a; intro a hf
  refine o_v hf hh (yv_assign rfl) ?_; clear hf a; intro a hf
  refine o_end ?_
  refine sy_ret ?_
  refine ret_r hf rfl rfl ?_
  exact ⟨rfl, hh.ext⟩
theorem p72 (l : List Int) (sa : Option Addr) (c0 : Nat) (u : World) (hA : IAt u sa l) (hl : l.length ≤ 1000) (hb : ∀ i, -4611686018427387904 ≤ sumI (l.take i) ∧ sumI (l.take i) ≤ 4611686018427387904) : Calls Try.prog 58 #[.slice sa l.length c0] u (Ret fun v w' => v = .int .i64 (sumI l) ∧ Ext [] u w') := by
  refine calls_of Try.func58 rfl rfl (fun a hf => ?_)
  have hh := Hp.init u []
  refine sy_sq ?_
  refine o_v hf hh (yv_assign rfl) ?_; clear hf a; intro a hf
  refine o_end ?_
  refine sy_seq ?_
  refine sy_sq ?_
  refine o_v hf hh (yv_move rfl) ?_; clear hf a; intro a hf
  refine o_v hf hh (yv_len Try.se_25 rfl) ?_; clear hf a; intro a hf
  refine o_v hf hh (yv_move rfl) ?_; clear hf a; intro a hf
  refine o_end ?_
  refine sy_block ?_
  refine sy_loopF (σ := Nat) [2, 4, 7, 8, 9, 10, 11, 12, 13, 14] (fun i => [(2, .int .i64 (sumI (l.take i))), (7, .int .i64 i)]) (fun i => i ≤ l.length) (fun i => l.length - i) (0) hf hh ?_ ?_ ?_
  · repeat' (first | exact True.intro | refine And.intro rfl ?_)
  · exact Nat.zero_le _
  ·rintro i a w hi hf hh
   refine sy_sq ?_
   refine o_v hf hh (yv_bin rfl rfl rfl) ?_; clear hf a; intro a hf
   refine o_end ?_
   refine sy_seq ?_
   refine sy_cond hf rfl (fun hg2 => ?_) (fun hg2 => ?_)
   ·have hG2 := hg2; try simp only [gS] at hG2
    refine sy_skip ?_
    refine then_n ?_
    refine sy_seq ?_
    refine sy_block ?_
    refine sy_seq ?_
    obtain ⟨m, hm⟩ := ex_of (l := l) (i := i) (by omega)
    obtain ⟨blk, off, cc, T, fr, e, hB, hc⟩ := hA i m hm; subst e
    have hb1 := hb i
    have hb2 := hb (i + 1)
    rw [sumI_take hm] at hb2
    refine sy_ops ?_
    refine o_v hf hh (y_ix Try.se_25 rfl rfl) ?_; clear hf a; intro a hf
    refine o_v hf hh (y_ld Try.sc_3 rfl) ?_; clear hf a; intro a hf
    refine o_v hf hh (yv_assign rfl) ?_; clear hf a; intro a hf
    refine o_end ?_
    refine sy_ops ?_
    refine o_v hf hh (yv_move rfl) ?_; clear hf a; intro a hf
    refine o_v hf hh (yv_move rfl) ?_; clear hf a; intro a hf
    refine o_v hf hh (y_add rfl rfl) ?_; clear hf a; intro a hf
    refine o_v hf hh (yv_assign rfl) ?_; clear hf a; intro a hf
    refine ops_end ?_
    refine blk_n ?_
    refine then_n ?_
    refine sy_ops ?_
    refine o_v hf hh (y_add rfl rfl) ?_; clear hf a; intro a hf
    refine o_v hf hh (yv_move rfl) ?_; clear hf a; intro a hf
    refine ops_end ?_
    refine then_n ?_
    refine ⟨i + 1, ⟨by omega, hf.head ⟨congrArg some (intv (sumI_take hm).symm), rfl, True.intro⟩ (Keep.cons rfl (Keep.cons rfl (Keep.cons rfl (Keep.cons rfl (Keep.cons rfl (Keep.cons rfl (Keep.cons rfl (Keep.cons rfl (Keep.cons rfl (Keep.cons rfl (Keep.app rfl (Keep.rm rfl Keep.base)))))))))))), hh⟩, by omega⟩
   ·have hG2 := hg2; try simp only [gS] at hG2
    refine sy_exit ?_
    refine then_e ?_
    refine then_e ?_
    refine blk_e ?_
    refine then_n ?_
    refine sy_sq ?_
    refine o_v hf hh (yv_move rfl) ?_; clear hf a; intro a hf
    refine o_v hf hh (yv_assign rfl) ?_; clear hf a; intro a hf
    refine o_end ?_
    refine sy_ret ?_
    refine ret_r hf rfl rfl ?_
    exact ⟨intv (by rw [List.take_of_length_le (by omega)]), hh.ext⟩
theorem p49 (l : List Int) (sa : Option Addr) (c0 : Nat) (u : World) (hA : IAt u sa l) (hl : l.length ≤ 1000) : Calls Try.prog 54 #[.slice sa l.length c0] u (Ret fun v w' => v = .bool (shB l) ∧ Ext [] u w') := by
  refine calls_of Try.func54 rfl rfl (fun a hf => ?_)
  have hh := Hp.init u []
  rw [shB]
  refine sy_sq ?_
  refine o_v hf hh (yv_assign rfl) ?_; clear hf a; intro a hf
  refine o_end ?_
  refine sy_sq ?_
  refine o_v hf hh (yv_assign rfl) ?_; clear hf a; intro a hf
  refine o_end ?_
  refine sy_sq ?_
  refine o_v hf hh (yv_move rfl) ?_; clear hf a; intro a hf
  refine o_v hf hh (yv_len Try.se_25 rfl) ?_; clear hf a; intro a hf
  refine o_call hf Try.en_52 rfl rfl rfl (p48 _ _ _ _) ?_; clear hf a; intro v a w hR hf
  obtain ⟨rfl, hx⟩ := hR; replace hh := hh.more hx; clear hx
  refine o_v hf hh (yv_move rfl) ?_; clear hf a; intro a hf
  refine guard_split hf (t := 7) rfl (fun hg2 => ?_) (fun hg2 => ?_)
  ·have hG2 := hg2; try simp only [gS] at hG2
   refine o_v hf hh (yv_move rfl) ?_; clear hf a; intro a hf
   refine o_v hf hh (yv_move rfl) ?_; clear hf a; intro a hf
   refine o_call hf Try.en_95 rfl rfl rfl (p90 (fun s => inI s 0 1000) l sa c0 94 #[] _ (hA.ext hh.ext) hl Try.en_94 (fun x _ w1 _ => p89 x w1)) ?_; clear hf a; intro v a w hR hf
   obtain ⟨rfl, hx⟩ := hR; replace hh := hh.more hx; clear hx
   refine o_v hf hh (yv_not rfl) ?_; clear hf a; intro a hf
   refine o_v hf hh (y_pt rfl rfl) ?_; clear hf a; intro a hf
   refine o_v hf hh (yv_move rfl) ?_; clear hf a; intro a hf
   refine guard_split hf (t := 13) rfl (fun hg4 => ?_) (fun hg4 => ?_)
   ·have hG4 := hg4; try simp only [gS] at hG4
    refine o_v hf hh (yv_move rfl) ?_; clear hf a; intro a hf
    refine o_call hf Try.en_58 rfl rfl rfl (p72 l sa c0 _ (hA.ext hh.ext) hl (sh_take (by simp_all))) ?_; clear hf a; intro v a w hR hf
    obtain ⟨rfl, hx⟩ := hR; replace hh := hh.more hx; clear hx
    refine o_v hf hh (yv_bin rfl rfl rfl) ?_; clear hf a; intro a hf
    refine o_v hf hh (y_pt rfl rfl) ?_; clear hf a; intro a hf
    refine o_v hf hh (yv_assign rfl) ?_; clear hf a; intro a hf
    refine o_end ?_
    refine sy_ret ?_
    refine ret_r hf rfl rfl ?_
    refine ⟨congrArg Value.bool ?_, hh.ext⟩
    clear hf hh
    first
      | (simp_all; done)
      | (simp only [*, Bool.false_and, Bool.and_false, Bool.true_and, Bool.and_true, Bool.not_true, Bool.not_false]; done)
      | (rw [Bool.eq_iff_iff]; simp_all <;> omega)
   ·have hG4 := hg4; try simp only [gS] at hG4
    refine o_off hf ?_; clear hf a; intro a hf
    refine o_off hf ?_; clear hf a; intro a hf
    refine o_off hf ?_; clear hf a; intro a hf
    refine o_v hf hh (y_pf rfl rfl) ?_; clear hf a; intro a hf
    refine o_v hf hh (yv_assign rfl) ?_; clear hf a; intro a hf
    refine o_end ?_
    refine sy_ret ?_
    refine ret_r hf rfl rfl ?_
    refine ⟨congrArg Value.bool ?_, hh.ext⟩
    clear hf hh
    first
      | (simp_all; done)
      | (simp only [*, Bool.false_and, Bool.and_false, Bool.true_and, Bool.and_true, Bool.not_true, Bool.not_false]; done)
      | (rw [Bool.eq_iff_iff]; simp_all <;> omega)
  ·have hG2 := hg2; try simp only [gS] at hG2
   refine o_off hf ?_; clear hf a; intro a hf
   refine o_off hf ?_; clear hf a; intro a hf
   refine o_off hf ?_; clear hf a; intro a hf
   refine o_off hf ?_; clear hf a; intro a hf
   refine o_v hf hh (y_pf rfl rfl) ?_; clear hf a; intro a hf
   refine o_v hf hh (yv_move rfl) ?_; clear hf a; intro a hf
   refine o_off hf ?_; clear hf a; intro a hf
   refine o_off hf ?_; clear hf a; intro a hf
   refine o_off hf ?_; clear hf a; intro a hf
   refine o_v hf hh (y_pf rfl rfl) ?_; clear hf a; intro a hf
   refine o_v hf hh (yv_assign rfl) ?_; clear hf a; intro a hf
   refine o_end ?_
   refine sy_ret ?_
   refine ret_r hf rfl rfl ?_
   refine ⟨congrArg Value.bool ?_, hh.ext⟩
   clear hf hh
   first
     | (simp_all; done)
     | (simp only [*, Bool.false_and, Bool.and_false, Bool.true_and, Bool.and_true, Bool.not_true, Bool.not_false]; done)
     | (rw [Bool.eq_iff_iff]; simp_all <;> omega)
theorem repB_in (d : RoyD) (x : RepD) : repB d x = (inI x.ag 0 ((d.terms.length : Int) - 1) && (inI x.kd 0 ((d.prices.length : Int) - 1) && (inI x.fi 0 x.la && decide (x.la < 12)))) := rfl
theorem p107 (l : List Int) (sa : Option Addr) (c0 : Nat) (u : World) (hA : IAt u sa l) (hl : l.length ≤ 1000) : Calls Try.prog 132 #[.slice sa l.length c0] u (Ret fun v w' => v = .bool (!shB l) ∧ Ext [] u w') := by
  refine calls_of Try.func132 rfl rfl (fun a hf => ?_)
  have hh := Hp.init u []
  refine sy_sq ?_
  refine o_v hf hh (yv_assign rfl) ?_; clear hf a; intro a hf
  refine o_end ?_
  refine sy_sq ?_
  refine o_v hf hh (yv_move rfl) ?_; clear hf a; intro a hf
  refine o_call hf Try.en_54 rfl rfl rfl (p49 l sa c0 _ (hA.ext hh.ext) hl) ?_; clear hf a; intro v a w hR hf
  obtain ⟨rfl, hx⟩ := hR; replace hh := hh.more hx; clear hx
  refine o_v hf hh (yv_not rfl) ?_; clear hf a; intro a hf
  refine o_v hf hh (yv_assign rfl) ?_; clear hf a; intro a hf
  refine o_end ?_
  refine sy_ret ?_
  refine ret_r hf rfl rfl ?_
  exact ⟨rfl, hh.ext⟩
theorem p108 (d : RoyD) (p : Pl) (x : RepD) (B : Nat) (u : World) (hB : u.heap[B]? = some (.cells (royC d p) 52 (0, 0))) (h1 : d.terms.length ≤ 1000) (h2 : d.prices.length ≤ 1000) : Calls Try.prog 133 #[rpV x, ptr B 0] u (Ret fun v w' => v = .bool (!repB d x) ∧ Ext [] u w') := by
  refine calls_of Try.func133 rfl rfl (fun a hf => ?_)
  have hh := Hp.init u []
  rw [repB_in]
  refine sy_sq ?_
  refine o_box hf hh ?_; clear hf hh a; intro B2 a w hf hh
  refine o_v hf hh (yv_assign rfl) ?_; clear hf a; intro a hf
  refine o_end ?_
  refine sy_sq ?_
  refine o_v hf hh (yv_fieldAddr Try.fo_49_0 rfl) ?_; clear hf a; intro a hf
  refine o_v hf hh (y_ld Try.sc_3 rfl) ?_; clear hf a; intro a hf
  refine o_v hf hh (yv_fieldAddr Try.fo_52_0 rfl) ?_; clear hf a; intro a hf
  refine o_v hf hh (y_ld Try.sc_46 rfl) ?_; clear hf a; intro a hf
  refine o_v hf hh (yv_len Try.se_46 rfl) ?_; clear hf a; intro a hf
  refine o_v hf hh (y_sub rfl rfl) ?_; clear hf a; intro a hf
  refine o_call hf Try.en_52 rfl rfl rfl (p48 _ _ _ _) ?_; clear hf a; intro v a w hR hf
  obtain ⟨rfl, hx⟩ := hR; replace hh := hh.more hx; clear hx
  refine o_v hf hh (yv_not rfl) ?_; clear hf a; intro a hf
  refine o_v hf hh (yv_move rfl) ?_; clear hf a; intro a hf
  refine guard_split hf (t := 12) rfl (fun hg2 => ?_) (fun hg2 => ?_)
  ·have hG2 := hg2; try simp only [gS] at hG2
   refine o_off hf ?_; clear hf a; intro a hf
   refine o_off hf ?_; clear hf a; intro a hf
   refine o_off hf ?_; clear hf a; intro a hf
   refine o_off hf ?_; clear hf a; intro a hf
   refine o_off hf ?_; clear hf a; intro a hf
   refine o_off hf ?_; clear hf a; intro a hf
   refine o_off hf ?_; clear hf a; intro a hf
   refine o_off hf ?_; clear hf a; intro a hf
   refine o_v hf hh (y_pt rfl rfl) ?_; clear hf a; intro a hf
   refine o_v hf hh (yv_move rfl) ?_; clear hf a; intro a hf
   refine o_off hf ?_; clear hf a; intro a hf
   refine o_off hf ?_; clear hf a; intro a hf
   refine o_off hf ?_; clear hf a; intro a hf
   refine o_off hf ?_; clear hf a; intro a hf
   refine o_off hf ?_; clear hf a; intro a hf
   refine o_off hf ?_; clear hf a; intro a hf
   refine o_v hf hh (y_pt rfl rfl) ?_; clear hf a; intro a hf
   refine o_v hf hh (yv_move rfl) ?_; clear hf a; intro a hf
   refine o_off hf ?_; clear hf a; intro a hf
   refine o_off hf ?_; clear hf a; intro a hf
   refine o_off hf ?_; clear hf a; intro a hf
   refine o_v hf hh (y_pt rfl rfl) ?_; clear hf a; intro a hf
   refine o_v hf hh (yv_assign rfl) ?_; clear hf a; intro a hf
   refine o_end ?_
   refine sy_ret ?_
   refine ret_r hf rfl rfl ?_
   refine ⟨congrArg Value.bool ?_, hh.ext⟩
   clear hf hh
   first
     | (simp_all; done)
     | (simp only [*, Bool.false_and, Bool.and_false, Bool.true_and, Bool.and_true, Bool.not_true, Bool.not_false]; done)
     | (rw [Bool.eq_iff_iff]; simp_all <;> omega)
  ·have hG2 := hg2; try simp only [gS] at hG2
   refine o_v hf hh (yv_fieldAddr Try.fo_49_1 rfl) ?_; clear hf a; intro a hf
   refine o_v hf hh (y_ld Try.sc_3 rfl) ?_; clear hf a; intro a hf
   refine o_v hf hh (yv_fieldAddr Try.fo_52_1 rfl) ?_; clear hf a; intro a hf
   refine o_v hf hh (y_ld Try.sc_25 rfl) ?_; clear hf a; intro a hf
   refine o_v hf hh (yv_len Try.se_25 rfl) ?_; clear hf a; intro a hf
   refine o_v hf hh (y_sub rfl rfl) ?_; clear hf a; intro a hf
   refine o_call hf Try.en_52 rfl rfl rfl (p48 _ _ _ _) ?_; clear hf a; intro v a w hR hf
   obtain ⟨rfl, hx⟩ := hR; replace hh := hh.more hx; clear hx
   refine o_v hf hh (yv_not rfl) ?_; clear hf a; intro a hf
   refine o_v hf hh (y_pf rfl rfl) ?_; clear hf a; intro a hf
   refine o_v hf hh (yv_move rfl) ?_; clear hf a; intro a hf
   refine guard_split hf (t := 22) rfl (fun hg4 => ?_) (fun hg4 => ?_)
   ·have hG4 := hg4; try simp only [gS] at hG4
    refine o_off hf ?_; clear hf a; intro a hf
    refine o_off hf ?_; clear hf a; intro a hf
    refine o_off hf ?_; clear hf a; intro a hf
    refine o_off hf ?_; clear hf a; intro a hf
    refine o_off hf ?_; clear hf a; intro a hf
    refine o_off hf ?_; clear hf a; intro a hf
    refine o_v hf hh (y_pt rfl rfl) ?_; clear hf a; intro a hf
    refine o_v hf hh (yv_move rfl) ?_; clear hf a; intro a hf
    refine o_off hf ?_; clear hf a; intro a hf
    refine o_off hf ?_; clear hf a; intro a hf
    refine o_off hf ?_; clear hf a; intro a hf
    refine o_v hf hh (y_pt rfl rfl) ?_; clear hf a; intro a hf
    refine o_v hf hh (yv_assign rfl) ?_; clear hf a; intro a hf
    refine o_end ?_
    refine sy_ret ?_
    refine ret_r hf rfl rfl ?_
    refine ⟨congrArg Value.bool ?_, hh.ext⟩
    clear hf hh
    first
      | (simp_all; done)
      | (simp only [*, Bool.false_and, Bool.and_false, Bool.true_and, Bool.and_true, Bool.not_true, Bool.not_false]; done)
      | (rw [Bool.eq_iff_iff]; simp_all <;> omega)
   ·have hG4 := hg4; try simp only [gS] at hG4
    refine o_v hf hh (yv_fieldAddr Try.fo_49_2 rfl) ?_; clear hf a; intro a hf
    refine o_v hf hh (y_ld Try.sc_3 rfl) ?_; clear hf a; intro a hf
    refine o_v hf hh (yv_fieldAddr Try.fo_49_3 rfl) ?_; clear hf a; intro a hf
    refine o_v hf hh (y_ld Try.sc_3 rfl) ?_; clear hf a; intro a hf
    refine o_call hf Try.en_52 rfl rfl rfl (p48 _ _ _ _) ?_; clear hf a; intro v a w hR hf
    obtain ⟨rfl, hx⟩ := hR; replace hh := hh.more hx; clear hx
    refine o_v hf hh (yv_not rfl) ?_; clear hf a; intro a hf
    refine o_v hf hh (y_pf rfl rfl) ?_; clear hf a; intro a hf
    refine o_v hf hh (yv_move rfl) ?_; clear hf a; intro a hf
    refine guard_split hf (t := 30) rfl (fun hg6 => ?_) (fun hg6 => ?_)
    ·have hG6 := hg6; try simp only [gS] at hG6
     refine o_off hf ?_; clear hf a; intro a hf
     refine o_off hf ?_; clear hf a; intro a hf
     refine o_off hf ?_; clear hf a; intro a hf
     refine o_v hf hh (y_pt rfl rfl) ?_; clear hf a; intro a hf
     refine o_v hf hh (yv_assign rfl) ?_; clear hf a; intro a hf
     refine o_end ?_
     refine sy_ret ?_
     refine ret_r hf rfl rfl ?_
     refine ⟨congrArg Value.bool ?_, hh.ext⟩
     clear hf hh
     first
       | (simp_all; done)
       | (simp only [*, Bool.false_and, Bool.and_false, Bool.true_and, Bool.and_true, Bool.not_true, Bool.not_false]; done)
       | (rw [Bool.eq_iff_iff]; simp_all <;> omega)
    ·have hG6 := hg6; try simp only [gS] at hG6
     refine o_v hf hh (yv_fieldAddr Try.fo_49_3 rfl) ?_; clear hf a; intro a hf
     refine o_v hf hh (y_ld Try.sc_3 rfl) ?_; clear hf a; intro a hf
     refine o_v hf hh (yv_bin rfl rfl rfl) ?_; clear hf a; intro a hf
     refine o_v hf hh (y_pf rfl rfl) ?_; clear hf a; intro a hf
     refine o_v hf hh (yv_assign rfl) ?_; clear hf a; intro a hf
     refine o_end ?_
     refine sy_ret ?_
     refine ret_r hf rfl rfl ?_
     refine ⟨congrArg Value.bool ?_, hh.ext⟩
     clear hf hh
     first
       | (simp_all; done)
       | (simp only [*, Bool.false_and, Bool.and_false, Bool.true_and, Bool.and_true, Bool.not_true, Bool.not_false]; done)
       | (rw [Bool.eq_iff_iff]; simp_all <;> omega)
end Go.Proofs.Ytccpgpnekoncoaa
namespace Go.Proofs.Ytccpgpnekoncoaa
set_option maxRecDepth 100000
open Go Go.Sy Go.RoyM
def sizeB (d : RoyD) : Bool := decide (d.terms.length ≤ 4) && (decide (d.prices.length ≤ 4) && (decide (d.shares.length = d.prices.length) && (decide (d.reps.length ≤ 20) && decide (d.paid.length = d.terms.length))))
def monB (d : RoyD) : Bool := d.terms.all termB && (d.paid.all (fun n => inI n 0 1099511627776) && d.prices.all (fun n => inI n 0 1048576))
theorem royB_eq (d : RoyD) : royB d = (sizeB d && (monB d && (d.shares.all shB && d.reps.all (repB d)))) := by
  rfl
theorem mon_of {d : RoyD} {x y z : Bool} (h1 : d.terms.all termB = x) (h2 : (d.paid.all fun n => inI n 0 1099511627776) = y) (h3 : (d.prices.all fun n => inI n 0 1048576) = z) : monB d = (x && (y && z)) := by subst h1; subst h2; subst h3; rfl
theorem p95 (d : RoyD) (p : Pl) (u : World) (hR : RoyAt u d p) : Calls Try.prog 91 #[.agg (royC d p)] u (Ret fun v w' => v = .bool (royB d) ∧ Ext [] u w') := by
  refine calls_of Try.func91 rfl rfl (fun a hf => ?_)
  have hh := Hp.init u []
  have hn1 := hR.n1; have hn2 := hR.n2; have hn3 := hR.n3; have hn4 := hR.n4; have hn5 := hR.n5
  refine sy_sq ?_
  refine o_box hf hh ?_; clear hf hh a; intro B1 a w hf hh
  refine o_v hf hh (yv_assign rfl) ?_; clear hf a; intro a hf
  refine o_end ?_
  refine sy_cut (σ := Unit) [3, 10, 11, 12, 13, 14, 15, 16, 17, 18, 19, 20, 21, 22, 23, 24, 25, 26, 27, 28, 29, 30, 31, 32, 33, 34, 35, 36, 37, 38, 39, 40, 41, 42, 43] (fun z => [(3, .bool (sizeB d))]) (fun z => fun w' => Hp u [] [(B1, .cells (royC d p) 52)] w') hf ?_ ?_
  ·refine sy_ops ?_
   refine o_v hf hh (yv_fieldAddr Try.fo_52_0 rfl) ?_; clear hf a; intro a hf
   refine o_v hf hh (y_ld Try.sc_46 rfl) ?_; clear hf a; intro a hf
   refine o_v hf hh (yv_len Try.se_46 rfl) ?_; clear hf a; intro a hf
   refine o_v hf hh (yv_bin rfl rfl rfl) ?_; clear hf a; intro a hf
   refine o_v hf hh (yv_move rfl) ?_; clear hf a; intro a hf
   refine guard_split hf (t := 14) rfl (fun hg2 => ?_) (fun hg2 => ?_)
   ·have hG2 := hg2; try simp only [gS] at hG2
    refine o_v hf hh (yv_fieldAddr Try.fo_52_1 rfl) ?_; clear hf a; intro a hf
    refine o_v hf hh (y_ld Try.sc_25 rfl) ?_; clear hf a; intro a hf
    refine o_v hf hh (yv_len Try.se_25 rfl) ?_; clear hf a; intro a hf
    refine o_v hf hh (yv_bin rfl rfl rfl) ?_; clear hf a; intro a hf
    refine o_v hf hh (y_pt rfl rfl) ?_; clear hf a; intro a hf
    refine o_v hf hh (yv_move rfl) ?_; clear hf a; intro a hf
    refine guard_split hf (t := 20) rfl (fun hg4 => ?_) (fun hg4 => ?_)
    ·have hG4 := hg4; try simp only [gS] at hG4
     refine o_v hf hh (yv_fieldAddr Try.fo_52_2 rfl) ?_; clear hf a; intro a hf
     refine o_v hf hh (y_ld Try.sc_47 rfl) ?_; clear hf a; intro a hf
     refine o_v hf hh (yv_len Try.se_47 rfl) ?_; clear hf a; intro a hf
     refine o_v hf hh (yv_fieldAddr Try.fo_52_1 rfl) ?_; clear hf a; intro a hf
     refine o_v hf hh (y_ld Try.sc_25 rfl) ?_; clear hf a; intro a hf
     refine o_v hf hh (yv_len Try.se_25 rfl) ?_; clear hf a; intro a hf
     refine o_v hf hh (yv_bin rfl rfl rfl) ?_; clear hf a; intro a hf
     refine o_v hf hh (y_pt rfl rfl) ?_; clear hf a; intro a hf
     refine o_v hf hh (yv_move rfl) ?_; clear hf a; intro a hf
     refine guard_split hf (t := 29) rfl (fun hg6 => ?_) (fun hg6 => ?_)
     ·have hG6 := hg6; try simp only [gS] at hG6
      refine o_v hf hh (yv_fieldAddr Try.fo_52_3 rfl) ?_; clear hf a; intro a hf
      refine o_v hf hh (y_ld Try.sc_50 rfl) ?_; clear hf a; intro a hf
      refine o_v hf hh (yv_len Try.se_50 rfl) ?_; clear hf a; intro a hf
      refine o_v hf hh (yv_bin rfl rfl rfl) ?_; clear hf a; intro a hf
      refine o_v hf hh (y_pt rfl rfl) ?_; clear hf a; intro a hf
      refine o_v hf hh (yv_move rfl) ?_; clear hf a; intro a hf
      refine guard_split hf (t := 35) rfl (fun hg8 => ?_) (fun hg8 => ?_)
      ·have hG8 := hg8; try simp only [gS] at hG8
       refine o_v hf hh (yv_fieldAddr Try.fo_52_4 rfl) ?_; clear hf a; intro a hf
       refine o_v hf hh (y_ld Try.sc_25 rfl) ?_; clear hf a; intro a hf
       refine o_v hf hh (yv_len Try.se_25 rfl) ?_; clear hf a; intro a hf
       refine o_v hf hh (yv_fieldAddr Try.fo_52_0 rfl) ?_; clear hf a; intro a hf
       refine o_v hf hh (y_ld Try.sc_46 rfl) ?_; clear hf a; intro a hf
       refine o_v hf hh (yv_len Try.se_46 rfl) ?_; clear hf a; intro a hf
       refine o_v hf hh (yv_bin rfl rfl rfl) ?_; clear hf a; intro a hf
       refine o_v hf hh (y_pt rfl rfl) ?_; clear hf a; intro a hf
       refine o_v hf hh (yv_assign rfl) ?_; clear hf a; intro a hf
       refine ops_end ?_
       refine then_n ?_
       exact ⟨(), hh, hf.head ⟨congrArg (fun z => some (Value.bool z)) (by unfold sizeB; exact (by
         clear hf hh
         first
         | (simp_all; done)
         | (simp only [*, Bool.false_and, Bool.and_false, Bool.true_and, Bool.and_true, Bool.not_true, Bool.not_false, Bool.not_not]; done)
         | (simp only [decide_eq_true_eq, decide_eq_false_iff_not] at *; rw [Bool.eq_iff_iff]; simp only [Bool.and_eq_true, decide_eq_true_eq, Bool.false_eq_true, false_iff, true_iff, *]; omega)
         | omega)), True.intro⟩ (Keep.cons rfl (Keep.cons rfl (Keep.cons rfl (Keep.cons rfl (Keep.cons rfl (Keep.cons rfl (Keep.cons rfl (Keep.cons rfl (Keep.cons rfl (Keep.cons rfl (Keep.cons rfl (Keep.cons rfl (Keep.cons rfl (Keep.cons rfl (Keep.cons rfl (Keep.cons rfl (Keep.cons rfl (Keep.cons rfl (Keep.cons rfl (Keep.cons rfl (Keep.cons rfl (Keep.cons rfl (Keep.cons rfl (Keep.cons rfl (Keep.cons rfl (Keep.cons rfl (Keep.cons rfl (Keep.cons rfl (Keep.cons rfl (Keep.cons rfl (Keep.cons rfl (Keep.cons rfl (Keep.cons rfl (Keep.cons rfl (Keep.cons rfl (Keep.base))))))))))))))))))))))))))))))))))))⟩
      ·have hG8 := hg8; try simp only [gS] at hG8
       refine o_off hf ?_; clear hf a; intro a hf
       refine o_off hf ?_; clear hf a; intro a hf
       refine o_off hf ?_; clear hf a; intro a hf
       refine o_off hf ?_; clear hf a; intro a hf
       refine o_off hf ?_; clear hf a; intro a hf
       refine o_off hf ?_; clear hf a; intro a hf
       refine o_off hf ?_; clear hf a; intro a hf
       refine o_v hf hh (y_pf rfl rfl) ?_; clear hf a; intro a hf
       refine o_v hf hh (yv_assign rfl) ?_; clear hf a; intro a hf
       refine ops_end ?_
       refine then_n ?_
       exact ⟨(), hh, hf.head ⟨congrArg (fun z => some (Value.bool z)) (by unfold sizeB; exact (by
         clear hf hh
         first
         | (simp_all; done)
         | (simp only [*, Bool.false_and, Bool.and_false, Bool.true_and, Bool.and_true, Bool.not_true, Bool.not_false, Bool.not_not]; done)
         | (simp only [decide_eq_true_eq, decide_eq_false_iff_not] at *; rw [Bool.eq_iff_iff]; simp only [Bool.and_eq_true, decide_eq_true_eq, Bool.false_eq_true, false_iff, true_iff, *]; omega)
         | omega)), True.intro⟩ (Keep.cons rfl (Keep.cons rfl (Keep.cons rfl (Keep.cons rfl (Keep.cons rfl (Keep.cons rfl (Keep.cons rfl (Keep.cons rfl (Keep.cons rfl (Keep.cons rfl (Keep.cons rfl (Keep.cons rfl (Keep.cons rfl (Keep.cons rfl (Keep.cons rfl (Keep.cons rfl (Keep.cons rfl (Keep.cons rfl (Keep.cons rfl (Keep.cons rfl (Keep.cons rfl (Keep.cons rfl (Keep.cons rfl (Keep.cons rfl (Keep.cons rfl (Keep.cons rfl (Keep.cons rfl (Keep.cons rfl (Keep.cons rfl (Keep.cons rfl (Keep.cons rfl (Keep.cons rfl (Keep.cons rfl (Keep.cons rfl (Keep.cons rfl (Keep.base))))))))))))))))))))))))))))))))))))⟩
     ·have hG6 := hg6; try simp only [gS] at hG6
      refine o_off hf ?_; clear hf a; intro a hf
      refine o_off hf ?_; clear hf a; intro a hf
      refine o_off hf ?_; clear hf a; intro a hf
      refine o_off hf ?_; clear hf a; intro a hf
      refine o_v hf hh (y_pf rfl rfl) ?_; clear hf a; intro a hf
      refine o_v hf hh (yv_move rfl) ?_; clear hf a; intro a hf
      refine o_off hf ?_; clear hf a; intro a hf
      refine o_off hf ?_; clear hf a; intro a hf
      refine o_off hf ?_; clear hf a; intro a hf
      refine o_off hf ?_; clear hf a; intro a hf
      refine o_off hf ?_; clear hf a; intro a hf
      refine o_off hf ?_; clear hf a; intro a hf
      refine o_off hf ?_; clear hf a; intro a hf
      refine o_v hf hh (y_pf rfl rfl) ?_; clear hf a; intro a hf
      refine o_v hf hh (yv_assign rfl) ?_; clear hf a; intro a hf
      refine ops_end ?_
      refine then_n ?_
      exact ⟨(), hh, hf.head ⟨congrArg (fun z => some (Value.bool z)) (by unfold sizeB; exact (by
        clear hf hh
        first
        | (simp_all; done)
        | (simp only [*, Bool.false_and, Bool.and_false, Bool.true_and, Bool.and_true, Bool.not_true, Bool.not_false, Bool.not_not]; done)
        | (simp only [decide_eq_true_eq, decide_eq_false_iff_not] at *; rw [Bool.eq_iff_iff]; simp only [Bool.and_eq_true, decide_eq_true_eq, Bool.false_eq_true, false_iff, true_iff, *]; omega)
        | omega)), True.intro⟩ (Keep.cons rfl (Keep.cons rfl (Keep.cons rfl (Keep.cons rfl (Keep.cons rfl (Keep.cons rfl (Keep.cons rfl (Keep.cons rfl (Keep.cons rfl (Keep.cons rfl (Keep.cons rfl (Keep.cons rfl (Keep.cons rfl (Keep.cons rfl (Keep.cons rfl (Keep.cons rfl (Keep.cons rfl (Keep.cons rfl (Keep.cons rfl (Keep.cons rfl (Keep.cons rfl (Keep.cons rfl (Keep.cons rfl (Keep.cons rfl (Keep.cons rfl (Keep.cons rfl (Keep.cons rfl (Keep.cons rfl (Keep.cons rfl (Keep.cons rfl (Keep.cons rfl (Keep.cons rfl (Keep.cons rfl (Keep.cons rfl (Keep.cons rfl (Keep.base))))))))))))))))))))))))))))))))))))⟩
    ·have hG4 := hg4; try simp only [gS] at hG4
     refine o_off hf ?_; clear hf a; intro a hf
     refine o_off hf ?_; clear hf a; intro a hf
     refine o_off hf ?_; clear hf a; intro a hf
     refine o_off hf ?_; clear hf a; intro a hf
     refine o_off hf ?_; clear hf a; intro a hf
     refine o_off hf ?_; clear hf a; intro a hf
     refine o_off hf ?_; clear hf a; intro a hf
     refine o_v hf hh (y_pf rfl rfl) ?_; clear hf a; intro a hf
     refine o_v hf hh (yv_move rfl) ?_; clear hf a; intro a hf
     refine o_off hf ?_; clear hf a; intro a hf
     refine o_off hf ?_; clear hf a; intro a hf
     refine o_off hf ?_; clear hf a; intro a hf
     refine o_off hf ?_; clear hf a; intro a hf
     refine o_v hf hh (y_pf rfl rfl) ?_; clear hf a; intro a hf
     refine o_v hf hh (yv_move rfl) ?_; clear hf a; intro a hf
     refine o_off hf ?_; clear hf a; intro a hf
     refine o_off hf ?_; clear hf a; intro a hf
     refine o_off hf ?_; clear hf a; intro a hf
     refine o_off hf ?_; clear hf a; intro a hf
     refine o_off hf ?_; clear hf a; intro a hf
     refine o_off hf ?_; clear hf a; intro a hf
     refine o_off hf ?_; clear hf a; intro a hf
     refine o_v hf hh (y_pf rfl rfl) ?_; clear hf a; intro a hf
     refine o_v hf hh (yv_assign rfl) ?_; clear hf a; intro a hf
     refine ops_end ?_
     refine then_n ?_
     exact ⟨(), hh, hf.head ⟨congrArg (fun z => some (Value.bool z)) (by unfold sizeB; exact (by
       clear hf hh
       first
       | (simp_all; done)
       | (simp only [*, Bool.false_and, Bool.and_false, Bool.true_and, Bool.and_true, Bool.not_true, Bool.not_false, Bool.not_not]; done)
       | (simp only [decide_eq_true_eq, decide_eq_false_iff_not] at *; rw [Bool.eq_iff_iff]; simp only [Bool.and_eq_true, decide_eq_true_eq, Bool.false_eq_true, false_iff, true_iff, *]; omega)
       | omega)), True.intro⟩ (Keep.cons rfl (Keep.cons rfl (Keep.cons rfl (Keep.cons rfl (Keep.cons rfl (Keep.cons rfl (Keep.cons rfl (Keep.cons rfl (Keep.cons rfl (Keep.cons rfl (Keep.cons rfl (Keep.cons rfl (Keep.cons rfl (Keep.cons rfl (Keep.cons rfl (Keep.cons rfl (Keep.cons rfl (Keep.cons rfl (Keep.cons rfl (Keep.cons rfl (Keep.cons rfl (Keep.cons rfl (Keep.cons rfl (Keep.cons rfl (Keep.cons rfl (Keep.cons rfl (Keep.cons rfl (Keep.cons rfl (Keep.cons rfl (Keep.cons rfl (Keep.cons rfl (Keep.cons rfl (Keep.cons rfl (Keep.cons rfl (Keep.cons rfl (Keep.base))))))))))))))))))))))))))))))))))))⟩
   ·have hG2 := hg2; try simp only [gS] at hG2
    refine o_off hf ?_; clear hf a; intro a hf
    refine o_off hf ?_; clear hf a; intro a hf
    refine o_off hf ?_; clear hf a; intro a hf
    refine o_off hf ?_; clear hf a; intro a hf
    refine o_v hf hh (y_pf rfl rfl) ?_; clear hf a; intro a hf
    refine o_v hf hh (yv_move rfl) ?_; clear hf a; intro a hf
    refine o_off hf ?_; clear hf a; intro a hf
    refine o_off hf ?_; clear hf a; intro a hf
    refine o_off hf ?_; clear hf a; intro a hf
    refine o_off hf ?_; clear hf a; intro a hf
    refine o_off hf ?_; clear hf a; intro a hf
    refine o_off hf ?_; clear hf a; intro a hf
    refine o_off hf ?_; clear hf a; intro a hf
    refine o_v hf hh (y_pf rfl rfl) ?_; clear hf a; intro a hf
    refine o_v hf hh (yv_move rfl) ?_; clear hf a; intro a hf
    refine o_off hf ?_; clear hf a; intro a hf
    refine o_off hf ?_; clear hf a; intro a hf
    refine o_off hf ?_; clear hf a; intro a hf
    refine o_off hf ?_; clear hf a; intro a hf
    refine o_v hf hh (y_pf rfl rfl) ?_; clear hf a; intro a hf
    refine o_v hf hh (yv_move rfl) ?_; clear hf a; intro a hf
    refine o_off hf ?_; clear hf a; intro a hf
    refine o_off hf ?_; clear hf a; intro a hf
    refine o_off hf ?_; clear hf a; intro a hf
    refine o_off hf ?_; clear hf a; intro a hf
    refine o_off hf ?_; clear hf a; intro a hf
    refine o_off hf ?_; clear hf a; intro a hf
    refine o_off hf ?_; clear hf a; intro a hf
    refine o_v hf hh (y_pf rfl rfl) ?_; clear hf a; intro a hf
    refine o_v hf hh (yv_assign rfl) ?_; clear hf a; intro a hf
    refine ops_end ?_
    refine then_n ?_
    exact ⟨(), hh, hf.head ⟨congrArg (fun z => some (Value.bool z)) (by unfold sizeB; exact (by
      clear hf hh
      first
      | (simp_all; done)
      | (simp only [*, Bool.false_and, Bool.and_false, Bool.true_and, Bool.and_true, Bool.not_true, Bool.not_false, Bool.not_not]; done)
      | (simp only [decide_eq_true_eq, decide_eq_false_iff_not] at *; rw [Bool.eq_iff_iff]; simp only [Bool.and_eq_true, decide_eq_true_eq, Bool.false_eq_true, false_iff, true_iff, *]; omega)
      | omega)), True.intro⟩ (Keep.cons rfl (Keep.cons rfl (Keep.cons rfl (Keep.cons rfl (Keep.cons rfl (Keep.cons rfl (Keep.cons rfl (Keep.cons rfl (Keep.cons rfl (Keep.cons rfl (Keep.cons rfl (Keep.cons rfl (Keep.cons rfl (Keep.cons rfl (Keep.cons rfl (Keep.cons rfl (Keep.cons rfl (Keep.cons rfl (Keep.cons rfl (Keep.cons rfl (Keep.cons rfl (Keep.cons rfl (Keep.cons rfl (Keep.cons rfl (Keep.cons rfl (Keep.cons rfl (Keep.cons rfl (Keep.cons rfl (Keep.cons rfl (Keep.cons rfl (Keep.cons rfl (Keep.cons rfl (Keep.cons rfl (Keep.cons rfl (Keep.cons rfl (Keep.base))))))))))))))))))))))))))))))))))))⟩
  ·rintro z a w hh hf
   refine sy_sq ?_
   refine o_v hf hh (yv_assign rfl) ?_; clear hf a; intro a hf
   refine o_end ?_
   refine sy_sq ?_
   refine o_v hf hh (yv_assign rfl) ?_; clear hf a; intro a hf
   refine o_end ?_
   refine sy_sq ?_
   refine o_v hf hh (yv_assign rfl) ?_; clear hf a; intro a hf
   refine o_end ?_
   refine sy_sq ?_
   refine o_v hf hh (yv_assign rfl) ?_; clear hf a; intro a hf
   refine o_end ?_
   refine sy_sq ?_
   refine o_v hf hh (yv_makeFunc rfl rfl) ?_; clear hf a; intro a hf
   refine o_v hf hh (yv_assign rfl) ?_; clear hf a; intro a hf
   refine o_end ?_
   refine sy_cut (σ := Unit) [9, 45, 46, 47, 48, 49, 50, 51, 52, 53, 54, 55, 56, 57, 58, 59, 60, 61, 62, 63] (fun z => [(9, .bool (monB d))]) (fun z => fun w' => Hp u [] [(B1, .cells (royC d p) 52)] w') hf ?_ ?_
   ·refine sy_ops ?_
    refine o_v hf hh (yv_fieldAddr Try.fo_52_0 rfl) ?_; clear hf a; intro a hf
    refine o_v hf hh (y_ld Try.sc_46 rfl) ?_; clear hf a; intro a hf
    refine o_v hf hh (yv_move rfl) ?_; clear hf a; intro a hf
    refine o_call hf Try.en_134 rfl rfl rfl (p109 termB d.terms p.st p.ct 129 #[] _ (hR.tm.ext hh.ext) hn1 Try.en_129 (fun x _ w1 _ => p104 x w1)) ?_; clear hf a; intro v a w hR hf
    obtain ⟨rfl, hx⟩ := hR; replace hh := hh.more hx; clear hx
    refine o_v hf hh (yv_not rfl) ?_; clear hf a; intro a hf
    refine o_v hf hh (yv_move rfl) ?_; clear hf a; intro a hf
    refine guard_split hf (t := 50) rfl (fun hg11 => ?_) (fun hg11 => ?_)
    ·have hG11 := hg11; try simp only [gS] at hG11
     refine o_v hf hh (yv_fieldAddr Try.fo_52_4 rfl) ?_; clear hf a; intro a hf
     refine o_v hf hh (y_ld Try.sc_25 rfl) ?_; clear hf a; intro a hf
     refine o_v hf hh (yv_move rfl) ?_; clear hf a; intro a hf
     refine o_call hf Try.en_95 rfl rfl rfl (p90 (fun n => inI n 0 1099511627776) d.paid p.sd p.cd 130 #[] _ (hR.pd.ext hh.ext) hn5 Try.en_130 (fun x _ w1 _ => p105 x w1)) ?_; clear hf a; intro v a w hR hf
     obtain ⟨rfl, hx⟩ := hR; replace hh := hh.more hx; clear hx
     refine o_v hf hh (yv_not rfl) ?_; clear hf a; intro a hf
     refine o_v hf hh (y_pt rfl rfl) ?_; clear hf a; intro a hf
     refine o_v hf hh (yv_move rfl) ?_; clear hf a; intro a hf
     refine guard_split hf (t := 57) rfl (fun hg13 => ?_) (fun hg13 => ?_)
     ·have hG13 := hg13; try simp only [gS] at hG13
      refine o_v hf hh (yv_fieldAddr Try.fo_52_1 rfl) ?_; clear hf a; intro a hf
      refine o_v hf hh (y_ld Try.sc_25 rfl) ?_; clear hf a; intro a hf
      refine o_v hf hh (yv_move rfl) ?_; clear hf a; intro a hf
      refine o_call hf Try.en_95 rfl rfl rfl (p90 (fun n => inI n 0 1048576) d.prices p.sp p.cp 131 #[] _ (hR.pr.ext hh.ext) hn2 Try.en_131 (fun x _ w1 _ => p106 x w1)) ?_; clear hf a; intro v a w hR hf
      obtain ⟨rfl, hx⟩ := hR; replace hh := hh.more hx; clear hx
      refine o_v hf hh (yv_not rfl) ?_; clear hf a; intro a hf
      refine o_v hf hh (y_pt rfl rfl) ?_; clear hf a; intro a hf
      refine o_v hf hh (yv_assign rfl) ?_; clear hf a; intro a hf
      refine ops_end ?_
      refine then_n ?_
      exact ⟨(), hh, hf.head ⟨congrArg (fun z => some (Value.bool z)) (by unfold monB; exact (by
        clear hf hh
        first
        | (simp_all; done)
        | (simp only [*, Bool.false_and, Bool.and_false, Bool.true_and, Bool.and_true, Bool.not_true, Bool.not_false, Bool.not_not]; done)
        | (simp only [decide_eq_true_eq, decide_eq_false_iff_not] at *; rw [Bool.eq_iff_iff]; simp only [Bool.and_eq_true, decide_eq_true_eq, Bool.false_eq_true, false_iff, true_iff, *]; omega)
        | omega)), True.intro⟩ (Keep.cons rfl (Keep.cons rfl (Keep.cons rfl (Keep.cons rfl (Keep.cons rfl (Keep.cons rfl (Keep.cons rfl (Keep.cons rfl (Keep.cons rfl (Keep.cons rfl (Keep.cons rfl (Keep.cons rfl (Keep.cons rfl (Keep.cons rfl (Keep.cons rfl (Keep.cons rfl (Keep.cons rfl (Keep.cons rfl (Keep.cons rfl (Keep.cons rfl (Keep.base)))))))))))))))))))))⟩
     ·have hG13 := hg13; try simp only [gS] at hG13
      refine o_off hf ?_; clear hf a; intro a hf
      refine o_off hf ?_; clear hf a; intro a hf
      refine o_off hf ?_; clear hf a; intro a hf
      refine o_off hf ?_; clear hf a; intro a hf
      refine o_off hf ?_; clear hf a; intro a hf
      refine o_v hf hh (y_pf rfl rfl) ?_; clear hf a; intro a hf
      refine o_v hf hh (yv_assign rfl) ?_; clear hf a; intro a hf
      refine ops_end ?_
      refine then_n ?_
      exact ⟨(), hh, hf.head ⟨congrArg (fun z => some (Value.bool z)) (by unfold monB; exact (by
        clear hf hh
        first
        | (simp_all; done)
        | (simp only [*, Bool.false_and, Bool.and_false, Bool.true_and, Bool.and_true, Bool.not_true, Bool.not_false, Bool.not_not]; done)
        | (simp only [decide_eq_true_eq, decide_eq_false_iff_not] at *; rw [Bool.eq_iff_iff]; simp only [Bool.and_eq_true, decide_eq_true_eq, Bool.false_eq_true, false_iff, true_iff, *]; omega)
        | omega)), True.intro⟩ (Keep.cons rfl (Keep.cons rfl (Keep.cons rfl (Keep.cons rfl (Keep.cons rfl (Keep.cons rfl (Keep.cons rfl (Keep.cons rfl (Keep.cons rfl (Keep.cons rfl (Keep.cons rfl (Keep.cons rfl (Keep.cons rfl (Keep.cons rfl (Keep.cons rfl (Keep.cons rfl (Keep.cons rfl (Keep.cons rfl (Keep.cons rfl (Keep.cons rfl (Keep.base)))))))))))))))))))))⟩
    ·have hG11 := hg11; try simp only [gS] at hG11
     refine o_off hf ?_; clear hf a; intro a hf
     refine o_off hf ?_; clear hf a; intro a hf
     refine o_off hf ?_; clear hf a; intro a hf
     refine o_off hf ?_; clear hf a; intro a hf
     refine o_off hf ?_; clear hf a; intro a hf
     refine o_v hf hh (y_pf rfl rfl) ?_; clear hf a; intro a hf
     refine o_v hf hh (yv_move rfl) ?_; clear hf a; intro a hf
     refine o_off hf ?_; clear hf a; intro a hf
     refine o_off hf ?_; clear hf a; intro a hf
     refine o_off hf ?_; clear hf a; intro a hf
     refine o_off hf ?_; clear hf a; intro a hf
     refine o_off hf ?_; clear hf a; intro a hf
     refine o_v hf hh (y_pf rfl rfl) ?_; clear hf a; intro a hf
     refine o_v hf hh (yv_assign rfl) ?_; clear hf a; intro a hf
     refine ops_end ?_
     refine then_n ?_
     exact ⟨(), hh, hf.head ⟨congrArg (fun z => some (Value.bool z)) (by unfold monB; exact (by
       clear hf hh
       first
       | (simp_all; done)
       | (simp only [*, Bool.false_and, Bool.and_false, Bool.true_and, Bool.and_true, Bool.not_true, Bool.not_false, Bool.not_not]; done)
       | (simp only [decide_eq_true_eq, decide_eq_false_iff_not] at *; rw [Bool.eq_iff_iff]; simp only [Bool.and_eq_true, decide_eq_true_eq, Bool.false_eq_true, false_iff, true_iff, *]; omega)
       | omega)), True.intro⟩ (Keep.cons rfl (Keep.cons rfl (Keep.cons rfl (Keep.cons rfl (Keep.cons rfl (Keep.cons rfl (Keep.cons rfl (Keep.cons rfl (Keep.cons rfl (Keep.cons rfl (Keep.cons rfl (Keep.cons rfl (Keep.cons rfl (Keep.cons rfl (Keep.cons rfl (Keep.cons rfl (Keep.cons rfl (Keep.cons rfl (Keep.cons rfl (Keep.cons rfl (Keep.base)))))))))))))))))))))⟩
   ·rintro z a w hh hf
    refine sy_sq ?_
    refine o_v hf hh (yv_move rfl) ?_; clear hf a; intro a hf
    refine o_v hf hh (yv_move rfl) ?_; clear hf a; intro a hf
    refine guard_split hf (t := 65) rfl (fun hg16 => ?_) (fun hg16 => ?_)
    ·have hG16 := hg16; try simp only [gS] at hG16
     refine o_v hf hh (yv_move rfl) ?_; clear hf a; intro a hf
     refine o_v hf hh (y_pt rfl rfl) ?_; clear hf a; intro a hf
     refine o_v hf hh (yv_move rfl) ?_; clear hf a; intro a hf
     refine guard_split hf (t := 68) rfl (fun hg18 => ?_) (fun hg18 => ?_)
     ·have hG18 := hg18; try simp only [gS] at hG18
      refine o_v hf hh (yv_fieldAddr Try.fo_52_2 rfl) ?_; clear hf a; intro a hf
      refine o_v hf hh (y_ld Try.sc_47 rfl) ?_; clear hf a; intro a hf
      refine o_v hf hh (yv_move rfl) ?_; clear hf a; intro a hf
      refine o_call hf Try.en_135 rfl rfl rfl (p110 shB d.shares p.ss p.cs 132 #[] _ (hR.sh.ext hh.ext) hn3 Try.en_132 (fun x hx sb cb w1 _ hI => p107 x sb cb w1 hI (hR.n6 x hx))) ?_; clear hf a; intro v a w hR hf
      obtain ⟨rfl, hx⟩ := hR; replace hh := hh.more hx; clear hx
      refine o_v hf hh (yv_not rfl) ?_; clear hf a; intro a hf
      refine o_v hf hh (y_pt rfl rfl) ?_; clear hf a; intro a hf
      refine o_v hf hh (yv_move rfl) ?_; clear hf a; intro a hf
      refine guard_split hf (t := 75) rfl (fun hg20 => ?_) (fun hg20 => ?_)
      ·have hG20 := hg20; try simp only [gS] at hG20
       refine o_v hf hh (yv_fieldAddr Try.fo_52_3 rfl) ?_; clear hf a; intro a hf
       refine o_v hf hh (y_ld Try.sc_50 rfl) ?_; clear hf a; intro a hf
       refine o_v hf hh (yv_move rfl) ?_; clear hf a; intro a hf
       refine o_call hf Try.en_136 rfl rfl rfl (p111 (repB d) d.reps p.sr p.cr 133 #[ptr B1 0] _ (hR.rp.ext hh.ext) hn4 Try.en_133 (fun x hx w1 e => p108 d p x B1 w1 (e.get (hh.at (i := 0) rfl)) hn1 hn2)) ?_; clear hf a; intro v a w hR hf
       obtain ⟨rfl, hx⟩ := hR; replace hh := hh.more hx; clear hx
       refine o_v hf hh (yv_not rfl) ?_; clear hf a; intro a hf
       refine o_v hf hh (y_pt rfl rfl) ?_; clear hf a; intro a hf
       refine o_v hf hh (yv_assign rfl) ?_; clear hf a; intro a hf
       refine o_end ?_
       refine sy_ret ?_
       refine ret_r hf rfl rfl ?_
       refine ⟨?_, hh.ext⟩
       rw [royB_eq]
       exact congrArg Value.bool (by
         clear hf hh
         first
         | (simp_all; done)
         | (simp only [*, Bool.false_and, Bool.and_false, Bool.true_and, Bool.and_true, Bool.not_true, Bool.not_false, Bool.not_not]; done)
         | (simp only [decide_eq_true_eq, decide_eq_false_iff_not] at *; rw [Bool.eq_iff_iff]; simp only [Bool.and_eq_true, decide_eq_true_eq, Bool.false_eq_true, false_iff, true_iff, *]; omega)
         | omega)
      ·have hG20 := hg20; try simp only [gS] at hG20
       refine o_off hf ?_; clear hf a; intro a hf
       refine o_off hf ?_; clear hf a; intro a hf
       refine o_off hf ?_; clear hf a; intro a hf
       refine o_off hf ?_; clear hf a; intro a hf
       refine o_off hf ?_; clear hf a; intro a hf
       refine o_v hf hh (y_pf rfl rfl) ?_; clear hf a; intro a hf
       refine o_v hf hh (yv_assign rfl) ?_; clear hf a; intro a hf
       refine o_end ?_
       refine sy_ret ?_
       refine ret_r hf rfl rfl ?_
       refine ⟨?_, hh.ext⟩
       rw [royB_eq]
       exact congrArg Value.bool (by
         clear hf hh
         first
         | (simp_all; done)
         | (simp only [*, Bool.false_and, Bool.and_false, Bool.true_and, Bool.and_true, Bool.not_true, Bool.not_false, Bool.not_not]; done)
         | (simp only [decide_eq_true_eq, decide_eq_false_iff_not] at *; rw [Bool.eq_iff_iff]; simp only [Bool.and_eq_true, decide_eq_true_eq, Bool.false_eq_true, false_iff, true_iff, *]; omega)
         | omega)
     ·have hG18 := hg18; try simp only [gS] at hG18
      refine o_off hf ?_; clear hf a; intro a hf
      refine o_off hf ?_; clear hf a; intro a hf
      refine o_off hf ?_; clear hf a; intro a hf
      refine o_off hf ?_; clear hf a; intro a hf
      refine o_off hf ?_; clear hf a; intro a hf
      refine o_v hf hh (y_pf rfl rfl) ?_; clear hf a; intro a hf
      refine o_v hf hh (yv_move rfl) ?_; clear hf a; intro a hf
      refine o_off hf ?_; clear hf a; intro a hf
      refine o_off hf ?_; clear hf a; intro a hf
      refine o_off hf ?_; clear hf a; intro a hf
      refine o_off hf ?_; clear hf a; intro a hf
      refine o_off hf ?_; clear hf a; intro a hf
      refine o_v hf hh (y_pf rfl rfl) ?_; clear hf a; intro a hf
      refine o_v hf hh (yv_assign rfl) ?_; clear hf a; intro a hf
      refine o_end ?_
      refine sy_ret ?_
      refine ret_r hf rfl rfl ?_
      refine ⟨?_, hh.ext⟩
      rw [royB_eq]
      exact congrArg Value.bool (by
        clear hf hh
        first
        | (simp_all; done)
        | (simp only [*, Bool.false_and, Bool.and_false, Bool.true_and, Bool.and_true, Bool.not_true, Bool.not_false, Bool.not_not]; done)
        | (simp only [decide_eq_true_eq, decide_eq_false_iff_not] at *; rw [Bool.eq_iff_iff]; simp only [Bool.and_eq_true, decide_eq_true_eq, Bool.false_eq_true, false_iff, true_iff, *]; omega)
        | omega)
    ·have hG16 := hg16; try simp only [gS] at hG16
     refine o_off hf ?_; clear hf a; intro a hf
     refine o_v hf hh (y_pf rfl rfl) ?_; clear hf a; intro a hf
     refine o_v hf hh (yv_move rfl) ?_; clear hf a; intro a hf
     refine o_off hf ?_; clear hf a; intro a hf
     refine o_off hf ?_; clear hf a; intro a hf
     refine o_off hf ?_; clear hf a; intro a hf
     refine o_off hf ?_; clear hf a; intro a hf
     refine o_off hf ?_; clear hf a; intro a hf
     refine o_v hf hh (y_pf rfl rfl) ?_; clear hf a; intro a hf
     refine o_v hf hh (yv_move rfl) ?_; clear hf a; intro a hf
     refine o_off hf ?_; clear hf a; intro a hf
     refine o_off hf ?_; clear hf a; intro a hf
     refine o_off hf ?_; clear hf a; intro a hf
     refine o_off hf ?_; clear hf a; intro a hf
     refine o_off hf ?_; clear hf a; intro a hf
     refine o_v hf hh (y_pf rfl rfl) ?_; clear hf a; intro a hf
     refine o_v hf hh (yv_assign rfl) ?_; clear hf a; intro a hf
     refine o_end ?_
     refine sy_ret ?_
     refine ret_r hf rfl rfl ?_
     refine ⟨?_, hh.ext⟩
     rw [royB_eq]
     exact congrArg Value.bool (by
       clear hf hh
       first
       | (simp_all; done)
       | (simp only [*, Bool.false_and, Bool.and_false, Bool.true_and, Bool.and_true, Bool.not_true, Bool.not_false, Bool.not_not]; done)
       | (simp only [decide_eq_true_eq, decide_eq_false_iff_not] at *; rw [Bool.eq_iff_iff]; simp only [Bool.and_eq_true, decide_eq_true_eq, Bool.false_eq_true, false_iff, true_iff, *]; omega)
       | omega)
end Go.Proofs.Ytccpgpnekoncoaa
namespace Go.Proofs.Ytccpgpnekoncoaa
set_option maxRecDepth 100000
open Go Go.Sy Go.RoyM
theorem p64 (d : RoyD) (p : Pl) (Bc : Nat) (u : World) (hB : u.heap[Bc]? = some (.cells (royC d p) 123 (0, 0))) (g : Int) (hn : d.prices.length ≤ 1000) : Calls Try.prog 41 #[ptr Bc 0, .int .i64 g] u (Ret fun v w' => v = .bool (isKd d g) ∧ Ext [] u w') := by
  refine calls_of Try.func41 rfl rfl (fun a hf => ?_)
  have hh := Hp.init u []
  refine sy_sq ?_
  refine o_v hf hh (yv_assign rfl) ?_; clear hf a; intro a hf
  refine o_end ?_
  refine sy_sq ?_
  refine o_v hf hh (yv_move rfl) ?_; clear hf a; intro a hf
  refine o_v hf hh (yv_move rfl) ?_; clear hf a; intro a hf
  refine o_v hf hh (yv_nilCheck rfl) ?_; clear hf a; intro a hf
  refine o_v hf hh (yv_fieldAddr Try.fo_123_0 rfl) ?_; clear hf a; intro a hf
  refine o_v hf hh (yv_fieldAddr Try.fo_52_1 rfl) ?_; clear hf a; intro a hf
  refine o_v hf hh (y_ld Try.sc_25 rfl) ?_; clear hf a; intro a hf
  refine o_v hf hh (yv_len Try.se_25 rfl) ?_; clear hf a; intro a hf
  refine o_v hf hh (y_sub rfl rfl) ?_; clear hf a; intro a hf
  refine o_call hf Try.en_52 rfl rfl rfl (p48 _ _ _ _) ?_; clear hf a; intro v a w hR hf
  obtain ⟨rfl, hx⟩ := hR; replace hh := hh.more hx; clear hx
  refine o_v hf hh (yv_assign rfl) ?_; clear hf a; intro a hf
  refine o_end ?_
  refine sy_ret ?_
  refine ret_r hf rfl rfl ?_
  exact ⟨rfl, hh.ext⟩
theorem p75 (d : RoyD) (p : Pl) (Bc : Nat) (u : World) (hB : u.heap[Bc]? = some (.cells (royC d p) 123 (0, 0))) (Bk : Nat) (k : Int) (hk : u.heap[Bk]? = some (.cells #[.int .i64 k] 3 (0, 0))) (hn : d.prices.length ≤ 1000) : Calls Try.prog 49 #[ptr Bc 0, ptr Bk 0] u (Ret fun v w' => v = .bool (isKd d k) ∧ Ext [] u w') := by
  refine calls_of Try.func49 rfl rfl (fun a hf => ?_)
  have hh := Hp.init u []
  refine sy_sq ?_
  refine o_v hf hh (yv_assign rfl) ?_; clear hf a; intro a hf
  refine o_end ?_
  refine sy_sq ?_
  refine o_v hf hh (yv_move rfl) ?_; clear hf a; intro a hf
  refine o_v hf hh (y_ld Try.sc_3 rfl) ?_; clear hf a; intro a hf
  refine o_call hf Try.en_41 rfl rfl rfl (p64 d p Bc _ (hh.old hB) _ hn) ?_; clear hf a; intro v a w hR hf
  obtain ⟨rfl, hx⟩ := hR; replace hh := hh.more hx; clear hx
  refine o_v hf hh (yv_assign rfl) ?_; clear hf a; intro a hf
  refine o_end ?_
  refine sy_ret ?_
  refine ret_r hf rfl rfl ?_
  exact ⟨rfl, hh.ext⟩
theorem p81 (d : RoyD) (p : Pl) (Bc : Nat) (u : World) (hB : u.heap[Bc]? = some (.cells (royC d p) 123 (0, 0))) (Bk : Nat) (k : Int) (hk : u.heap[Bk]? = some (.cells #[.int .i64 k] 3 (0, 0))) (hn : d.prices.length ≤ 1000) : Calls Try.prog 40 #[ptr Bc 0, ptr Bk 0] u (Ret fun v w' => v = .bool (isKd d k) ∧ Ext [] u w') := by
  refine calls_of Try.func40 rfl rfl (fun a hf => ?_)
  have hh := Hp.init u []
  refine sy_sq ?_
  refine o_v hf hh (yv_assign rfl) ?_; clear hf a; intro a hf
  refine o_end ?_
  refine sy_sq ?_
  refine o_v hf hh (yv_move rfl) ?_; clear hf a; intro a hf
  refine o_v hf hh (y_ld Try.sc_3 rfl) ?_; clear hf a; intro a hf
  refine o_call hf Try.en_41 rfl rfl rfl (p64 d p Bc _ (hh.old hB) _ hn) ?_; clear hf a; intro v a w hR hf
  obtain ⟨rfl, hx⟩ := hR; replace hh := hh.more hx; clear hx
  refine o_v hf hh (yv_assign rfl) ?_; clear hf a; intro a hf
  refine o_end ?_
  refine sy_ret ?_
  refine ret_r hf rfl rfl ?_
  exact ⟨rfl, hh.ext⟩
theorem sharesN_at {d : RoyD} {k : Int} (h : isKd d k = true) (hn : d.shares.length = d.prices.length) : ∃ m, d.shares[k.toNat]? = some m ∧ 0 ≤ k ∧ k < d.shares.length ∧ sharesN d k = m := by
  unfold isKd inI at h
  simp only [Bool.and_eq_true, decide_eq_true_eq] at h
  obtain ⟨m, hm⟩ := ex_of (l := d.shares) (i := k.toNat) (by omega)
  exact ⟨m, hm, h.1, by omega, by unfold sharesN; exact getD_at hm⟩
theorem p87 (d : RoyD) (p : Pl) (Bc : Nat) (u : World) (hB : u.heap[Bc]? = some (.cells (royC d p) 123 (0, 0))) (Bk Bp : Nat) (k part : Int) (hk : u.heap[Bk]? = some (.cells #[.int .i64 k] 3 (0, 0))) (hp : u.heap[Bp]? = some (.cells #[.int .i64 part] 3 (0, 0))) (hm : d.prices.length ≤ 1000) (hS : LAt u p.ss d.shares) (hns : d.shares.length = d.prices.length) (hl : ∀ l ∈ d.shares, l.length ≤ 1000) : Calls Try.prog 57 #[ptr Bc 0, ptr Bk 0, ptr Bp 0] u (Ret fun v w' => v = .bool (isKd d k && inI part 0 (((sharesN d k).length : Int) - 1)) ∧ Ext [] u w') := by
  refine calls_of Try.func57 rfl rfl (fun a hf => ?_)
  have hh := Hp.init u []
  obtain ⟨st, sp, ss, sr, sd, ct, cp, cs, cr, cd⟩ := p
  refine sy_sq ?_
  refine o_v hf hh (yv_assign rfl) ?_; clear hf a; intro a hf
  refine o_end ?_
  refine sy_seq ?_
  refine sy_tree1 (.p 0 (.q 0 1 (.e1 2 (.p 3 (.q 0 4 (.p 5 (.p 6 (.p 7 (.p 8 (.q 0 9 (.q 0 10 (.p 11 (.q 0 12 (.p 13 (.p 14 (.e1 15 (.p 16 (.p 17 (.fin))))))))))))))))))) [] Try.follows (by kernel_rfl) hh (fun w hh => ?_)
  refine mc_p rfl   hf (yv_move rfl) (.inl rfl) rfl rfl ?_; clear hf a; intro a hf
  refine mc_q rfl rfl hh hf (y_ld Try.sc_3 rfl) (.inl rfl) rfl rfl ?_; clear hf a; intro a hf
  refine mc_e rfl fun Q1 => ?_
  refine o_call hf Try.en_41 rfl rfl rfl (p64 d _ Bc _ (hh.old hB) _ hm) ?_; clear hf a; intro v a w hR hf
  obtain ⟨rfl, hx⟩ := hR; replace hh := hh.more hx; clear hx
  refine ops_end ?_
  refine then_n ⟨⟨fun _ _ => hh, trivial⟩, ?_⟩
  refine mc_p rfl   hf (yv_move rfl) (.inl rfl) rfl rfl ?_; clear hf a; intro a hf
  refine guard_any hf (t := 8) rfl (fun hg2 => ?_) (fun hg2 => ?_)
  ·have hG2 := hg2; try simp only [gS] at hG2
   refine mc_q rfl rfl hh hf (y_ld Try.sc_3 rfl) (gon rfl rfl rfl (by first | assumption | rfl | (simp; done) | (simp; omega))) rfl rfl ?_; clear hf a; intro a hf
   refine mc_p rfl   hf (yv_move rfl) (gon rfl rfl rfl (by first | assumption | rfl | (simp; done) | (simp; omega))) rfl rfl ?_; clear hf a; intro a hf
   refine mc_p rfl   hf (yv_nilCheck rfl) (gon rfl rfl rfl (by first | assumption | rfl | (simp; done) | (simp; omega))) rfl rfl ?_; clear hf a; intro a hf
   refine mc_p rfl   hf (yv_fieldAddr Try.fo_123_0 rfl) (gon rfl rfl rfl (by first | assumption | rfl | (simp; done) | (simp; omega))) rfl rfl ?_; clear hf a; intro a hf
   refine mc_p rfl   hf (yv_fieldAddr Try.fo_52_2 rfl) (gon rfl rfl rfl (by first | assumption | rfl | (simp; done) | (simp; omega))) rfl rfl ?_; clear hf a; intro a hf
   have hkd : isKd d k = true := by assumption
   obtain ⟨m, hm, hk0, hk1, e9⟩ := sharesN_at (d := d) (k := k) hkd hns
   obtain ⟨q, rfl⟩ : ∃ q : Nat, k = q := ⟨k.toNat, by omega⟩
   rw [Int.toNat_natCast] at hm
   obtain ⟨blk, off, cc, T, fr, sb, cb, e, hb, hc, hI⟩ := hS q m hm
   dsimp only at e; subst e
   have hml := hl m (List.mem_of_getElem? hm)
   rw [e9]
   refine mc_q rfl rfl hh hf (y_ld Try.sc_47 rfl) (gon rfl rfl rfl (by first | assumption | rfl | (simp; done) | (simp; omega))) rfl rfl ?_; clear hf a; intro a hf
   refine mc_q rfl rfl hh hf (y_ld Try.sc_3 rfl) (gon rfl rfl rfl (by first | assumption | rfl | (simp; done) | (simp; omega))) rfl rfl ?_; clear hf a; intro a hf
   refine mc_p rfl   hf (y_ix Try.se_47 rfl rfl) (gon rfl rfl rfl (by first | assumption | rfl | (simp; done) | (simp; omega))) rfl rfl ?_; clear hf a; intro a hf
   refine mc_q rfl rfl hh hf (y_ld Try.sc_25 rfl) (gon rfl rfl rfl (by first | assumption | rfl | (simp; done) | (simp; omega))) rfl rfl ?_; clear hf a; intro a hf
   refine mc_p rfl   hf (yv_len Try.se_25 rfl) (gon rfl rfl rfl (by first | assumption | rfl | (simp; done) | (simp; omega))) rfl rfl ?_; clear hf a; intro a hf
   refine mc_p rfl   hf (y_sub rfl rfl) (gon rfl rfl rfl (by first | assumption | rfl | (simp; done) | (simp; omega))) rfl rfl ?_; clear hf a; intro a hf
   refine mc_e rfl fun Q1 => ?_
   refine o_call hf Try.en_52 rfl rfl rfl (p48 _ _ _ _) ?_; clear hf a; intro v a w hR hf
   obtain ⟨rfl, hx⟩ := hR; replace hh := hh.more hx; clear hx
   refine ops_end ?_
   refine then_n ⟨⟨fun _ _ => hh, trivial⟩, ?_⟩
   refine mc_p rfl   hf (y_pt rfl rfl) (.inl rfl) rfl rfl ?_; clear hf a; intro a hf
   refine mc_p rfl   hf (yv_assign rfl) (.inl rfl) rfl rfl ?_; clear hf a; intro a hf
   refine mc_end ?_
   refine then_n ?_
   refine sy_ret ?_
   refine ret_r hf rfl rfl ?_
   exact ⟨congrArg Value.bool (by
     clear hf hh
     first
     | (simp_all; done)
     | (simp only [*, Bool.false_and, Bool.and_false, Bool.true_and, Bool.and_true, Bool.not_true, Bool.not_false, Bool.not_not]; done)
     | omega), hh.ext⟩
  ·have hG2 := hg2; try simp only [gS] at hG2
   refine mc_offq rfl rfl hh hf (goff rfl rfl rfl (by first | assumption | rfl | (simp; done) | (simp; omega))) rfl rfl ?_; clear hf a; intro a hf
   refine mc_off rfl hf (goff rfl rfl rfl (by first | assumption | rfl | (simp; done) | (simp; omega))) rfl rfl ?_; clear hf a; intro a hf
   refine mc_off rfl hf (goff rfl rfl rfl (by first | assumption | rfl | (simp; done) | (simp; omega))) rfl rfl ?_; clear hf a; intro a hf
   refine mc_off rfl hf (goff rfl rfl rfl (by first | assumption | rfl | (simp; done) | (simp; omega))) rfl rfl ?_; clear hf a; intro a hf
   refine mc_off rfl hf (goff rfl rfl rfl (by first | assumption | rfl | (simp; done) | (simp; omega))) rfl rfl ?_; clear hf a; intro a hf
   refine mc_offq rfl rfl hh hf (goff rfl rfl rfl (by first | assumption | rfl | (simp; done) | (simp; omega))) rfl rfl ?_; clear hf a; intro a hf
   refine mc_offq rfl rfl hh hf (goff rfl rfl rfl (by first | assumption | rfl | (simp; done) | (simp; omega))) rfl rfl ?_; clear hf a; intro a hf
   refine mc_off rfl hf (goff rfl rfl rfl (by first | assumption | rfl | (simp; done) | (simp; omega))) rfl rfl ?_; clear hf a; intro a hf
   refine mc_offq rfl rfl hh hf (goff rfl rfl rfl (by first | assumption | rfl | (simp; done) | (simp; omega))) rfl rfl ?_; clear hf a; intro a hf
   refine mc_off rfl hf (goff rfl rfl rfl (by first | assumption | rfl | (simp; done) | (simp; omega))) rfl rfl ?_; clear hf a; intro a hf
   refine mc_off rfl hf (goff rfl rfl rfl (by first | assumption | rfl | (simp; done) | (simp; omega))) rfl rfl ?_; clear hf a; intro a hf
   refine mc_e rfl fun Q1 => ?_
   refine o_off hf ?_; clear hf a; intro a hf
   refine ops_end ?_
   refine then_n ⟨⟨fun _ _ => hh, trivial⟩, ?_⟩
   refine mc_p rfl   hf (y_pf rfl rfl) (.inl rfl) rfl rfl ?_; clear hf a; intro a hf
   refine mc_p rfl   hf (yv_assign rfl) (.inl rfl) rfl rfl ?_; clear hf a; intro a hf
   refine mc_end ?_
   refine then_n ?_
   refine sy_ret ?_
   refine ret_r hf rfl rfl ?_
   exact ⟨congrArg Value.bool (by
     clear hf hh
     first
     | (simp_all; done)
     | (simp only [*, Bool.false_and, Bool.and_false, Bool.true_and, Bool.and_true, Bool.not_true, Bool.not_false, Bool.not_not]; done)
     | omega), hh.ext⟩
theorem openE_zero {d : RoyD} {b : Bool} : openE d b = 0 ↔ royB d = true ∧ b = true := by
  unfold openE
  cases royB d <;> cases b <;> simp
theorem p57 (d : RoyD) (p : Pl) (u : World) (hR : RoyAt u d p) (f : Nat) (fcs : Array Value) (b : Bool) (hE : Enters Try.prog f)
    (hcall : royB d = true → ∀ (Bc : Nat) (w' : World), Ext [] u w' → w'.heap[Bc]? = some (.cells (royC d p) 123 (0, 0)) → Calls Try.prog f (#[] ++ [ptr Bc 0].toArray ++ fcs) w' (Ret fun v w'' => v = .bool b ∧ Ext [] w' w'')) :
    Calls Try.prog 39 #[.agg (royC d p), .func (.func f) #[] fcs] u (RetX (fun v w' => openE d b = 0 ∧ ∃ Bc, v = ptr Bc 0 ∧ Hp u [] [(Bc, .cells (royC d p) 123)] w') (fun ch w' => ch = misfit (openE d b) ∧ openE d b ≠ 0 ∧ Ext [] u w')) := by
  refine calls_ofX Try.func39 rfl rfl (fun a hf => ?_)
  have hh := Hp.init u []
  refine sy_sq ?_
  refine o_box hf hh ?_; clear hf hh a; intro B2 a w hf hh
  refine o_v hf hh (yv_assign rfl) ?_; clear hf a; intro a hf
  refine o_end ?_
  refine sy_sq ?_
  refine o_v hf hh (y_lds Try.ag_52 rfl) ?_; clear hf a; intro a hf
  refine o_call hf Try.en_91 rfl rfl rfl (p95 d p _ (hR.ext hh.ext)) ?_; clear hf a; intro v a w hR hf
  obtain ⟨rfl, hx⟩ := hR; replace hh := hh.more hx; clear hx
  refine o_callX hf Try.en_90 rfl rfl rfl (p94 _ 1 _) ?_ ?_
  ·clear hf a; intro v a w hR hf
   obtain ⟨hb1, hx⟩ := hR; replace hh := hh.more hx; clear hx
   refine o_end ?_
   refine sy_sq ?_
   refine o_v hf hh (y_lds Try.ag_52 rfl) ?_; clear hf a; intro a hf
   refine o_v hf hh (yv_buildS Try.bs_123 rfl rfl) ?_; clear hf a; intro a hf
   refine o_box hf hh ?_; clear hf hh a; intro B11 a w hf hh
   refine o_v hf hh (yv_assign rfl) ?_; clear hf a; intro a hf
   refine o_end ?_
   refine sy_sq ?_
   refine o_v hf hh (yv_move rfl) ?_; clear hf a; intro a hf
   refine o_v hf hh (yv_move rfl) ?_; clear hf a; intro a hf
   refine o_call hf hE rfl rfl rfl (hcall hb1 _ _ hh.ext (hh.at (i := 0) rfl)) ?_; clear hf a; intro v a w hR hf
   obtain ⟨rfl, hx⟩ := hR; replace hh := hh.more hx; clear hx
   refine o_callX hf Try.en_90 rfl rfl rfl (p94 _ 2 _) ?_ ?_
   ·clear hf a; intro v a w hR hf
    obtain ⟨hb2, hx⟩ := hR; replace hh := hh.more hx; clear hx
    refine o_end ?_
    refine sy_sq ?_
    refine o_v hf hh (yv_move rfl) ?_; clear hf a; intro a hf
    refine o_v hf hh (yv_assign rfl) ?_; clear hf a; intro a hf
    refine o_end ?_
    refine sy_ret ?_
    refine ret_x ?_
    refine ret_r hf rfl rfl ?_
    exact ⟨by simp [openE, hb1, hb2], _, rfl, hh.less (.cons_cons _ (.cons _ (.refl _)))⟩
   ·intro ch w hX hf
    obtain ⟨hb2, hch, hx⟩ := hX; replace hh := hh.more hx; clear hx
    refine then_p ?_
    refine pan_x hf ?_
    exact ⟨by rw [hch]; simp [openE, hb1, hb2], by simp [openE, hb1, hb2], hh.ext⟩
  ·intro ch w hX hf
   obtain ⟨hb1, hch, hx⟩ := hX; replace hh := hh.more hx; clear hx
   refine then_p ?_
   refine pan_x hf ?_
   exact ⟨by rw [hch]; simp [openE, hb1], by simp [openE, hb1], hh.ext⟩
end Go.Proofs.Ytccpgpnekoncoaa
namespace Go.RoyM
open Go Go.Sy
/-- The agents of a set, rising. -/
def clrL (m who : Nat) : List Nat := (List.range m).filter fun g => who.testBit g
/-- All lists of those who sold the cards, in their order. -/
def truA (m : Nat) : List Nat → List (List Nat)
  | [] => [[]]
  | w :: ws => (clrL m w).flatMap fun g => (truA m ws).map (g :: ·)
def cnt (n : Cts) (t : List Nat) : Cts := t.foldl cinc n
theorem fm_map {α β γ : Type} (f : α → List β) (g : β → γ) : ∀ l : List α, (l.flatMap f).map g = l.flatMap fun x => (f x).map g
  | [] => rfl
  | x :: l => by rw [List.flatMap_cons, List.map_append, fm_map f g l, List.flatMap_cons]
theorem fm_fm {α β γ : Type} (f : α → List β) (g : β → List γ) : ∀ l : List α, (l.flatMap f).flatMap g = l.flatMap fun x => (f x).flatMap g
  | [] => rfl
  | x :: l => by rw [List.flatMap_cons, List.flatMap_append, fm_fm f g l, List.flatMap_cons]
theorem fm_mapl {α β γ : Type} (f : α → β) (g : β → List γ) : ∀ l : List α, (l.map f).flatMap g = l.flatMap fun x => g (f x)
  | [] => rfl
  | x :: l => by rw [List.map_cons, List.flatMap_cons, fm_mapl f g l, List.flatMap_cons]
theorem reach_tru (m : Nat) : ∀ (ws : List Nat) (S : List Cts), ws.foldl (fun S w => stepC m w S) S = S.flatMap fun n => (truA m ws).map (cnt n)
  | [], S => by
    rw [List.foldl_nil]
    induction S with
    | nil => rfl
    | cons x S ih => rw [List.flatMap_cons, ← ih]; rfl
  | w :: ws, S => by
    rw [List.foldl_cons, reach_tru m ws, stepC, fm_fm]
    congr 1
    funext n
    rw [fm_mapl, truA, fm_map]
    congr 1
    funext g
    rw [List.map_map]
    rfl
theorem reachL_tru (d : RoyD) (k : Int) : reachL d k = (truA d.terms.length ((soldL d k).map Prod.snd)).map (cnt (0, 0, 0, 0)) := by
  unfold reachL reachW
  rw [reach_tru, List.flatMap_cons, List.flatMap_nil, List.append_nil]
/-- Each card has somebody who claims it. -/
def Some1 (m : Nat) (ws : List Nat) : Prop := ∀ w ∈ ws, clrL m w ≠ []
theorem truA_ne {m : Nat} : ∀ {ws : List Nat}, Some1 m ws → truA m ws ≠ []
  | [], _ => by simp [truA]
  | w :: ws, h => by
    have h1 := h w (.head _)
    have h2 := truA_ne (ws := ws) fun x hx => h x (.tail _ hx)
    rw [truA]
    obtain ⟨g, hg⟩ := List.exists_mem_of_ne_nil _ h1
    obtain ⟨t, ht⟩ := List.exists_mem_of_ne_nil _ h2
    exact List.ne_nil_of_mem (List.mem_flatMap.2 ⟨g, hg, List.mem_map.2 ⟨t, ht, rfl⟩⟩)
theorem lo_uniq {l : List Int} {v : Int} (h : v ∈ l) (hb : ∀ y ∈ l, v ≤ y) : loL l = v := by
  have h1 := loL_spec (List.ne_nil_of_mem h)
  have h2 := hb _ h1.1
  have h3 := h1.2 v h
  omega
theorem hi_uniq {l : List Int} {v : Int} (h : v ∈ l) (hb : ∀ y ∈ l, y ≤ v) : hiL l = v := by
  have h1 := hiL_spec (List.ne_nil_of_mem h)
  have h2 := hb _ h1.1
  have h3 := h1.2 v h
  omega
theorem least_tru (d : RoyD) (price : Int) : ∀ (ws : List Nat) (n : Cts), Some1 d.terms.length ws → leastV d price ws n = loL ((truA d.terms.length ws).map fun t => totV d price (cnt n t))
  | [], n, _ => rfl
  | w :: ws, n, h => by
    have h1 := h w (.head _)
    have h2 : Some1 d.terms.length ws := fun x hx => h x (.tail _ hx)
    symm
    have hne : (clrL d.terms.length w).map (fun g => leastV d price ws (cinc n g)) ≠ [] := by simpa using h1
    obtain ⟨a1, a2⟩ := loL_spec hne
    have e0 : leastV d price (w :: ws) n = loL ((clrL d.terms.length w).map fun g => leastV d price ws (cinc n g)) := rfl
    rw [e0]
    obtain ⟨g0, hg0, e1⟩ := List.mem_map.1 a1
    apply lo_uniq
    · rw [← e1, least_tru d price ws _ h2]
      have hn2 : (truA d.terms.length ws).map (fun t => totV d price (cnt (cinc n g0) t)) ≠ [] := by simpa using truA_ne h2
      obtain ⟨t, ht, e2⟩ := List.mem_map.1 (loL_spec hn2).1
      rw [truA]
      exact List.mem_map.2 ⟨g0 :: t, List.mem_flatMap.2 ⟨g0, hg0, List.mem_map.2 ⟨t, ht, rfl⟩⟩, e2⟩
    · intro y hy
      obtain ⟨t, ht, rfl⟩ := List.mem_map.1 hy
      rw [truA] at ht
      obtain ⟨g, hg, ht⟩ := List.mem_flatMap.1 ht
      obtain ⟨s, hs, rfl⟩ := List.mem_map.1 ht
      have b1 := a2 _ (List.mem_map.2 ⟨g, hg, rfl⟩)
      rw [least_tru d price ws _ h2] at b1
      have hn2 : (truA d.terms.length ws).map (fun t => totV d price (cnt (cinc n g) t)) ≠ [] := by simpa using truA_ne h2
      have b2 := (loL_spec hn2).2 _ (List.mem_map.2 ⟨s, hs, rfl⟩)
      exact Int.le_trans b1 b2
theorem least_le {d : RoyD} {price : Int} {ws : List Nat} {n : Cts} (h : Some1 d.terms.length ws) {t : List Nat} (ht : t ∈ truA d.terms.length ws) : leastV d price ws n ≤ totV d price (cnt n t) := by
  rw [least_tru d price ws n h]
  exact (loL_spec (by simpa using truA_ne h)).2 _ (List.mem_map.2 ⟨t, ht, rfl⟩)
theorem find_some_first {p : Nat → Bool} {f : Nat → Option (List Nat)} {L : Nat → List Nat} : ∀ {l : List Nat}, (∀ g ∈ l, p g = true → f g = some (L g)) → (∀ g ∈ l, p g = false → f g = none) → (∃ g ∈ l, p g = true) → l.findSome? f = some (L ((l.find? p).getD 0))
  | [], _, _, h => by obtain ⟨g, hg, _⟩ := h; cases hg
  | x :: l, h1, h2, h3 => by
    rw [List.findSome?_cons, List.find?_cons]
    cases hp : p x
    · rw [h2 x (.head _) hp]
      have h4 : ∃ g ∈ l, p g = true := by
        obtain ⟨g, hg, h⟩ := h3
        rcases List.mem_cons.1 hg with rfl | hg
        · rw [hp] at h; cases h
        · exact ⟨g, hg, h⟩
      exact find_some_first (fun g hg => h1 g (.tail _ hg)) (fun g hg => h2 g (.tail _ hg)) h4
    · rw [h1 x (.head _) hp]; rfl
/-- The truth that is told is the first one of those with the least. -/
theorem leastL_first (d : RoyD) (price : Int) : ∀ (ws : List Nat) (n : Cts), Some1 d.terms.length ws → (truA d.terms.length ws).find? (fun t => decide (totV d price (cnt n t) ≤ leastV d price ws n)) = some (leastL d price ws n)
  | [], n, _ => by
    show [([] : List Nat)].find? _ = some []
    rw [List.find?_cons, show decide (totV d price (cnt n []) ≤ leastV d price [] n) = true from decide_eq_true (Int.le_refl _)]
  | w :: ws, n, h => by
    have h1 := h w (.head _)
    have h2 : Some1 d.terms.length ws := fun x hx => h x (.tail _ hx)
    obtain ⟨V, hV⟩ : ∃ V, V = leastV d price (w :: ws) n := ⟨_, rfl⟩
    have hne : (clrL d.terms.length w).map (fun g => leastV d price ws (cinc n g)) ≠ [] := by simpa using h1
    have e0 : V = loL ((clrL d.terms.length w).map fun g => leastV d price ws (cinc n g)) := hV
    obtain ⟨a1, a2⟩ := loL_spec hne
    rw [← e0] at a1 a2
    obtain ⟨g0, hg0, e1⟩ := List.mem_map.1 a1
    rw [truA, List.find?_flatMap, ← hV]
    have key := find_some_first (l := clrL d.terms.length w) (p := fun g => decide (leastV d price ws (cinc n g) ≤ V)) (L := fun g => g :: leastL d price ws (cinc n g))
      (f := fun g => ((truA d.terms.length ws).map (g :: ·)).find? fun t => decide (totV d price (cnt n t) ≤ V))
      (fun g hg hp => by
        have hp := of_decide_eq_true hp
        have hq := a2 _ (List.mem_map.2 ⟨g, hg, rfl⟩)
        have e : V = leastV d price ws (cinc n g) := by omega
        have ih := leastL_first d price ws (cinc n g) h2
        rw [← e] at ih
        rw [List.find?_map]
        show Option.map _ ((truA d.terms.length ws).find? fun t => decide (totV d price (cnt (cinc n g) t) ≤ V)) = _
        rw [ih]
        rfl)
      (fun g hg hp => by
        have hp := of_decide_eq_false hp
        rw [List.find?_eq_none]
        intro t ht
        obtain ⟨s, hs, rfl⟩ := List.mem_map.1 ht
        have := least_le (d := d) (price := price) (n := cinc n g) h2 hs
        have e : cnt n (g :: s) = cnt (cinc n g) s := rfl
        rw [e]
        simp only [decide_eq_true_eq]
        omega)
      ⟨g0, hg0, decide_eq_true (by omega)⟩
    rw [key]
    have e9 : ((clrL d.terms.length w).find? fun g => decide (leastV d price ws (cinc n g) ≤ V)).getD 0 = pickA d price w ws n := by
      unfold pickA clrL
      rw [List.find?_filter, ← hV]
      congr 2
      funext g
      cases w.testBit g <;> simp
    simp only [e9]
    rfl
theorem clm_lt {d : RoyD} (h : RoyOk d) {k : Int} {g c : Nat} (hc : clmB d k g c = true) : g < d.terms.length := by
  unfold clmB at hc
  obtain ⟨x, hx, h1⟩ := List.any_eq_true.1 hc
  simp only [Bool.and_eq_true, decide_eq_true_eq] at h1
  have := (h.r x hx).a1
  omega
theorem who_bit {d : RoyD} (h : RoyOk d) (k : Int) (c g : Nat) : (whoN d k c).testBit g = clmB d k g c := by
  unfold whoN
  rw [whoT_bit]
  cases hc : clmB d k g c
  · rw [Bool.and_false]
  · have := clm_lt h hc
    have := h.nt
    rw [decide_eq_true (by omega)]; rfl
theorem who_clr {d : RoyD} (h : RoyOk d) (k : Int) (c : Nat) : clrL d.terms.length (whoN d k c) = (List.range d.terms.length).filter fun g => clmB d k g c := by
  unfold clrL
  congr 1
  funext g
  exact who_bit h k c g
theorem bit_of_ne {n : Nat} (h : n ≠ 0) : ∃ g, n.testBit g = true := by
  by_cases h1 : ∃ g, n.testBit g = true
  · exact h1
  · exfalso
    apply h
    apply Nat.eq_of_testBit_eq
    intro i
    rw [Nat.zero_testBit]
    cases h2 : n.testBit i
    · rfl
    · exact absurd ⟨i, h2⟩ h1
theorem clr_ne {d : RoyD} (h : RoyOk d) {k : Int} {c : Nat} (hn : whoN d k c ≠ 0) : clrL d.terms.length (whoN d k c) ≠ [] := by
  obtain ⟨g, hg⟩ := bit_of_ne hn
  have h1 := hg
  rw [who_bit h] at h1
  exact List.ne_nil_of_mem (List.mem_filter.2 ⟨List.mem_range.2 (clm_lt h h1), hg⟩)
theorem sold_some {d : RoyD} (h : RoyOk d) (k : Int) : Some1 d.terms.length ((soldL d k).map Prod.snd) := fun x hx => by
  obtain ⟨p, hp, rfl⟩ := List.mem_map.1 hx
  obtain ⟨h1, h2, h3⟩ := soldT_mem.1 hp
  rw [h2] at h3 ⊢
  exact clr_ne h h3
theorem reach_ne {d : RoyD} (h : RoyOk d) (k : Int) : reachL d k ≠ [] := by
  rw [reachL_tru]
  simpa using truA_ne (sold_some h k)
end Go.RoyM
namespace Go.RoyM
open Go Go.Sy
theorem crd_lt {d : RoyD} {x : RepD} (h : RepOk d x) : crd x < 4096 := by
  have h1 := h.f0; have h2 := h.f1; have h3 := h.l1
  unfold crd
  have h4 : 2 ^ (x.la + 1).toNat ≤ 2 ^ 12 := Nat.pow_le_pow_right (by omega) (by omega)
  have h5 : 0 < 2 ^ x.fi.toNat := Nat.two_pow_pos _
  omega
theorem crd_pow {d : RoyD} {x : RepD} (h : RepOk d x) : ∃ q1 q2 : Nat, q1 = 2 ^ x.fi.toNat ∧ q2 = 2 ^ (x.la + 1).toNat ∧ q1 ≤ q2 ∧ q2 ≤ 4096 ∧ crd x = q2 - q1 := by
  have h1 := h.f0; have h2 := h.f1; have h3 := h.l1
  refine ⟨_, _, rfl, rfl, Nat.pow_le_pow_right (by omega) (by omega), ?_, rfl⟩
  exact Nat.le_trans (Nat.pow_le_pow_right (by omega) (by omega)) (show 2 ^ 12 ≤ 4096 by omega)
/-- The cards that are claimed in some reports. -/
def clmL (reps : List RepD) (k : Int) (g : Nat) : Nat := (reps.filter fun x => decide (x.kd = k) && decide (x.ag = (g : Int))).foldl (fun s x => s ||| crd x) 0
theorem clmL_all (d : RoyD) (k : Int) (g : Nat) : clmL d.reps k g = clm d k g := rfl
theorem clmL_take {l : List RepD} {i : Nat} {x : RepD} (h : l[i]? = some x) (k : Int) (g : Nat) : clmL (l.take (i + 1)) k g = if x.kd = k ∧ x.ag = (g : Int) then clmL (l.take i) k g ||| crd x else clmL (l.take i) k g := by
  unfold clmL
  rw [List.take_add_one, h, List.filter_append, List.foldl_append]
  by_cases hc : x.kd = k ∧ x.ag = (g : Int)
  · rw [if_pos hc]
    simp [hc.1, hc.2]
  · rw [if_neg hc]
    have : (decide (x.kd = k) && decide (x.ag = (g : Int))) = false := by
      rw [Bool.eq_false_iff]; intro h; apply hc; simpa using h
    simp [this]
theorem or_lt {a b : Nat} (h1 : a < 4096) (h2 : b < 4096) : a ||| b < 4096 := Nat.or_lt_two_pow (n := 12) h1 h2
theorem fold_or_lt : ∀ (l : List RepD) (s : Nat), s < 4096 → (∀ x ∈ l, crd x < 4096) → l.foldl (fun s x => s ||| crd x) s < 4096
  | [], s, h, _ => h
  | x :: l, s, h, hl => fold_or_lt l _ (or_lt h (hl x (.head _))) fun y hy => hl y (.tail _ hy)
theorem clmL_lt {l : List RepD} (h : ∀ x ∈ l, crd x < 4096) (k : Int) (g : Nat) : clmL l k g < 4096 :=
  fold_or_lt _ _ (by omega) fun x hx => h x ((List.mem_filter.1 hx).1)
theorem clm_lt12 {d : RoyD} (h : RoyOk d) (k : Int) (g : Nat) : clm d k g < 4096 := clmL_lt (fun x hx => crd_lt (h.r x hx)) k g
abbrev clmC (l : List RepD) (k : Int) : Array Value := #[.int .u64 (clmL l k 0 : Nat), .int .u64 (clmL l k 1 : Nat), .int .u64 (clmL l k 2 : Nat), .int .u64 (clmL l k 3 : Nat)]
theorem clmC_at (l : List RepD) (k : Int) {g : Nat} (hg : g < 4) : (clmC l k)[0 + ((g : Nat) : Int).toNat * 1]? = some (.int .u64 (clmL l k g : Nat)) := by
  rcases (show g = 0 ∨ g = 1 ∨ g = 2 ∨ g = 3 by omega) with rfl | rfl | rfl | rfl <;> rfl
theorem clmC_at0 (l : List RepD) (k : Int) {g : Nat} (hg : g < 4) : (clmC l k)[((g : Nat) : Int).toNat * 1]? = some (.int .u64 (clmL l k g : Nat)) := by
  rcases (show g = 0 ∨ g = 1 ∨ g = 2 ∨ g = 3 by omega) with rfl | rfl | rfl | rfl <;> rfl
theorem clmC_zero (k : Int) : clmC [] k = #[.int .u64 0, .int .u64 0, .int .u64 0, .int .u64 0] := rfl
theorem clmC_other {l : List RepD} {i : Nat} {x : RepD} (h : l[i]? = some x) {k : Int} (hk : ¬ x.kd = k) : clmC (l.take i) k = clmC (l.take (i + 1)) k := by
  have e : ∀ g, clmL (l.take (i + 1)) k g = clmL (l.take i) k g := fun g => by rw [clmL_take h, if_neg fun h => hk h.1]
  simp only [clmC, e]
theorem clmC_put {l : List RepD} {i : Nat} {x : RepD} (h : l[i]? = some x) {k : Int} (hk : x.kd = k) {g : Nat} (hg : x.ag = (g : Int)) (h4 : g < 4) : spl (clmC (l.take i) k) (0 + ((g : Nat) : Int).toNat * 1) [.int .u64 ((clmL (l.take i) k g ||| crd x : Nat) : Int)] = clmC (l.take (i + 1)) k := by
  have e : ∀ j, j ≠ g → clmL (l.take (i + 1)) k j = clmL (l.take i) k j := fun j hj => by rw [clmL_take h, if_neg fun h => hj (by omega)]
  have e2 : clmL (l.take (i + 1)) k g = clmL (l.take i) k g ||| crd x := by rw [clmL_take h, if_pos ⟨hk, hg⟩]
  rw [← e2]
  rcases (show g = 0 ∨ g = 1 ∨ g = 2 ∨ g = 3 by omega) with rfl | rfl | rfl | rfl
  · simp only [clmC, ← e 1 (by omega), ← e 2 (by omega), ← e 3 (by omega)]; rfl
  · simp only [clmC, ← e 0 (by omega), ← e 2 (by omega), ← e 3 (by omega)]; rfl
  · simp only [clmC, ← e 0 (by omega), ← e 1 (by omega), ← e 3 (by omega)]; rfl
  · simp only [clmC, ← e 0 (by omega), ← e 1 (by omega), ← e 2 (by omega)]; rfl
/-- Counts of cards. -/
abbrev ctC (n : Cts) : Array Value := #[.int .i64 (n.1 : Nat), .int .i64 (n.2.1 : Nat), .int .i64 (n.2.2.1 : Nat), .int .i64 (n.2.2.2 : Nat)]
theorem ctC_at (n : Cts) {g : Nat} (hg : g < 4) : (ctC n)[0 + ((g : Nat) : Int).toNat * 1]? = some (.int .i64 (cget n g : Nat)) := by
  rcases (show g = 0 ∨ g = 1 ∨ g = 2 ∨ g = 3 by omega) with rfl | rfl | rfl | rfl <;> rfl
theorem ctC_put (n : Cts) {g : Nat} (hg : g < 4) : spl (ctC n) (0 + ((g : Nat) : Int).toNat * 1) [.int .i64 ((cget n g : Nat) + 1)] = ctC (cinc n g) := by
  rcases (show g = 0 ∨ g = 1 ∨ g = 2 ∨ g = 3 by omega) with rfl | rfl | rfl | rfl <;> rfl
def ctOk (n : Cts) (b : Nat) : Prop := ∀ g, g < 4 → cget n g ≤ b
/-- All surely an agent's among the first others. -/
theorem surT_le (d : RoyD) (k : Int) (g : Nat) : ∀ h, surT d k g h ≤ clm d k g
  | 0 => Nat.le_refl _
  | h + 1 => by
    rw [surT]
    split
    · exact surT_le d k g h
    · refine Nat.le_trans ?_ (surT_le d k g h)
      obtain ⟨p, hp⟩ : ∃ p, p = surT d k g h := ⟨_, rfl⟩
      rw [← hp]
      have e : p ^^^ (p &&& clm d k h) = p &&& (p ^^^ (p &&& clm d k h)) := by
        apply Nat.eq_of_testBit_eq
        intro i
        simp only [Nat.testBit_and, Nat.testBit_xor]
        cases p.testBit i <;> simp
      rw [e]
      exact Nat.and_le_left
/-- Bounds of what agents have. -/
theorem com_bd {t : TermD} (ht : TermOk t) {price : Int} {m : Nat} (hp0 : 0 ≤ price) (hp : price ≤ 1048576) (hm : m ≤ 12) : 0 ≤ comV t price m ∧ comV t price m ≤ 12582912 := by
  obtain ⟨h1, h2⟩ := comV_bd (price := price) ht (Int.natCast_nonneg m) hp0
  have h3 : (m : Int) * price ≤ 12 * price := Int.mul_le_mul_of_nonneg_right (by omega) hp0
  omega
theorem term_at {d : RoyD} {g : Nat} {t : TermD} (h : d.terms[g]? = some t) : termN d g = t := getD_at h
theorem tot_bd {d : RoyD} (h : RoyOk d) {price : Int} (hp0 : 0 ≤ price) (hp : price ≤ 1048576) {n : Cts} (hn : ctOk n 12) : ∀ g, g ≤ d.terms.length → 0 ≤ totF d price n g ∧ totF d price n g ≤ 12582912 * (g : Int)
  | 0, _ => by simp [totF]
  | g + 1, hg => by
    have ih := tot_bd h hp0 hp hn g (by omega)
    obtain ⟨t, ht⟩ := ex_of (l := d.terms) (i := g) (by omega)
    have h4 := h.nt
    have h1 := com_bd (h.t t (List.mem_of_getElem? ht)) hp0 hp (hn g (by omega))
    have e : totF d price n (g + 1) = totF d price n g + comV t price (cget n g) := by rw [totF, getD_at ht]
    rw [e]
    omega
theorem totV_bd {d : RoyD} (h : RoyOk d) {price : Int} (hp0 : 0 ≤ price) (hp : price ≤ 1048576) {n : Cts} (hn : ctOk n 12) : 0 ≤ totV d price n ∧ totV d price n ≤ 50331648 := by
  have h1 := tot_bd h hp0 hp hn _ (Nat.le_refl _)
  have h4 := h.nt
  unfold totV
  omega
theorem com_facts {t : TermD} (ht : TermOk t) {price many : Int} (hp0 : 0 ≤ price) (hp1 : price ≤ 1048576) (h0 : 0 ≤ many) (h1 : many ≤ 12) :
    0 ≤ min many t.u ∧ min many t.u ≤ many ∧ (0 ≤ min many t.u * t.f ∧ min many t.u * t.f ≤ 1200) ∧ (0 ≤ (many - min many t.u) * t.b ∧ (many - min many t.u) * t.b ≤ 1200) ∧ (0 ≤ min many t.u * t.f + (many - min many t.u) * t.b ∧ min many t.u * t.f + (many - min many t.u) * t.b ≤ 1200) ∧
    0 ≤ (min many t.u * t.f + (many - min many t.u) * t.b) * price ∧ (min many t.u * t.f + (many - min many t.u) * t.b) * price ≤ 1258291200 := by
  have h2 := ht.f0; have h3 := ht.f1; have h4 := ht.b0; have h5 := ht.b1; have h6 := ht.u0
  have hb := perN_bd ht h0
  unfold perN at hb
  obtain ⟨m, hm⟩ : ∃ m, m = min many t.u := ⟨_, rfl⟩
  rw [← hm] at hb ⊢
  have a0 : 0 ≤ m := by omega
  have a1 : 0 ≤ many - m := by omega
  have b1 : 0 ≤ m * t.f := Int.mul_nonneg a0 h2
  have b2 : 0 ≤ (many - m) * t.b := Int.mul_nonneg a1 h4
  have b3 : m * t.f ≤ m * 100 := Int.mul_le_mul_of_nonneg_left h3 a0
  have b4 : (many - m) * t.b ≤ (many - m) * 100 := Int.mul_le_mul_of_nonneg_left h5 a1
  obtain ⟨s, hs⟩ : ∃ s, s = m * t.f + (many - m) * t.b := ⟨_, rfl⟩
  rw [← hs] at hb ⊢
  have c1 : 0 ≤ s * price := Int.mul_nonneg hb.1 hp0
  have c2 : s * price ≤ 1200 * price := Int.mul_le_mul_of_nonneg_right (by omega) hp0
  refine ⟨a0, by omega, ⟨b1, by omega⟩, ⟨b2, by omega⟩, ⟨hb.1, by omega⟩, c1, by omega⟩
end Go.RoyM
namespace Go.Proofs.Ytccpgpnekoncoaa
set_option maxRecDepth 100000
open Go Go.Sy Go.RoyM
theorem p84 (s n : Nat) (hs : s ≤ 4611686018427387904) (hn : n ≤ 64) (u : World) : Calls Try.prog 45 #[.int .u64 (s : Nat), .int .i64 (n : Nat)] u (Ret fun v w' => v = .bool (s.testBit n) ∧ Ext [] u w') := by
  refine calls_of Try.func45 rfl rfl (fun a hf => ?_)
  have hh := Hp.init u []
  refine sy_sq ?_
  refine o_v hf hh (yv_assign rfl) ?_; clear hf a; intro a hf
  refine o_end ?_
  refine sy_sq ?_
  refine o_v hf hh (yv_move rfl) ?_; clear hf a; intro a hf
  refine o_v hf hh (yv_move rfl) ?_; clear hf a; intro a hf
  refine o_v hf hh (yv_shrU rfl rfl hn) ?_; clear hf a; intro a hf
  refine o_v hf hh (yv_and1U rfl rfl (by omega)) ?_; clear hf a; intro a hf
  refine o_v hf hh (yv_bitU rfl rfl) ?_; clear hf a; intro a hf
  refine o_v hf hh (yv_assign rfl) ?_; clear hf a; intro a hf
  refine o_end ?_
  refine sy_ret ?_
  refine ret_r hf rfl rfl ?_
  exact ⟨rfl, hh.ext⟩
theorem p59 (d : RoyD) (x : RepD) (hx : RepOk d x) (u : World) : Calls Try.prog 137 #[rpV x] u (Ret fun v w' => v = .int .u64 (crd x : Nat) ∧ Ext [] u w') := by
  refine calls_of Try.func137 rfl rfl (fun a hf => ?_)
  have hh := Hp.init u []
  obtain ⟨q1, q2, e1, e2, hq1, hq2, e3⟩ := crd_pow hx
  have h1 := hx.f0; have h2 := hx.f1; have h3 := hx.l1
  refine sy_sq ?_
  refine o_box hf hh ?_; clear hf hh a; intro B1 a w hf hh
  refine o_v hf hh (yv_assign rfl) ?_; clear hf a; intro a hf
  refine o_end ?_
  refine sy_seq ?_
  refine sy_quiet (C := Hp _ _ _) Try.follows (by kernel_rfl) (hh.drawn _) ?_
  refine oq_v hf (yv_fieldAddr Try.fo_49_3 rfl) ?_; clear hf a; intro a hf
  refine oq_v hf (y_ld Try.sc_3 rfl) ?_; clear hf a; intro a hf
  refine oq_v hf (y_add rfl rfl) ?_; clear hf a; intro a hf
  refine oq_v hf (yv_cast (yv_shl1 (.inr rfl) rfl rfl (by omega) (by omega)) (intv (b := ((q2 : Nat) : Int)) (by rw [e2]))) ?_; clear hf a; intro a hf
  refine oq_v hf (yv_fieldAddr Try.fo_49_2 rfl) ?_; clear hf a; intro a hf
  refine oq_v hf (y_ld Try.sc_3 rfl) ?_; clear hf a; intro a hf
  refine oq_v hf (yv_cast (yv_shl1 (.inr rfl) rfl rfl (by omega) (by omega)) (intv (b := ((q1 : Nat) : Int)) (by rw [e1]))) ?_; clear hf a; intro a hf
  refine oq_v hf (yv_cast (yv_subx (.inr rfl) rfl rfl (by omega) (by simp only [IntKind.top]; omega)) (intv (b := ((crd x : Nat) : Int)) (by rw [e3]; omega))) ?_; clear hf a; intro a hf
  refine oq_v hf (yv_assign rfl) ?_; clear hf a; intro a hf
  refine q_end fun w hh => ?_
  refine then_n ?_
  refine sy_ret ?_
  refine ret_r hf rfl rfl ?_
  exact ⟨rfl, hh.ext⟩
theorem p96 (d : RoyD) (p : Pl) (Bc : Nat) (u : World) (hB : u.heap[Bc]? = some (.cells (royC d p) 123 (0, 0))) (hT : TAt 4 rpC u p.sr d.reps) (hr4 : d.reps.length ≤ 1000) (hO : RoyOk d) (k : Int) : Calls Try.prog 93 #[ptr Bc 0, .int .i64 k] u (Ret fun v w' => v = .agg (clmC d.reps k) ∧ Ext [] u w') := by
  refine calls_of Try.func93 rfl rfl (fun a hf => ?_)
  have hh := Hp.init u []
  obtain ⟨st, sp, ss, sr, sd, ct, cp, cs, cr, cd⟩ := p
  refine sy_sq ?_
  refine o_alloc hf hh Try.ze_178 ?_; clear hf hh a; intro B4 a w hf hh
  refine o_end ?_
  refine sy_seq ?_
  refine sy_sq ?_
  refine o_v hf hh (yv_move rfl) ?_; clear hf a; intro a hf
  refine o_v hf hh (yv_nilCheck rfl) ?_; clear hf a; intro a hf
  refine o_v hf hh (yv_fieldAddr Try.fo_123_0 rfl) ?_; clear hf a; intro a hf
  refine o_v hf hh (yv_fieldAddr Try.fo_52_3 rfl) ?_; clear hf a; intro a hf
  refine o_v hf hh (y_ld Try.sc_50 rfl) ?_; clear hf a; intro a hf
  refine o_v hf hh (yv_len Try.se_50 rfl) ?_; clear hf a; intro a hf
  refine o_v hf hh (yv_move rfl) ?_; clear hf a; intro a hf
  refine o_end ?_
  refine sy_block ?_
  refine sy_loopH (σ := Nat) [6, 13, 14, 15, 16, 17, 18, 19, 20, 21, 22, 23, 24, 25, 26, 27, 28, 29] (fun i => [(13, .int .i64 i)]) (fun i => fun w' => i ≤ d.reps.length ∧ Hp u [] [(B4, .cells (clmC (d.reps.take i) k) 178)] w') (fun i => d.reps.length - i) (0) hf ?_ ?_ ?_
  · repeat' (first | exact True.intro | refine And.intro rfl ?_)
  · exact ⟨Nat.zero_le _, hh⟩
  ·rintro i a w ⟨hi, hh⟩ hf
   refine sy_sq ?_
   refine o_v hf hh (yv_bin rfl rfl rfl) ?_; clear hf a; intro a hf
   refine o_end ?_
   refine sy_seq ?_
   refine sy_cond hf rfl (fun hg2 => ?_) (fun hg2 => ?_)
   ·have hG2 := hg2; try simp only [gS] at hG2
    refine sy_skip ?_
    refine then_n ?_
    refine sy_seq ?_
    refine sy_block ?_
    refine sy_seq ?_
    obtain ⟨m, hm⟩ := ex_of (l := d.reps) (i := i) (by omega)
    obtain ⟨blk, off, cc, T, fr, e, hb, hc⟩ := hT i m hm; dsimp only at e; subst e
    have hmo := hO.r m (List.mem_of_getElem? hm)
    have hcl : ∀ x ∈ d.reps.take i, crd x < 4096 := fun x hx => crd_lt (hO.r x (List.mem_of_mem_take hx))
    obtain ⟨g, hg⟩ : ∃ g : Nat, m.ag = (g : Int) := ⟨m.ag.toNat, by have := hmo.a0; omega⟩
    have h4 : g < 4 := by have := hmo.a1; have := hO.nt; omega
    have hcg := clmC_at (d.reps.take i) k h4
    obtain ⟨ag, kd, fi, la⟩ := m; dsimp only at hg; subst hg
    have ea : (RepD.mk (g : Int) kd fi la).ag = (g : Int) := rfl
    refine sy_ops ?_
    refine o_v hf hh (y_ix Try.se_50 rfl rfl) ?_; clear hf a; intro a hf
    refine o_v hf hh (y_lds Try.ag_49 rfl) ?_; clear hf a; intro a hf
    refine o_alloc hf hh Try.ze_49 ?_; clear hf hh a; intro B6 a w hf hh
    refine o_store hf hh Try.sz_49 fun w hh => ?_
    refine o_end ?_
    refine sy_sq ?_
    refine o_v hf hh (yv_fieldAddr Try.fo_49_1 rfl) ?_; clear hf a; intro a hf
    refine o_v hf hh (y_ld Try.sc_3 rfl) ?_; clear hf a; intro a hf
    refine o_v hf hh (yv_move rfl) ?_; clear hf a; intro a hf
    refine o_v hf hh (yv_bin rfl rfl rfl) ?_; clear hf a; intro a hf
    refine o_end ?_
    refine sy_cond hf rfl (fun hg4 => ?_) (fun hg4 => ?_)
    ·have hG4 := hg4; try simp only [gS] at hG4
     refine sy_tree1 (.p 0 (.q 0 1 (.p 2 (.q 0 3 (.q 0 4 (.e1 5 (.p 6 (.p 7 (.e1 8 (.fin)))))))))) [8] Try.follows (by kernel_rfl) hh (fun w hh => ?_)
     refine mc_p rfl   hf (yv_fieldAddr Try.fo_49_0 rfl) (.inl rfl) rfl rfl ?_; clear hf a; intro a hf
     refine mc_q rfl rfl hh hf (y_ld Try.sc_3 rfl) (.inl rfl) rfl rfl ?_; clear hf a; intro a hf
     refine mc_p rfl   hf (y_ia Try.ae_178 rfl rfl) (.inl rfl) rfl rfl ?_; clear hf a; intro a hf
     refine mc_q rfl rfl hh hf (y_ld Try.sc_111 rfl) (.inl rfl) rfl rfl ?_; clear hf a; intro a hf
     refine mc_q rfl rfl hh hf (y_lds Try.ag_49 rfl) (.inl rfl) rfl rfl ?_; clear hf a; intro a hf
     refine mc_e rfl fun Q1 => ?_
     refine o_call hf Try.en_137 rfl rfl rfl (p59 d _ hmo _) ?_; clear hf a; intro v a w hR hf
     obtain ⟨rfl, hx⟩ := hR; replace hh := hh.more hx; clear hx
     refine ops_end ?_
     refine then_n ⟨⟨fun _ _ => hh, trivial⟩, ?_⟩
     refine mc_p rfl   hf (yv_orU rfl rfl (by have := clmL_lt hcl k g; omega) (by have := crd_lt hmo; omega)) (.inl rfl) rfl rfl ?_; clear hf a; intro a hf
     refine mc_p rfl   hf (y_ia Try.ae_178 rfl rfl) (.inl rfl) rfl rfl ?_; clear hf a; intro a hf
     refine mc_e rfl fun Q1 => ?_
     refine o_store (i := 1) hf hh Try.sz_111 (hx := rfl) (hi := atI (i := 1) rfl) (hy := rfl) (hl := Nat.ble_eq_true_of_le (by rw [Int.toNat_natCast]; show _ ≤ 4; omega)) fun w hh => ?_
     refine ops_end ?_
     refine then_n ⟨⟨fun h => Bool.noConfusion (show true = false from h), trivial⟩, ?_⟩
     refine mc_end ?_
     refine blk_n ?_
     refine then_n ?_
     refine sy_ops ?_
     refine o_v hf hh (y_add rfl rfl) ?_; clear hf a; intro a hf
     refine o_v hf hh (yv_move rfl) ?_; clear hf a; intro a hf
     refine ops_end ?_
     refine then_n ?_
     first
       | exact ⟨i + 1, ⟨⟨by omega, Hp.headEq (hh.less (.cons _ (.refl _))) (clmC_other hm (by assumption))⟩, (hf.head (by repeat' (first | exact True.intro | refine And.intro rfl ?_)) (Keep.cons rfl (Keep.cons rfl (Keep.cons rfl (Keep.cons rfl (Keep.cons rfl (Keep.cons rfl (Keep.cons rfl (Keep.cons rfl (Keep.cons rfl (Keep.cons rfl (Keep.cons rfl (Keep.cons rfl (Keep.cons rfl (Keep.cons rfl (Keep.cons rfl (Keep.cons rfl (Keep.cons rfl (Keep.cons rfl (Keep.app rfl (Keep.rm rfl Keep.base)))))))))))))))))))))⟩, by omega⟩
       | exact ⟨i + 1, ⟨⟨by omega, Hp.headEq (hh.less (.cons _ (.refl _))) (clmC_put hm (by assumption) rfl h4)⟩, (hf.head (by repeat' (first | exact True.intro | refine And.intro rfl ?_)) (Keep.cons rfl (Keep.cons rfl (Keep.cons rfl (Keep.cons rfl (Keep.cons rfl (Keep.cons rfl (Keep.cons rfl (Keep.cons rfl (Keep.cons rfl (Keep.cons rfl (Keep.cons rfl (Keep.cons rfl (Keep.cons rfl (Keep.cons rfl (Keep.cons rfl (Keep.cons rfl (Keep.cons rfl (Keep.cons rfl (Keep.app rfl (Keep.rm rfl Keep.base)))))))))))))))))))))⟩, by omega⟩
    ·have hG4 := hg4; try simp only [gS] at hG4
     refine sy_skip ?_
     refine blk_n ?_
     refine then_n ?_
     refine sy_ops ?_
     refine o_v hf hh (y_add rfl rfl) ?_; clear hf a; intro a hf
     refine o_v hf hh (yv_move rfl) ?_; clear hf a; intro a hf
     refine ops_end ?_
     refine then_n ?_
     first
       | exact ⟨i + 1, ⟨⟨by omega, Hp.headEq (hh.less (.cons _ (.refl _))) (clmC_other hm (by assumption))⟩, (hf.head (by repeat' (first | exact True.intro | refine And.intro rfl ?_)) (Keep.cons rfl (Keep.cons rfl (Keep.cons rfl (Keep.cons rfl (Keep.cons rfl (Keep.cons rfl (Keep.cons rfl (Keep.cons rfl (Keep.cons rfl (Keep.cons rfl (Keep.app rfl (Keep.rm rfl Keep.base)))))))))))))⟩, by omega⟩
       | exact ⟨i + 1, ⟨⟨by omega, Hp.headEq (hh.less (.cons _ (.refl _))) (clmC_put hm (by assumption) rfl h4)⟩, (hf.head (by repeat' (first | exact True.intro | refine And.intro rfl ?_)) (Keep.cons rfl (Keep.cons rfl (Keep.cons rfl (Keep.cons rfl (Keep.cons rfl (Keep.cons rfl (Keep.cons rfl (Keep.cons rfl (Keep.cons rfl (Keep.cons rfl (Keep.app rfl (Keep.rm rfl Keep.base)))))))))))))⟩, by omega⟩
   ·have hG2 := hg2; try simp only [gS] at hG2
    refine sy_exit ?_
    refine then_e ?_
    refine then_e ?_
    refine blk_e ?_
    refine then_n ?_
    refine sy_sq ?_
    refine o_v hf hh (y_lds Try.ag_178 rfl) ?_; clear hf a; intro a hf
    refine o_store hf hh Try.sz_178 fun w hh => ?_
    refine o_end ?_
    refine sy_ret ?_
    refine ret_c (vs := [.agg (clmC d.reps k)]) hf ?_ ?_
    obtain rfl : i = d.reps.length := by omega
    rw [List.take_length] at hh
    · exact ⟨⟨B4, 0, _, _, _, rfl, hh.at (i := 0) rfl, .inr ⟨4, _, Try.ag_178, rfl, rfl⟩⟩, True.intro⟩
    · exact ⟨rfl, hh.ext⟩
end Go.Proofs.Ytccpgpnekoncoaa
namespace Go.Proofs.Ytccpgpnekoncoaa
set_option maxRecDepth 100000
open Go Go.Sy Go.RoyM
theorem p53 (t : TermD) (ht : TermOk t) (price many : Int) (hp0 : 0 ≤ price) (hp1 : price ≤ 1048576) (hm0 : 0 ≤ many) (hm1 : many ≤ 12) (u : World) : Calls Try.prog 53 #[tmV t, .int .i64 price, .int .i64 many] u (Ret fun v w' => v = .int .i64 (comV t price many) ∧ Ext [] u w') := by
  refine calls_of Try.func53 rfl rfl (fun a hf => ?_)
  have hh := Hp.init u []
  obtain ⟨a1, a2, a3, a4, a5, a6, a7⟩ := com_facts ht hp0 hp1 hm0 hm1
  refine sy_sq ?_
  refine o_box hf hh ?_; clear hf hh a; intro B3 a w hf hh
  refine o_v hf hh (yv_assign rfl) ?_; clear hf a; intro a hf
  refine o_end ?_
  refine sy_sq ?_
  refine o_v hf hh (yv_move rfl) ?_; clear hf a; intro a hf
  refine o_v hf hh (yv_fieldAddr Try.fo_23_1 rfl) ?_; clear hf a; intro a hf
  refine o_v hf hh (y_ld Try.sc_3 rfl) ?_; clear hf a; intro a hf
  refine o_v hf hh (yv_min rfl rfl) ?_; clear hf a; intro a hf
  refine o_v hf hh (yv_assign rfl) ?_; clear hf a; intro a hf
  refine o_end ?_
  refine sy_sq ?_
  refine o_v hf hh (yv_move rfl) ?_; clear hf a; intro a hf
  refine o_v hf hh (yv_fieldAddr Try.fo_23_0 rfl) ?_; clear hf a; intro a hf
  refine o_v hf hh (y_ld Try.sc_3 rfl) ?_; clear hf a; intro a hf
  refine o_v hf hh (y_mul rfl rfl) ?_; clear hf a; intro a hf
  refine o_v hf hh (yv_move rfl) ?_; clear hf a; intro a hf
  refine o_v hf hh (yv_move rfl) ?_; clear hf a; intro a hf
  refine o_v hf hh (y_sub rfl rfl) ?_; clear hf a; intro a hf
  refine o_v hf hh (yv_fieldAddr Try.fo_23_2 rfl) ?_; clear hf a; intro a hf
  refine o_v hf hh (y_ld Try.sc_3 rfl) ?_; clear hf a; intro a hf
  refine o_v hf hh (y_mul rfl rfl) ?_; clear hf a; intro a hf
  refine o_v hf hh (y_add rfl rfl) ?_; clear hf a; intro a hf
  refine o_v hf hh (yv_move rfl) ?_; clear hf a; intro a hf
  refine o_v hf hh (y_mul rfl rfl) ?_; clear hf a; intro a hf
  refine o_v hf hh (yv_quo rfl rfl (by omega) (by omega) (by omega)) ?_; clear hf a; intro a hf
  refine o_v hf hh (yv_assign rfl) ?_; clear hf a; intro a hf
  refine o_end ?_
  refine sy_ret ?_
  refine ret_r hf rfl rfl ?_
  exact ⟨rfl, hh.ext⟩
theorem p85 (n : Cts) (g : Nat) (h4 : g < 4) (hn : cget n g ≤ 1000000) (u : World) : Calls Try.prog 47 #[.agg (ctC n), .int .i64 (g : Nat)] u (Ret fun v w' => v = .agg (ctC (cinc n g)) ∧ Ext [] u w') := by
  refine calls_of Try.func47 rfl rfl (fun a hf => ?_)
  have hh := Hp.init u []
  have hcg := ctC_at n h4
  refine sy_sq ?_
  refine o_box hf hh ?_; clear hf hh a; intro B2 a w hf hh
  refine o_alloc hf hh Try.ze_115 ?_; clear hf hh a; intro B4 a w hf hh
  refine o_end ?_
  refine sy_sq ?_
  refine o_v hf hh (yv_move rfl) ?_; clear hf a; intro a hf
  refine o_v hf hh (y_ia Try.ae_115 rfl rfl) ?_; clear hf a; intro a hf
  refine o_v hf hh (y_ld Try.sc_3 rfl) ?_; clear hf a; intro a hf
  refine o_v hf hh (y_add rfl rfl) ?_; clear hf a; intro a hf
  refine o_v hf hh (y_ia Try.ae_115 rfl rfl) ?_; clear hf a; intro a hf
  refine o_store (i := 1) hf hh Try.sz_3 (hx := rfl) (hi := atI (i := 1) rfl) (hy := rfl) (hl := Nat.ble_eq_true_of_le (by rw [Int.toNat_natCast]; show _ ≤ 4; omega)) fun w hh => ?_
  obtain ⟨B4z, e4⟩ : ∃ z, z = B4 := ⟨_, rfl⟩
  replace hh := Hp.headEq (hh.perm (.swap _ _ _)) (ctC_put n h4)
  refine o_end ?_
  refine sy_sq ?_
  refine o_v hf hh (y_lds Try.ag_115 rfl) ?_; clear hf a; intro a hf
  refine o_store hf hh Try.sz_115 fun w hh => ?_
  refine o_end ?_
  refine sy_ret ?_
  refine ret_c (vs := [.agg (ctC (cinc n g))]) hf ?_ ?_
  · exact ⟨⟨B4, 0, _, _, _, rfl, hh.at (i := 1) rfl, .inr ⟨4, _, Try.ag_115, rfl, rfl⟩⟩, True.intro⟩
  · exact ⟨rfl, hh.ext⟩
theorem p78 (d : RoyD) (p : Pl) (Bc : Nat) (u : World) (hB : u.heap[Bc]? = some (.cells (royC d p) 123 (0, 0))) (hR : RoyAt u d p) (hO : RoyOk d) (k : Nat) (x : Int) (hk : d.prices[k]? = some x) (n : Cts) (hn : ctOk n 12) : Calls Try.prog 44 #[ptr Bc 0, .int .i64 (k : Nat), .agg (ctC n)] u (Ret fun v w' => v = .int .i64 (totV d x n) ∧ Ext [] u w') := by
  refine calls_of Try.func44 rfl rfl (fun a hf => ?_)
  have hh := Hp.init u []
  obtain ⟨st, sp, ss, sr, sd, ct, cp, cs, cr, cd⟩ := p
  have hr4 := hR.n1; have hr2 := hR.n2; have hkl := len_of hk
  have hx := hO.p x (List.mem_of_getElem? hk)
  have hnt := hO.nt
  refine sy_sq ?_
  refine o_box hf hh ?_; clear hf hh a; intro B5 a w hf hh
  refine o_v hf hh (yv_assign rfl) ?_; clear hf a; intro a hf
  refine o_end ?_
  refine sy_seq ?_
  refine sy_sq ?_
  refine o_v hf hh (yv_move rfl) ?_; clear hf a; intro a hf
  refine o_v hf hh (yv_nilCheck rfl) ?_; clear hf a; intro a hf
  refine o_v hf hh (yv_fieldAddr Try.fo_123_0 rfl) ?_; clear hf a; intro a hf
  refine o_v hf hh (yv_fieldAddr Try.fo_52_0 rfl) ?_; clear hf a; intro a hf
  refine o_v hf hh (y_ld Try.sc_46 rfl) ?_; clear hf a; intro a hf
  refine o_v hf hh (yv_len Try.se_46 rfl) ?_; clear hf a; intro a hf
  refine o_v hf hh (yv_move rfl) ?_; clear hf a; intro a hf
  refine o_end ?_
  refine sy_block ?_
  refine sy_loopF (σ := Nat) [6, 7, 8, 15, 16, 17, 18, 19, 20, 21, 22, 23, 24, 25, 26, 27, 28, 29, 30, 31, 32, 33, 34, 35] (fun i => [(6, .int .i64 (totF d x n i)), (15, .int .i64 i)]) (fun i => i ≤ d.terms.length) (fun i => d.terms.length - i) (0) hf hh ?_ ?_ ?_
  · repeat' (first | exact True.intro | refine And.intro rfl ?_)
  · exact Nat.zero_le _
  ·rintro i a w hi hf hh
   refine sy_sq ?_
   refine o_v hf hh (yv_bin rfl rfl rfl) ?_; clear hf a; intro a hf
   refine o_end ?_
   refine sy_seq ?_
   refine sy_cond hf rfl (fun hg2 => ?_) (fun hg2 => ?_)
   ·have hG2 := hg2; try simp only [gS] at hG2
    refine sy_skip ?_
    refine then_n ?_
    refine sy_seq ?_
    refine sy_block ?_
    refine sy_seq ?_
    obtain ⟨m, hm⟩ := ex_of (l := d.terms) (i := i) (by omega)
    obtain ⟨blk, off, cc, T, fr, e, hb, hc⟩ := hR.tm i m hm; dsimp only at e; subst e
    have hmo := hO.t m (List.mem_of_getElem? hm)
    obtain ⟨blk2, off2, cc2, T2, fr2, e2, hb2, hc2⟩ := hR.pr k x hk; dsimp only at e2; subst e2
    have hcn := ctC_at n (show i < 4 by omega)
    have hcm := hn i (by omega)
    have h0 := tot_bd hO hx.1 hx.2 hn i (by omega)
    have h1 := tot_bd hO hx.1 hx.2 hn (i + 1) (by omega)
    have h2 := com_bd hmo hx.1 hx.2 hcm
    have e9 : totF d x n (i + 1) = totF d x n i + comV m x (cget n i) := by rw [totF, getD_at hm]
    refine sy_ops ?_
    refine o_v hf hh (yv_move rfl) ?_; clear hf a; intro a hf
    refine o_v hf hh (y_ix Try.se_46 rfl rfl) ?_; clear hf a; intro a hf
    refine o_v hf hh (y_lds Try.ag_23 rfl) ?_; clear hf a; intro a hf
    refine o_alloc hf hh Try.ze_23 ?_; clear hf hh a; intro B8 a w hf hh
    refine o_v hf hh (yv_assign rfl) ?_; clear hf a; intro a hf
    refine o_store hf hh Try.sz_23 fun w hh => ?_
    refine o_end ?_
    refine sy_tree1 (.p 0 (.q 0 1 (.p 2 (.p 3 (.p 4 (.p 5 (.q 0 6 (.p 7 (.p 8 (.q 0 9 (.p 10 (.p 11 (.q 0 12 (.e1 13 (.p 14 (.p 15 (.fin))))))))))))))))) [] Try.follows (by kernel_rfl) hh (fun w hh => ?_)
    refine mc_p rfl   hf (yv_move rfl) (.inl rfl) rfl rfl ?_; clear hf a; intro a hf
    refine mc_q rfl rfl hh hf (y_lds Try.ag_23 rfl) (.inl rfl) rfl rfl ?_; clear hf a; intro a hf
    refine mc_p rfl   hf (yv_move rfl) (.inl rfl) rfl rfl ?_; clear hf a; intro a hf
    refine mc_p rfl   hf (yv_nilCheck rfl) (.inl rfl) rfl rfl ?_; clear hf a; intro a hf
    refine mc_p rfl   hf (yv_fieldAddr Try.fo_123_0 rfl) (.inl rfl) rfl rfl ?_; clear hf a; intro a hf
    refine mc_p rfl   hf (yv_fieldAddr Try.fo_52_1 rfl) (.inl rfl) rfl rfl ?_; clear hf a; intro a hf
    refine mc_q rfl rfl hh hf (y_ld Try.sc_25 rfl) (.inl rfl) rfl rfl ?_; clear hf a; intro a hf
    refine mc_p rfl   hf (yv_move rfl) (.inl rfl) rfl rfl ?_; clear hf a; intro a hf
    refine mc_p rfl   hf (y_ix Try.se_25 rfl rfl) (.inl rfl) rfl rfl ?_; clear hf a; intro a hf
    refine mc_q rfl rfl hh hf (y_ld Try.sc_3 rfl) (.inl rfl) rfl rfl ?_; clear hf a; intro a hf
    refine mc_p rfl   hf (yv_move rfl) (.inl rfl) rfl rfl ?_; clear hf a; intro a hf
    refine mc_p rfl   hf (y_ia Try.ae_115 rfl rfl) (.inl rfl) rfl rfl ?_; clear hf a; intro a hf
    refine mc_q rfl rfl hh hf (y_ld Try.sc_3 rfl) (.inl rfl) rfl rfl ?_; clear hf a; intro a hf
    refine mc_e rfl fun Q1 => ?_
    refine o_call hf Try.en_53 rfl rfl rfl (p53 m hmo x _ hx.1 hx.2 (by omega) (by omega) _) ?_; clear hf a; intro v a w hR hf
    obtain ⟨rfl, hx⟩ := hR; replace hh := hh.more hx; clear hx
    refine ops_end ?_
    refine then_n ⟨⟨fun _ _ => hh, trivial⟩, ?_⟩
    refine mc_p rfl   hf (y_add rfl rfl) (.inl rfl) rfl rfl ?_; clear hf a; intro a hf
    refine mc_p rfl   hf (yv_assign rfl) (.inl rfl) rfl rfl ?_; clear hf a; intro a hf
    refine mc_end ?_
    refine blk_n ?_
    refine then_n ?_
    refine sy_ops ?_
    refine o_v hf hh (y_add rfl rfl) ?_; clear hf a; intro a hf
    refine o_v hf hh (yv_move rfl) ?_; clear hf a; intro a hf
    refine ops_end ?_
    refine then_n ?_
    exact ⟨i + 1, ⟨by omega, hf.head ⟨congrArg some (intv e9.symm), rfl, True.intro⟩ (Keep.cons rfl (Keep.cons rfl (Keep.cons rfl (Keep.cons rfl (Keep.cons rfl (Keep.cons rfl (Keep.cons rfl (Keep.cons rfl (Keep.cons rfl (Keep.cons rfl (Keep.cons rfl (Keep.cons rfl (Keep.cons rfl (Keep.cons rfl (Keep.cons rfl (Keep.cons rfl (Keep.cons rfl (Keep.cons rfl (Keep.cons rfl (Keep.cons rfl (Keep.cons rfl (Keep.cons rfl (Keep.cons rfl (Keep.cons rfl (Keep.app rfl (Keep.rm rfl Keep.base)))))))))))))))))))))))))), hh.less (.cons _ (List.Sublist.refl _))⟩, by omega⟩
   ·have hG2 := hg2; try simp only [gS] at hG2
    refine sy_exit ?_
    refine then_e ?_
    refine then_e ?_
    refine blk_e ?_
    refine then_n ?_
    refine sy_sq ?_
    refine o_v hf hh (yv_move rfl) ?_; clear hf a; intro a hf
    refine o_v hf hh (yv_assign rfl) ?_; clear hf a; intro a hf
    refine o_end ?_
    refine sy_ret ?_
    refine ret_r hf rfl rfl ?_
    obtain rfl : i = d.terms.length := by omega
    exact ⟨rfl, hh.ext⟩
theorem p77e (Be : Nat) (lo hi x : Int) (u : World) (hb : u.heap[Be]? = some (.cells #[.int .i64 lo, .int .i64 hi, .bool false] 121 (0, 0))) : Calls Try.prog 46 #[ptr Be 0, .int .i64 x] u (Ret fun _ w' => Hp u [Be] [(Be, .cells #[.int .i64 (min x x), .int .i64 (max x x), .bool true] 121)] w') := by
  refine calls_of Try.func46 rfl rfl (fun a hf => ?_)
  have hh := Hp.init1 hb
  refine sy_seq ?_
  refine sy_sq ?_
  refine o_v hf hh (yv_move rfl) ?_; clear hf a; intro a hf
  refine o_v hf hh (yv_nilCheck rfl) ?_; clear hf a; intro a hf
  refine o_v hf hh (yv_fieldAddr Try.fo_121_2 rfl) ?_; clear hf a; intro a hf
  refine o_v hf hh (y_ld Try.sc_4 rfl) ?_; clear hf a; intro a hf
  refine o_v hf hh (yv_not rfl) ?_; clear hf a; intro a hf
  refine o_end ?_
  refine c_t hf ?_
  refine sy_ops ?_
  refine o_v hf hh (yv_move rfl) ?_; clear hf a; intro a hf
  refine o_v hf hh (yv_move rfl) ?_; clear hf a; intro a hf
  refine o_v hf hh (yv_move rfl) ?_; clear hf a; intro a hf
  refine o_v hf hh (yv_move rfl) ?_; clear hf a; intro a hf
  refine o_v hf hh (yv_move rfl) ?_; clear hf a; intro a hf
  refine o_v hf hh (yv_nilCheck rfl) ?_; clear hf a; intro a hf
  refine o_v hf hh (yv_fieldAddr Try.fo_121_0 rfl) ?_; clear hf a; intro a hf
  refine o_store hf hh Try.sz_3 fun w hh => ?_
  refine o_v hf hh (yv_nilCheck rfl) ?_; clear hf a; intro a hf
  refine o_v hf hh (yv_fieldAddr Try.fo_121_1 rfl) ?_; clear hf a; intro a hf
  refine o_store hf hh Try.sz_3 fun w hh => ?_
  refine o_v hf hh (yv_nilCheck rfl) ?_; clear hf a; intro a hf
  refine o_v hf hh (yv_fieldAddr Try.fo_121_2 rfl) ?_; clear hf a; intro a hf
  refine o_store hf hh Try.sz_4 fun w hh => ?_
  refine o_end ?_
  refine sy_tree1 (.p 0 (.p 1 (.p 2 (.p 3 (.p 4 (.q 0 5 (.p 6 (.p 7 (.p 8 (.p 9 (.p 10 (.q 0 11 (.p 12 (.p 13 (.p 14 (.p 15 (.e1 16 (.p 17 (.p 18 (.e1 19 (.fin))))))))))))))))))))) [16, 19] Try.follows (by kernel_rfl) hh (fun w hh => ?_)
  refine mc_p rfl   hf (yv_move rfl) (.inl rfl) rfl rfl ?_; clear hf a; intro a hf
  refine mc_p rfl   hf (yv_move rfl) (.inl rfl) rfl rfl ?_; clear hf a; intro a hf
  refine mc_p rfl   hf (yv_move rfl) (.inl rfl) rfl rfl ?_; clear hf a; intro a hf
  refine mc_p rfl   hf (yv_nilCheck rfl) (.inl rfl) rfl rfl ?_; clear hf a; intro a hf
  refine mc_p rfl   hf (yv_fieldAddr Try.fo_121_0 rfl) (.inl rfl) rfl rfl ?_; clear hf a; intro a hf
  refine mc_q rfl rfl hh hf (y_ld Try.sc_3 rfl) (.inl rfl) rfl rfl ?_; clear hf a; intro a hf
  refine mc_p rfl   hf (yv_move rfl) (.inl rfl) rfl rfl ?_; clear hf a; intro a hf
  refine mc_p rfl   hf (yv_min rfl rfl) (.inl rfl) rfl rfl ?_; clear hf a; intro a hf
  refine mc_p rfl   hf (yv_move rfl) (.inl rfl) rfl rfl ?_; clear hf a; intro a hf
  refine mc_p rfl   hf (yv_nilCheck rfl) (.inl rfl) rfl rfl ?_; clear hf a; intro a hf
  refine mc_p rfl   hf (yv_fieldAddr Try.fo_121_1 rfl) (.inl rfl) rfl rfl ?_; clear hf a; intro a hf
  refine mc_q rfl rfl hh hf (y_ld Try.sc_3 rfl) (.inl rfl) rfl rfl ?_; clear hf a; intro a hf
  refine mc_p rfl   hf (yv_move rfl) (.inl rfl) rfl rfl ?_; clear hf a; intro a hf
  refine mc_p rfl   hf (yv_max rfl rfl) (.inl rfl) rfl rfl ?_; clear hf a; intro a hf
  refine mc_p rfl   hf (yv_nilCheck rfl) (.inl rfl) rfl rfl ?_; clear hf a; intro a hf
  refine mc_p rfl   hf (yv_fieldAddr Try.fo_121_0 rfl) (.inl rfl) rfl rfl ?_; clear hf a; intro a hf
  refine mc_e rfl fun Q1 => ?_
  refine o_store hf hh Try.sz_3 fun w hh => ?_
  refine ops_end ?_
  refine then_n ⟨⟨fun h => Bool.noConfusion (show true = false from h), trivial⟩, ?_⟩
  refine mc_p rfl   hf (yv_nilCheck rfl) (.inl rfl) rfl rfl ?_; clear hf a; intro a hf
  refine mc_p rfl   hf (yv_fieldAddr Try.fo_121_1 rfl) (.inl rfl) rfl rfl ?_; clear hf a; intro a hf
  refine mc_e rfl fun Q1 => ?_
  refine o_store hf hh Try.sz_3 fun w hh => ?_
  refine ops_end ?_
  refine then_n ⟨⟨fun h => Bool.noConfusion (show true = false from h), trivial⟩, ?_⟩
  refine mc_end ?_
  refine ret_n hf rfl rfl ?_
  exact hh
theorem p77s (Be : Nat) (lo hi x : Int) (u : World) (hb : u.heap[Be]? = some (.cells #[.int .i64 lo, .int .i64 hi, .bool true] 121 (0, 0))) : Calls Try.prog 46 #[ptr Be 0, .int .i64 x] u (Ret fun _ w' => Hp u [Be] [(Be, .cells #[.int .i64 (min lo x), .int .i64 (max hi x), .bool true] 121)] w') := by
  refine calls_of Try.func46 rfl rfl (fun a hf => ?_)
  have hh := Hp.init1 hb
  refine sy_seq ?_
  refine sy_sq ?_
  refine o_v hf hh (yv_move rfl) ?_; clear hf a; intro a hf
  refine o_v hf hh (yv_nilCheck rfl) ?_; clear hf a; intro a hf
  refine o_v hf hh (yv_fieldAddr Try.fo_121_2 rfl) ?_; clear hf a; intro a hf
  refine o_v hf hh (y_ld Try.sc_4 rfl) ?_; clear hf a; intro a hf
  refine o_v hf hh (yv_not rfl) ?_; clear hf a; intro a hf
  refine o_end ?_
  refine c_f hf ?_
  refine sy_skip ?_
  refine then_n ?_
  refine sy_tree1 (.p 0 (.p 1 (.p 2 (.p 3 (.p 4 (.q 0 5 (.p 6 (.p 7 (.p 8 (.p 9 (.p 10 (.q 0 11 (.p 12 (.p 13 (.p 14 (.p 15 (.e1 16 (.p 17 (.p 18 (.e1 19 (.fin))))))))))))))))))))) [16, 19] Try.follows (by kernel_rfl) hh (fun w hh => ?_)
  refine mc_p rfl   hf (yv_move rfl) (.inl rfl) rfl rfl ?_; clear hf a; intro a hf
  refine mc_p rfl   hf (yv_move rfl) (.inl rfl) rfl rfl ?_; clear hf a; intro a hf
  refine mc_p rfl   hf (yv_move rfl) (.inl rfl) rfl rfl ?_; clear hf a; intro a hf
  refine mc_p rfl   hf (yv_nilCheck rfl) (.inl rfl) rfl rfl ?_; clear hf a; intro a hf
  refine mc_p rfl   hf (yv_fieldAddr Try.fo_121_0 rfl) (.inl rfl) rfl rfl ?_; clear hf a; intro a hf
  refine mc_q rfl rfl hh hf (y_ld Try.sc_3 rfl) (.inl rfl) rfl rfl ?_; clear hf a; intro a hf
  refine mc_p rfl   hf (yv_move rfl) (.inl rfl) rfl rfl ?_; clear hf a; intro a hf
  refine mc_p rfl   hf (yv_min rfl rfl) (.inl rfl) rfl rfl ?_; clear hf a; intro a hf
  refine mc_p rfl   hf (yv_move rfl) (.inl rfl) rfl rfl ?_; clear hf a; intro a hf
  refine mc_p rfl   hf (yv_nilCheck rfl) (.inl rfl) rfl rfl ?_; clear hf a; intro a hf
  refine mc_p rfl   hf (yv_fieldAddr Try.fo_121_1 rfl) (.inl rfl) rfl rfl ?_; clear hf a; intro a hf
  refine mc_q rfl rfl hh hf (y_ld Try.sc_3 rfl) (.inl rfl) rfl rfl ?_; clear hf a; intro a hf
  refine mc_p rfl   hf (yv_move rfl) (.inl rfl) rfl rfl ?_; clear hf a; intro a hf
  refine mc_p rfl   hf (yv_max rfl rfl) (.inl rfl) rfl rfl ?_; clear hf a; intro a hf
  refine mc_p rfl   hf (yv_nilCheck rfl) (.inl rfl) rfl rfl ?_; clear hf a; intro a hf
  refine mc_p rfl   hf (yv_fieldAddr Try.fo_121_0 rfl) (.inl rfl) rfl rfl ?_; clear hf a; intro a hf
  refine mc_e rfl fun Q1 => ?_
  refine o_store hf hh Try.sz_3 fun w hh => ?_
  refine ops_end ?_
  refine then_n ⟨⟨fun h => Bool.noConfusion (show true = false from h), trivial⟩, ?_⟩
  refine mc_p rfl   hf (yv_nilCheck rfl) (.inl rfl) rfl rfl ?_; clear hf a; intro a hf
  refine mc_p rfl   hf (yv_fieldAddr Try.fo_121_1 rfl) (.inl rfl) rfl rfl ?_; clear hf a; intro a hf
  refine mc_e rfl fun Q1 => ?_
  refine o_store hf hh Try.sz_3 fun w hh => ?_
  refine ops_end ?_
  refine then_n ⟨⟨fun h => Bool.noConfusion (show true = false from h), trivial⟩, ?_⟩
  refine mc_end ?_
  refine ret_n hf rfl rfl ?_
  exact hh
theorem p77 (Be : Nat) (l : List Int) (x : Int) (u : World) (hb : u.heap[Be]? = some (.cells (endC l) 121 (0, 0))) : Calls Try.prog 46 #[ptr Be 0, .int .i64 x] u (Ret fun _ w' => Hp u [Be] [(Be, .cells (endC (l ++ [x])) 121)] w') := by
  by_cases hl : l = []
  · subst hl
    refine Calls.ret_mono (p77e Be 0 0 x u hb) fun v w' h => ?_
    have e : endC ([] ++ [x]) = #[.int .i64 (min x x), .int .i64 (max x x), .bool true] := by
      unfold endC loL hiL
      rw [show min x x = x by omega, show max x x = x by omega]; rfl
    rw [e]; exact h
  · have e0 : endC l = #[.int .i64 (loL l), .int .i64 (hiL l), .bool true] := by unfold endC; rw [decide_eq_true hl]
    rw [e0] at hb
    refine Calls.ret_mono (p77s Be _ _ x u hb) fun v w' h => ?_
    have e : endC (l ++ [x]) = #[.int .i64 (min (loL l) x), .int .i64 (max (hiL l) x), .bool true] := by
      unfold endC
      rw [lo_snoc x hl, hi_snoc x hl, decide_eq_true (by simp)]
    rw [e]; exact h
end Go.Proofs.Ytccpgpnekoncoaa
namespace Go.RoyM
open Go Go.Sy
/-- The first of those with the greatest value. -/
def bestN (f : Nat → Int) : Nat → Nat
  | 0 => 0
  | i + 1 => if f (bestN f i) < f i then i else bestN f i
theorem bestN_spec (f : Nat → Int) : ∀ n, 0 < n → bestN f n < n ∧ ∀ y, y < n → y ≠ bestN f n → befP f (bestN f n) y
  | 0, h => absurd h (by omega)
  | 1, _ => by
    have e : bestN f 1 = 0 := by show (if f 0 < f 0 then 0 else 0) = 0; split <;> rfl
    rw [e]
    exact ⟨by omega, fun y hy hn => absurd (show y = 0 by omega) hn⟩
  | n + 2, _ => by
    obtain ⟨h1, h2⟩ := bestN_spec f (n + 1) (by omega)
    rw [bestN]
    by_cases h : f (bestN f (n + 1)) < f (n + 1)
    · rw [if_pos h]
      refine ⟨by omega, fun y hy hn => ?_⟩
      by_cases h3 : y = bestN f (n + 1)
      · rw [h3]; exact .inl h
      · have := h2 y (by omega) h3
        unfold befP at this ⊢
        omega
    · rw [if_neg h]
      refine ⟨by omega, fun y hy hn => ?_⟩
      by_cases h3 : y = n + 1
      · subst h3; unfold befP; omega
      · exact h2 y (by omega) hn
theorem bestN_uniq {f : Nat → Int} {n b : Nat} (hb : b < n) (h : ∀ y, y < n → y ≠ b → befP f b y) : bestN f n = b := by
  obtain ⟨h1, h2⟩ := bestN_spec f n (by omega)
  by_cases e : bestN f n = b
  · exact e
  · have a1 := h _ h1 e
    have a2 := h2 _ hb fun e' => e e'.symm
    unfold befP at a1 a2
    omega
def ordL (n : Int) (l : List Int) : List Nat := srtL (remF n l) l.length
/-- What is left of each part behind some rounds, and what it has. -/
def restF (n : Int) (l : List Int) (j i : Nat) : Int := if i ∈ (ordL n l).take j then -1 else remF n l i
def outF (n : Int) (l : List Int) (j i : Nat) : Int := flo n (l.getD i 0) + if i ∈ (ordL n l).take j then 1 else 0
theorem rem_nn (n : Int) (l : List Int) (i : Nat) : 0 ≤ remF n l i ∧ remF n l i < 1000 :=
  ⟨Int.emod_nonneg _ (by omega), Int.emod_lt_of_pos _ (by omega)⟩
theorem ordL_len (n : Int) (l : List Int) : (ordL n l).length = l.length := srtL_len _ _
theorem best_ord {n : Int} {l : List Int} {j : Nat} (hj : j < l.length) : bestN (restF n l j) l.length = (ordL n l).getD j 0 := by
  have hlen := ordL_len n l
  have hs := srtL_sorted (remF n l) l.length
  have hnd := srtL_nodup (remF n l) l.length
  have hlt : ∀ x ∈ ordL n l, x < l.length := fun x hx => srtL_lt _ hx
  have hmem : ∀ x, x < l.length → x ∈ ordL n l := fun x hx => (srtL_perm _ _).mem_iff.2 (List.mem_range.2 hx)
  have e0 : srtL (remF n l) l.length = ordL n l := rfl
  rw [e0] at hs hnd
  have hg : (ordL n l).getD j 0 = (ordL n l)[j]'(by omega) := by simp [List.getD, List.getElem?_eq_getElem (show j < (ordL n l).length by omega)]
  rw [hg]
  obtain ⟨b, hb⟩ : ∃ b, b = (ordL n l)[j]'(by omega) := ⟨_, rfl⟩
  have hdrop : (ordL n l).drop j = b :: (ordL n l).drop (j + 1) := by rw [List.drop_eq_getElem_cons (by omega), hb]
  rw [← hb]
  have hsp := List.take_append_drop j (ordL n l)
  rw [hdrop] at hsp
  have hs2 := hs
  have hnd2 := hnd
  rw [← hsp, List.pairwise_append, List.pairwise_cons] at hs2
  rw [← hsp, List.nodup_append, List.nodup_cons] at hnd2
  have hbn : b ∉ (ordL n l).take j := fun h => hnd2.2.2 b h b (.head _) rfl
  refine bestN_uniq (hlt _ (by rw [hb]; exact List.getElem_mem _)) fun y hy hne => ?_
  have eb : restF n l j b = remF n l b := by unfold restF; rw [if_neg hbn]
  have hym := hmem y hy
  rw [← hsp, List.mem_append, List.mem_cons] at hym
  rcases hym with h | h | h
  · left
    have ey : restF n l j y = -1 := by unfold restF; rw [if_pos h]
    have := rem_nn n l b
    omega
  · exact absurd h hne
  · have hny : y ∉ (ordL n l).take j := fun h2 => hnd2.2.2 y h2 y (.tail _ h) rfl
    have ey : restF n l j y = remF n l y := by unfold restF; rw [if_neg hny]
    have := hs2.2.1.1 y h
    unfold befP at this ⊢
    omega
theorem take_succ {n : Int} {l : List Int} {j : Nat} (hj : j < l.length) (i : Nat) : i ∈ (ordL n l).take (j + 1) ↔ i ∈ (ordL n l).take j ∨ i = (ordL n l).getD j 0 := by
  have hlen := ordL_len n l
  rw [List.take_add_one, List.mem_append, List.getElem?_eq_getElem (show j < (ordL n l).length by omega)]
  simp [List.getD, List.getElem?_eq_getElem (show j < (ordL n l).length by omega)]
theorem ord_lt {n : Int} {l : List Int} {j : Nat} (hj : j < l.length) : (ordL n l).getD j 0 < l.length := by
  have hlen := ordL_len n l
  have hg : (ordL n l).getD j 0 = (ordL n l)[j]'(by omega) := by simp [List.getD, List.getElem?_eq_getElem (show j < (ordL n l).length by omega)]
  rw [hg]
  exact srtL_lt _ (List.getElem_mem _)
theorem ord_new {n : Int} {l : List Int} {j : Nat} (hj : j < l.length) : (ordL n l).getD j 0 ∉ (ordL n l).take j := by
  have hlen := ordL_len n l
  have hnd := srtL_nodup (remF n l) l.length
  have e0 : srtL (remF n l) l.length = ordL n l := rfl
  rw [e0] at hnd
  have hg : (ordL n l).getD j 0 = (ordL n l)[j]'(by omega) := by simp [List.getD, List.getElem?_eq_getElem (show j < (ordL n l).length by omega)]
  rw [hg]
  have hsp := List.take_append_drop j (ordL n l)
  rw [List.drop_eq_getElem_cons (by omega)] at hsp
  rw [← hsp, List.nodup_append, List.nodup_cons] at hnd
  exact fun h => hnd.2.2 _ h _ (.head _) rfl
theorem rest_step {n : Int} {l : List Int} {j : Nat} (hj : j < l.length) (i : Nat) : restF n l (j + 1) i = if i = (ordL n l).getD j 0 then -1 else restF n l j i := by
  unfold restF
  by_cases h : i = (ordL n l).getD j 0
  · rw [if_pos h, if_pos ((take_succ hj i).2 (.inr h))]
  · rw [if_neg h]
    by_cases h2 : i ∈ (ordL n l).take j
    · rw [if_pos h2, if_pos ((take_succ hj i).2 (.inl h2))]
    · rw [if_neg h2, if_neg fun h3 => ((take_succ hj i).1 h3).elim h2 h]
theorem out_step {n : Int} {l : List Int} {j : Nat} (hj : j < l.length) (i : Nat) : outF n l (j + 1) i = if i = (ordL n l).getD j 0 then outF n l j i + 1 else outF n l j i := by
  unfold outF
  by_cases h : i = (ordL n l).getD j 0
  · rw [if_pos h, if_pos ((take_succ hj i).2 (.inr h)), if_neg (by rw [h]; exact ord_new hj)]; omega
  · rw [if_neg h]
    by_cases h2 : i ∈ (ordL n l).take j
    · rw [if_pos h2, if_pos ((take_succ hj i).2 (.inl h2))]
    · rw [if_neg h2, if_neg fun h3 => ((take_succ hj i).1 h3).elim h2 h]
theorem out_end (n : Int) (l : List Int) : (List.range l.length).map (outF n l (leftN n l)) = splitL n l := rfl
theorem out_zero (n : Int) (l : List Int) (i : Nat) : outF n l 0 i = flo n (l.getD i 0) := by unfold outF; simp
theorem rest_zero (n : Int) (l : List Int) (i : Nat) : restF n l 0 i = remF n l i := by unfold restF; simp
end Go.RoyM
namespace Go.Sy
open Go Go.Proofs
theorem Hp.extM {u w w1 : World} {M : List Nat} {H : List (Nat × Obj)} (h : Hp u [] H w) (e : Ext M w w1) (hm : ∀ b ∈ M, b ∈ H.map Prod.fst) : Ext [] u w1 := by
  refine ⟨e.os.trans h.ext.os, e.tape.trans h.ext.tape, e.output.trans h.ext.output, Nat.le_trans h.ext.size e.size, Nat.le_trans h.ext.dr e.dr, fun k hk hm' => ?_⟩
  rw [e.block k (Nat.lt_of_lt_of_le hk h.ext.size) (fun hx => by
    obtain ⟨p, hp, rfl⟩ := List.mem_map.1 (hm k hx)
    rcases h.mine p hp with h1 | h1
    · omega
    · cases h1), h.ext.block k hk hm']
theorem own_val {e size m : Nat} {v : Value} {xs : List Value} {X : List (Nat × Obj)} (h : OwnSl e size v m xs X) : ∃ oa cap, v = .slice oa m cap := by
  rcases h.2 with ⟨h1, h2, _⟩ | ⟨B, cap, cur, h1, _⟩
  · exact ⟨none, 0, by rw [h1, h2]⟩
  · exact ⟨_, _, h1⟩
theorem own_pos {e size m : Nat} {v : Value} {xs : List Value} {X : List (Nat × Obj)} (h : OwnSl e size v m xs X) (hm : 0 < m) : ∃ B cap cur, v = .slice (some ⟨B, 0, none⟩) m cap ∧ X = [(B, .cells cur e (0, 0))] ∧ m ≤ cap ∧ cap ≤ maxLen ∧ cur.size = cap * size ∧ cur.toList.take (m * size) = xs := by
  rcases h.2 with ⟨h1, h2, _⟩ | h
  · omega
  · exact h
/-- Another block than the one that is turned. -/
theorem Hp.apart {u w w1 : World} {M : List Nat} {H : List (Nat × Obj)} {i j b b' : Nat} {o o' : Obj} (h : Hp u M H w) (hi : H[i]? = some (b, o)) (hj : H[j]? = some (b', o')) (hn : i ≠ j) (e : Ext [b'] w w1) : w1.heap[b]? = some o := by
  refine e.getM (h.at hi) fun hb => ?_
  rw [List.mem_singleton] at hb
  have hnd := h.nodup
  have hi2 : (H.map Prod.fst)[i]? = some b := by rw [List.getElem?_map, hi]; rfl
  have hj2 : (H.map Prod.fst)[j]? = some b' := by rw [List.getElem?_map, hj]; rfl
  obtain ⟨hil, hie⟩ := List.getElem?_eq_some_iff.1 hi2
  obtain ⟨hjl, hje⟩ := List.getElem?_eq_some_iff.1 hj2
  rcases (show i < j ∨ j < i by omega) with h1 | h1
  · exact List.pairwise_iff_getElem.1 hnd i j hil hjl h1 (by rw [hie, hje, hb])
  · exact List.pairwise_iff_getElem.1 hnd j i hjl hil h1 (by rw [hie, hje, hb])
end Go.Sy
namespace Go.RoyM
open Go Go.Sy
def CF (cur : Array Value) (m : Nat) (F : Nat → Int) : Prop := m ≤ cur.size ∧ ∀ j, j < m → cur[0 + ((j : Nat) : Int).toNat * 1]? = some (.int .i64 (F j))
theorem CF.congr {cur : Array Value} {m : Nat} {F G : Nat → Int} (h : CF cur m F) (e : ∀ j, j < m → F j = G j) : CF cur m G := ⟨h.1, fun j hj => by rw [← e j hj]; exact h.2 j hj⟩
theorem spl_size {c : Array Value} {off : Nat} {v : Value} (h : off < c.size) : (spl c off [v]).size = c.size := by rw [spl_one c v h, Array.size_setIfInBounds]
theorem CF.put {cur : Array Value} {m : Nat} {F : Nat → Int} (h : CF cur m F) {j : Nat} (hj : j < m) (x : Int) : CF (spl cur (0 + ((j : Nat) : Int).toNat * 1) [.int .i64 x]) m (fun i => if i = j then x else F i) := by
  have h1 := h.1
  rw [Int.toNat_natCast, Nat.zero_add, Nat.mul_one]
  refine ⟨by rw [spl_size (by omega)]; exact h1, fun i hi => ?_⟩
  rw [spl_one cur _ (by omega), Int.toNat_natCast, Nat.zero_add, Nat.mul_one, Array.getElem?_setIfInBounds]
  dsimp only
  by_cases e : i = j
  · subst e; rw [if_pos rfl, if_pos (by omega), if_pos rfl]
  · rw [if_neg fun h => e h.symm, if_neg e]
    have := h.2 i hi
    rw [Int.toNat_natCast, Nat.zero_add, Nat.mul_one] at this
    exact this
theorem CF.size {cur : Array Value} {m : Nat} {F : Nat → Int} (h : CF cur m F) {j : Nat} (hj : j < m) (x : Value) : (spl cur (0 + ((j : Nat) : Int).toNat * 1) [x]).size = cur.size := by
  have h1 := h.1
  rw [Int.toNat_natCast, Nat.zero_add, Nat.mul_one]
  exact spl_size (by omega)
theorem CF.iat {cur : Array Value} {l : List Int} {B : Nat} {w : World} {T : TypeId} {fr : Nat × Nat} (h : CF cur l.length (fun j => l.getD j 0)) (hb : w.heap[B]? = some (.cells cur T fr)) : IAt w (some ⟨B, 0, none⟩) l := fun i x hi => by
  refine ⟨B, 0, cur, T, fr, rfl, hb, ?_⟩
  rw [h.2 i (len_of hi)]; dsimp only; rw [getD_at hi]
/-- Parts in a row. -/
def sq (ys : List Nat) (j : Nat) : Int := ((ys.getD j 0 : Nat) : Int)
theorem sq_at {A R : List Nat} {x : Nat} : sq (A ++ x :: R) A.length = x := by unfold sq; simp [List.getD]
theorem sq_swap {A R : List Nat} {x y : Nat} (i : Nat) : (if i = A.length then (y : Int) else if i = A.length + 1 then (x : Int) else sq (A ++ x :: y :: R) i) = sq (A ++ y :: x :: R) i := by
  unfold sq
  by_cases h1 : i = A.length
  · subst h1; simp [List.getD]
  · rw [if_neg h1]
    by_cases h2 : i = A.length + 1
    · subst h2; simp [List.getD, List.getElem?_append]
    · rw [if_neg h2]
      simp only [List.getD, List.getElem?_append]
      by_cases h3 : i < A.length
      · rw [if_pos h3, if_pos h3]
      · rw [if_neg h3, if_neg h3]
        obtain ⟨z, hz⟩ : ∃ z, i - A.length = z + 2 := ⟨i - A.length - 2, by omega⟩
        rw [hz]; rfl
def cmpI (a b : Int) : Int := if a < b then -1 else if b < a then 1 else 0
theorem cmp_neg {a b : Int} : cmpI a b < 0 ↔ a < b := by unfold cmpI; split; omega; split <;> omega
/-- The parts while they are sorted: those before one, in their row, and those behind it. -/
def rowN (f : Nat → Int) (i m : Nat) : List Nat := srtL f i ++ List.range' i (m - i)
theorem rowN_cons (f : Nat → Int) {i m : Nat} (h : i < m) : rowN f i m = srtL f i ++ i :: ([] ++ List.range' (i + 1) (m - (i + 1))) := by
  unfold rowN
  rw [show m - i = (m - (i + 1)) + 1 by omega, List.range'_succ]; rfl
theorem rowN_end (f : Nat → Int) (m : Nat) : rowN f m m = srtL f m := by unfold rowN; simp
theorem rowN_one (f : Nat → Int) {m : Nat} (h : 1 ≤ m) (j : Nat) (hj : j < m) : sq (rowN f 1 m) j = j := by
  have e : rowN f 1 m = List.range' 0 m := by
    unfold rowN
    have e1 : srtL f 1 = [0] := rfl
    rw [e1]
    obtain ⟨k, rfl⟩ : ∃ k, m = k + 1 := ⟨m - 1, by omega⟩
    rw [List.range'_succ]; rfl
  rw [e]
  unfold sq
  simp [List.getD, List.getElem?_range', hj]
/-- Where a part is to stand. -/
structure InsAt (f : Nat → Int) (i j : Nat) (A B : List Nat) : Prop where
  ab : A ++ B = srtL f i
  len : A.length = j
  lt : ∀ y ∈ B, f y < f i
theorem InsAt.init (f : Nat → Int) (i : Nat) : InsAt f i i (srtL f i) [] := ⟨List.append_nil _, srtL_len f i, fun y h => by cases h⟩
theorem InsAt.step {f : Nat → Int} {i j pv : Nat} {A B : List Nat} (h : InsAt f i (j + 1) (A ++ [pv]) B) (hp : f pv < f i) : InsAt f i j A (pv :: B) := by
  refine ⟨by have := h.ab; simpa using this, by have := h.len; simpa using this, fun y hy => ?_⟩
  rcases List.mem_cons.1 hy with rfl | hy
  · exact hp
  · exact h.lt y hy
theorem InsAt.stop {f : Nat → Int} {i j m : Nat} {A B : List Nat} (h : InsAt f i j A B) (hi : i < m) (hs : j = 0 ∨ ∃ A' pv, A = A' ++ [pv] ∧ f i ≤ f pv) : A ++ i :: (B ++ List.range' (i + 1) (m - (i + 1))) = rowN f (i + 1) m := by
  have hA : ∀ y ∈ A, f i ≤ f y := by
    rcases hs with hs | ⟨A', pv, rfl, hp⟩
    · have := h.len
      rw [hs] at this
      rw [List.eq_nil_of_length_eq_zero this]
      intro y hy; cases hy
    · intro y hy
      rcases List.mem_append.1 hy with hy | hy
      · have hs := srtL_sorted f i
        rw [← h.ab, List.pairwise_append, List.pairwise_append] at hs
        have := hs.1.2.2 y hy pv (by simp)
        unfold befP at this
        omega
      · rw [List.mem_singleton.1 hy]; exact hp
  unfold rowN
  rw [srtL, ← h.ab, insL_at hA h.lt]
  simp
theorem InsAt.split {f : Nat → Int} {i j : Nat} {A B : List Nat} (h : InsAt f i j A B) (hj : 0 < j) : ∃ A' pv, A = A' ++ [pv] := by
  have h1 := h.len
  have hne : A ≠ [] := fun e => by rw [e] at h1; simp at h1; omega
  exact ⟨A.dropLast, A.getLast hne, (List.dropLast_concat_getLast hne).symm⟩
theorem mul_facts {n s : Int} (h0 : 0 ≤ n) (h1 : n ≤ 1099511627776) (hs : 0 ≤ s ∧ s ≤ 1000) : 0 ≤ n * s ∧ n * s ≤ 1099511627776000 := by
  have a1 : 0 ≤ n * s := Int.mul_nonneg h0 hs.1
  have a2 : n * s ≤ n * 1000 := Int.mul_le_mul_of_nonneg_left hs.2 h0
  omega
theorem floors_len (n : Int) (l : List Int) : (floors n l).length = l.length := List.length_map _
theorem floors_at {n : Int} {l : List Int} {i : Nat} (h : i < l.length) : (floors n l).getD i 0 = flo n (l.getD i 0) := by
  unfold floors
  simp [List.getD, h]
theorem flo_bd {n s : Int} (h0 : 0 ≤ n) (h1 : n ≤ 1099511627776) (hs : 0 ≤ s ∧ s ≤ 1000) : 0 ≤ flo n s ∧ flo n s ≤ 1099511627776 := by
  have := mul_facts h0 h1 hs
  unfold flo
  omega
theorem floors_bd {n : Int} {l : List Int} (h0 : 0 ≤ n) (h1 : n ≤ 1099511627776) (hs : ∀ s ∈ l, 0 ≤ s ∧ s ≤ 1000) (hl : l.length ≤ 1000) (i : Nat) : -4611686018427387904 ≤ sumI ((floors n l).take i) ∧ sumI ((floors n l).take i) ≤ 4611686018427387904 := by
  have h := take_bd (b := 1099511627776) (l := floors n l) (fun x hx => by
    obtain ⟨s, hsm, rfl⟩ := List.mem_map.1 hx
    have := flo_bd h0 h1 (hs s hsm)
    omega) (by omega) i (by rw [floors_len]; exact hl)
  omega
theorem split_len (n : Int) (l : List Int) : (splitL n l).length = l.length := by unfold splitL; simp
theorem split_get {n : Int} {l : List Int} {j : Nat} (h : j < l.length) : (splitL n l).getD j 0 = outF n l (leftN n l) j := by
  rw [← out_end]
  simp [List.getD, h]
theorem out_bd {n : Int} {l : List Int} (h0 : 0 ≤ n) (h1 : n ≤ 1099511627776) (hs : ∀ s ∈ l, 0 ≤ s ∧ s ≤ 1000) (k : Nat) {j : Nat} (h : j < l.length) : 0 ≤ outF n l k j ∧ outF n l k j ≤ 1099511627777 := by
  obtain ⟨s, hj⟩ := ex_of h
  have h9 := flo_bd h0 h1 (hs s (List.mem_of_getElem? hj))
  unfold outF
  rw [getD_at hj]
  split <;> omega
/-- Numbers as they are while parts are told one by one. -/
def floF (n : Int) (l : List Int) (i j : Nat) : Int := if j < i then flo n (l.getD j 0) else 0
theorem floF_step {n : Int} {l : List Int} {i : Nat} {s : Int} (h : l[i]? = some s) (j : Nat) : (if j = i then flo n s else floF n l i j) = floF n l (i + 1) j := by
  unfold floF
  by_cases e : j = i
  · subst e; rw [if_pos rfl, if_pos (by omega), getD_at h]
  · rw [if_neg e]
    by_cases h2 : j < i
    · rw [if_pos h2, if_pos (by omega)]
    · rw [if_neg h2, if_neg (by omega)]
def rngV (i : Nat) : List Value := (List.range i).map fun j => .int .i64 ((j : Nat) : Int)
theorem rngV_succ (i : Nat) : rngV (i + 1) = rngV i ++ [.int .i64 ((i : Nat) : Int)] := by unfold rngV; rw [List.range_succ, List.map_append]; rfl
theorem rngV_CF {cur : Array Value} {m : Nat} (hs : m ≤ cur.size) (h : cur.toList.take (m * 1) = rngV m) : CF cur m (fun j => (j : Int)) := by
  refine ⟨hs, fun j hj => ?_⟩
  have h1 : (rngV m)[j]? = some (.int .i64 ((j : Nat) : Int)) := by unfold rngV; simp [hj]
  rw [← h, Nat.mul_one, List.getElem?_take, if_pos hj] at h1
  rw [Int.toNat_natCast, Nat.zero_add, Nat.mul_one, ← Array.getElem?_toList]
  exact h1
theorem made_CF (m : Nat) : CF (madeCells (Value.int .i64 0).cells (m * 1)) m (fun _ => 0) := by
  refine ⟨by simp [madeCells], fun j hj => ?_⟩
  rw [Int.toNat_natCast, Nat.zero_add, Nat.mul_one]
  unfold madeCells
  rw [Array.getElem?_map, Array.getElem?_range, if_pos (by omega)]
  have e : (Value.int .i64 0).cells = #[.int .i64 0] := rfl
  rw [e]
  simp [Nat.mod_one]
end Go.RoyM
namespace Go.Proofs.Ytccpgpnekoncoaa
set_option maxRecDepth 100000
open Go Go.Sy Go.RoyM
theorem p102 (a : Int) (u : World) : Calls Try.prog 139 #[.int .i64 a] u (Ret fun v w' => v = .bool false ∧ Ext [] u w') := by
  refine calls_of Try.func139 rfl rfl (fun a hf => ?_)
  have hh := Hp.init u []
  refine sy_sq ?_
  refine o_v hf hh (yv_assign rfl) ?_; clear hf a; intro a hf
  refine o_end ?_
  refine sy_sq ?_
  refine o_v hf hh (yv_move rfl) ?_; clear hf a; intro a hf
  refine o_v hf hh (yv_move rfl) ?_; clear hf a; intro a hf
  refine o_v hf hh (yv_bin rfl rfl rfl) ?_; clear hf a; intro a hf
  refine o_v hf hh (yv_assign rfl) ?_; clear hf a; intro a hf
  refine o_end ?_
  refine sy_ret ?_
  refine ret_r hf rfl rfl ?_
  exact ⟨by simp [tup], hh.ext⟩
theorem p92 (x y : Int) (u : World) : Calls Try.prog 97 #[.int .i64 x, .int .i64 y] u (Ret fun v w' => v = .int .i64 (cmpI x y) ∧ Ext [] u w') := by
  refine calls_of Try.func97 rfl rfl (fun a hf => ?_)
  have hh := Hp.init u []
  refine sy_sq ?_
  refine o_v hf hh (yv_assign rfl) ?_; clear hf a; intro a hf
  refine o_end ?_
  refine sy_sq ?_
  refine o_v hf hh (yv_move rfl) ?_; clear hf a; intro a hf
  refine o_call hf Try.en_139 rfl rfl rfl (p102 _ _) ?_; clear hf a; intro v a w hR hf
  obtain ⟨rfl, hx⟩ := hR; replace hh := hh.more hx; clear hx
  refine o_v hf hh (yv_assign rfl) ?_; clear hf a; intro a hf
  refine o_end ?_
  refine sy_sq ?_
  refine o_v hf hh (yv_move rfl) ?_; clear hf a; intro a hf
  refine o_call hf Try.en_139 rfl rfl rfl (p102 _ _) ?_; clear hf a; intro v a w hR hf
  obtain ⟨rfl, hx⟩ := hR; replace hh := hh.more hx; clear hx
  refine o_v hf hh (yv_assign rfl) ?_; clear hf a; intro a hf
  refine o_end ?_
  refine sy_seq ?_
  refine sy_sq ?_
  refine o_v hf hh (yv_move rfl) ?_; clear hf a; intro a hf
  refine o_end ?_
  refine c_f hf ?_
  refine sy_skip ?_
  refine then_n ?_
  refine sy_seq ?_
  refine sy_sq ?_
  refine o_v hf hh (yv_move rfl) ?_; clear hf a; intro a hf
  refine o_end ?_
  refine c_f hf ?_
  refine sy_skip ?_
  refine then_n ?_
  refine sy_seq ?_
  refine sy_sq ?_
  refine o_v hf hh (yv_move rfl) ?_; clear hf a; intro a hf
  refine o_v hf hh (yv_move rfl) ?_; clear hf a; intro a hf
  refine o_v hf hh (yv_bin rfl rfl rfl) ?_; clear hf a; intro a hf
  refine o_end ?_
  refine sy_cond hf rfl (fun hg4 => ?_) (fun hg4 => ?_)
  ·have hG4 := hg4; try simp only [gS] at hG4
   refine sy_sq ?_
   refine o_v hf hh (yv_assign rfl) ?_; clear hf a; intro a hf
   refine o_end ?_
   refine sy_ret ?_
   refine then_r ?_
   refine ret_r hf rfl rfl ?_
   refine ⟨intv ?_, hh.ext⟩
   unfold cmpI
   first
     | (rw [if_pos (by omega)])
     | (rw [if_neg (by omega), if_pos (by omega)])
     | (rw [if_neg (by omega), if_neg (by omega)])
  ·have hG4 := hg4; try simp only [gS] at hG4
   refine sy_skip ?_
   refine then_n ?_
   refine sy_seq ?_
   refine sy_sq ?_
   refine o_v hf hh (yv_move rfl) ?_; clear hf a; intro a hf
   refine o_v hf hh (yv_move rfl) ?_; clear hf a; intro a hf
   refine o_v hf hh (yv_bin rfl rfl rfl) ?_; clear hf a; intro a hf
   refine o_end ?_
   refine sy_cond hf rfl (fun hg6 => ?_) (fun hg6 => ?_)
   ·have hG6 := hg6; try simp only [gS] at hG6
    refine sy_sq ?_
    refine o_v hf hh (yv_assign rfl) ?_; clear hf a; intro a hf
    refine o_end ?_
    refine sy_ret ?_
    refine then_r ?_
    refine ret_r hf rfl rfl ?_
    refine ⟨intv ?_, hh.ext⟩
    unfold cmpI
    first
      | (rw [if_pos (by omega)])
      | (rw [if_neg (by omega), if_pos (by omega)])
      | (rw [if_neg (by omega), if_neg (by omega)])
   ·have hG6 := hg6; try simp only [gS] at hG6
    refine sy_skip ?_
    refine then_n ?_
    refine sy_sq ?_
    refine o_v hf hh (yv_assign rfl) ?_; clear hf a; intro a hf
    refine o_end ?_
    refine sy_ret ?_
    refine ret_r hf rfl rfl ?_
    refine ⟨intv ?_, hh.ext⟩
    unfold cmpI
    first
      | (rw [if_pos (by omega)])
      | (rw [if_neg (by omega), if_pos (by omega)])
      | (rw [if_neg (by omega), if_neg (by omega)])
theorem p91 (n : Int) (l : List Int) (sa : Option Addr) (c0 Bn Bs x y : Nat) (u : World) (hA : IAt u sa l) (hl : l.length ≤ 1000) (hBn : u.heap[Bn]? = some (.cells #[.int .i64 n] 3 (0, 0))) (hBs : u.heap[Bs]? = some (.cells #[.slice sa l.length c0] 25 (0, 0))) (h0 : 0 ≤ n) (h1 : n ≤ 1099511627776) (hs : ∀ s ∈ l, 0 ≤ s ∧ s ≤ 1000) (hx : x < l.length) (hy : y < l.length) : Calls Try.prog 96 #[.int .i64 (x : Nat), .int .i64 (y : Nat), ptr Bn 0, ptr Bs 0] u (Ret fun v w' => v = .int .i64 (cmpI (remF n l y) (remF n l x)) ∧ Ext [] u w') := by
  refine calls_of Try.func96 rfl rfl (fun a hf => ?_)
  have hh := Hp.init u []
  obtain ⟨s, hs1⟩ := ex_of hx
  obtain ⟨t, ht1⟩ := ex_of hy
  have e1 := getD_at (z := (0 : Int)) hs1
  have e2 := getD_at (z := (0 : Int)) ht1
  have hs0 := mul_facts h0 h1 (hs s (List.mem_of_getElem? hs1))
  have ht0 := mul_facts h0 h1 (hs t (List.mem_of_getElem? ht1))
  obtain ⟨blk, off, cc, T, fr, e, hb, hc⟩ := hA x s hs1; subst e
  obtain ⟨blk2, off2, cc2, T2, fr2, e3, hb2, hc2⟩ := hA y t ht1; cases e3
  rw [hb] at hb2; cases hb2
  refine sy_sq ?_
  refine o_v hf hh (yv_assign rfl) ?_; clear hf a; intro a hf
  refine o_end ?_
  refine sy_seq ?_
  refine sy_tree1 (.q 0 0 (.q 0 1 (.p 2 (.p 3 (.q 0 4 (.p 5 (.p 6 (.q 0 7 (.q 0 8 (.p 9 (.p 10 (.q 0 11 (.p 12 (.p 13 (.e1 14 (.p 15 (.fin))))))))))))))))) [] Try.follows (by kernel_rfl) hh (fun w hh => ?_)
  refine mc_q rfl rfl hh hf (y_ld Try.sc_3 rfl) (.inl rfl) rfl rfl ?_; clear hf a; intro a hf
  refine mc_q rfl rfl hh hf (y_ld Try.sc_25 rfl) (.inl rfl) rfl rfl ?_; clear hf a; intro a hf
  refine mc_p rfl   hf (yv_move rfl) (.inl rfl) rfl rfl ?_; clear hf a; intro a hf
  refine mc_p rfl   hf (y_ix Try.se_25 rfl rfl) (.inl rfl) rfl rfl ?_; clear hf a; intro a hf
  refine mc_q rfl rfl hh hf (y_ld Try.sc_3 rfl) (.inl rfl) rfl rfl ?_; clear hf a; intro a hf
  refine mc_p rfl   hf (y_mul rfl rfl) (.inl rfl) rfl rfl ?_; clear hf a; intro a hf
  refine mc_p rfl   hf (yv_rem rfl rfl (by omega) (by omega)) (.inl rfl) rfl rfl ?_; clear hf a; intro a hf
  refine mc_q rfl rfl hh hf (y_ld Try.sc_3 rfl) (.inl rfl) rfl rfl ?_; clear hf a; intro a hf
  refine mc_q rfl rfl hh hf (y_ld Try.sc_25 rfl) (.inl rfl) rfl rfl ?_; clear hf a; intro a hf
  refine mc_p rfl   hf (yv_move rfl) (.inl rfl) rfl rfl ?_; clear hf a; intro a hf
  refine mc_p rfl   hf (y_ix Try.se_25 rfl rfl) (.inl rfl) rfl rfl ?_; clear hf a; intro a hf
  refine mc_q rfl rfl hh hf (y_ld Try.sc_3 rfl) (.inl rfl) rfl rfl ?_; clear hf a; intro a hf
  refine mc_p rfl   hf (y_mul rfl rfl) (.inl rfl) rfl rfl ?_; clear hf a; intro a hf
  refine mc_p rfl   hf (yv_rem rfl rfl (by omega) (by omega)) (.inl rfl) rfl rfl ?_; clear hf a; intro a hf
  refine mc_e rfl fun Q1 => ?_
  refine o_call hf Try.en_97 rfl rfl rfl (p92 _ _ _) ?_; clear hf a; intro v a w hR hf
  obtain ⟨rfl, hx⟩ := hR; replace hh := hh.more hx; clear hx
  refine ops_end ?_
  refine then_n ⟨⟨fun _ _ => hh, trivial⟩, ?_⟩
  refine mc_p rfl   hf (yv_assign rfl) (.inl rfl) rfl rfl ?_; clear hf a; intro a hf
  refine mc_end ?_
  refine then_n ?_
  refine sy_ret ?_
  refine ret_r hf rfl rfl ?_
  exact ⟨intv (by unfold remF rmd; rw [e1, e2]), hh.ext⟩
theorem p114 (f : Nat → Int) (m Bd cap : Nat) (cur : Array Value) (Bn Bs : Nat) (u : World) (h1 : 1 ≤ m) (h5 : m ≤ 5) (hb : u.heap[Bd]? = some (.cells cur 3 (0, 0))) (hF : CF cur m (fun j => (j : Int))) (hC : ∀ (w1 : World), Ext [Bd] u w1 → ∀ x y, x < m → y < m → Calls Try.prog 96 #[.int .i64 (x : Nat), .int .i64 (y : Nat), ptr Bn 0, ptr Bs 0] w1 (Ret fun v w2 => v = .int .i64 (cmpI (f y) (f x)) ∧ Ext [] w1 w2)) : Calls Try.prog 162 #[.slice (some ⟨Bd, 0, none⟩) m cap, .int .i64 0, .int .i64 (m : Nat), .func (.func 96) #[] #[ptr Bn 0, ptr Bs 0]] u (Ret fun _ w' => ∃ cur', CF cur' m (sq (srtL f m)) ∧ cur'.size = cur.size ∧ Hp u [Bd] [(Bd, .cells cur' 3)] w') := by
  refine calls_of Try.func162 rfl rfl (fun a hf => ?_)
  have hh := Hp.init1 hb
  refine sy_sq ?_
  refine o_v hf hh (yv_move rfl) ?_; clear hf a; intro a hf
  refine o_v hf hh (y_add rfl rfl) ?_; clear hf a; intro a hf
  refine o_v hf hh (yv_assign rfl) ?_; clear hf a; intro a hf
  refine o_end ?_
  refine sy_block ?_
  refine sy_loopH (σ := Nat × Array Value) [8, 9, 12, 13, 14, 15, 16, 17, 18, 19, 20, 21, 22, 23, 24, 25, 26, 27, 28, 29, 30, 31, 32, 33, 34, 35, 36, 37, 38, 39, 40, 41, 42, 43, 44, 45, 46, 47, 48, 49, 50, 51, 52] (fun s => [(8, .int .i64 (s.1 : Nat))]) (fun s => fun w' => 1 ≤ s.1 ∧ s.1 ≤ m ∧ s.2.size = cur.size ∧ CF s.2 m (sq (rowN f s.1 m)) ∧ Hp u [Bd] [(Bd, .cells s.2 3)] w') (fun s => m - s.1) ((1, cur)) hf ?_ ?_ ?_
  · repeat' (first | exact True.intro | refine And.intro rfl ?_)
  · exact ⟨Nat.le_refl _, h1, rfl, hF.congr fun j hj => (rowN_one f h1 j hj).symm, hh⟩
  ·rintro s a w ⟨hi1, him, hsz, hCF, hh⟩ hf
   obtain ⟨i, c1⟩ := s; simp only at hi1 him hsz hCF hh hf ⊢
   refine sy_seq ?_
   refine sy_sq ?_
   refine o_v hf hh (yv_move rfl) ?_; clear hf a; intro a hf
   refine o_v hf hh (yv_move rfl) ?_; clear hf a; intro a hf
   refine o_v hf hh (yv_bin rfl rfl rfl) ?_; clear hf a; intro a hf
   refine o_end ?_
   refine sy_cond hf rfl (fun hg2 => ?_) (fun hg2 => ?_)
   ·have hG2 := hg2; try simp only [gS] at hG2
    refine sy_skip ?_
    refine then_n ?_
    refine sy_seq ?_
    refine sy_block ?_
    refine sy_sq ?_
    refine o_v hf hh (yv_move rfl) ?_; clear hf a; intro a hf
    refine o_v hf hh (yv_assign rfl) ?_; clear hf a; intro a hf
    refine o_end ?_
    refine sy_block ?_
    refine sy_loopH (σ := Nat × Array Value × List Nat × List Nat) [9, 18, 19, 20, 21, 22, 23, 24, 25, 26, 27, 28, 29, 30, 31, 32, 33, 34, 35, 36, 37, 38, 39, 40, 41, 42, 43, 44, 45, 46, 47, 48, 49, 50, 51, 52] (fun s => [(9, .int .i64 (s.1 : Nat))]) (fun s => fun w' => s.1 ≤ i ∧ s.2.1.size = cur.size ∧ InsAt f i s.1 s.2.2.1 s.2.2.2 ∧ CF s.2.1 m (sq (s.2.2.1 ++ i :: (s.2.2.2 ++ List.range' (i + 1) (m - (i + 1))))) ∧ Hp u [Bd] [(Bd, .cells s.2.1 3)] w') (fun s => s.1) ((i, c1, srtL f i, [])) hf ?_ ?_ ?_
    · repeat' (first | exact True.intro | refine And.intro rfl ?_)
    · exact ⟨Nat.le_refl _, hsz, .init f i, by rw [← rowN_cons f (by omega)]; exact hCF, hh⟩
    ·rintro s a w ⟨hj, hsz2, hI, hCF2, hh⟩ hf
     obtain ⟨j, c2, A, B⟩ := s; simp only at hj hsz2 hI hCF2 hh hf ⊢
     refine sy_seq ?_
     refine sy_seq ?_
     refine sy_tree1 (.p 0 (.p 1 (.p 2 (.p 3 (.p 4 (.p 5 (.p 6 (.p 7 (.q 0 8 (.p 9 (.p 10 (.p 11 (.p 12 (.q 0 13 (.e1 14 (.p 15 (.p 16 (.fin)))))))))))))))))) [] Try.follows (by kernel_rfl) hh (fun w hh => ?_)
     refine mc_p rfl   hf (yv_move rfl) (.inl rfl) rfl rfl ?_; clear hf a; intro a hf
     refine mc_p rfl   hf (yv_move rfl) (.inl rfl) rfl rfl ?_; clear hf a; intro a hf
     refine mc_p rfl   hf (yv_bin rfl rfl rfl) (.inl rfl) rfl rfl ?_; clear hf a; intro a hf
     refine mc_p rfl   hf (yv_move rfl) (.inl rfl) rfl rfl ?_; clear hf a; intro a hf
     refine guard_any hf (t := 21) rfl (fun hg4 => ?_) (fun hg4 => ?_)
     ·have hG4 := hg4; try simp only [gS] at hG4
      obtain ⟨A1, pv, rfl⟩ := hI.split (by omega)
      obtain ⟨jj, hjj⟩ : ∃ jj, jj = A1.length := ⟨_, rfl⟩
      have hlen := hI.len
      rw [List.length_append, List.length_singleton, ← hjj] at hlen
      subst hlen
      have hpv : pv < i := srtL_lt f (by rw [← hI.ab]; simp)
      have g1 := hCF2.2 jj (by omega)
      have g2 := hCF2.2 (jj + 1) (by omega)
      have q1 : sq (A1 ++ [pv] ++ i :: (B ++ List.range' (i + 1) (m - (i + 1)))) jj = pv := by rw [List.append_assoc, hjj]; exact sq_at
      have q2 : sq (A1 ++ [pv] ++ i :: (B ++ List.range' (i + 1) (m - (i + 1)))) (jj + 1) = i := by
        have h9 := sq_at (A := A1 ++ [pv]) (x := i) (R := B ++ List.range' (i + 1) (m - (i + 1)))
        rw [List.length_append, List.length_singleton, ← hjj] at h9; exact h9
      rw [q1] at g1; rw [q2] at g2
      have hc2 := hCF2.1
      have hCF3 := ((hCF2.put (j := jj + 1) (by omega) (pv : Int)).put (j := jj) (by omega) (i : Int)).congr (G := sq (A1 ++ i :: (pv :: B ++ List.range' (i + 1) (m - (i + 1))))) fun z hz => by
        have h9 := sq_swap (A := A1) (R := B ++ List.range' (i + 1) (m - (i + 1))) (x := pv) (y := i) z
        rw [← hjj] at h9
        rw [List.cons_append, ← h9]
        simp only [List.append_assoc, List.singleton_append]
      have hs3 := hCF2.size (j := jj + 1) (by omega) (.int .i64 (pv : Int))
      have hs4 := (hCF2.put (j := jj + 1) (by omega) (pv : Int)).size (j := jj) (by omega) (.int .i64 (i : Int))
      refine mc_p rfl   hf (yv_move rfl) (gon rfl rfl rfl (by first | assumption | rfl | (simp; done) | (simp; omega))) rfl rfl ?_; clear hf a; intro a hf
      refine mc_p rfl   hf (yv_move rfl) (gon rfl rfl rfl (by first | assumption | rfl | (simp; done) | (simp; omega))) rfl rfl ?_; clear hf a; intro a hf
      refine mc_p rfl   hf (yv_move rfl) (gon rfl rfl rfl (by first | assumption | rfl | (simp; done) | (simp; omega))) rfl rfl ?_; clear hf a; intro a hf
      refine mc_p rfl   hf (y_ix Try.se_25 rfl rfl) (gon rfl rfl rfl (by first | assumption | rfl | (simp; done) | (simp; omega))) rfl rfl ?_; clear hf a; intro a hf
      refine mc_q rfl rfl hh hf (y_ld Try.sc_3 rfl) (gon rfl rfl rfl (by first | assumption | rfl | (simp; done) | (simp; omega))) rfl rfl ?_; clear hf a; intro a hf
      refine mc_p rfl   hf (yv_move rfl) (gon rfl rfl rfl (by first | assumption | rfl | (simp; done) | (simp; omega))) rfl rfl ?_; clear hf a; intro a hf
      refine mc_p rfl   hf (yv_move rfl) (gon rfl rfl rfl (by first | assumption | rfl | (simp; done) | (simp; omega))) rfl rfl ?_; clear hf a; intro a hf
      refine mc_p rfl   hf (yv_cast (yv_sub rfl rfl (by omega) (by omega)) (intv (b := ((jj : Nat) : Int)) (by omega))) (gon rfl rfl rfl (by first | assumption | rfl | (simp; done) | (simp; omega))) rfl rfl ?_; clear hf a; intro a hf
      refine mc_p rfl   hf (y_ix Try.se_25 rfl rfl) (gon rfl rfl rfl (by first | assumption | rfl | (simp; done) | (simp; omega))) rfl rfl ?_; clear hf a; intro a hf
      refine mc_q rfl rfl hh hf (y_ld Try.sc_3 rfl) (gon rfl rfl rfl (by first | assumption | rfl | (simp; done) | (simp; omega))) rfl rfl ?_; clear hf a; intro a hf
      refine mc_e rfl fun Q1 => ?_
      refine o_call hf Try.en_96 rfl rfl rfl (hC _ (hh.ext.mono (by simp)) i pv (by omega) (by omega)) ?_; clear hf a; intro v a w hR hf
      obtain ⟨rfl, hx⟩ := hR; replace hh := hh.more hx; clear hx
      refine ops_end ?_
      refine then_n ⟨⟨fun _ _ => hh, trivial⟩, ?_⟩
      refine mc_p rfl   hf (yv_bin rfl rfl rfl) (gon rfl rfl rfl (by first | assumption | rfl | (simp; done) | (simp; omega))) rfl rfl ?_; clear hf a; intro a hf
      refine mc_p rfl   hf (y_pt rfl rfl) (.inl rfl) rfl rfl ?_; clear hf a; intro a hf
      refine mc_end ?_
      refine then_n ?_
      refine sy_cond hf rfl (fun hg8 => ?_) (fun hg8 => ?_)
      ·have hG8 := hg8; try simp only [gS] at hG8
       refine sy_skip ?_
       refine then_n ?_
       refine sy_seq ?_
       refine sy_block ?_
       refine sy_tree1 (.p 0 (.p 1 (.p 2 (.p 3 (.p 4 (.p 5 (.p 6 (.p 7 (.p 8 (.q 0 9 (.p 10 (.p 11 (.p 12 (.q 0 13 (.p 14 (.e1 15 (.p 16 (.e1 17 (.fin))))))))))))))))))) [15, 17] Try.follows (by kernel_rfl) hh (fun w hh => ?_)
       refine mc_p rfl   hf (yv_move rfl) (.inl rfl) rfl rfl ?_; clear hf a; intro a hf
       refine mc_p rfl   hf (yv_move rfl) (.inl rfl) rfl rfl ?_; clear hf a; intro a hf
       refine mc_p rfl   hf (yv_move rfl) (.inl rfl) rfl rfl ?_; clear hf a; intro a hf
       refine mc_p rfl   hf (yv_move rfl) (.inl rfl) rfl rfl ?_; clear hf a; intro a hf
       refine mc_p rfl   hf (yv_cast (yv_sub rfl rfl (by omega) (by omega)) (intv (b := ((jj : Nat) : Int)) (by omega))) (.inl rfl) rfl rfl ?_; clear hf a; intro a hf
       refine mc_p rfl   hf (yv_move rfl) (.inl rfl) rfl rfl ?_; clear hf a; intro a hf
       refine mc_p rfl   hf (yv_move rfl) (.inl rfl) rfl rfl ?_; clear hf a; intro a hf
       refine mc_p rfl   hf (yv_cast (yv_sub rfl rfl (by omega) (by omega)) (intv (b := ((jj : Nat) : Int)) (by omega))) (.inl rfl) rfl rfl ?_; clear hf a; intro a hf
       refine mc_p rfl   hf (y_ix Try.se_25 rfl rfl) (.inl rfl) rfl rfl ?_; clear hf a; intro a hf
       refine mc_q rfl rfl hh hf (y_ld Try.sc_3 rfl) (.inl rfl) rfl rfl ?_; clear hf a; intro a hf
       refine mc_p rfl   hf (yv_move rfl) (.inl rfl) rfl rfl ?_; clear hf a; intro a hf
       refine mc_p rfl   hf (yv_move rfl) (.inl rfl) rfl rfl ?_; clear hf a; intro a hf
       refine mc_p rfl   hf (y_ix Try.se_25 rfl rfl) (.inl rfl) rfl rfl ?_; clear hf a; intro a hf
       refine mc_q rfl rfl hh hf (y_ld Try.sc_3 rfl) (.inl rfl) rfl rfl ?_; clear hf a; intro a hf
       refine mc_p rfl   hf (y_ix Try.se_25 rfl rfl) (.inl rfl) rfl rfl ?_; clear hf a; intro a hf
       refine mc_e rfl fun Q1 => ?_
       refine o_store (i := 0) hf hh Try.sz_3 (hx := rfl) (hi := atI (i := 0) rfl) (hy := rfl) (hl := Nat.ble_eq_true_of_le (by rw [Int.toNat_natCast]; omega)) fun w hh => ?_
       refine ops_end ?_
       refine then_n ⟨⟨fun h => Bool.noConfusion (show true = false from h), trivial⟩, ?_⟩
       refine mc_p rfl   hf (y_ix Try.se_25 rfl rfl) (.inl rfl) rfl rfl ?_; clear hf a; intro a hf
       refine mc_e rfl fun Q1 => ?_
       refine o_store (i := 0) hf hh Try.sz_3 (hx := rfl) (hi := atI (i := 0) rfl) (hy := rfl) (hl := Nat.ble_eq_true_of_le (by simp only [Value.cells, List.cons.injEq] at *; rw [Int.toNat_natCast]; omega)) fun w hh => ?_
       refine ops_end ?_
       refine then_n ⟨⟨fun h => Bool.noConfusion (show true = false from h), trivial⟩, ?_⟩
       refine mc_end ?_
       refine blk_n ?_
       refine then_n ?_
       refine sy_ops ?_
       refine o_v hf hh (yv_move rfl) ?_; clear hf a; intro a hf
       refine ops_v hf hh (yv_cast (yv_sub rfl rfl (by omega) (by omega)) (intv (b := ((jj : Nat) : Int)) (by omega))) (.inl rfl) rfl rfl rfl ?_; clear hf a; intro a hf
       refine o_v hf hh (yv_assign rfl) ?_; clear hf a; intro a hf
       refine ops_end ?_
       refine then_n ?_
       exact ⟨(jj, _, A1, pv :: B), ⟨⟨by simp only; omega, (hs4.trans hs3).trans hsz2, hI.step (cmp_neg.1 (by omega)), hCF3, hh⟩, (hf.head (by repeat' (first | exact True.intro | refine And.intro rfl ?_)) (Keep.cons rfl (Keep.cons rfl (Keep.cons rfl (Keep.cons rfl (Keep.cons rfl (Keep.cons rfl (Keep.cons rfl (Keep.cons rfl (Keep.cons rfl (Keep.cons rfl (Keep.cons rfl (Keep.cons rfl (Keep.cons rfl (Keep.cons rfl (Keep.cons rfl (Keep.cons rfl (Keep.cons rfl (Keep.cons rfl (Keep.cons rfl (Keep.cons rfl (Keep.cons rfl (Keep.cons rfl (Keep.cons rfl (Keep.cons rfl (Keep.cons rfl (Keep.cons rfl (Keep.cons rfl (Keep.cons rfl (Keep.cons rfl (Keep.cons rfl (Keep.cons rfl (Keep.cons rfl (Keep.cons rfl (Keep.cons rfl (Keep.cons rfl (Keep.cons rfl (Keep.app rfl (Keep.rm rfl Keep.base)))))))))))))))))))))))))))))))))))))))⟩, by simp only; omega⟩
      ·have hG8 := hg8; try simp only [gS] at hG8
       refine sy_exit ?_
       refine then_e ?_
       refine then_e ?_
       refine blk_e ?_
       refine blk_n ?_
       refine then_n ?_
       refine sy_ops ?_
       refine o_v hf hh (yv_move rfl) ?_; clear hf a; intro a hf
       refine o_v hf hh (y_add rfl rfl) ?_; clear hf a; intro a hf
       refine o_v hf hh (yv_assign rfl) ?_; clear hf a; intro a hf
       refine ops_end ?_
       refine then_n ?_
       first
         | exact ⟨(i + 1, c2), ⟨⟨by simp only; omega, by simp only; omega, by simp only; omega, by simp only; rw [← hI.stop (by omega) (.inl (by omega))]; exact hCF2, hh⟩, (hf.head (by repeat' (first | exact True.intro | refine And.intro rfl ?_)) (Keep.cons rfl (Keep.cons rfl (Keep.cons rfl (Keep.cons rfl (Keep.cons rfl (Keep.cons rfl (Keep.cons rfl (Keep.cons rfl (Keep.cons rfl (Keep.cons rfl (Keep.cons rfl (Keep.cons rfl (Keep.cons rfl (Keep.cons rfl (Keep.cons rfl (Keep.cons rfl (Keep.cons rfl (Keep.cons rfl (Keep.cons rfl (Keep.cons rfl (Keep.app rfl (Keep.rm rfl (Keep.cons rfl (Keep.cons rfl (Keep.cons rfl (Keep.cons rfl (Keep.cons rfl (Keep.app rfl (Keep.rm rfl Keep.base))))))))))))))))))))))))))))))⟩, by simp only; omega⟩
         | exact ⟨(i + 1, c2), ⟨⟨by simp only; omega, by simp only; omega, by simp only; omega, by simp only; rw [← hI.stop (by omega) (.inr ⟨A1, pv, rfl, by unfold cmpI at *; split at * <;> omega⟩)]; exact hCF2, hh⟩, (hf.head (by repeat' (first | exact True.intro | refine And.intro rfl ?_)) (Keep.cons rfl (Keep.cons rfl (Keep.cons rfl (Keep.cons rfl (Keep.cons rfl (Keep.cons rfl (Keep.cons rfl (Keep.cons rfl (Keep.cons rfl (Keep.cons rfl (Keep.cons rfl (Keep.cons rfl (Keep.cons rfl (Keep.cons rfl (Keep.cons rfl (Keep.cons rfl (Keep.cons rfl (Keep.cons rfl (Keep.cons rfl (Keep.cons rfl (Keep.app rfl (Keep.rm rfl (Keep.cons rfl (Keep.cons rfl (Keep.cons rfl (Keep.cons rfl (Keep.cons rfl (Keep.app rfl (Keep.rm rfl Keep.base))))))))))))))))))))))))))))))⟩, by simp only; omega⟩
         | omega
     ·have hG4 := hg4; try simp only [gS] at hG4
      refine mc_off rfl hf (goff rfl rfl rfl (by first | assumption | rfl | (simp; done) | (simp; omega))) rfl rfl ?_; clear hf a; intro a hf
      refine mc_off rfl hf (goff rfl rfl rfl (by first | assumption | rfl | (simp; done) | (simp; omega))) rfl rfl ?_; clear hf a; intro a hf
      refine mc_off rfl hf (goff rfl rfl rfl (by first | assumption | rfl | (simp; done) | (simp; omega))) rfl rfl ?_; clear hf a; intro a hf
      refine mc_off rfl hf (goff rfl rfl rfl (by first | assumption | rfl | (simp; done) | (simp; omega))) rfl rfl ?_; clear hf a; intro a hf
      refine mc_offq rfl rfl hh hf (goff rfl rfl rfl (by first | assumption | rfl | (simp; done) | (simp; omega))) rfl rfl ?_; clear hf a; intro a hf
      refine mc_off rfl hf (goff rfl rfl rfl (by first | assumption | rfl | (simp; done) | (simp; omega))) rfl rfl ?_; clear hf a; intro a hf
      refine mc_off rfl hf (goff rfl rfl rfl (by first | assumption | rfl | (simp; done) | (simp; omega))) rfl rfl ?_; clear hf a; intro a hf
      refine mc_off rfl hf (goff rfl rfl rfl (by first | assumption | rfl | (simp; done) | (simp; omega))) rfl rfl ?_; clear hf a; intro a hf
      refine mc_off rfl hf (goff rfl rfl rfl (by first | assumption | rfl | (simp; done) | (simp; omega))) rfl rfl ?_; clear hf a; intro a hf
      refine mc_offq rfl rfl hh hf (goff rfl rfl rfl (by first | assumption | rfl | (simp; done) | (simp; omega))) rfl rfl ?_; clear hf a; intro a hf
      refine mc_e rfl fun Q1 => ?_
      refine o_off hf ?_; clear hf a; intro a hf
      refine ops_end ?_
      refine then_n ⟨⟨fun _ _ => hh, trivial⟩, ?_⟩
      refine mc_off rfl hf (goff rfl rfl rfl (by first | assumption | rfl | (simp; done) | (simp; omega))) rfl rfl ?_; clear hf a; intro a hf
      refine mc_p rfl   hf (y_pf rfl rfl) (.inl rfl) rfl rfl ?_; clear hf a; intro a hf
      refine mc_end ?_
      refine then_n ?_
      refine c_f hf ?_
      refine sy_exit ?_
      refine then_e ?_
      refine then_e ?_
      refine blk_e ?_
      refine blk_n ?_
      refine then_n ?_
      refine sy_ops ?_
      refine o_v hf hh (yv_move rfl) ?_; clear hf a; intro a hf
      refine o_v hf hh (y_add rfl rfl) ?_; clear hf a; intro a hf
      refine o_v hf hh (yv_assign rfl) ?_; clear hf a; intro a hf
      refine ops_end ?_
      refine then_n ?_
      first
        | exact ⟨(i + 1, c2), ⟨⟨by simp only; omega, by simp only; omega, by simp only; omega, by simp only; rw [← hI.stop (by omega) (.inl (by omega))]; exact hCF2, hh⟩, (hf.head (by repeat' (first | exact True.intro | refine And.intro rfl ?_)) (Keep.cons rfl (Keep.cons rfl (Keep.cons rfl (Keep.cons rfl (Keep.cons rfl (Keep.cons rfl (Keep.cons rfl (Keep.cons rfl (Keep.cons rfl (Keep.cons rfl (Keep.cons rfl (Keep.cons rfl (Keep.cons rfl (Keep.cons rfl (Keep.cons rfl (Keep.cons rfl (Keep.cons rfl (Keep.cons rfl (Keep.cons rfl (Keep.cons rfl (Keep.app rfl (Keep.rm rfl (Keep.cons rfl (Keep.cons rfl (Keep.cons rfl (Keep.cons rfl (Keep.cons rfl (Keep.app rfl (Keep.rm rfl Keep.base))))))))))))))))))))))))))))))⟩, by simp only; omega⟩
        | exact ⟨(i + 1, c2), ⟨⟨by simp only; omega, by simp only; omega, by simp only; omega, by simp only; rw [← hI.stop (by omega) (.inr ⟨A1, pv, rfl, by unfold cmpI at *; split at * <;> omega⟩)]; exact hCF2, hh⟩, (hf.head (by repeat' (first | exact True.intro | refine And.intro rfl ?_)) (Keep.cons rfl (Keep.cons rfl (Keep.cons rfl (Keep.cons rfl (Keep.cons rfl (Keep.cons rfl (Keep.cons rfl (Keep.cons rfl (Keep.cons rfl (Keep.cons rfl (Keep.cons rfl (Keep.cons rfl (Keep.cons rfl (Keep.cons rfl (Keep.cons rfl (Keep.cons rfl (Keep.cons rfl (Keep.cons rfl (Keep.cons rfl (Keep.cons rfl (Keep.app rfl (Keep.rm rfl (Keep.cons rfl (Keep.cons rfl (Keep.cons rfl (Keep.cons rfl (Keep.cons rfl (Keep.app rfl (Keep.rm rfl Keep.base))))))))))))))))))))))))))))))⟩, by simp only; omega⟩
        | omega
   ·have hG2 := hg2; try simp only [gS] at hG2
    refine sy_exit ?_
    refine then_e ?_
    refine then_e ?_
    refine blk_e ?_
    refine ret_n hf rfl rfl ?_
    obtain rfl : i = m := by omega
    exact ⟨c1, by rw [← rowN_end]; exact hCF, hsz, hh⟩
theorem p103 (f : Nat → Int) (m Bd cap : Nat) (cur : Array Value) (Bn Bs : Nat) (u : World) (h1 : 1 ≤ m) (h5 : m ≤ 5) (hb : u.heap[Bd]? = some (.cells cur 3 (0, 0))) (hF : CF cur m (fun j => (j : Int))) (hC : ∀ (w1 : World), Ext [Bd] u w1 → ∀ x y, x < m → y < m → Calls Try.prog 96 #[.int .i64 (x : Nat), .int .i64 (y : Nat), ptr Bn 0, ptr Bs 0] w1 (Ret fun v w2 => v = .int .i64 (cmpI (f y) (f x)) ∧ Ext [] w1 w2)) : Calls Try.prog 140 #[.slice (some ⟨Bd, 0, none⟩) m cap, .int .i64 (m : Nat), .func (.func 96) #[] #[ptr Bn 0, ptr Bs 0]] u (Ret fun _ w' => ∃ cur', CF cur' m (sq (srtL f m)) ∧ cur'.size = cur.size ∧ Hp u [Bd] [(Bd, .cells cur' 3)] w') := by
  refine calls_of Try.func140 rfl rfl (fun a hf => ?_)
  have hh := Hp.init1 hb
  refine sy_sq ?_
  refine o_v hf hh (yv_assign rfl) ?_; clear hf a; intro a hf
  refine o_end ?_
  refine sy_sq ?_
  refine o_v hf hh (yv_move rfl) ?_; clear hf a; intro a hf
  refine o_v hf hh (yv_assign rfl) ?_; clear hf a; intro a hf
  refine o_v hf hh (yv_assign rfl) ?_; clear hf a; intro a hf
  refine o_end ?_
  refine sy_seq ?_
  refine sy_block ?_
  refine sy_loopH (σ := Unit) [7, 8, 11, 12, 13, 14, 15, 16, 17, 18, 19, 20, 21, 22] (fun z => [(7, .int .i64 0), (8, .int .i64 20)]) (fun z => fun w' => Hp u [Bd] [(Bd, .cells cur 3)] w') (fun z => 0) (()) hf ?_ ?_ ?_
  · repeat' (first | exact True.intro | refine And.intro rfl ?_)
  · first | exact True.intro | omega | (simp; omega) | simp
  ·rintro z a w hh hf
   refine sy_seq ?_
   refine sy_sq ?_
   refine o_v hf hh (yv_move rfl) ?_; clear hf a; intro a hf
   refine o_v hf hh (yv_move rfl) ?_; clear hf a; intro a hf
   refine o_v hf hh (yv_bin rfl rfl rfl) ?_; clear hf a; intro a hf
   refine o_end ?_
   refine c_f hf ?_
   refine sy_exit ?_
   refine then_e ?_
   refine then_e ?_
   refine blk_e ?_
   refine then_n ?_
   refine sy_sq ?_
   refine o_v hf hh (yv_move rfl) ?_; clear hf a; intro a hf
   refine o_v hf hh (yv_move rfl) ?_; clear hf a; intro a hf
   refine o_v hf hh (yv_move rfl) ?_; clear hf a; intro a hf
   refine o_v hf hh (yv_move rfl) ?_; clear hf a; intro a hf
   refine o_call hf Try.en_162 rfl rfl rfl (p114 f m Bd cap cur Bn Bs _ h1 h5 (hh.at (i := 0) rfl) hF (fun w1 e => hC w1 (hh.ext.trans e))) ?_; clear hf a; intro v a w hR hf
   obtain ⟨cur1, hC1, hs1, hx⟩ := hR; replace hh := hh.turn (i := 0) rfl hx.ext (hx.at (i := 0) rfl); clear hx
   refine o_end ?_
   refine sy_block ?_
   refine sy_loopH (σ := Unit) [6, 7, 8, 9, 28, 29, 30, 31, 32, 33, 34, 35, 36, 37, 38, 39, 40, 41, 42, 43, 44, 45, 46, 47, 48, 49, 50, 51, 52, 53, 54, 55, 56, 57, 58, 59, 60, 61, 62] (fun z => [(6, .int .i64 20)]) (fun z => fun w' => ∃ cur', CF cur' m (sq (srtL f m)) ∧ cur'.size = cur.size ∧ Hp u [Bd] [(Bd, .cells cur' 3)] w') (fun z => 0) (()) hf ?_ ?_ ?_
   · repeat' (first | exact True.intro | refine And.intro rfl ?_)
   · exact ⟨cur1, hC1, hs1, hh⟩
   ·rintro z a w ⟨cur2, hC2, hs2, hh⟩ hf
    refine sy_seq ?_
    refine sy_sq ?_
    refine o_v hf hh (yv_move rfl) ?_; clear hf a; intro a hf
    refine o_v hf hh (yv_move rfl) ?_; clear hf a; intro a hf
    refine o_v hf hh (yv_bin rfl rfl rfl) ?_; clear hf a; intro a hf
    refine o_end ?_
    refine c_f hf ?_
    refine sy_exit ?_
    refine then_e ?_
    refine then_e ?_
    refine blk_e ?_
    refine ret_n hf rfl rfl ?_
    exact ⟨cur2, hC2, hs2, hh⟩
theorem p93 (f : Nat → Int) (m Bd cap : Nat) (cur : Array Value) (Bn Bs : Nat) (u : World) (h1 : 1 ≤ m) (h5 : m ≤ 5) (hb : u.heap[Bd]? = some (.cells cur 3 (0, 0))) (hF : CF cur m (fun j => (j : Int))) (hC : ∀ (w1 : World), Ext [Bd] u w1 → ∀ x y, x < m → y < m → Calls Try.prog 96 #[.int .i64 (x : Nat), .int .i64 (y : Nat), ptr Bn 0, ptr Bs 0] w1 (Ret fun v w2 => v = .int .i64 (cmpI (f y) (f x)) ∧ Ext [] w1 w2)) : Calls Try.prog 98 #[.slice (some ⟨Bd, 0, none⟩) m cap, .func (.func 96) #[] #[ptr Bn 0, ptr Bs 0]] u (Ret fun _ w' => ∃ cur', CF cur' m (sq (srtL f m)) ∧ cur'.size = cur.size ∧ Hp u [Bd] [(Bd, .cells cur' 3)] w') := by
  refine calls_of Try.func98 rfl rfl (fun a hf => ?_)
  have hh := Hp.init1 hb
  refine sy_ops ?_
  refine o_v hf hh (yv_move rfl) ?_; clear hf a; intro a hf
  refine o_v hf hh (yv_move rfl) ?_; clear hf a; intro a hf
  refine o_v hf hh (yv_len Try.se_25 rfl) ?_; clear hf a; intro a hf
  refine o_v hf hh (yv_move rfl) ?_; clear hf a; intro a hf
  refine o_call hf Try.en_140 rfl rfl rfl (p103 f m Bd cap cur Bn Bs _ h1 h5 (hh.at (i := 0) rfl) hF (fun w1 e => hC w1 (hh.ext.trans e))) ?_; clear hf a; intro v a w hR hf
  obtain ⟨cur1, hC1, hs1, hx⟩ := hR; replace hh := hh.turn (i := 0) rfl hx.ext (hx.at (i := 0) rfl); clear hx
  refine ops_end ?_
  refine ret_n hf rfl rfl ?_
  exact ⟨cur1, hC1, hs1, hh⟩
end Go.Proofs.Ytccpgpnekoncoaa
namespace Go.Proofs.Ytccpgpnekoncoaa
set_option maxRecDepth 100000
open Go Go.Sy Go.RoyM
theorem p72f (n : Int) (l : List Int) (m : Nat) (hm : m = l.length) (sa : Option Addr) (c0 : Nat) (u : World) (hA : IAt u sa (floors n l)) (h0 : 0 ≤ n) (h1 : n ≤ 1099511627776) (hs : ∀ s ∈ l, 0 ≤ s ∧ s ≤ 1000) (hl : l.length ≤ 1000) : Calls Try.prog 58 #[.slice sa m c0] u (Ret fun v w' => v = .int .i64 (sumI (floors n l)) ∧ Ext [] u w') := by
  have h := p72 (floors n l) sa c0 u hA (by rw [floors_len]; exact hl) (floors_bd h0 h1 hs hl)
  rw [floors_len, ← hm] at h
  exact h
theorem p50 (n : Int) (l : List Int) (sa : Option Addr) (c0 : Nat) (u : World) (hA : IAt u sa l) (hS : ShOk l) (h0 : 0 ≤ n) (h1 : n ≤ 1099511627776) : Calls Try.prog 55 #[.int .i64 n, .slice sa l.length c0] u (Ret fun v w' => ∃ Bo cur, v = .slice (some ⟨Bo, 0, none⟩) l.length l.length ∧ CF cur l.length (fun j => (splitL n l).getD j 0) ∧ Hp u [] [(Bo, .cells cur 3)] w') := by
  refine calls_of Try.func55 rfl rfl (fun a hf => ?_)
  have hh := Hp.init u []
  have hs1 := hS.n1; have hs2 := hS.n2; have hsb := hS.bd
  obtain ⟨m, hm⟩ : ∃ m, m = l.length := ⟨_, rfl⟩
  have hlb := left_bd (n := n) hS
  have hlk : ((leftN n l : Nat) : Int) = n - sumI (floors n l) := by unfold leftN; omega
  refine sy_sq ?_
  refine o_box hf hh ?_; clear hf hh a; intro B2 a w hf hh
  refine o_box hf hh ?_; clear hf hh a; intro B3 a w hf hh
  refine o_v hf hh (yv_assign rfl) ?_; clear hf a; intro a hf
  refine o_end ?_
  refine sy_sq ?_
  refine o_v hf hh (y_ld Try.sc_25 rfl) ?_; clear hf a; intro a hf
  refine o_v hf hh (yv_len Try.se_25 rfl) ?_; clear hf a; intro a hf
  refine ops_make hf hh Try.eb_25 rfl rfl (by omega) (by omega) (.inl rfl) rfl ?_; clear hf hh a; intro Bo a w hf hh
  refine o_v hf hh (yv_assign rfl) ?_; clear hf a; intro a hf
  refine o_end ?_
  refine sy_sq ?_
  refine o_v hf hh (yv_makeFunc rfl rfl) ?_; clear hf a; intro a hf
  refine o_v hf hh (yv_buildS Try.bs_184 rfl rfl) ?_; clear hf a; intro a hf
  refine o_alloc hf hh Try.ze_184 ?_; clear hf hh a; intro B6 a w hf hh
  refine o_store hf hh Try.sz_184 fun w hh => ?_
  refine o_end ?_
  refine sy_seq ?_
  refine sy_sq ?_
  refine o_v hf hh (y_ld Try.sc_25 rfl) ?_; clear hf a; intro a hf
  refine o_v hf hh (yv_len Try.se_25 rfl) ?_; clear hf a; intro a hf
  refine o_v hf hh (yv_move rfl) ?_; clear hf a; intro a hf
  refine o_end ?_
  refine sy_block ?_
  refine sy_loopH (σ := Nat × Array Value × Value × List (Nat × Obj)) [7, 8, 18, 19, 20, 21, 22, 23, 24, 25, 26, 27, 28, 29, 30, 31, 32, 33, 34, 35, 36] (fun s => [(18, .int .i64 (s.1 : Nat))]) (fun s => fun w' => s.1 ≤ l.length ∧ CF s.2.1 l.length (floF n l s.1) ∧ OwnSl 3 1 s.2.2.1 s.1 (rngV s.1) s.2.2.2 ∧ Hp u [] ([(Bo, .cells s.2.1 3), (B6, .cells #[s.2.2.1, .func (.func 96) #[] #[ptr B2 0, ptr B3 0]] 184), (B3, .cells #[.slice sa l.length c0] 25), (B2, .cells #[.int .i64 n] 3)] ++ s.2.2.2) w') (fun s => l.length - s.1) ((0, madeCells (Value.int .i64 0).cells (l.length * 1), .slice none 0 0, [])) hf ?_ ?_ ?_
  · repeat' (first | exact True.intro | refine And.intro rfl ?_)
  · exact ⟨Nat.zero_le _, (made_CF _).congr fun j _ => by unfold floF; rw [if_neg (by omega)], OwnSl.nil _ _, hh.perm (.swap _ _ _)⟩
  ·rintro s a w ⟨hi, hCF, hO, hh⟩ hf
   obtain ⟨i, cur, vp, X⟩ := s; simp only at hi hCF hO hh hf ⊢
   refine sy_sq ?_
   refine o_v hf hh (yv_bin rfl rfl rfl) ?_; clear hf a; intro a hf
   refine o_end ?_
   refine sy_seq ?_
   refine sy_cond hf rfl (fun hg3 => ?_) (fun hg3 => ?_)
   ·have hG3 := hg3; try simp only [gS] at hG3
    refine sy_skip ?_
    refine then_n ?_
    refine sy_seq ?_
    refine sy_block ?_
    refine sy_seq ?_
    obtain ⟨x, hx⟩ := ex_of (l := l) (i := i) (by omega)
    obtain ⟨blk, off, cc, T, fr, e, hb, hc⟩ := hA i x hx
    have hxs := hsb x (List.mem_of_getElem? hx)
    have hmu := mul_facts h0 h1 hxs
    have hc1 := hCF.1
    have hCF2 := (hCF.put (j := i) (by omega) (flo n x)).congr fun j hj => floF_step hx j
    subst e
    refine sy_ops ?_
    refine o_v hf hh (yv_move rfl) ?_; clear hf a; intro a hf
    refine o_v hf hh (y_ix Try.se_25 rfl rfl) ?_; clear hf a; intro a hf
    refine o_v hf hh (y_ld Try.sc_3 rfl) ?_; clear hf a; intro a hf
    refine o_v hf hh (yv_assign rfl) ?_; clear hf a; intro a hf
    refine o_v hf hh (yv_assign rfl) ?_; clear hf a; intro a hf
    refine o_end ?_
    refine sy_sq ?_
    refine o_v hf hh (yv_move rfl) ?_; clear hf a; intro a hf
    refine o_v hf hh (yv_move rfl) ?_; clear hf a; intro a hf
    refine o_v hf hh (y_ld Try.sc_3 rfl) ?_; clear hf a; intro a hf
    refine o_v hf hh (yv_move rfl) ?_; clear hf a; intro a hf
    refine o_v hf hh (y_mul rfl rfl) ?_; clear hf a; intro a hf
    refine o_v hf hh (yv_quo rfl rfl (by omega) (by omega) (by omega)) ?_; clear hf a; intro a hf
    refine o_v hf hh (y_ix Try.se_25 rfl rfl) ?_; clear hf a; intro a hf
    refine o_store (i := 0) hf hh Try.sz_3 (hx := rfl) (hi := atI (i := 0) rfl) (hy := rfl) (hl := Nat.ble_eq_true_of_le (by rw [Int.toNat_natCast]; omega)) fun w hh => ?_
    refine o_end ?_
    refine sy_ops ?_
    refine o_v hf hh (yv_fieldAddr Try.fo_184_0 rfl) ?_; clear hf a; intro a hf
    refine o_v hf hh (y_ld Try.sc_25 rfl) ?_; clear hf a; intro a hf
    refine o_v hf hh (yv_move rfl) ?_; clear hf a; intro a hf
    refine ops_buildSl hf hh Try.bl_25_1 rfl rfl (.inl rfl) rfl ?_; clear hf hh; clear a; intro B33 a w hf hh
    refine ops_append (e := 3) (size := 1) (xs := rngV i) (X := X) (Z := _) (m := i) (q := 1) hf (hh.perm (.cons _ (List.perm_append_comm (l₁ := [_, _, _, _]) (l₂ := X)))) Try.eb_25 rfl rfl hO rfl rfl rfl (by simp only [maxLen]; omega) (by omega) (.inl rfl) rfl ?_; clear hf hh a; intro vp2 X2 a w hO2 hf hh
    replace hh := hh.perm List.perm_append_comm
    obtain ⟨oa2, cpz, rfl⟩ := own_val hO2
    refine o_v hf hh (yv_fieldAddr Try.fo_184_0 rfl) ?_; clear hf a; intro a hf
    refine o_store hf hh Try.sz_25 fun w hh => ?_
    refine ops_end ?_
    refine blk_n ?_
    refine then_n ?_
    refine sy_ops ?_
    refine o_v hf hh (y_add rfl rfl) ?_; clear hf a; intro a hf
    refine o_v hf hh (yv_move rfl) ?_; clear hf a; intro a hf
    refine ops_end ?_
    refine then_n ?_
    exact ⟨(i + 1, _, .slice oa2 (i + 1) cpz, X2), ⟨⟨by simp only; omega, hCF2, by simp only; rw [rngV_succ]; exact hO2, hh⟩, (hf.head (by repeat' (first | exact True.intro | refine And.intro rfl ?_)) (Keep.cons rfl (Keep.cons rfl (Keep.cons rfl (Keep.cons rfl (Keep.cons rfl (Keep.cons rfl (Keep.cons rfl (Keep.cons rfl (Keep.cons rfl (Keep.cons rfl (Keep.cons rfl (Keep.cons rfl (Keep.cons rfl (Keep.cons rfl (Keep.cons rfl (Keep.cons rfl (Keep.cons rfl (Keep.cons rfl (Keep.cons rfl (Keep.cons rfl (Keep.cons rfl (Keep.app rfl (Keep.rm rfl Keep.base))))))))))))))))))))))))⟩, by simp only; omega⟩
   ·have hG3 := hg3; try simp only [gS] at hG3
    refine sy_exit ?_
    refine then_e ?_
    refine then_e ?_
    refine blk_e ?_
    refine then_n ?_
    refine sy_seq ?_
    obtain rfl : i = l.length := by omega
    obtain ⟨Bp, cap, curp, rfl, rfl, hcap1, hcap2, hcs, hct⟩ := own_pos hO (by omega)
    have hCp := rngV_CF (by omega) hct
    refine sy_ops ?_
    refine o_v hf hh (yv_fieldAddr Try.fo_184_0 rfl) ?_; clear hf a; intro a hf
    refine o_v hf hh (y_ld Try.sc_25 rfl) ?_; clear hf a; intro a hf
    refine o_v hf hh (yv_fieldAddr Try.fo_184_1 rfl) ?_; clear hf a; intro a hf
    refine o_v hf hh (y_ld Try.sc_182 rfl) ?_; clear hf a; intro a hf
    refine o_call hf Try.en_98 rfl rfl rfl (p93 (remF n l) l.length Bp cap curp B2 B3 _ hs1 hs2 (hh.at (i := 4) rfl) hCp (fun w1 e x y hx hy => p91 n l sa c0 B2 B3 x y w1 (hA.ext (hh.extM e (by simp))) (by omega) (hh.apart (i := 3) (j := 4) rfl rfl (by omega) e) (hh.apart (i := 2) (j := 4) rfl rfl (by omega) e) h0 h1 hsb hx hy)) ?_; clear hf a; intro v a w hR hf
    obtain ⟨cp2, hC2, hsz2, hx⟩ := hR; replace hh := hh.turn (i := 4) rfl hx.ext (hx.at (i := 0) rfl); clear hx
    refine o_end ?_
    refine sy_seq ?_
    refine sy_seq ?_
    refine sy_tree1 (.p 0 (.q 0 1 (.q 0 2 (.p 3 (.p 8 (.e1 4 (.p 5 (.p 6 (.p 7 (.fin)))))))))) [] Try.follows (by kernel_rfl) hh (fun w hh => ?_)
    refine mc_p rfl   hf (yv_fieldAddr Try.fo_184_0 rfl) (.inl rfl) rfl rfl ?_; clear hf a; intro a hf
    refine mc_q rfl rfl hh hf (y_ld Try.sc_25 rfl) (.inl rfl) rfl rfl ?_; clear hf a; intro a hf
    refine mc_q rfl rfl hh hf (y_ld Try.sc_3 rfl) (.inl rfl) rfl rfl ?_; clear hf a; intro a hf
    refine mc_p rfl   hf (yv_move rfl) (.inl rfl) rfl rfl ?_; clear hf a; intro a hf
    refine mc_p rfl   hf (yv_move rfl) (.inl rfl) rfl rfl ?_; clear hf a; intro a hf
    refine mc_e rfl fun Q1 => ?_
    refine o_call hf Try.en_58 rfl rfl rfl (p72f n l l.length rfl _ _ _ (CF.iat (by rw [floors_len]; exact hCF.congr fun j hj => by rw [floors_at hj]; unfold floF; rw [if_pos hj]) (hh.at (i := 0) rfl)) h0 h1 hsb (by omega)) ?_; clear hf a; intro v a w hR hf
    obtain ⟨rfl, hx⟩ := hR; replace hh := hh.more hx; clear hx
    refine ops_end ?_
    refine then_n ⟨⟨fun _ _ => hh, trivial⟩, ?_⟩
    refine mc_p rfl   hf (yv_cast (yv_sub rfl rfl (by omega) (by omega)) (intv (b := ((leftN n l : Nat) : Int)) hlk.symm)) (.inl rfl) rfl rfl ?_; clear hf a; intro a hf
    refine mc_p rfl   hf (yv_cutHi (a := (some ⟨Bp, 0, none⟩)) (n := l.length) (c := cap) (m := leftN n l) Try.se_25 rfl rfl (by omega)) (.inl rfl) rfl rfl ?_; clear hf a; intro a hf
    refine mc_p rfl   hf (yv_len Try.se_25 rfl) (.inl rfl) rfl rfl ?_; clear hf a; intro a hf
    refine mc_end ?_
    refine then_n ?_
    refine sy_block ?_
    refine sy_loopH (σ := Nat × Array Value) [10, 50, 51, 52, 53, 54, 55, 56, 57, 58, 59, 60] (fun s => [(50, .int .i64 (s.1 : Nat))]) (fun s => fun w' => s.1 ≤ leftN n l ∧ CF s.2 l.length (outF n l s.1) ∧ Hp u [] [(Bp, .cells cp2 3), (Bo, .cells s.2 3)] w') (fun s => leftN n l - s.1) ((0, cur)) hf ?_ ?_ ?_
    · repeat' (first | exact True.intro | refine And.intro rfl ?_)
    · exact ⟨Nat.zero_le _, hCF.congr fun j hj => by rw [out_zero]; unfold floF; rw [if_pos (by omega)], (hh.perm (List.perm_append_comm (l₁ := [_, _, _, _]) (l₂ := [_]))).less (.cons_cons _ (.cons_cons _ (List.nil_sublist _)))⟩
    ·rintro s a w ⟨hi2, hCF2, hh⟩ hf
     obtain ⟨j, cur3⟩ := s; simp only at hi2 hCF2 hh hf ⊢
     refine sy_sq ?_
     refine o_v hf hh (yv_bin rfl rfl rfl) ?_; clear hf a; intro a hf
     refine o_end ?_
     refine sy_seq ?_
     refine sy_cond hf rfl (fun hg10 => ?_) (fun hg10 => ?_)
     ·have hG10 := hg10; try simp only [gS] at hG10
      refine sy_skip ?_
      refine then_n ?_
      refine sy_seq ?_
      refine sy_block ?_
      refine sy_seq ?_
      obtain ⟨o, ho⟩ : ∃ o, o = (ordL n l).getD j 0 := ⟨_, rfl⟩
      have hjl : j < l.length := by omega
      have hol : o < l.length := by rw [ho]; exact ord_lt hjl
      have g1 := hC2.2 j hjl
      have e1 : sq (srtL (remF n l) l.length) j = ((o : Nat) : Int) := by rw [ho]; rfl
      rw [e1] at g1
      have g2 := hCF2.2 o hol
      have hob := out_bd h0 h1 hsb j hol
      have hc1 := hCF2.1
      have hCF3 := (hCF2.put (j := o) hol (outF n l j o + 1)).congr (G := outF n l (j + 1)) fun z hz => by
        rw [out_step hjl, ← ho]
        by_cases h9 : z = o
        · rw [if_pos h9, if_pos h9, h9]
        · rw [if_neg h9, if_neg h9]
      refine sy_ops ?_
      refine o_v hf hh (y_ix Try.se_25 rfl rfl) ?_; clear hf a; intro a hf
      refine o_v hf hh (y_ld Try.sc_3 rfl) ?_; clear hf a; intro a hf
      refine o_v hf hh (yv_assign rfl) ?_; clear hf a; intro a hf
      refine o_end ?_
      refine sy_ops ?_
      refine o_v hf hh (yv_move rfl) ?_; clear hf a; intro a hf
      refine o_v hf hh (yv_move rfl) ?_; clear hf a; intro a hf
      refine o_v hf hh (y_ix Try.se_25 rfl rfl) ?_; clear hf a; intro a hf
      refine o_v hf hh (y_ld Try.sc_3 rfl) ?_; clear hf a; intro a hf
      refine o_v hf hh (y_add rfl rfl) ?_; clear hf a; intro a hf
      refine o_v hf hh (y_ix Try.se_25 rfl rfl) ?_; clear hf a; intro a hf
      refine o_store (i := 1) hf hh Try.sz_3 (hx := rfl) (hi := atI (i := 1) rfl) (hy := rfl) (hl := Nat.ble_eq_true_of_le (by rw [Int.toNat_natCast]; omega)) fun w hh => ?_
      refine ops_end ?_
      refine blk_n ?_
      refine then_n ?_
      refine sy_ops ?_
      refine o_v hf hh (y_add rfl rfl) ?_; clear hf a; intro a hf
      refine o_v hf hh (yv_move rfl) ?_; clear hf a; intro a hf
      refine ops_end ?_
      refine then_n ?_
      exact ⟨(j + 1, _), ⟨⟨by simp only; omega, hCF3, hh⟩, (hf.head (by repeat' (first | exact True.intro | refine And.intro rfl ?_)) (Keep.cons rfl (Keep.cons rfl (Keep.cons rfl (Keep.cons rfl (Keep.cons rfl (Keep.cons rfl (Keep.cons rfl (Keep.cons rfl (Keep.cons rfl (Keep.cons rfl (Keep.cons rfl (Keep.cons rfl (Keep.app rfl (Keep.rm rfl Keep.base)))))))))))))))⟩, by simp only; omega⟩
     ·have hG10 := hg10; try simp only [gS] at hG10
      refine sy_exit ?_
      refine then_e ?_
      refine then_e ?_
      refine blk_e ?_
      refine then_n ?_
      refine sy_sq ?_
      refine o_v hf hh (yv_move rfl) ?_; clear hf a; intro a hf
      refine o_v hf hh (yv_assign rfl) ?_; clear hf a; intro a hf
      refine o_end ?_
      refine sy_ret ?_
      refine ret_r hf rfl rfl ?_
      obtain rfl : j = leftN n l := by omega
      exact ⟨Bo, cur3, rfl, hCF2.congr fun z hz => (split_get hz).symm, hh.less (.cons _ (.refl _))⟩
end Go.Proofs.Ytccpgpnekoncoaa
namespace Go.RoyM
open Go Go.Sy
def splB (n : Int) (l : List Int) : Bool := inI n 0 1099511627776 && shB l
def splV (n : Int) (l : List Int) : List Int := if splB n l then splitL n l else []
def splE (n : Int) (l : List Int) : Int := if splB n l then 0 else 1
theorem splV_ok {n : Int} {l : List Int} (h1 : inI n 0 1099511627776 = true) (h2 : shB l = true) : splV n l = splitL n l ∧ splE n l = 0 := by
  have e : splB n l = true := by unfold splB; rw [h1, h2]; rfl
  unfold splV splE; rw [e]; exact ⟨rfl, rfl⟩
theorem splV_no {n : Int} {l : List Int} (h : splB n l = false) : splV n l = [] ∧ splE n l = 1 := by
  unfold splV splE; rw [h]; exact ⟨rfl, rfl⟩
theorem inI_bd {n a b : Int} (h : inI n a b = true) : a ≤ n ∧ n ≤ b := by unfold inI at h; simpa using h
/-- A list of numbers that is one's own. -/
def OwnN (oa : Option Addr) (cap : Nat) (l : List Int) (H : List (Nat × Obj)) : Prop :=
  (oa = none ∧ cap = 0 ∧ l = [] ∧ H = []) ∨ ∃ B cur, oa = some ⟨B, 0, none⟩ ∧ cap = l.length ∧ H = [(B, .cells cur 3 (0, 0))] ∧ CF cur l.length (fun j => l.getD j 0)
theorem OwnN.iat {oa : Option Addr} {cap : Nat} {l : List Int} {H : List (Nat × Obj)} {w : World} (h : OwnN oa cap l H) (hH : ∀ q ∈ H, w.heap[q.1]? = some q.2) : IAt w oa l := by
  rcases h with ⟨_, _, rfl, _⟩ | ⟨B, cur, rfl, _, rfl, h⟩
  · intro i x hi; simp at hi
  · exact h.iat (hH _ (.head _))
def comW (t : TermD) (price many : Int) : Int := if comB t price many then comV t price many else 0
def comE (t : TermD) (price many : Int) : Int := if comB t price many then 0 else 1
theorem comB_in (t : TermD) (price many : Int) : comB t price many = (termB t && inI price 0 1048576 && inI many 0 12) := rfl
def twA (d : RoyD) : Nat × Nat := (twV d).getD (0, 0)
theorem twF_keep {l : List RepD} {i k : Nat} {q : Nat × Nat} (h : twF l i = some q) : twF l (i + k) = some q := by
  induction k with
  | zero => exact h
  | succ k ih => rw [← Nat.add_assoc, twF, ih]
theorem twF_hit {l : List RepD} {i j : Nat} {x y : RepD} (h0 : twF l i = none) (hx : l[i]? = some x) (hj : j < i) (hy : l[j]? = some y) (hm : meetB x y = true) (hn : ∀ z, z < j → ∀ t, l[z]? = some t → meetB x t = false) : twF l l.length = some (i, j) := by
  have hi := len_of hx
  have e : twF l (i + 1) = some (i, j) := by
    rw [twF, h0]
    simp only [hx]
    have : twIn (l.take i) x = some j := by
      unfold twIn
      rw [List.findIdx?_eq_some_iff_getElem]
      have hl : j < (l.take i).length := by rw [List.length_take]; omega
      refine ⟨hl, ?_, fun z hz => ?_⟩
      · have : (l.take i)[j] = y := by rw [List.getElem_take]; exact (List.getElem?_eq_some_iff.1 hy).2
        rw [this]; exact hm
      · rw [List.getElem_take]
        have := hn z hz (l[z]'(by omega)) (List.getElem?_eq_getElem (by omega))
        rw [this]; decide
    rw [this]
  have := twF_keep (k := l.length - (i + 1)) e
  rwa [show i + 1 + (l.length - (i + 1)) = l.length by omega] at this
theorem twF_miss {l : List RepD} {i : Nat} {x : RepD} (h0 : twF l i = none) (hx : l[i]? = some x) (hn : ∀ z, z < i → ∀ t, l[z]? = some t → meetB x t = false) : twF l (i + 1) = none := by
  rw [twF, h0]
  simp only [hx]
  have : twIn (l.take i) x = none := by
    unfold twIn
    rw [List.findIdx?_eq_none_iff]
    intro t ht
    obtain ⟨z, hz⟩ := List.mem_iff_getElem?.1 ht
    rw [List.getElem?_take] at hz
    split at hz
    · exact hn z (by assumption) t hz
    · cases hz
  rw [this]
def ivs (l : List Int) : List Value := l.map fun x => .int .i64 x
theorem own_iat {v : Value} {m : Nat} {l : List Int} {X : List (Nat × Obj)} {w : World} (h : OwnSl 3 1 v m (ivs l) X) (hX : ∀ q ∈ X, w.heap[q.1]? = some q.2) : ∃ oa cap, v = .slice oa m cap ∧ m = l.length ∧ IAt w oa l := by
  have hm : m = l.length := by have := h.1; unfold ivs at this; rw [List.length_map, Nat.mul_one] at this; exact this.symm
  rcases h.2 with ⟨h1, h2, _⟩ | ⟨B, cap, cur, h1, h2, _, _, h5, h6⟩
  · refine ⟨none, 0, by rw [h1, h2], hm, fun i x hi => ?_⟩
    have := len_of hi
    omega
  · refine ⟨_, _, h1, hm, fun i x hi => ⟨B, 0, cur, 3, (0, 0), rfl, hX (B, .cells cur 3 (0, 0)) (by rw [h2]; exact .head _), ?_⟩⟩
    have hl := len_of hi
    have h7 : (ivs l)[i]? = some (.int .i64 x) := by unfold ivs; rw [List.getElem?_map, hi]; rfl
    rw [← h6, Nat.mul_one, List.getElem?_take, if_pos (by omega)] at h7
    rw [Int.toNat_natCast, Nat.zero_add, Nat.mul_one, ← Array.getElem?_toList]
    exact h7
/-- What an agent is owed, kind by kind. -/
def lowL (d : RoyD) (g i : Nat) : List Int := -(d.paid.getD g 0) :: (List.range i).map fun k => comV (termN d g) (d.prices.getD k 0) (pc (surN d k g) : Nat)
def higL (d : RoyD) (g i : Nat) : List Int := -(d.paid.getD g 0) :: (List.range i).map fun k => comV (termN d g) (d.prices.getD k 0) (pc (clm d k g) : Nat)
theorem lowL_succ (d : RoyD) (g i : Nat) : lowL d g (i + 1) = lowL d g i ++ [comV (termN d g) (d.prices.getD i 0) (pc (surN d i g) : Nat)] := by unfold lowL; rw [List.range_succ, List.map_append]; rfl
theorem higL_succ (d : RoyD) (g i : Nat) : higL d g (i + 1) = higL d g i ++ [comV (termN d g) (d.prices.getD i 0) (pc (clm d i g) : Nat)] := by unfold higL; rw [List.range_succ, List.map_append]; rfl
theorem pc_lt : ∀ {k n : Nat}, k ≤ 64 → n < 2 ^ k → pc n ≤ k
  | 0, n, _, h => by
    obtain rfl : n = 0 := by simpa using h
    rw [pc_zero]; exact Nat.le_refl _
  | k + 1, n, hk, h => by
    have h1 : n < 2 ^ 64 := Nat.lt_of_lt_of_le h (Nat.pow_le_pow_right (by omega) hk)
    rw [Nat.pow_succ] at h
    have h2 := pc_lt (k := k) (n := n / 2) (by omega) (by omega)
    rw [pc_step h1]
    omega
theorem pc_12 {x : Nat} (h : x < 4096) : pc x ≤ 12 := pc_lt (k := 12) (by omega) h
theorem ivs_app (l m : List Int) : ivs (l ++ m) = ivs l ++ ivs m := List.map_append
theorem owe_take {d : RoyD} (hO : RoyOk d) {g : Nat} (hg : g < d.terms.length) (F : Nat → Nat) (hF : ∀ k, F k ≤ 12) (i : Nat) : -4611686018427387904 ≤ sumI ((-(d.paid.getD g 0) :: (List.range d.prices.length).map fun k => comV (termN d g) (d.prices.getD k 0) (F k : Nat)).take i) ∧ sumI ((-(d.paid.getD g 0) :: (List.range d.prices.length).map fun k => comV (termN d g) (d.prices.getD k 0) (F k : Nat)).take i) ≤ 4611686018427387904 := by
  obtain ⟨t, ht⟩ := ex_of hg
  obtain ⟨pd, hpd⟩ := ex_of (l := d.paid) (i := g) (by have := hO.npd; omega)
  have hp := hO.pd pd (List.mem_of_getElem? hpd)
  rw [getD_at hpd, term_at ht]
  have h := take_bd (b := 1099511627776) (l := -pd :: (List.range d.prices.length).map fun k => comV t (d.prices.getD k 0) (F k : Nat)) (fun x hx => by
    rcases List.mem_cons.1 hx with rfl | hx
    · omega
    · obtain ⟨k, hk, rfl⟩ := List.mem_map.1 hx
      obtain ⟨pr, hpr⟩ := ex_of (List.mem_range.1 hk)
      have hb := hO.p pr (List.mem_of_getElem? hpr)
      rw [getD_at hpr]
      have := com_bd (hO.t t (List.mem_of_getElem? ht)) hb.1 hb.2 (hF k)
      omega) (by omega) i (by have := hO.np; simp; omega)
  omega
section
variable {α : Type} {A B C : List α}
theorem perm_mid : (A ++ (B ++ C)).Perm (B ++ (A ++ C)) := by
  rw [← List.append_assoc, ← List.append_assoc]
  exact List.perm_append_comm.append_right C
theorem perm_end : (A ++ (B ++ C)).Perm (C ++ (A ++ B)) := by
  rw [← List.append_assoc]
  exact List.perm_append_comm
theorem perm_back : (C ++ (A ++ B)).Perm (A ++ (B ++ C)) := perm_end.symm
end
end Go.RoyM
namespace Go.Proofs.Ytccpgpnekoncoaa
set_option maxRecDepth 100000
open Go Go.Sy Go.RoyM
theorem p15 (n : Int) (l : List Int) (sa : Option Addr) (c0 : Nat) (u : World) (hA : IAt u sa l) (hl : l.length ≤ 1000) : Calls Try.prog 14 #[.int .i64 n, .slice sa l.length c0] u (Ret fun v w' => ∃ oa cap H, v = .tuple #[.slice oa (splV n l).length cap, .int .i64 (splE n l)] ∧ OwnN oa cap (splV n l) H ∧ Hp u [] H w') := by
  refine calls_of Try.func14 rfl rfl (fun a hf => ?_)
  have hh := Hp.init u []
  refine sy_sq ?_
  refine o_v hf hh (yv_assign rfl) ?_; clear hf a; intro a hf
  refine o_v hf hh (yv_assign rfl) ?_; clear hf a; intro a hf
  refine o_end ?_
  refine sy_seq ?_
  refine sy_sq ?_
  refine o_v hf hh (yv_move rfl) ?_; clear hf a; intro a hf
  refine o_call hf Try.en_52 rfl rfl rfl (p48 _ _ _ _) ?_; clear hf a; intro v a w hR hf
  obtain ⟨rfl, hx⟩ := hR; replace hh := hh.more hx; clear hx
  refine o_v hf hh (yv_not rfl) ?_; clear hf a; intro a hf
  refine o_v hf hh (yv_move rfl) ?_; clear hf a; intro a hf
  refine guard_split hf (t := 9) rfl (fun hg2 => ?_) (fun hg2 => ?_)
  ·have hG2 := hg2; try simp only [gS] at hG2
   refine o_off hf ?_; clear hf a; intro a hf
   refine o_off hf ?_; clear hf a; intro a hf
   refine o_off hf ?_; clear hf a; intro a hf
   refine o_v hf hh (y_pt rfl rfl) ?_; clear hf a; intro a hf
   refine o_end ?_
   refine c_t hf ?_
   refine sy_sq ?_
   refine o_v hf hh (yv_assign rfl) ?_; clear hf a; intro a hf
   refine o_v hf hh (yv_assign rfl) ?_; clear hf a; intro a hf
   refine o_end ?_
   refine sy_ret ?_
   refine then_r ?_
   refine ret_r hf rfl rfl ?_
   obtain ⟨e1, e2⟩ := splV_no (n := n) (l := l) (by unfold splB; simp_all)
   exact ⟨none, 0, [], by rw [e1, e2]; rfl, .inl ⟨rfl, rfl, e1, rfl⟩, hh⟩
  ·have hG2 := hg2; try simp only [gS] at hG2
   refine o_v hf hh (yv_move rfl) ?_; clear hf a; intro a hf
   refine o_call hf Try.en_54 rfl rfl rfl (p49 l sa c0 _ (hA.ext hh.ext) hl) ?_; clear hf a; intro v a w hR hf
   obtain ⟨rfl, hx⟩ := hR; replace hh := hh.more hx; clear hx
   refine o_v hf hh (yv_not rfl) ?_; clear hf a; intro a hf
   refine o_v hf hh (y_pf rfl rfl) ?_; clear hf a; intro a hf
   refine o_end ?_
   refine sy_cond hf rfl (fun hg4 => ?_) (fun hg4 => ?_)
   ·have hG4 := hg4; try simp only [gS] at hG4
    refine sy_sq ?_
    refine o_v hf hh (yv_assign rfl) ?_; clear hf a; intro a hf
    refine o_v hf hh (yv_assign rfl) ?_; clear hf a; intro a hf
    refine o_end ?_
    refine sy_ret ?_
    refine then_r ?_
    refine ret_r hf rfl rfl ?_
    obtain ⟨e1, e2⟩ := splV_no (n := n) (l := l) (by unfold splB; simp_all)
    exact ⟨none, 0, [], by rw [e1, e2]; rfl, .inl ⟨rfl, rfl, e1, rfl⟩, hh⟩
   ·have hG4 := hg4; try simp only [gS] at hG4
    refine sy_skip ?_
    refine then_n ?_
    refine sy_seq ?_
    have hn1 : inI n 0 1099511627776 = true := by assumption
    have hs1 : shB l = true := by assumption
    obtain ⟨e1, e2⟩ := splV_ok hn1 hs1
    have hnb := inI_bd hn1
    refine sy_ops ?_
    refine o_v hf hh (yv_move rfl) ?_; clear hf a; intro a hf
    refine o_v hf hh (yv_move rfl) ?_; clear hf a; intro a hf
    refine o_call hf Try.en_55 rfl rfl rfl (p50 n l sa c0 _ (hA.ext hh.ext) (shB_iff.1 hs1) hnb.1 hnb.2) ?_; clear hf a; intro v a w hR hf
    obtain ⟨Bo, cur, rfl, hCF, hx⟩ := hR; replace hh := hh.join hx; clear hx
    refine o_v hf hh (yv_assign rfl) ?_; clear hf a; intro a hf
    refine o_v hf hh (yv_assign rfl) ?_; clear hf a; intro a hf
    refine o_end ?_
    refine sy_ret ?_
    refine ret_r hf rfl rfl ?_
    exact ⟨some ⟨Bo, 0, none⟩, l.length, [(Bo, .cells cur 3)], by rw [e1, e2, split_len]; rfl, .inr ⟨Bo, cur, rfl, by rw [e1, split_len], rfl, by rw [e1, split_len]; exact hCF⟩, hh⟩
theorem p17 (t : TermD) (price many : Int) (u : World) : Calls Try.prog 13 #[tmV t, .int .i64 price, .int .i64 many] u (Ret fun v w' => v = .tuple #[.int .i64 (comW t price many), .int .i64 (comE t price many)] ∧ Ext [] u w') := by
  refine calls_of Try.func13 rfl rfl (fun a hf => ?_)
  have hh := Hp.init u []
  refine sy_sq ?_
  refine o_box hf hh ?_; clear hf hh a; intro B3 a w hf hh
  refine o_v hf hh (yv_assign rfl) ?_; clear hf a; intro a hf
  refine o_v hf hh (yv_assign rfl) ?_; clear hf a; intro a hf
  refine o_end ?_
  refine sy_seq ?_
  refine sy_sq ?_
  refine o_v hf hh (y_lds Try.ag_23 rfl) ?_; clear hf a; intro a hf
  refine o_call hf Try.en_51 rfl rfl rfl (p52 t _) ?_; clear hf a; intro v a w hR hf
  obtain ⟨rfl, hx⟩ := hR; replace hh := hh.more hx; clear hx
  refine o_v hf hh (yv_not rfl) ?_; clear hf a; intro a hf
  refine o_v hf hh (yv_move rfl) ?_; clear hf a; intro a hf
  refine guard_split hf (t := 11) rfl (fun hg2 => ?_) (fun hg2 => ?_)
  ·have hG2 := hg2; try simp only [gS] at hG2
   refine o_off hf ?_; clear hf a; intro a hf
   refine o_off hf ?_; clear hf a; intro a hf
   refine o_off hf ?_; clear hf a; intro a hf
   refine o_v hf hh (y_pt rfl rfl) ?_; clear hf a; intro a hf
   refine o_v hf hh (yv_move rfl) ?_; clear hf a; intro a hf
   refine o_off hf ?_; clear hf a; intro a hf
   refine o_off hf ?_; clear hf a; intro a hf
   refine o_off hf ?_; clear hf a; intro a hf
   refine o_v hf hh (y_pt rfl rfl) ?_; clear hf a; intro a hf
   refine o_end ?_
   refine c_t hf ?_
   refine sy_sq ?_
   refine o_v hf hh (yv_assign rfl) ?_; clear hf a; intro a hf
   refine o_v hf hh (yv_assign rfl) ?_; clear hf a; intro a hf
   refine o_end ?_
   refine sy_ret ?_
   refine then_r ?_
   refine ret_r hf rfl rfl ?_
   refine ⟨?_, hh.ext⟩
   have e : comB t price many = false := by rw [comB_in]; simp_all
   unfold comW comE; rw [e]; rfl
  ·have hG2 := hg2; try simp only [gS] at hG2
   refine o_v hf hh (yv_move rfl) ?_; clear hf a; intro a hf
   refine o_call hf Try.en_52 rfl rfl rfl (p48 _ _ _ _) ?_; clear hf a; intro v a w hR hf
   obtain ⟨rfl, hx⟩ := hR; replace hh := hh.more hx; clear hx
   refine o_v hf hh (yv_not rfl) ?_; clear hf a; intro a hf
   refine o_v hf hh (y_pf rfl rfl) ?_; clear hf a; intro a hf
   refine o_v hf hh (yv_move rfl) ?_; clear hf a; intro a hf
   refine guard_split hf (t := 16) rfl (fun hg4 => ?_) (fun hg4 => ?_)
   ·have hG4 := hg4; try simp only [gS] at hG4
    refine o_off hf ?_; clear hf a; intro a hf
    refine o_off hf ?_; clear hf a; intro a hf
    refine o_off hf ?_; clear hf a; intro a hf
    refine o_v hf hh (y_pt rfl rfl) ?_; clear hf a; intro a hf
    refine o_end ?_
    refine c_t hf ?_
    refine sy_sq ?_
    refine o_v hf hh (yv_assign rfl) ?_; clear hf a; intro a hf
    refine o_v hf hh (yv_assign rfl) ?_; clear hf a; intro a hf
    refine o_end ?_
    refine sy_ret ?_
    refine then_r ?_
    refine ret_r hf rfl rfl ?_
    refine ⟨?_, hh.ext⟩
    have e : comB t price many = false := by rw [comB_in]; simp_all
    unfold comW comE; rw [e]; rfl
   ·have hG4 := hg4; try simp only [gS] at hG4
    refine o_v hf hh (yv_move rfl) ?_; clear hf a; intro a hf
    refine o_call hf Try.en_52 rfl rfl rfl (p48 _ _ _ _) ?_; clear hf a; intro v a w hR hf
    obtain ⟨rfl, hx⟩ := hR; replace hh := hh.more hx; clear hx
    refine o_v hf hh (yv_not rfl) ?_; clear hf a; intro a hf
    refine o_v hf hh (y_pf rfl rfl) ?_; clear hf a; intro a hf
    refine o_end ?_
    refine sy_cond hf rfl (fun hg6 => ?_) (fun hg6 => ?_)
    ·have hG6 := hg6; try simp only [gS] at hG6
     refine sy_sq ?_
     refine o_v hf hh (yv_assign rfl) ?_; clear hf a; intro a hf
     refine o_v hf hh (yv_assign rfl) ?_; clear hf a; intro a hf
     refine o_end ?_
     refine sy_ret ?_
     refine then_r ?_
     refine ret_r hf rfl rfl ?_
     refine ⟨?_, hh.ext⟩
     have e : comB t price many = false := by rw [comB_in]; simp_all
     unfold comW comE; rw [e]; rfl
    ·have hG6 := hg6; try simp only [gS] at hG6
     refine sy_skip ?_
     refine then_n ?_
     refine sy_seq ?_
     have h1 : termB t = true := by assumption
     have h2 : inI price 0 1048576 = true := by assumption
     have h3 : inI many 0 12 = true := by assumption
     have b2 := inI_bd h2
     have b3 := inI_bd h3
     refine sy_ops ?_
     refine o_v hf hh (y_lds Try.ag_23 rfl) ?_; clear hf a; intro a hf
     refine o_v hf hh (yv_move rfl) ?_; clear hf a; intro a hf
     refine o_v hf hh (yv_move rfl) ?_; clear hf a; intro a hf
     refine o_call hf Try.en_53 rfl rfl rfl (p53 t (termB_iff.1 h1) price many b2.1 b2.2 b3.1 b3.2 _) ?_; clear hf a; intro v a w hR hf
     obtain ⟨rfl, hx⟩ := hR; replace hh := hh.more hx; clear hx
     refine o_v hf hh (yv_assign rfl) ?_; clear hf a; intro a hf
     refine o_v hf hh (yv_assign rfl) ?_; clear hf a; intro a hf
     refine o_end ?_
     refine sy_ret ?_
     refine ret_r hf rfl rfl ?_
     refine ⟨?_, hh.ext⟩
     have e : comB t price many = true := by rw [comB_in, h1, h2, h3]; rfl
     unfold comW comE; rw [e]; rfl
end Go.Proofs.Ytccpgpnekoncoaa
namespace Go.RoyM
open Go Go.Sy
/-- Things in memory that the rounds of a range do not turn. -/
def TOff {α : Type} (n : Nat) (enc : α → List Value) (N : List Nat) (w : World) (sa : Option Addr) (l : List α) : Prop :=
  ∀ i s, l[i]? = some s → ∃ blk off c T fr, sa = some ⟨blk, off, none⟩ ∧ blk ∉ N ∧ w.heap[blk]? = some (.cells c T fr) ∧ cellsAt c (off + ((i : Nat) : Int).toNat * n) n = some (enc s)
section
variable {α : Type} {n : Nat} {enc : α → List Value} {N N' : List Nat} {u w w' : World} {sa : Option Addr} {l : List α}
theorem TOff.at (h : TOff n enc N w sa l) : TAt n enc w sa l := fun i s hi => by
  obtain ⟨blk, off, c, T, fr, h1, _, h2, h3⟩ := h i s hi
  exact ⟨blk, off, c, T, fr, h1, h2, h3⟩
theorem TOff.step (h : TOff n enc N w sa l) (e : Ext N w w') (g : Grows N N' w) : TOff n enc N' w' sa l := fun i s hi => by
  obtain ⟨blk, off, c, T, fr, h1, h0, h2, h3⟩ := h i s hi
  refine ⟨blk, off, c, T, fr, h1, fun hx => ?_, e.getM h2 h0, h3⟩
  have := (Array.getElem?_eq_some_iff.1 h2).1
  rcases g _ hx with h4 | h4
  · exact h0 h4
  · omega
theorem TOff.ext (h : TOff n enc N w sa l) (e : Ext [] w w') : TOff n enc N w' sa l := h.step (e.mono (by simp)) (.refl _ _)
theorem TOff.new (h : TAt n enc u sa l) (e : Ext [] u w) (hN : ∀ x ∈ N, u.heap.size ≤ x) : TOff n enc N w sa l := fun i s hi => by
  obtain ⟨blk, off, c, T, fr, h1, h2, h3⟩ := h i s hi
  refine ⟨blk, off, c, T, fr, h1, fun hx => ?_, e.get h2, h3⟩
  have := (Array.getElem?_eq_some_iff.1 h2).1
  have := hN _ hx
  omega
end
abbrev sV (x : Nat × Nat) : Array Value := #[.int .i64 (x.1 : Nat), .int .u64 (x.2 : Nat)]
theorem soldT_pre (d : RoyD) (k : Int) (m : Nat) : ∀ n, ∃ R, soldT d k (m + n) = soldT d k m ++ R
  | 0 => ⟨[], (List.append_nil _).symm⟩
  | n + 1 => by
    obtain ⟨R, h⟩ := soldT_pre d k m n
    exact ⟨R ++ if whoN d k (m + n) = 0 then [] else [(m + n, whoN d k (m + n))], by rw [← Nat.add_assoc, soldT, h, List.append_assoc]⟩
theorem soldT_at {d : RoyD} {k : Int} {c : Nat} (hc : c < 12) (hw : whoN d k c ≠ 0) : ((soldL d k).map sV)[(soldT d k c).length]? = some (sV (c, whoN d k c)) := by
  obtain ⟨R, hR⟩ := soldT_pre d k (c + 1) (11 - c)
  have e : soldT d k (c + 1) = soldT d k c ++ [(c, whoN d k c)] := by rw [soldT, if_neg hw]
  rw [show c + 1 + (11 - c) = 12 by omega, e] at hR
  unfold soldL
  rw [hR, List.append_assoc, List.map_append, List.getElem?_append_right (by simp), List.length_map, Nat.sub_self]
  rfl
theorem soldT_put {d : RoyD} {k : Int} {c : Nat} (hw : whoN d k c ≠ 0) : (soldT d k (c + 1)).length = (soldT d k c).length + 1 := by
  rw [soldT, if_neg hw, List.length_append]; rfl
theorem soldT_no {d : RoyD} {k : Int} {c : Nat} (hw : whoN d k c = 0) : soldT d k (c + 1) = soldT d k c := by
  rw [soldT, if_pos hw, List.append_nil]
end Go.RoyM
