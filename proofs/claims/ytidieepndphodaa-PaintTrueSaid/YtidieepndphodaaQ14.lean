/- Lemmas, in order: What a canvas is: rows, and how many marks can have been painted; sets of marks. Closed facts on the loaded program's types and functions, by program. Panics, and what becomes of them. Marks that are kept: those that are not in a set. Small walks: spans, marks, the first bad mark. Room, joined rows, valid rows. Valid rows. What two marks have in common. Do two marks break a rule? Do two marks break one of the rules? look: rows that are looked at. All pairs that fit, one after the other. Rows in which no pairs are that a rule forbids. How many ways there are, counted. The most pairs; is there a way? Which marks are a pair, or hidden, in some way. Rows that are opened; bits of numbers. Fits, Count, Can. Sure, Hides. Fewest. The law's own small functions. Rows that are valid, for the document's answer; too many marks. The reference's Can, walked. Marks that are kept; rows without marks.. -/
import Derived.Test.YtidieepndphodaaQ13
import Derived.Test.YtidieepndphodaaProg
import Derived.Shelf.Spec.TrailingZeros
namespace Go.MatM
open Go Go.Sy Go.Proofs Go.RowKit
/-- Two sets of marks, as a value. -/
abbrev enc2 (x : Nat × Nat) : Value := .agg #[.int .u64 ((x.1 : Nat) : Int), .int .u64 ((x.2 : Nat) : Int)]
abbrev canV (d : RowsD) (p : Int) (sa sb : Option Addr) (ca cb : Nat) : Value := .agg #[.slice sa d.l.length ca, .slice sb d.r.length cb, .int .i64 d.lo, .int .i64 d.hi, .int .i64 d.hid, .int .i64 p]
/-- The cells of a canvas that is looked at. -/
abbrev canC (d : RowsD) (p : Int) (sa sb : Option Addr) (ca cb bm : Nat) : Array Value := #[.slice sa d.l.length ca, .slice sb d.r.length cb, .int .i64 d.lo, .int .i64 d.hi, .int .i64 d.hid, .int .i64 p, .map (some bm)]
def okCan (d : RowsD) (p : Int) : Bool := okRows d && (decide (0 ≤ p) && decide (p ≤ 3))
end Go.MatM
namespace Go.Proofs.Ytidieepndphodaa
open Go Go.Sy
theorem Try.follows : Try.prog.follows .mixedOrders = true := by kernel_rfl
theorem Try.ae_125 : arrayElem Try.prog 125 = some (10, 4, 1) := by kernel_rfl
theorem Try.ae_126 : arrayElem Try.prog 126 = some (10, 125, 10) := by kernel_rfl
theorem Try.ae_147 : arrayElem Try.prog 147 = some (11, 3, 1) := by kernel_rfl
theorem Try.ae_148 : arrayElem Try.prog 148 = some (11, 147, 11) := by kernel_rfl
theorem Try.ae_42 : arrayElem Try.prog 42 = some (2, 3, 1) := by kernel_rfl
theorem Try.ae_73 : arrayElem Try.prog 73 = some (2, 71, 1) := by kernel_rfl
theorem Try.ag_131 : aggB Try.prog 131 = some 2 := by kernel_rfl
theorem Try.ag_139 : aggB Try.prog 139 = some 3 := by kernel_rfl
theorem Try.ag_147 : aggB Try.prog 147 = some 11 := by kernel_rfl
theorem Try.ag_148 : aggB Try.prog 148 = some 121 := by kernel_rfl
theorem Try.ag_176 : aggB Try.prog 176 = some 1 := by kernel_rfl
theorem Try.ag_27 : aggB Try.prog 27 = some 2 := by kernel_rfl
theorem Try.ag_29 : aggB Try.prog 29 = some 5 := by kernel_rfl
theorem Try.ag_31 : aggB Try.prog 31 = some 6 := by kernel_rfl
theorem Try.ag_42 : aggB Try.prog 42 = some 2 := by kernel_rfl
theorem Try.ag_54 : aggB Try.prog 54 = some 4 := by kernel_rfl
theorem Try.ag_73 : aggB Try.prog 73 = some 2 := by kernel_rfl
theorem Try.ba_42 : arrayB Try.prog 42 = some ([(.int .i64 0), (.int .i64 0)], 1) := by kernel_rfl
theorem Try.ba_73 : arrayB Try.prog 73 = some ([(.int .u64 0), (.int .u64 0)], 1) := by kernel_rfl
theorem Try.bl_111_1 : sliceB Try.prog 111 1 = some (42, 2, [(.int .i64 0), (.int .i64 0)]) := by kernel_rfl
theorem Try.bl_132_2 : sliceB Try.prog 132 2 = some (131, 2, [.nilFunc, .nilFunc, .nilFunc, .nilFunc]) := by kernel_rfl
theorem Try.bl_152_2 : sliceB Try.prog 152 2 = some (25, 1, [(.slice none 0 0), (.slice none 0 0)]) := by kernel_rfl
theorem Try.bl_172_3 : sliceB Try.prog 172 3 = some (176, 1, [.nilFunc, .nilFunc, .nilFunc]) := by kernel_rfl
theorem Try.bl_178_2 : sliceB Try.prog 178 2 = some (71, 1, [(.int .u64 0), (.int .u64 0)]) := by kernel_rfl
theorem Try.bl_25_0 : sliceB Try.prog 25 0 = some (54, 4, []) := by kernel_rfl
theorem Try.bl_25_1 : sliceB Try.prog 25 1 = some (54, 4, [(.int .i64 0), (.int .i64 0), (.int .i64 0), (.int .i64 0)]) := by kernel_rfl
theorem Try.bl_25_3 : sliceB Try.prog 25 3 = some (54, 4, [(.int .i64 0), (.int .i64 0), (.int .i64 0), (.int .i64 0), (.int .i64 0), (.int .i64 0), (.int .i64 0), (.int .i64 0), (.int .i64 0), (.int .i64 0), (.int .i64 0), (.int .i64 0)]) := by kernel_rfl
theorem Try.bl_25_4 : sliceB Try.prog 25 4 = some (54, 4, [(.int .i64 0), (.int .i64 0), (.int .i64 0), (.int .i64 0), (.int .i64 0), (.int .i64 0), (.int .i64 0), (.int .i64 0), (.int .i64 0), (.int .i64 0), (.int .i64 0), (.int .i64 0), (.int .i64 0), (.int .i64 0), (.int .i64 0), (.int .i64 0)]) := by kernel_rfl
theorem Try.bl_63_2 : sliceB Try.prog 63 2 = some (31, 6, [(.slice none 0 0), (.slice none 0 0), (.int .i64 0), (.int .i64 0), (.int .i64 0), (.int .i64 0), (.slice none 0 0), (.slice none 0 0), (.int .i64 0), (.int .i64 0), (.int .i64 0), (.int .i64 0)]) := by kernel_rfl
theorem Try.bl_93_2 : sliceB Try.prog 93 2 = some (3, 1, [(.int .i64 0), (.int .i64 0)]) := by kernel_rfl
theorem Try.bs_104 : structB Try.prog 104 = some ([(.int .i64 0)], [(0, 1)]) := by kernel_rfl
theorem Try.bs_109 : structB Try.prog 109 = some ([(.slice none 0 0), (.slice none 0 0), (.int .i64 0), (.int .i64 0), (.int .i64 0), (.int .i64 0), (.map none)], [(0, 6), (6, 1)]) := by kernel_rfl
theorem Try.bs_128 : structB Try.prog 128 = some ([(.slice none 0 0), (.slice none 0 0), (.int .i64 0), (.int .i64 0), (.int .i64 0), (.bool false), (.bool false), (.bool false), (.bool false), (.bool false), (.bool false), (.bool false), (.bool false), (.bool false), (.bool false), (.bool false), (.bool false), (.bool false), (.bool false), (.bool false), (.bool false), (.bool false), (.bool false), (.bool false), (.bool false), (.bool false), (.bool false), (.bool false), (.bool false), (.bool false), (.bool false), (.bool false), (.bool false), (.bool false), (.bool false), (.bool false), (.bool false), (.bool false), (.bool false), (.bool false), (.bool false), (.bool false), (.bool false), (.bool false), (.bool false), (.bool false), (.bool false), (.bool false), (.bool false), (.bool false), (.bool false), (.bool false), (.bool false), (.bool false), (.bool false), (.bool false), (.bool false), (.bool false), (.bool false), (.bool false), (.bool false), (.bool false), (.bool false), (.bool false), (.bool false), (.bool false), (.bool false), (.bool false), (.bool false), (.bool false), (.bool false), (.bool false), (.bool false), (.bool false), (.bool false), (.bool false), (.bool false), (.bool false), (.bool false), (.bool false), (.bool false), (.bool false), (.bool false), (.bool false), (.bool false), (.bool false), (.bool false), (.bool false), (.bool false), (.bool false), (.bool false), (.bool false), (.bool false), (.bool false), (.bool false), (.bool false), (.bool false), (.bool false), (.bool false), (.bool false), (.bool false), (.bool false), (.bool false), (.bool false), (.bool false), (.int .i64 0)], [(0, 5), (5, 100), (105, 1)]) := by kernel_rfl
theorem Try.bs_131 : structB Try.prog 131 = some ([.nilFunc, .nilFunc], [(0, 1), (1, 1)]) := by kernel_rfl
theorem Try.bs_139 : structB Try.prog 139 = some ([(.int .i64 0), (.int .i64 0), (.int .i64 0)], [(0, 1), (1, 1), (2, 1)]) := by kernel_rfl
theorem Try.bs_176 : structB Try.prog 176 = some ([.nilFunc], [(0, 1)]) := by kernel_rfl
theorem Try.bs_27 : structB Try.prog 27 = some ([(.int .i64 0), (.int .i64 0)], [(0, 1), (1, 1)]) := by kernel_rfl
theorem Try.bs_29 : structB Try.prog 29 = some ([(.slice none 0 0), (.slice none 0 0), (.int .i64 0), (.int .i64 0), (.int .i64 0)], [(0, 1), (1, 1), (2, 2), (4, 1)]) := by kernel_rfl
theorem Try.bs_31 : structB Try.prog 31 = some ([(.slice none 0 0), (.slice none 0 0), (.int .i64 0), (.int .i64 0), (.int .i64 0), (.int .i64 0)], [(0, 5), (5, 1)]) := by kernel_rfl
theorem Try.bs_54 : structB Try.prog 54 = some ([(.int .i64 0), (.int .i64 0), (.int .i64 0), (.int .i64 0)], [(0, 2), (2, 2)]) := by kernel_rfl
theorem Try.eb_111 : elemB Try.prog 111 = some (42, 2, 16, (.agg #[(.int .i64 0), (.int .i64 0)])) := by kernel_rfl
theorem Try.eb_25 : elemB Try.prog 25 = some (54, 4, 32, (.agg #[(.int .i64 0), (.int .i64 0), (.int .i64 0), (.int .i64 0)])) := by kernel_rfl
theorem Try.en_10 : Enters Try.prog 10 := enters_of Try.func10 (by kernel_rfl) rfl
theorem Try.en_11 : Enters Try.prog 11 := enters_of Try.func11 (by kernel_rfl) rfl
theorem Try.en_114 : Enters Try.prog 114 := enters_of Try.func114 (by kernel_rfl) rfl
theorem Try.en_115 : Enters Try.prog 115 := enters_of Try.func115 (by kernel_rfl) rfl
theorem Try.en_116 : Enters Try.prog 116 := enters_of Try.func116 (by kernel_rfl) rfl
theorem Try.en_117 : Enters Try.prog 117 := enters_of Try.func117 (by kernel_rfl) rfl
theorem Try.en_118 : Enters Try.prog 118 := enters_of Try.func118 (by kernel_rfl) rfl
theorem Try.en_119 : Enters Try.prog 119 := enters_of Try.func119 (by kernel_rfl) rfl
theorem Try.en_12 : Enters Try.prog 12 := enters_of Try.func12 (by kernel_rfl) rfl
theorem Try.en_120 : Enters Try.prog 120 := enters_of Try.func120 (by kernel_rfl) rfl
theorem Try.en_121 : Enters Try.prog 121 := enters_of Try.func121 (by kernel_rfl) rfl
theorem Try.en_122 : Enters Try.prog 122 := enters_of Try.func122 (by kernel_rfl) rfl
theorem Try.en_123 : Enters Try.prog 123 := enters_of Try.func123 (by kernel_rfl) rfl
theorem Try.en_13 : Enters Try.prog 13 := enters_of Try.func13 (by kernel_rfl) rfl
theorem Try.en_14 : Enters Try.prog 14 := enters_of Try.func14 (by kernel_rfl) rfl
theorem Try.en_15 : Enters Try.prog 15 := enters_of Try.func15 (by kernel_rfl) rfl
theorem Try.en_16 : Enters Try.prog 16 := enters_of Try.func16 (by kernel_rfl) rfl
theorem Try.en_17 : Enters Try.prog 17 := enters_of Try.func17 (by kernel_rfl) rfl
theorem Try.en_18 : Enters Try.prog 18 := enters_of Try.func18 (by kernel_rfl) rfl
theorem Try.en_19 : Enters Try.prog 19 := enters_of Try.func19 (by kernel_rfl) rfl
theorem Try.en_20 : Enters Try.prog 20 := enters_of Try.func20 (by kernel_rfl) rfl
theorem Try.en_21 : Enters Try.prog 21 := enters_of Try.func21 (by kernel_rfl) rfl
theorem Try.en_22 : Enters Try.prog 22 := enters_of Try.func22 (by kernel_rfl) rfl
theorem Try.en_23 : Enters Try.prog 23 := enters_of Try.func23 (by kernel_rfl) rfl
theorem Try.en_24 : Enters Try.prog 24 := enters_of Try.func24 (by kernel_rfl) rfl
theorem Try.en_25 : Enters Try.prog 25 := enters_of Try.func25 (by kernel_rfl) rfl
theorem Try.en_26 : Enters Try.prog 26 := enters_of Try.func26 (by kernel_rfl) rfl
theorem Try.en_27 : Enters Try.prog 27 := enters_of Try.func27 (by kernel_rfl) rfl
theorem Try.en_28 : Enters Try.prog 28 := enters_of Try.func28 (by kernel_rfl) rfl
theorem Try.en_29 : Enters Try.prog 29 := enters_of Try.func29 (by kernel_rfl) rfl
theorem Try.en_3 : Enters Try.prog 3 := enters_of Try.func3 (by kernel_rfl) rfl
theorem Try.en_30 : Enters Try.prog 30 := enters_of Try.func30 (by kernel_rfl) rfl
theorem Try.en_31 : Enters Try.prog 31 := enters_of Try.func31 (by kernel_rfl) rfl
theorem Try.en_32 : Enters Try.prog 32 := enters_of Try.func32 (by kernel_rfl) rfl
theorem Try.en_33 : Enters Try.prog 33 := enters_of Try.func33 (by kernel_rfl) rfl
theorem Try.en_34 : Enters Try.prog 34 := enters_of Try.func34 (by kernel_rfl) rfl
theorem Try.en_35 : Enters Try.prog 35 := enters_of Try.func35 (by kernel_rfl) rfl
theorem Try.en_36 : Enters Try.prog 36 := enters_of Try.func36 (by kernel_rfl) rfl
theorem Try.en_37 : Enters Try.prog 37 := enters_of Try.func37 (by kernel_rfl) rfl
theorem Try.en_38 : Enters Try.prog 38 := enters_of Try.func38 (by kernel_rfl) rfl
theorem Try.en_39 : Enters Try.prog 39 := enters_of Try.func39 (by kernel_rfl) rfl
theorem Try.en_4 : Enters Try.prog 4 := enters_of Try.func4 (by kernel_rfl) rfl
theorem Try.en_40 : Enters Try.prog 40 := enters_of Try.func40 (by kernel_rfl) rfl
theorem Try.en_41 : Enters Try.prog 41 := enters_of Try.func41 (by kernel_rfl) rfl
theorem Try.en_42 : Enters Try.prog 42 := enters_of Try.func42 (by kernel_rfl) rfl
theorem Try.en_43 : Enters Try.prog 43 := enters_of Try.func43 (by kernel_rfl) rfl
theorem Try.en_44 : Enters Try.prog 44 := enters_of Try.func44 (by kernel_rfl) rfl
theorem Try.en_45 : Enters Try.prog 45 := enters_of Try.func45 (by kernel_rfl) rfl
theorem Try.en_46 : Enters Try.prog 46 := enters_of Try.func46 (by kernel_rfl) rfl
theorem Try.en_47 : Enters Try.prog 47 := enters_of Try.func47 (by kernel_rfl) rfl
theorem Try.en_48 : Enters Try.prog 48 := enters_of Try.func48 (by kernel_rfl) rfl
theorem Try.en_49 : Enters Try.prog 49 := enters_of Try.func49 (by kernel_rfl) rfl
theorem Try.en_5 : Enters Try.prog 5 := enters_of Try.func5 (by kernel_rfl) rfl
theorem Try.en_50 : Enters Try.prog 50 := enters_of Try.func50 (by kernel_rfl) rfl
theorem Try.en_51 : Enters Try.prog 51 := enters_of Try.func51 (by kernel_rfl) rfl
theorem Try.en_52 : Enters Try.prog 52 := enters_of Try.func52 (by kernel_rfl) rfl
theorem Try.en_53 : Enters Try.prog 53 := enters_of Try.func53 (by kernel_rfl) rfl
theorem Try.en_54 : Enters Try.prog 54 := enters_of Try.func54 (by kernel_rfl) rfl
theorem Try.en_55 : Enters Try.prog 55 := enters_of Try.func55 (by kernel_rfl) rfl
theorem Try.en_56 : Enters Try.prog 56 := enters_of Try.func56 (by kernel_rfl) rfl
theorem Try.en_57 : Enters Try.prog 57 := enters_of Try.func57 (by kernel_rfl) rfl
theorem Try.en_58 : Enters Try.prog 58 := enters_of Try.func58 (by kernel_rfl) rfl
theorem Try.en_59 : Enters Try.prog 59 := enters_of Try.func59 (by kernel_rfl) rfl
theorem Try.en_6 : Enters Try.prog 6 := enters_of Try.func6 (by kernel_rfl) rfl
theorem Try.en_60 : Enters Try.prog 60 := enters_of Try.func60 (by kernel_rfl) rfl
theorem Try.en_61 : Enters Try.prog 61 := enters_of Try.func61 (by kernel_rfl) rfl
theorem Try.en_62 : Enters Try.prog 62 := enters_of Try.func62 (by kernel_rfl) rfl
theorem Try.en_63 : Enters Try.prog 63 := enters_of Try.func63 (by kernel_rfl) rfl
theorem Try.en_64 : Enters Try.prog 64 := enters_of Try.func64 (by kernel_rfl) rfl
theorem Try.en_65 : Enters Try.prog 65 := enters_of Try.func65 (by kernel_rfl) rfl
theorem Try.en_66 : Enters Try.prog 66 := enters_of Try.func66 (by kernel_rfl) rfl
theorem Try.en_67 : Enters Try.prog 67 := enters_of Try.func67 (by kernel_rfl) rfl
theorem Try.en_68 : Enters Try.prog 68 := enters_of Try.func68 (by kernel_rfl) rfl
theorem Try.en_69 : Enters Try.prog 69 := enters_of Try.func69 (by kernel_rfl) rfl
theorem Try.en_7 : Enters Try.prog 7 := enters_of Try.func7 (by kernel_rfl) rfl
theorem Try.en_70 : Enters Try.prog 70 := enters_of Try.func70 (by kernel_rfl) rfl
theorem Try.en_71 : Enters Try.prog 71 := enters_of Try.func71 (by kernel_rfl) rfl
theorem Try.en_72 : Enters Try.prog 72 := enters_of Try.func72 (by kernel_rfl) rfl
theorem Try.en_73 : Enters Try.prog 73 := enters_of Try.func73 (by kernel_rfl) rfl
theorem Try.en_74 : Enters Try.prog 74 := enters_of Try.func74 (by kernel_rfl) rfl
theorem Try.en_75 : Enters Try.prog 75 := enters_of Try.func75 (by kernel_rfl) rfl
theorem Try.en_76 : Enters Try.prog 76 := enters_of Try.func76 (by kernel_rfl) rfl
theorem Try.en_77 : Enters Try.prog 77 := enters_of Try.func77 (by kernel_rfl) rfl
theorem Try.en_78 : Enters Try.prog 78 := enters_of Try.func78 (by kernel_rfl) rfl
theorem Try.en_79 : Enters Try.prog 79 := enters_of Try.func79 (by kernel_rfl) rfl
theorem Try.en_8 : Enters Try.prog 8 := enters_of Try.func8 (by kernel_rfl) rfl
theorem Try.en_80 : Enters Try.prog 80 := enters_of Try.func80 (by kernel_rfl) rfl
theorem Try.en_81 : Enters Try.prog 81 := enters_of Try.func81 (by kernel_rfl) rfl
theorem Try.en_82 : Enters Try.prog 82 := enters_of Try.func82 (by kernel_rfl) rfl
theorem Try.en_83 : Enters Try.prog 83 := enters_of Try.func83 (by kernel_rfl) rfl
theorem Try.en_84 : Enters Try.prog 84 := enters_of Try.func84 (by kernel_rfl) rfl
theorem Try.en_85 : Enters Try.prog 85 := enters_of Try.func85 (by kernel_rfl) rfl
theorem Try.en_86 : Enters Try.prog 86 := enters_of Try.func86 (by kernel_rfl) rfl
theorem Try.en_87 : Enters Try.prog 87 := enters_of Try.func87 (by kernel_rfl) rfl
theorem Try.en_88 : Enters Try.prog 88 := enters_of Try.func88 (by kernel_rfl) rfl
theorem Try.en_89 : Enters Try.prog 89 := enters_of Try.func89 (by kernel_rfl) rfl
theorem Try.en_9 : Enters Try.prog 9 := enters_of Try.func9 (by kernel_rfl) rfl
theorem Try.en_90 : Enters Try.prog 90 := enters_of Try.func90 (by kernel_rfl) rfl
theorem Try.en_91 : Enters Try.prog 91 := enters_of Try.func91 (by kernel_rfl) rfl
theorem Try.en_92 : Enters Try.prog 92 := enters_of Try.func92 (by kernel_rfl) rfl
theorem Try.en_93 : Enters Try.prog 93 := enters_of Try.func93 (by kernel_rfl) rfl
theorem Try.en_94 : Enters Try.prog 94 := enters_of Try.func94 (by kernel_rfl) rfl
theorem Try.en_95 : Enters Try.prog 95 := enters_of Try.func95 (by kernel_rfl) rfl
theorem Try.en_96 : Enters Try.prog 96 := enters_of Try.func96 (by kernel_rfl) rfl
theorem Try.en_97 : Enters Try.prog 97 := enters_of Try.func97 (by kernel_rfl) rfl
theorem Try.en_98 : Enters Try.prog 98 := enters_of Try.func98 (by kernel_rfl) rfl
theorem Try.fo_104_0 : fieldOff Try.prog 104 0 = some 0 := by kernel_rfl
theorem Try.fo_109_0 : fieldOff Try.prog 109 0 = some 0 := by kernel_rfl
theorem Try.fo_109_1 : fieldOff Try.prog 109 1 = some 6 := by kernel_rfl
theorem Try.fo_128_0 : fieldOff Try.prog 128 0 = some 0 := by kernel_rfl
theorem Try.fo_128_1 : fieldOff Try.prog 128 1 = some 5 := by kernel_rfl
theorem Try.fo_128_2 : fieldOff Try.prog 128 2 = some 105 := by kernel_rfl
theorem Try.fo_131_0 : fieldOff Try.prog 131 0 = some 0 := by kernel_rfl
theorem Try.fo_131_1 : fieldOff Try.prog 131 1 = some 1 := by kernel_rfl
theorem Try.fo_139_0 : fieldOff Try.prog 139 0 = some 0 := by kernel_rfl
theorem Try.fo_139_1 : fieldOff Try.prog 139 1 = some 1 := by kernel_rfl
theorem Try.fo_139_2 : fieldOff Try.prog 139 2 = some 2 := by kernel_rfl
theorem Try.fo_176_0 : fieldOff Try.prog 176 0 = some 0 := by kernel_rfl
theorem Try.fo_27_0 : fieldOff Try.prog 27 0 = some 0 := by kernel_rfl
theorem Try.fo_27_1 : fieldOff Try.prog 27 1 = some 1 := by kernel_rfl
theorem Try.fo_29_0 : fieldOff Try.prog 29 0 = some 0 := by kernel_rfl
theorem Try.fo_29_1 : fieldOff Try.prog 29 1 = some 1 := by kernel_rfl
theorem Try.fo_29_2 : fieldOff Try.prog 29 2 = some 2 := by kernel_rfl
theorem Try.fo_29_3 : fieldOff Try.prog 29 3 = some 4 := by kernel_rfl
theorem Try.fo_31_0 : fieldOff Try.prog 31 0 = some 0 := by kernel_rfl
theorem Try.fo_31_1 : fieldOff Try.prog 31 1 = some 5 := by kernel_rfl
theorem Try.fo_54_0 : fieldOff Try.prog 54 0 = some 0 := by kernel_rfl
theorem Try.fo_54_1 : fieldOff Try.prog 54 1 = some 2 := by kernel_rfl
theorem Try.fo_76_0 : fieldOff Try.prog 76 0 = some 0 := by kernel_rfl
theorem Try.fo_82_0 : fieldOff Try.prog 82 0 = some 0 := by kernel_rfl
theorem Try.fo_86_0 : fieldOff Try.prog 86 0 = some 0 := by kernel_rfl
theorem Try.fo_86_1 : fieldOff Try.prog 86 1 = some 1 := by kernel_rfl
theorem Try.fo_89_0 : fieldOff Try.prog 89 0 = some 0 := by kernel_rfl
theorem Try.fo_89_1 : fieldOff Try.prog 89 1 = some 1 := by kernel_rfl
theorem Try.fo_89_2 : fieldOff Try.prog 89 2 = some 3 := by kernel_rfl
theorem Try.sc_100 : scalB Try.prog 100 = true := by kernel_rfl
theorem Try.sc_107 : scalB Try.prog 107 = true := by kernel_rfl
theorem Try.sc_111 : scalB Try.prog 111 = true := by kernel_rfl
theorem Try.sc_119 : scalB Try.prog 119 = true := by kernel_rfl
theorem Try.sc_129 : scalB Try.prog 129 = true := by kernel_rfl
theorem Try.sc_136 : scalB Try.prog 136 = true := by kernel_rfl
theorem Try.sc_137 : scalB Try.prog 137 = true := by kernel_rfl
theorem Try.sc_174 : scalB Try.prog 174 = true := by kernel_rfl
theorem Try.sc_22 : scalB Try.prog 22 = true := by kernel_rfl
theorem Try.sc_25 : scalB Try.prog 25 = true := by kernel_rfl
theorem Try.sc_3 : scalB Try.prog 3 = true := by kernel_rfl
theorem Try.sc_4 : scalB Try.prog 4 = true := by kernel_rfl
theorem Try.sc_43 : scalB Try.prog 43 = true := by kernel_rfl
theorem Try.sc_56 : scalB Try.prog 56 = true := by kernel_rfl
theorem Try.sc_66 : scalB Try.prog 66 = true := by kernel_rfl
theorem Try.sc_70 : scalB Try.prog 70 = true := by kernel_rfl
theorem Try.sc_71 : scalB Try.prog 71 = true := by kernel_rfl
theorem Try.sc_99 : scalB Try.prog 99 = true := by kernel_rfl
theorem Try.se_111 : sliceElem Try.prog 111 = some (42, 2) := by kernel_rfl
theorem Try.se_132 : sliceElem Try.prog 132 = some (131, 2) := by kernel_rfl
theorem Try.se_152 : sliceElem Try.prog 152 = some (25, 1) := by kernel_rfl
theorem Try.se_172 : sliceElem Try.prog 172 = some (176, 1) := by kernel_rfl
theorem Try.se_178 : sliceElem Try.prog 178 = some (71, 1) := by kernel_rfl
theorem Try.se_25 : sliceElem Try.prog 25 = some (54, 4) := by kernel_rfl
theorem Try.se_56 : sliceElem Try.prog 56 = some (99, 1) := by kernel_rfl
theorem Try.se_63 : sliceElem Try.prog 63 = some (31, 6) := by kernel_rfl
theorem Try.se_93 : sliceElem Try.prog 93 = some (3, 1) := by kernel_rfl
theorem Try.sz_104 : (Try.prog.info? 104).map (·.size) = some 1 := by kernel_rfl
theorem Try.sz_111 : (Try.prog.info? 111).map (·.size) = some 1 := by kernel_rfl
theorem Try.sz_136 : (Try.prog.info? 136).map (·.size) = some 1 := by kernel_rfl
theorem Try.sz_137 : (Try.prog.info? 137).map (·.size) = some 1 := by kernel_rfl
theorem Try.sz_148 : (Try.prog.info? 148).map (·.size) = some 121 := by kernel_rfl
theorem Try.sz_176 : (Try.prog.info? 176).map (·.size) = some 1 := by kernel_rfl
theorem Try.sz_22 : (Try.prog.info? 22).map (·.size) = some 1 := by kernel_rfl
theorem Try.sz_25 : (Try.prog.info? 25).map (·.size) = some 1 := by kernel_rfl
theorem Try.sz_27 : (Try.prog.info? 27).map (·.size) = some 2 := by kernel_rfl
theorem Try.sz_29 : (Try.prog.info? 29).map (·.size) = some 5 := by kernel_rfl
theorem Try.sz_3 : (Try.prog.info? 3).map (·.size) = some 1 := by kernel_rfl
theorem Try.sz_31 : (Try.prog.info? 31).map (·.size) = some 6 := by kernel_rfl
theorem Try.sz_4 : (Try.prog.info? 4).map (·.size) = some 1 := by kernel_rfl
theorem Try.sz_42 : (Try.prog.info? 42).map (·.size) = some 2 := by kernel_rfl
theorem Try.sz_54 : (Try.prog.info? 54).map (·.size) = some 4 := by kernel_rfl
theorem Try.sz_66 : (Try.prog.info? 66).map (·.size) = some 1 := by kernel_rfl
theorem Try.sz_70 : (Try.prog.info? 70).map (·.size) = some 1 := by kernel_rfl
theorem Try.sz_71 : (Try.prog.info? 71).map (·.size) = some 1 := by kernel_rfl
theorem Try.sz_73 : (Try.prog.info? 73).map (·.size) = some 2 := by kernel_rfl
theorem Try.sz_76 : (Try.prog.info? 76).map (·.size) = some 1 := by kernel_rfl
theorem Try.sz_82 : (Try.prog.info? 82).map (·.size) = some 1 := by kernel_rfl
theorem Try.sz_86 : (Try.prog.info? 86).map (·.size) = some 3 := by kernel_rfl
theorem Try.sz_89 : (Try.prog.info? 89).map (·.size) = some 5 := by kernel_rfl
theorem Try.ub_4 : Try.prog.underlying 4 = some .bool := by kernel_rfl
theorem Try.un_155 : Try.prog.underlying 155 = some (.int .u32) := by kernel_rfl
theorem Try.un_3 : Try.prog.underlying 3 = some (.int .i64) := by kernel_rfl
theorem Try.un_71 : Try.prog.underlying 71 = some (.int .u64) := by kernel_rfl
theorem Try.ze_104 : zeroOf Try.prog 104 = some (.agg #[(.int .i64 0)]) := by kernel_rfl
theorem Try.ze_111 : zeroOf Try.prog 111 = some (.slice none 0 0) := by kernel_rfl
theorem Try.ze_136 : zeroOf Try.prog 136 = some (.map none) := by kernel_rfl
theorem Try.ze_137 : zeroOf Try.prog 137 = some .nilFunc := by kernel_rfl
theorem Try.ze_148 : zeroOf Try.prog 148 = some (.agg #[(.int .i64 0), (.int .i64 0), (.int .i64 0), (.int .i64 0), (.int .i64 0), (.int .i64 0), (.int .i64 0), (.int .i64 0), (.int .i64 0), (.int .i64 0), (.int .i64 0), (.int .i64 0), (.int .i64 0), (.int .i64 0), (.int .i64 0), (.int .i64 0), (.int .i64 0), (.int .i64 0), (.int .i64 0), (.int .i64 0), (.int .i64 0), (.int .i64 0), (.int .i64 0), (.int .i64 0), (.int .i64 0), (.int .i64 0), (.int .i64 0), (.int .i64 0), (.int .i64 0), (.int .i64 0), (.int .i64 0), (.int .i64 0), (.int .i64 0), (.int .i64 0), (.int .i64 0), (.int .i64 0), (.int .i64 0), (.int .i64 0), (.int .i64 0), (.int .i64 0), (.int .i64 0), (.int .i64 0), (.int .i64 0), (.int .i64 0), (.int .i64 0), (.int .i64 0), (.int .i64 0), (.int .i64 0), (.int .i64 0), (.int .i64 0), (.int .i64 0), (.int .i64 0), (.int .i64 0), (.int .i64 0), (.int .i64 0), (.int .i64 0), (.int .i64 0), (.int .i64 0), (.int .i64 0), (.int .i64 0), (.int .i64 0), (.int .i64 0), (.int .i64 0), (.int .i64 0), (.int .i64 0), (.int .i64 0), (.int .i64 0), (.int .i64 0), (.int .i64 0), (.int .i64 0), (.int .i64 0), (.int .i64 0), (.int .i64 0), (.int .i64 0), (.int .i64 0), (.int .i64 0), (.int .i64 0), (.int .i64 0), (.int .i64 0), (.int .i64 0), (.int .i64 0), (.int .i64 0), (.int .i64 0), (.int .i64 0), (.int .i64 0), (.int .i64 0), (.int .i64 0), (.int .i64 0), (.int .i64 0), (.int .i64 0), (.int .i64 0), (.int .i64 0), (.int .i64 0), (.int .i64 0), (.int .i64 0), (.int .i64 0), (.int .i64 0), (.int .i64 0), (.int .i64 0), (.int .i64 0), (.int .i64 0), (.int .i64 0), (.int .i64 0), (.int .i64 0), (.int .i64 0), (.int .i64 0), (.int .i64 0), (.int .i64 0), (.int .i64 0), (.int .i64 0), (.int .i64 0), (.int .i64 0), (.int .i64 0), (.int .i64 0), (.int .i64 0), (.int .i64 0), (.int .i64 0), (.int .i64 0), (.int .i64 0), (.int .i64 0), (.int .i64 0)]) := by kernel_rfl
theorem Try.ze_176 : zeroOf Try.prog 176 = some (.agg #[.nilFunc]) := by kernel_rfl
theorem Try.ze_22 : zeroOf Try.prog 22 = some (.int .i64 0) := by kernel_rfl
theorem Try.ze_27 : zeroOf Try.prog 27 = some (.agg #[(.int .i64 0), (.int .i64 0)]) := by kernel_rfl
theorem Try.ze_29 : zeroOf Try.prog 29 = some (.agg #[(.slice none 0 0), (.slice none 0 0), (.int .i64 0), (.int .i64 0), (.int .i64 0)]) := by kernel_rfl
theorem Try.ze_3 : zeroOf Try.prog 3 = some (.int .i64 0) := by kernel_rfl
theorem Try.ze_31 : zeroOf Try.prog 31 = some (.agg #[(.slice none 0 0), (.slice none 0 0), (.int .i64 0), (.int .i64 0), (.int .i64 0), (.int .i64 0)]) := by kernel_rfl
theorem Try.ze_42 : zeroOf Try.prog 42 = some (.agg #[(.int .i64 0), (.int .i64 0)]) := by kernel_rfl
theorem Try.ze_54 : zeroOf Try.prog 54 = some (.agg #[(.int .i64 0), (.int .i64 0), (.int .i64 0), (.int .i64 0)]) := by kernel_rfl
theorem Try.ze_66 : zeroOf Try.prog 66 = some (.pointer none) := by kernel_rfl
theorem Try.ze_70 : zeroOf Try.prog 70 = some .nilFunc := by kernel_rfl
theorem Try.ze_73 : zeroOf Try.prog 73 = some (.agg #[(.int .u64 0), (.int .u64 0)]) := by kernel_rfl
theorem Try.ze_76 : zeroOf Try.prog 76 = some (.agg #[(.int .i64 0)]) := by kernel_rfl
theorem Try.ze_82 : zeroOf Try.prog 82 = some (.agg #[(.int .i64 0)]) := by kernel_rfl
theorem Try.ze_86 : zeroOf Try.prog 86 = some (.agg #[(.int .i64 0), (.int .u64 0), (.int .u64 0)]) := by kernel_rfl
theorem Try.ze_89 : zeroOf Try.prog 89 = some (.agg #[(.int .i64 0), (.int .u64 0), (.int .u64 0), (.int .u64 0), (.int .u64 0)]) := by kernel_rfl
end Go.Proofs.Ytidieepndphodaa
namespace Go.Proofs.Ytidieepndphodaa
open Go Go.Sy Go.MatM
/-- The panic of what cannot be told. -/
abbrev misfit (e : Int) : List PanicEntry := [{ v := .iface 104 (.agg #[.int .i64 e]), recovered := false }]
theorem p50 (b : Bool) (e : Int) (u : World) : Calls Try.prog 50 #[.bool b, .int .i64 e] u (RetX (fun v w' => b = true ∧ Ext [] u w') (fun ch w' => b = false ∧ ch = misfit e ∧ Ext [] u w')) := by
  refine calls_ofX Try.func50 rfl rfl (fun a hf => ?_)
  have hh := Hp.init u []
  refine sy_sq ?_
  refine o_v hf hh (yv_move rfl) ?_; clear hf a; intro a hf
  refine o_v hf hh (yv_not rfl) ?_; clear hf a; intro a hf
  refine o_end ?_
  refine sy_cond hf rfl (fun hg2 => ?_) (fun hg2 => ?_)
  ·have hG2 := hg2; try simp only [gS] at hG2
   refine sy_ops ?_
   refine o_v hf hh (yv_move rfl) ?_; clear hf a; intro a hf
   refine o_v hf hh (yv_buildS Try.bs_104 rfl rfl) ?_; clear hf a; intro a hf
   refine o_v hf hh (yv_makeIface (by kernel_rfl) rfl) ?_; clear hf a; intro a hf
   refine o_panic hf fun hf => ?_
   refine pan_x hf ?_
   exact ⟨by simp_all, rfl, hh.ext⟩
  ·have hG2 := hg2; try simp only [gS] at hG2
   refine sy_skip ?_
   refine ret_xn ?_
   refine ret_n hf rfl rfl ?_
   exact ⟨by simp_all, hh.ext⟩
theorem p37 (n l h : Int) (w : World) : Calls Try.prog 37 #[.int .i64 n, .int .i64 l, .int .i64 h] w (Ret fun v w' => v = .bool (decide (l ≤ n) && decide (n ≤ h)) ∧ Ext [] w w') := by
  refine calls_of Try.func37 rfl rfl (fun a hf => ?_)
  have hh := Hp.init w []
  refine sy_sq ?_
  refine o_v hf hh (yv_assign rfl) ?_; clear hf a; intro a hf
  refine o_end ?_
  refine sy_sq ?_
  refine o_v hf hh (yv_move rfl) ?_; clear hf a; intro a hf
  refine o_v hf hh (yv_move rfl) ?_; clear hf a; intro a hf
  refine o_v hf hh (yv_bin rfl rfl rfl) ?_; clear hf a; intro a hf
  refine o_v hf hh (yv_move rfl) ?_; clear hf a; intro a hf
  refine guard_split hf (t := 10) rfl (fun hg2 => ?_) (fun hg2 => ?_)
  ·have hG2 := hg2; try simp only [gS] at hG2
   refine o_v hf hh (yv_move rfl) ?_; clear hf a; intro a hf
   refine o_v hf hh (yv_move rfl) ?_; clear hf a; intro a hf
   refine o_v hf hh (yv_bin rfl rfl rfl) ?_; clear hf a; intro a hf
   refine o_v hf hh (y_pt rfl rfl) ?_; clear hf a; intro a hf
   refine o_v hf hh (yv_assign rfl) ?_; clear hf a; intro a hf
   refine o_end ?_
   refine sy_ret ?_
   refine ret_r hf rfl rfl ?_
   first
     | (rw [decide_eq_true (show l ≤ n by omega), Bool.true_and]; exact ⟨rfl, hh.ext⟩)
     | (rw [decide_eq_false (show ¬ l ≤ n by omega), Bool.false_and]; exact ⟨rfl, hh.ext⟩)
  ·have hG2 := hg2; try simp only [gS] at hG2
   refine o_off hf ?_; clear hf a; intro a hf
   refine o_off hf ?_; clear hf a; intro a hf
   refine o_off hf ?_; clear hf a; intro a hf
   refine o_v hf hh (y_pf rfl rfl) ?_; clear hf a; intro a hf
   refine o_v hf hh (yv_assign rfl) ?_; clear hf a; intro a hf
   refine o_end ?_
   refine sy_ret ?_
   refine ret_r hf rfl rfl ?_
   first
     | (rw [decide_eq_true (show l ≤ n by omega), Bool.true_and]; exact ⟨rfl, hh.ext⟩)
     | (rw [decide_eq_false (show ¬ l ≤ n by omega), Bool.false_and]; exact ⟨rfl, hh.ext⟩)
theorem p34n (Be : Nat) (u : World) : Calls Try.prog 34 #[.nilIface, ptr Be 0] u (Ret fun v w' => Ext [] u w') := by
  refine calls_of Try.func34 rfl rfl (fun a hf => ?_)
  have hh := Hp.init u []
  refine sy_seq ?_
  refine sy_sq ?_
  refine o_v hf hh (yv_move rfl) ?_; clear hf a; intro a hf
  refine o_v hf hh (yv_isNil (by kernel_rfl) rfl rfl) ?_; clear hf a; intro a hf
  refine o_end ?_
  refine c_t hf ?_
  refine sy_ret ?_
  refine then_r ?_
  refine ret_r hf rfl rfl ?_
  exact hh.ext
theorem p34s (Be : Nat) (e x : Int) (u : World) (hb : u.heap[Be]? = some (.cells #[.int .i64 x] 22 (0, 0))) : Calls Try.prog 34 #[.iface 104 (.agg #[.int .i64 e]), ptr Be 0] u (Ret fun v w' => Hp u [Be] [(Be, .cells #[.int .i64 e] 22)] w') := by
  refine calls_of Try.func34 rfl rfl (fun a hf => ?_)
  have hh := Hp.init1 hb
  refine sy_seq ?_
  refine sy_sq ?_
  refine o_v hf hh (yv_move rfl) ?_; clear hf a; intro a hf
  refine o_v hf hh (yv_notNil (by kernel_rfl) rfl rfl) ?_; clear hf a; intro a hf
  refine o_end ?_
  refine c_f hf ?_
  refine sy_skip ?_
  refine then_n ?_
  refine sy_sq ?_
  refine o_v hf hh (yv_move rfl) ?_; clear hf a; intro a hf
  refine o_v hf hh (yv_assert (by kernel_rfl) rfl) ?_; clear hf a; intro a hf
  refine o_v hf hh (yv_move rfl) ?_; clear hf a; intro a hf
  refine o_v hf hh (yv_extract rfl rfl) ?_; clear hf a; intro a hf
  refine o_v hf hh (yv_extract rfl rfl) ?_; clear hf a; intro a hf
  refine o_alloc hf hh Try.ze_104 ?_; clear hf hh a; intro B4 a w hf hh
  refine o_store hf hh Try.sz_104 fun w hh => ?_
  refine o_v hf hh (yv_assign rfl) ?_; clear hf a; intro a hf
  refine o_end ?_
  refine sy_seq ?_
  refine sy_sq ?_
  refine o_v hf hh (yv_move rfl) ?_; clear hf a; intro a hf
  refine o_v hf hh (yv_not rfl) ?_; clear hf a; intro a hf
  refine o_end ?_
  refine c_f hf ?_
  refine sy_skip ?_
  refine then_n ?_
  refine sy_ops ?_
  refine o_v hf hh (yv_move rfl) ?_; clear hf a; intro a hf
  refine o_v hf hh (yv_fieldAddr Try.fo_104_0 rfl) ?_; clear hf a; intro a hf
  refine o_v hf hh (y_ld Try.sc_22 rfl) ?_; clear hf a; intro a hf
  refine o_v hf hh (yv_nilCheck rfl) ?_; clear hf a; intro a hf
  refine o_store hf hh Try.sz_22 fun w hh => ?_
  refine ops_end ?_
  refine ret_n hf rfl rfl ?_
  exact hh.less (.cons _ (.cons_cons _ (.refl _)))
theorem d33r (Be : Nat) (w : World) : CallsDIn (FR none) 0 Try.prog 33 #[ptr Be 0] .returning w (fun e u' w' => (∃ v, e = .returned v) ∧ u' = .returning ∧ Ext [] w w') := by
  refine callsDIn_of_wpSIn Try.func33 rfl trivial fun c₀ cs hu => ?_
  refine wpSIn_recover (v := .nilIface) (cs' := c₀ :: cs) rfl rfl (.inr ⟨by simp [recoverD, hu], rfl, rfl⟩) ?_
  have hf := (Fr.enter [ptr Be 0] Try.f33.ntmps (Nat.le_of_ble_eq_true rfl)).put (d := 1) (blt_lt rfl) .nilIface
  refine o_call hf Try.en_34 rfl rfl rfl (p34n Be w) ?_; clear hf; intro v a w' hR hf
  refine ops_end ?_
  exact ends_s hf rfl (frame_same hu) ⟨⟨_, rfl⟩, rfl, hR⟩
theorem d33p (Be : Nat) (e x : Int) (w : World) (hb : w.heap[Be]? = some (.cells #[.int .i64 x] 22 (0, 0))) : CallsDIn (FR none) 0 Try.prog 33 #[ptr Be 0] (.panicking (misfit e)) w (fun e' u' w' => (∃ v, e' = .returned v) ∧ u' = .panicking [{ v := .iface 104 (.agg #[.int .i64 e]), recovered := true }] ∧ Hp w [Be] [(Be, .cells #[.int .i64 e] 22)] w') := by
  refine callsDIn_of_wpSIn Try.func33 rfl trivial fun c₀ cs hu => ?_
  refine wpSIn_recover (v := .iface 104 (.agg #[.int .i64 e])) (cs' := { c₀ with mode := .panicking [{ v := .iface 104 (.agg #[.int .i64 e]), recovered := true }] } :: cs) rfl rfl (.inl (by simp [recoverD, hu])) ?_
  have hf := (Fr.enter [ptr Be 0] Try.f33.ntmps (Nat.le_of_ble_eq_true rfl)).put (d := 1) (blt_lt rfl) (.iface 104 (.agg #[.int .i64 e]))
  refine o_call hf Try.en_34 rfl rfl rfl (p34s Be e x w hb) ?_; clear hf; intro v a w' hR hf
  refine ops_end ?_
  exact ends_s hf rfl rfl ⟨⟨_, rfl⟩, rfl, hR⟩
theorem d41r (Be : Nat) (w : World) : CallsDIn (FR none) 0 Try.prog 41 #[ptr Be 0] .returning w (fun e u' w' => (∃ v, e = .returned v) ∧ u' = .returning ∧ Ext [] w w') := by
  refine callsDIn_of_wpSIn Try.func41 rfl trivial fun c₀ cs hu => ?_
  refine wpSIn_recover (v := .nilIface) (cs' := c₀ :: cs) rfl rfl (.inr ⟨by simp [recoverD, hu], rfl, rfl⟩) ?_
  have hf := (Fr.enter [ptr Be 0] Try.f41.ntmps (Nat.le_of_ble_eq_true rfl)).put (d := 1) (blt_lt rfl) .nilIface
  refine o_call hf Try.en_34 rfl rfl rfl (p34n Be w) ?_; clear hf; intro v a w' hR hf
  refine ops_end ?_
  exact ends_s hf rfl (frame_same hu) ⟨⟨_, rfl⟩, rfl, hR⟩
theorem d41p (Be : Nat) (e x : Int) (w : World) (hb : w.heap[Be]? = some (.cells #[.int .i64 x] 22 (0, 0))) : CallsDIn (FR none) 0 Try.prog 41 #[ptr Be 0] (.panicking (misfit e)) w (fun e' u' w' => (∃ v, e' = .returned v) ∧ u' = .panicking [{ v := .iface 104 (.agg #[.int .i64 e]), recovered := true }] ∧ Hp w [Be] [(Be, .cells #[.int .i64 e] 22)] w') := by
  refine callsDIn_of_wpSIn Try.func41 rfl trivial fun c₀ cs hu => ?_
  refine wpSIn_recover (v := .iface 104 (.agg #[.int .i64 e])) (cs' := { c₀ with mode := .panicking [{ v := .iface 104 (.agg #[.int .i64 e]), recovered := true }] } :: cs) rfl rfl (.inl (by simp [recoverD, hu])) ?_
  have hf := (Fr.enter [ptr Be 0] Try.f41.ntmps (Nat.le_of_ble_eq_true rfl)).put (d := 1) (blt_lt rfl) (.iface 104 (.agg #[.int .i64 e]))
  refine o_call hf Try.en_34 rfl rfl rfl (p34s Be e x w hb) ?_; clear hf; intro v a w' hR hf
  refine ops_end ?_
  exact ends_s hf rfl rfl ⟨⟨_, rfl⟩, rfl, hR⟩
theorem d45r (Be : Nat) (w : World) : CallsDIn (FR none) 0 Try.prog 45 #[ptr Be 0] .returning w (fun e u' w' => (∃ v, e = .returned v) ∧ u' = .returning ∧ Ext [] w w') := by
  refine callsDIn_of_wpSIn Try.func45 rfl trivial fun c₀ cs hu => ?_
  refine wpSIn_recover (v := .nilIface) (cs' := c₀ :: cs) rfl rfl (.inr ⟨by simp [recoverD, hu], rfl, rfl⟩) ?_
  have hf := (Fr.enter [ptr Be 0] Try.f45.ntmps (Nat.le_of_ble_eq_true rfl)).put (d := 1) (blt_lt rfl) .nilIface
  refine o_call hf Try.en_34 rfl rfl rfl (p34n Be w) ?_; clear hf; intro v a w' hR hf
  refine ops_end ?_
  exact ends_s hf rfl (frame_same hu) ⟨⟨_, rfl⟩, rfl, hR⟩
theorem d45p (Be : Nat) (e x : Int) (w : World) (hb : w.heap[Be]? = some (.cells #[.int .i64 x] 22 (0, 0))) : CallsDIn (FR none) 0 Try.prog 45 #[ptr Be 0] (.panicking (misfit e)) w (fun e' u' w' => (∃ v, e' = .returned v) ∧ u' = .panicking [{ v := .iface 104 (.agg #[.int .i64 e]), recovered := true }] ∧ Hp w [Be] [(Be, .cells #[.int .i64 e] 22)] w') := by
  refine callsDIn_of_wpSIn Try.func45 rfl trivial fun c₀ cs hu => ?_
  refine wpSIn_recover (v := .iface 104 (.agg #[.int .i64 e])) (cs' := { c₀ with mode := .panicking [{ v := .iface 104 (.agg #[.int .i64 e]), recovered := true }] } :: cs) rfl rfl (.inl (by simp [recoverD, hu])) ?_
  have hf := (Fr.enter [ptr Be 0] Try.f45.ntmps (Nat.le_of_ble_eq_true rfl)).put (d := 1) (blt_lt rfl) (.iface 104 (.agg #[.int .i64 e]))
  refine o_call hf Try.en_34 rfl rfl rfl (p34s Be e x w hb) ?_; clear hf; intro v a w' hR hf
  refine ops_end ?_
  exact ends_s hf rfl rfl ⟨⟨_, rfl⟩, rfl, hR⟩
theorem d47r (Be : Nat) (w : World) : CallsDIn (FR none) 0 Try.prog 47 #[ptr Be 0] .returning w (fun e u' w' => (∃ v, e = .returned v) ∧ u' = .returning ∧ Ext [] w w') := by
  refine callsDIn_of_wpSIn Try.func47 rfl trivial fun c₀ cs hu => ?_
  refine wpSIn_recover (v := .nilIface) (cs' := c₀ :: cs) rfl rfl (.inr ⟨by simp [recoverD, hu], rfl, rfl⟩) ?_
  have hf := (Fr.enter [ptr Be 0] Try.f47.ntmps (Nat.le_of_ble_eq_true rfl)).put (d := 1) (blt_lt rfl) .nilIface
  refine o_call hf Try.en_34 rfl rfl rfl (p34n Be w) ?_; clear hf; intro v a w' hR hf
  refine ops_end ?_
  exact ends_s hf rfl (frame_same hu) ⟨⟨_, rfl⟩, rfl, hR⟩
theorem d47p (Be : Nat) (e x : Int) (w : World) (hb : w.heap[Be]? = some (.cells #[.int .i64 x] 22 (0, 0))) : CallsDIn (FR none) 0 Try.prog 47 #[ptr Be 0] (.panicking (misfit e)) w (fun e' u' w' => (∃ v, e' = .returned v) ∧ u' = .panicking [{ v := .iface 104 (.agg #[.int .i64 e]), recovered := true }] ∧ Hp w [Be] [(Be, .cells #[.int .i64 e] 22)] w') := by
  refine callsDIn_of_wpSIn Try.func47 rfl trivial fun c₀ cs hu => ?_
  refine wpSIn_recover (v := .iface 104 (.agg #[.int .i64 e])) (cs' := { c₀ with mode := .panicking [{ v := .iface 104 (.agg #[.int .i64 e]), recovered := true }] } :: cs) rfl rfl (.inl (by simp [recoverD, hu])) ?_
  have hf := (Fr.enter [ptr Be 0] Try.f47.ntmps (Nat.le_of_ble_eq_true rfl)).put (d := 1) (blt_lt rfl) (.iface 104 (.agg #[.int .i64 e]))
  refine o_call hf Try.en_34 rfl rfl rfl (p34s Be e x w hb) ?_; clear hf; intro v a w' hR hf
  refine ops_end ?_
  exact ends_s hf rfl rfl ⟨⟨_, rfl⟩, rfl, hR⟩
theorem d48r (Be : Nat) (w : World) : CallsDIn (FR none) 0 Try.prog 48 #[ptr Be 0] .returning w (fun e u' w' => (∃ v, e = .returned v) ∧ u' = .returning ∧ Ext [] w w') := by
  refine callsDIn_of_wpSIn Try.func48 rfl trivial fun c₀ cs hu => ?_
  refine wpSIn_recover (v := .nilIface) (cs' := c₀ :: cs) rfl rfl (.inr ⟨by simp [recoverD, hu], rfl, rfl⟩) ?_
  have hf := (Fr.enter [ptr Be 0] Try.f48.ntmps (Nat.le_of_ble_eq_true rfl)).put (d := 1) (blt_lt rfl) .nilIface
  refine o_call hf Try.en_34 rfl rfl rfl (p34n Be w) ?_; clear hf; intro v a w' hR hf
  refine ops_end ?_
  exact ends_s hf rfl (frame_same hu) ⟨⟨_, rfl⟩, rfl, hR⟩
theorem d48p (Be : Nat) (e x : Int) (w : World) (hb : w.heap[Be]? = some (.cells #[.int .i64 x] 22 (0, 0))) : CallsDIn (FR none) 0 Try.prog 48 #[ptr Be 0] (.panicking (misfit e)) w (fun e' u' w' => (∃ v, e' = .returned v) ∧ u' = .panicking [{ v := .iface 104 (.agg #[.int .i64 e]), recovered := true }] ∧ Hp w [Be] [(Be, .cells #[.int .i64 e] 22)] w') := by
  refine callsDIn_of_wpSIn Try.func48 rfl trivial fun c₀ cs hu => ?_
  refine wpSIn_recover (v := .iface 104 (.agg #[.int .i64 e])) (cs' := { c₀ with mode := .panicking [{ v := .iface 104 (.agg #[.int .i64 e]), recovered := true }] } :: cs) rfl rfl (.inl (by simp [recoverD, hu])) ?_
  have hf := (Fr.enter [ptr Be 0] Try.f48.ntmps (Nat.le_of_ble_eq_true rfl)).put (d := 1) (blt_lt rfl) (.iface 104 (.agg #[.int .i64 e]))
  refine o_call hf Try.en_34 rfl rfl rfl (p34s Be e x w hb) ?_; clear hf; intro v a w' hR hf
  refine ops_end ?_
  exact ends_s hf rfl rfl ⟨⟨_, rfl⟩, rfl, hR⟩
theorem d49r (Be : Nat) (w : World) : CallsDIn (FR none) 0 Try.prog 49 #[ptr Be 0] .returning w (fun e u' w' => (∃ v, e = .returned v) ∧ u' = .returning ∧ Ext [] w w') := by
  refine callsDIn_of_wpSIn Try.func49 rfl trivial fun c₀ cs hu => ?_
  refine wpSIn_recover (v := .nilIface) (cs' := c₀ :: cs) rfl rfl (.inr ⟨by simp [recoverD, hu], rfl, rfl⟩) ?_
  have hf := (Fr.enter [ptr Be 0] Try.f49.ntmps (Nat.le_of_ble_eq_true rfl)).put (d := 1) (blt_lt rfl) .nilIface
  refine o_call hf Try.en_34 rfl rfl rfl (p34n Be w) ?_; clear hf; intro v a w' hR hf
  refine ops_end ?_
  exact ends_s hf rfl (frame_same hu) ⟨⟨_, rfl⟩, rfl, hR⟩
theorem d49p (Be : Nat) (e x : Int) (w : World) (hb : w.heap[Be]? = some (.cells #[.int .i64 x] 22 (0, 0))) : CallsDIn (FR none) 0 Try.prog 49 #[ptr Be 0] (.panicking (misfit e)) w (fun e' u' w' => (∃ v, e' = .returned v) ∧ u' = .panicking [{ v := .iface 104 (.agg #[.int .i64 e]), recovered := true }] ∧ Hp w [Be] [(Be, .cells #[.int .i64 e] 22)] w') := by
  refine callsDIn_of_wpSIn Try.func49 rfl trivial fun c₀ cs hu => ?_
  refine wpSIn_recover (v := .iface 104 (.agg #[.int .i64 e])) (cs' := { c₀ with mode := .panicking [{ v := .iface 104 (.agg #[.int .i64 e]), recovered := true }] } :: cs) rfl rfl (.inl (by simp [recoverD, hu])) ?_
  have hf := (Fr.enter [ptr Be 0] Try.f49.ntmps (Nat.le_of_ble_eq_true rfl)).put (d := 1) (blt_lt rfl) (.iface 104 (.agg #[.int .i64 e]))
  refine o_call hf Try.en_34 rfl rfl rfl (p34s Be e x w hb) ?_; clear hf; intro v a w' hR hf
  refine ops_end ?_
  exact ends_s hf rfl rfl ⟨⟨_, rfl⟩, rfl, hR⟩
theorem d54r (Be : Nat) (w : World) : CallsDIn (FR none) 0 Try.prog 54 #[ptr Be 0] .returning w (fun e u' w' => (∃ v, e = .returned v) ∧ u' = .returning ∧ Ext [] w w') := by
  refine callsDIn_of_wpSIn Try.func54 rfl trivial fun c₀ cs hu => ?_
  refine wpSIn_recover (v := .nilIface) (cs' := c₀ :: cs) rfl rfl (.inr ⟨by simp [recoverD, hu], rfl, rfl⟩) ?_
  have hf := (Fr.enter [ptr Be 0] Try.f54.ntmps (Nat.le_of_ble_eq_true rfl)).put (d := 1) (blt_lt rfl) .nilIface
  refine o_call hf Try.en_34 rfl rfl rfl (p34n Be w) ?_; clear hf; intro v a w' hR hf
  refine ops_end ?_
  exact ends_s hf rfl (frame_same hu) ⟨⟨_, rfl⟩, rfl, hR⟩
theorem d54p (Be : Nat) (e x : Int) (w : World) (hb : w.heap[Be]? = some (.cells #[.int .i64 x] 22 (0, 0))) : CallsDIn (FR none) 0 Try.prog 54 #[ptr Be 0] (.panicking (misfit e)) w (fun e' u' w' => (∃ v, e' = .returned v) ∧ u' = .panicking [{ v := .iface 104 (.agg #[.int .i64 e]), recovered := true }] ∧ Hp w [Be] [(Be, .cells #[.int .i64 e] 22)] w') := by
  refine callsDIn_of_wpSIn Try.func54 rfl trivial fun c₀ cs hu => ?_
  refine wpSIn_recover (v := .iface 104 (.agg #[.int .i64 e])) (cs' := { c₀ with mode := .panicking [{ v := .iface 104 (.agg #[.int .i64 e]), recovered := true }] } :: cs) rfl rfl (.inl (by simp [recoverD, hu])) ?_
  have hf := (Fr.enter [ptr Be 0] Try.f54.ntmps (Nat.le_of_ble_eq_true rfl)).put (d := 1) (blt_lt rfl) (.iface 104 (.agg #[.int .i64 e]))
  refine o_call hf Try.en_34 rfl rfl rfl (p34s Be e x w hb) ?_; clear hf; intro v a w' hR hf
  refine ops_end ?_
  exact ends_s hf rfl rfl ⟨⟨_, rfl⟩, rfl, hR⟩
theorem d55r (Be : Nat) (w : World) : CallsDIn (FR none) 0 Try.prog 55 #[ptr Be 0] .returning w (fun e u' w' => (∃ v, e = .returned v) ∧ u' = .returning ∧ Ext [] w w') := by
  refine callsDIn_of_wpSIn Try.func55 rfl trivial fun c₀ cs hu => ?_
  refine wpSIn_recover (v := .nilIface) (cs' := c₀ :: cs) rfl rfl (.inr ⟨by simp [recoverD, hu], rfl, rfl⟩) ?_
  have hf := (Fr.enter [ptr Be 0] Try.f55.ntmps (Nat.le_of_ble_eq_true rfl)).put (d := 1) (blt_lt rfl) .nilIface
  refine o_call hf Try.en_34 rfl rfl rfl (p34n Be w) ?_; clear hf; intro v a w' hR hf
  refine ops_end ?_
  exact ends_s hf rfl (frame_same hu) ⟨⟨_, rfl⟩, rfl, hR⟩
theorem d55p (Be : Nat) (e x : Int) (w : World) (hb : w.heap[Be]? = some (.cells #[.int .i64 x] 22 (0, 0))) : CallsDIn (FR none) 0 Try.prog 55 #[ptr Be 0] (.panicking (misfit e)) w (fun e' u' w' => (∃ v, e' = .returned v) ∧ u' = .panicking [{ v := .iface 104 (.agg #[.int .i64 e]), recovered := true }] ∧ Hp w [Be] [(Be, .cells #[.int .i64 e] 22)] w') := by
  refine callsDIn_of_wpSIn Try.func55 rfl trivial fun c₀ cs hu => ?_
  refine wpSIn_recover (v := .iface 104 (.agg #[.int .i64 e])) (cs' := { c₀ with mode := .panicking [{ v := .iface 104 (.agg #[.int .i64 e]), recovered := true }] } :: cs) rfl rfl (.inl (by simp [recoverD, hu])) ?_
  have hf := (Fr.enter [ptr Be 0] Try.f55.ntmps (Nat.le_of_ble_eq_true rfl)).put (d := 1) (blt_lt rfl) (.iface 104 (.agg #[.int .i64 e]))
  refine o_call hf Try.en_34 rfl rfl rfl (p34s Be e x w hb) ?_; clear hf; intro v a w' hR hf
  refine ops_end ?_
  exact ends_s hf rfl rfl ⟨⟨_, rfl⟩, rfl, hR⟩
end Go.Proofs.Ytidieepndphodaa
namespace Go.MatM
open Go Go.Sy Go.Proofs Go.RowKit
theorem has_u (s n : Nat) : decide (((((((s : Nat) : Int).toNat >>> ((n : Nat) : Int).toNat : Nat) : Int).toNat &&& (1 : Int).toNat : Nat) : Int) = 1) = s.testBit n := by
  rw [Int.toNat_natCast, Int.toNat_natCast, Int.toNat_natCast, show (1 : Int).toNat = 1 from rfl, bit1]
  cases s.testBit n <;> simp
def keepF (s : Nat) : Nat → List Mk → List Mk
  | _, [] => []
  | i, m :: l => if s.testBit i then keepF s (i + 1) l else m :: keepF s (i + 1) l
def keepL (l : List Mk) (s : Nat) : List Mk := keepF s 0 l
theorem keepF_app (s : Nat) : ∀ (a : List Mk) (i : Nat) (b : List Mk), keepF s i (a ++ b) = keepF s i a ++ keepF s (i + a.length) b
  | [], i, b => by simp [keepF]
  | m :: a, i, b => by
    rw [List.cons_append, keepF, keepF, keepF_app s a (i + 1) b, List.length_cons, show i + 1 + a.length = i + (a.length + 1) by omega]
    split <;> rfl
theorem keepL_snoc {l : List Mk} {s n : Nat} {m : Mk} (h : l[n]? = some m) : keepL (l.take (n + 1)) s = if s.testBit n then keepL (l.take n) s else keepL (l.take n) s ++ [m] := by
  have hl := len_of h
  unfold keepL
  rw [List.take_add_one, h, Option.toList_some, keepF_app, List.length_take, Nat.zero_add, Nat.min_eq_left (by omega)]
  rw [show keepF s n [m] = if s.testBit n then [] else [m] from by rw [keepF]; split <;> rfl]
  split
  · exact List.append_nil _
  · rfl
theorem keepF_sub (s : Nat) : ∀ (l : List Mk) (i : Nat), (keepF s i l).Sublist l
  | [], _ => List.Sublist.refl _
  | m :: l, i => by
    rw [keepF]
    split
    · exact .cons _ (keepF_sub s l (i + 1))
    · exact .cons_cons _ (keepF_sub s l (i + 1))
theorem keepL_len (l : List Mk) (s : Nat) : (keepL l s).length ≤ l.length := (keepF_sub s l 0).length_le
/-- The rows without marks. -/
def woD (d : RowsD) (x : Nat × Nat) : RowsD := ⟨keepL d.l x.1, keepL d.r x.2, d.lo, d.hi, d.hid⟩
theorem woD_valid {d : RowsD} (hV : Valid d) (x : Nat × Nat) : Valid (woD d x) :=
  ⟨Nat.le_trans (keepL_len _ _) hV.nl, Nat.le_trans (keepL_len _ _) hV.nr, fun m hm => hV.ml m ((keepF_sub _ _ _).subset hm), fun m hm => hV.mr m ((keepF_sub _ _ _).subset hm), hV.s1, hV.s2, hV.s3, hV.h1, hV.h2⟩
end Go.MatM
namespace Go.Proofs.Ytidieepndphodaa
open Go Go.Sy Go.MatM
theorem c43 (n l h : Int) (w : World) : Calls Try.prog 78 #[.int .i64 n, .int .i64 l, .int .i64 h] w (Ret fun v w' => v = .bool (decide (l ≤ n) && decide (n ≤ h)) ∧ Ext [] w w') := by
  refine calls_of Try.func78 rfl rfl (fun a hf => ?_)
  have hh := Hp.init w []
  refine sy_sq ?_
  refine o_v hf hh (yv_assign rfl) ?_; clear hf a; intro a hf
  refine o_end ?_
  refine sy_sq ?_
  refine o_v hf hh (yv_move rfl) ?_; clear hf a; intro a hf
  refine o_v hf hh (yv_move rfl) ?_; clear hf a; intro a hf
  refine o_v hf hh (yv_bin rfl rfl rfl) ?_; clear hf a; intro a hf
  refine o_v hf hh (yv_move rfl) ?_; clear hf a; intro a hf
  refine guard_split hf (t := 10) rfl (fun hg2 => ?_) (fun hg2 => ?_)
  ·have hG2 := hg2; try simp only [gS] at hG2
   refine o_v hf hh (yv_move rfl) ?_; clear hf a; intro a hf
   refine o_v hf hh (yv_move rfl) ?_; clear hf a; intro a hf
   refine o_v hf hh (yv_bin rfl rfl rfl) ?_; clear hf a; intro a hf
   refine o_v hf hh (y_pt rfl rfl) ?_; clear hf a; intro a hf
   refine o_v hf hh (yv_assign rfl) ?_; clear hf a; intro a hf
   refine o_end ?_
   refine sy_ret ?_
   refine ret_r hf rfl rfl ?_
   exact ⟨by simp [tup, *], hh.ext⟩
  ·have hG2 := hg2; try simp only [gS] at hG2
   refine o_off hf ?_; clear hf a; intro a hf
   refine o_off hf ?_; clear hf a; intro a hf
   refine o_off hf ?_; clear hf a; intro a hf
   refine o_v hf hh (y_pf rfl rfl) ?_; clear hf a; intro a hf
   refine o_v hf hh (yv_assign rfl) ?_; clear hf a; intro a hf
   refine o_end ?_
   refine sy_ret ?_
   refine ret_r hf rfl rfl ?_
   exact ⟨by simp [tup, *], hh.ext⟩
theorem c77 (x y l h : Int) (w : World) : Calls Try.prog 75 #[.agg #[.int .i64 x, .int .i64 y], .int .i64 l, .int .i64 h] w (Ret fun v w' => v = .bool (decide (l ≤ x) && decide (x ≤ y) && decide (y ≤ h)) ∧ Ext [] w w') := by
  refine calls_of Try.func75 rfl rfl (fun a hf => ?_)
  have hh := Hp.init w []
  refine sy_sq ?_
  refine o_box hf hh ?_; clear hf hh a; intro B3 a w hf hh
  refine o_v hf hh (yv_assign rfl) ?_; clear hf a; intro a hf
  refine o_end ?_
  refine sy_sq ?_
  refine o_v hf hh (yv_move rfl) ?_; clear hf a; intro a hf
  refine o_v hf hh (yv_fieldAddr Try.fo_27_0 rfl) ?_; clear hf a; intro a hf
  refine o_v hf hh (y_ld Try.sc_3 rfl) ?_; clear hf a; intro a hf
  refine o_v hf hh (yv_bin rfl rfl rfl) ?_; clear hf a; intro a hf
  refine o_v hf hh (yv_move rfl) ?_; clear hf a; intro a hf
  refine guard_split hf (t := 11) rfl (fun hg2 => ?_) (fun hg2 => ?_)
  ·have hG2 := hg2; try simp only [gS] at hG2
   refine o_v hf hh (yv_fieldAddr Try.fo_27_0 rfl) ?_; clear hf a; intro a hf
   refine o_v hf hh (y_ld Try.sc_3 rfl) ?_; clear hf a; intro a hf
   refine o_v hf hh (yv_fieldAddr Try.fo_27_1 rfl) ?_; clear hf a; intro a hf
   refine o_v hf hh (y_ld Try.sc_3 rfl) ?_; clear hf a; intro a hf
   refine o_v hf hh (yv_bin rfl rfl rfl) ?_; clear hf a; intro a hf
   refine o_v hf hh (y_pt rfl rfl) ?_; clear hf a; intro a hf
   refine o_v hf hh (yv_move rfl) ?_; clear hf a; intro a hf
   refine guard_split hf (t := 18) rfl (fun hg4 => ?_) (fun hg4 => ?_)
   ·have hG4 := hg4; try simp only [gS] at hG4
    refine o_v hf hh (yv_fieldAddr Try.fo_27_1 rfl) ?_; clear hf a; intro a hf
    refine o_v hf hh (y_ld Try.sc_3 rfl) ?_; clear hf a; intro a hf
    refine o_v hf hh (yv_move rfl) ?_; clear hf a; intro a hf
    refine o_v hf hh (yv_bin rfl rfl rfl) ?_; clear hf a; intro a hf
    refine o_v hf hh (y_pt rfl rfl) ?_; clear hf a; intro a hf
    refine o_v hf hh (yv_assign rfl) ?_; clear hf a; intro a hf
    refine o_end ?_
    refine sy_ret ?_
    refine ret_r hf rfl rfl ?_
    exact ⟨by simp [tup, *], hh.ext⟩
   ·have hG4 := hg4; try simp only [gS] at hG4
    refine o_off hf ?_; clear hf a; intro a hf
    refine o_off hf ?_; clear hf a; intro a hf
    refine o_off hf ?_; clear hf a; intro a hf
    refine o_off hf ?_; clear hf a; intro a hf
    refine o_v hf hh (y_pf rfl rfl) ?_; clear hf a; intro a hf
    refine o_v hf hh (yv_assign rfl) ?_; clear hf a; intro a hf
    refine o_end ?_
    refine sy_ret ?_
    refine ret_r hf rfl rfl ?_
    exact ⟨by simp [tup, *], hh.ext⟩
  ·have hG2 := hg2; try simp only [gS] at hG2
   refine o_off hf ?_; clear hf a; intro a hf
   refine o_off hf ?_; clear hf a; intro a hf
   refine o_off hf ?_; clear hf a; intro a hf
   refine o_off hf ?_; clear hf a; intro a hf
   refine o_off hf ?_; clear hf a; intro a hf
   refine o_v hf hh (y_pf rfl rfl) ?_; clear hf a; intro a hf
   refine o_v hf hh (yv_move rfl) ?_; clear hf a; intro a hf
   refine o_off hf ?_; clear hf a; intro a hf
   refine o_off hf ?_; clear hf a; intro a hf
   refine o_off hf ?_; clear hf a; intro a hf
   refine o_off hf ?_; clear hf a; intro a hf
   refine o_v hf hh (y_pf rfl rfl) ?_; clear hf a; intro a hf
   refine o_v hf hh (yv_assign rfl) ?_; clear hf a; intro a hf
   refine o_end ?_
   refine sy_ret ?_
   refine ret_r hf rfl rfl ?_
   exact ⟨by simp [tup, *], hh.ext⟩
theorem c76 (m : Mk) (w : World) : Calls Try.prog 74 #[mkV m] w (Ret fun v w' => v = .bool (!okM m) ∧ Ext [] w w') := by
  refine calls_of Try.func74 rfl rfl (fun a hf => ?_)
  have hh := Hp.init w []
  refine sy_sq ?_
  refine o_box hf hh ?_; clear hf hh a; intro B1 a w hf hh
  refine o_v hf hh (yv_assign rfl) ?_; clear hf a; intro a hf
  refine o_end ?_
  refine sy_sq ?_
  refine o_v hf hh (yv_fieldAddr Try.fo_54_0 rfl) ?_; clear hf a; intro a hf
  refine o_v hf hh (y_lds Try.ag_27 rfl) ?_; clear hf a; intro a hf
  refine o_call hf Try.en_75 rfl rfl rfl (c77 _ _ _ _ _) ?_; clear hf a; intro v a w hR hf
  obtain ⟨rfl, hx⟩ := hR; replace hh := hh.more hx; clear hx
  refine o_v hf hh (yv_not rfl) ?_; clear hf a; intro a hf
  refine o_v hf hh (yv_move rfl) ?_; clear hf a; intro a hf
  refine guard_split hf (t := 7) rfl (fun hg2 => ?_) (fun hg2 => ?_)
  ·have hG2 := hg2; try simp only [gS] at hG2
   refine o_off hf ?_; clear hf a; intro a hf
   refine o_off hf ?_; clear hf a; intro a hf
   refine o_off hf ?_; clear hf a; intro a hf
   refine o_off hf ?_; clear hf a; intro a hf
   refine o_v hf hh (y_pt rfl rfl) ?_; clear hf a; intro a hf
   refine o_v hf hh (yv_assign rfl) ?_; clear hf a; intro a hf
   refine o_end ?_
   refine sy_ret ?_
   refine ret_r hf rfl rfl ?_
   have hX := hh.ext
   refine ⟨congrArg Value.bool ?_, hX⟩
   clear hX hh hf
   rw [Bool.eq_iff_iff]
   simp [okM] at *
   omega
  ·have hG2 := hg2; try simp only [gS] at hG2
   refine o_v hf hh (yv_fieldAddr Try.fo_54_1 rfl) ?_; clear hf a; intro a hf
   refine o_v hf hh (y_lds Try.ag_27 rfl) ?_; clear hf a; intro a hf
   refine o_call hf Try.en_75 rfl rfl rfl (c77 _ _ _ _ _) ?_; clear hf a; intro v a w hR hf
   obtain ⟨rfl, hx⟩ := hR; replace hh := hh.more hx; clear hx
   refine o_v hf hh (yv_not rfl) ?_; clear hf a; intro a hf
   refine o_v hf hh (y_pf rfl rfl) ?_; clear hf a; intro a hf
   refine o_v hf hh (yv_assign rfl) ?_; clear hf a; intro a hf
   refine o_end ?_
   refine sy_ret ?_
   refine ret_r hf rfl rfl ?_
   have hX := hh.ext
   refine ⟨congrArg Value.bool ?_, hX⟩
   clear hX hh hf
   rw [Bool.eq_iff_iff]
   simp [okM] at *
   omega
theorem c97 (l : List Mk) (sa : Option Addr) (c : Nat) (w : World) (hM : MkAt w sa l) (hl : l.length ≤ 1000) : Calls Try.prog 92 #[.slice sa l.length c, .func (.func 74) #[] #[]] w (Ret fun v w' => v = .int .i64 (fbad l 0) ∧ Ext [] w w') := by
  refine calls_of Try.func92 rfl rfl (fun a hf => ?_)
  have hh := Hp.init w []
  refine sy_sq ?_
  refine o_v hf hh (yv_assign rfl) ?_; clear hf a; intro a hf
  refine o_end ?_
  refine sy_seq ?_
  refine sy_sq ?_
  refine o_v hf hh (yv_move rfl) ?_; clear hf a; intro a hf
  refine o_v hf hh (yv_len Try.se_25 rfl) ?_; clear hf a; intro a hf
  refine o_v hf hh (yv_move rfl) ?_; clear hf a; intro a hf
  refine o_end ?_
  refine sy_block ?_
  refine sy_loopF (σ := Nat) [4, 5, 8, 9, 10, 11, 12, 13, 14, 15, 16, 17, 18] (fun i => [(8, .int .i64 i)]) (fun i => i ≤ l.length ∧ fbad l 0 = fbad (l.drop i) i) (fun i => l.length - i) (0) hf hh ?_ ?_ ?_
  · repeat' (first | exact True.intro | refine And.intro rfl ?_)
  · exact ⟨Nat.zero_le _, rfl⟩
  ·rintro i a w ⟨hi, hq⟩ hf hh
   have hex : i < l.length → ∃ m, l[i]? = some m := fun h => ex_of h
   refine sy_sq ?_
   refine o_v hf hh (yv_bin rfl rfl rfl) ?_; clear hf a; intro a hf
   refine o_end ?_
   refine sy_seq ?_
   refine sy_cond hf rfl (fun hg2 => ?_) (fun hg2 => ?_)
   ·have hG2 := hg2; try simp only [gS] at hG2
    refine sy_skip ?_
    refine then_n ?_
    refine sy_seq ?_
    refine sy_block ?_
    refine sy_seq ?_
    obtain ⟨m, hm⟩ := hex (by omega)
    obtain ⟨blk, off, cc, T, fr, e, hb, hc⟩ := hM i m hm; cases e
    refine sy_ops ?_
    refine o_v hf hh (yv_move rfl) ?_; clear hf a; intro a hf
    refine o_v hf hh (yv_assign rfl) ?_; clear hf a; intro a hf
    refine o_end ?_
    refine sy_sq ?_
    refine o_v hf hh (yv_move rfl) ?_; clear hf a; intro a hf
    refine o_v hf hh (yv_move rfl) ?_; clear hf a; intro a hf
    refine o_v hf hh (yv_move rfl) ?_; clear hf a; intro a hf
    refine o_v hf hh (y_ix Try.se_25 rfl rfl) ?_; clear hf a; intro a hf
    refine o_v hf hh (y_lds Try.ag_54 rfl) ?_; clear hf a; intro a hf
    refine o_call hf Try.en_74 rfl rfl rfl (c76 m _) ?_; clear hf a; intro v a w hR hf
    obtain ⟨rfl, hx⟩ := hR; replace hh := hh.more hx; clear hx
    refine o_end ?_
    refine sy_cond hf rfl (fun hg4 => ?_) (fun hg4 => ?_)
    ·have hG4 := hg4; try simp only [gS] at hG4
     refine sy_sq ?_
     refine o_v hf hh (yv_move rfl) ?_; clear hf a; intro a hf
     refine o_v hf hh (yv_assign rfl) ?_; clear hf a; intro a hf
     refine o_end ?_
     refine sy_ret ?_
     refine blk_r ?_
     refine then_r ?_
     refine then_r ?_
     refine blk_r ?_
     refine then_r ?_
     refine ret_r hf rfl rfl ?_
     exact ⟨congrArg (Value.int .i64) (by rw [hq, fbad_drop hm, if_neg (by simp_all)]), hh.ext⟩
    ·have hG4 := hg4; try simp only [gS] at hG4
     refine sy_skip ?_
     refine blk_n ?_
     refine then_n ?_
     refine sy_ops ?_
     refine o_v hf hh (y_add rfl rfl) ?_; clear hf a; intro a hf
     refine o_v hf hh (yv_move rfl) ?_; clear hf a; intro a hf
     refine ops_end ?_
     refine then_n ?_
     refine ⟨i + 1, ⟨⟨by omega, by rw [hq, fbad_drop hm, if_pos (by simp_all)]⟩, (hf.head (by repeat' (first | exact True.intro | refine And.intro rfl ?_)) (Keep.cons rfl (Keep.cons rfl (Keep.cons rfl (Keep.cons rfl (Keep.cons rfl (Keep.cons rfl (Keep.cons rfl (Keep.cons rfl (Keep.cons rfl (Keep.cons rfl (Keep.cons rfl (Keep.app rfl (Keep.rm rfl Keep.base)))))))))))))), hh⟩, by omega⟩
   ·have hG2 := hg2; try simp only [gS] at hG2
    refine sy_exit ?_
    refine then_e ?_
    refine then_e ?_
    refine blk_e ?_
    refine then_n ?_
    refine sy_sq ?_
    refine o_v hf hh (yv_assign rfl) ?_; clear hf a; intro a hf
    refine o_end ?_
    refine sy_ret ?_
    refine ret_r hf rfl rfl ?_
    exact ⟨congrArg (Value.int .i64) (by rw [hq, List.drop_eq_nil_of_le (by omega)]; rfl), hh.ext⟩
theorem c78 (l : List Mk) (sa : Option Addr) (c : Nat) (w : World) (hM : MkAt w sa l) (hl : l.length ≤ 1000) : Calls Try.prog 76 #[.slice sa l.length c, .func (.func 74) #[] #[]] w (Ret fun v w' => v = .bool (!l.all okM) ∧ Ext [] w w') := by
  refine calls_of Try.func76 rfl rfl (fun a hf => ?_)
  have hh := Hp.init w []
  refine sy_sq ?_
  refine o_v hf hh (yv_assign rfl) ?_; clear hf a; intro a hf
  refine o_end ?_
  refine sy_sq ?_
  refine o_v hf hh (yv_move rfl) ?_; clear hf a; intro a hf
  refine o_v hf hh (yv_move rfl) ?_; clear hf a; intro a hf
  refine o_call hf Try.en_92 rfl rfl rfl (c97 l sa c _ (hM.ext hh.ext) hl) ?_; clear hf a; intro v a w hR hf
  obtain ⟨rfl, hx⟩ := hR; replace hh := hh.more hx; clear hx
  refine o_v hf hh (yv_bin rfl rfl rfl) ?_; clear hf a; intro a hf
  refine o_v hf hh (yv_assign rfl) ?_; clear hf a; intro a hf
  refine o_end ?_
  refine sy_ret ?_
  refine ret_r hf rfl rfl ?_
  exact ⟨congrArg Value.bool (fbad_all l 0), hh.ext⟩
end Go.Proofs.Ytidieepndphodaa
namespace Go.Proofs.Ytidieepndphodaa
open Go Go.Sy Go.MatM
theorem c98z (w : World) : Calls Try.prog 93 #[.slice none 0 0, .int .i64 0] w (Ret fun v w' => v = .slice none 0 0 ∧ Ext [] w w') := by
  refine calls_of Try.func93 rfl rfl (fun a hf => ?_)
  have hh := Hp.init w []
  refine sy_sq ?_
  refine o_v hf hh (yv_assign rfl) ?_; clear hf a; intro a hf
  refine o_end ?_
  refine sy_seq ?_
  refine sy_sq ?_
  refine o_v hf hh (yv_move rfl) ?_; clear hf a; intro a hf
  refine o_v hf hh (yv_bin rfl rfl rfl) ?_; clear hf a; intro a hf
  refine o_end ?_
  refine c_f hf ?_
  refine sy_skip ?_
  refine then_n ?_
  refine sy_seq ?_
  refine sy_sq ?_
  refine o_v hf hh (yv_move rfl) ?_; clear hf a; intro a hf
  refine o_v hf hh (yv_move rfl) ?_; clear hf a; intro a hf
  refine o_v hf hh (yv_cap Try.se_25 rfl) ?_; clear hf a; intro a hf
  refine o_v hf hh (yv_move rfl) ?_; clear hf a; intro a hf
  refine o_v hf hh (yv_len Try.se_25 rfl) ?_; clear hf a; intro a hf
  refine o_v hf hh (y_sub rfl rfl) ?_; clear hf a; intro a hf
  refine o_v hf hh (y_sub rfl rfl) ?_; clear hf a; intro a hf
  refine o_v hf hh (yv_assign rfl) ?_; clear hf a; intro a hf
  refine o_end ?_
  refine sy_sq ?_
  refine o_v hf hh (yv_move rfl) ?_; clear hf a; intro a hf
  refine o_v hf hh (yv_bin rfl rfl rfl) ?_; clear hf a; intro a hf
  refine o_end ?_
  refine c_f hf ?_
  refine sy_skip ?_
  refine then_n ?_
  refine sy_sq ?_
  refine o_v hf hh (yv_move rfl) ?_; clear hf a; intro a hf
  refine o_v hf hh (yv_assign rfl) ?_; clear hf a; intro a hf
  refine o_end ?_
  refine sy_ret ?_
  refine ret_r hf rfl rfl ?_
  exact ⟨rfl, hh.ext⟩
theorem c98p (q : Nat) (h0 : 0 < q) (hq : q ≤ 1000) (u : World) : Calls Try.prog 93 #[.slice none 0 0, .int .i64 q] u (Ret fun v w' => ∃ B cap cur, v = .slice (some ⟨B, 0, none⟩) 0 cap ∧ cur.size = cap * 4 ∧ q ≤ cap ∧ cap ≤ maxLen ∧ Hp u [] [(B, .cells cur 54 (0, 0))] w') := by
  refine calls_of Try.func93 rfl rfl (fun a hf => ?_)
  have hh := Hp.init u []
  refine sy_sq ?_
  refine o_v hf hh (yv_assign rfl) ?_; clear hf a; intro a hf
  refine o_end ?_
  refine sy_seq ?_
  refine sy_sq ?_
  refine o_v hf hh (yv_move rfl) ?_; clear hf a; intro a hf
  refine o_v hf hh (yv_bin rfl rfl rfl) ?_; clear hf a; intro a hf
  refine o_end ?_
  refine c_f hf ?_
  refine sy_skip ?_
  refine then_n ?_
  refine sy_seq ?_
  refine sy_sq ?_
  refine o_v hf hh (yv_move rfl) ?_; clear hf a; intro a hf
  refine o_v hf hh (yv_move rfl) ?_; clear hf a; intro a hf
  refine o_v hf hh (yv_cap Try.se_25 rfl) ?_; clear hf a; intro a hf
  refine o_v hf hh (yv_move rfl) ?_; clear hf a; intro a hf
  refine o_v hf hh (yv_len Try.se_25 rfl) ?_; clear hf a; intro a hf
  refine o_v hf hh (y_sub rfl rfl) ?_; clear hf a; intro a hf
  refine ops_v hf hh (yv_cast (yv_sub rfl rfl (by omega) (by omega)) (intv (b := ((q : Nat) : Int)) (by omega))) (.inl rfl) rfl rfl rfl ?_; clear hf a; intro a hf
  refine o_v hf hh (yv_assign rfl) ?_; clear hf a; intro a hf
  refine o_end ?_
  refine sy_sq ?_
  refine o_v hf hh (yv_move rfl) ?_; clear hf a; intro a hf
  refine o_v hf hh (yv_bin rfl rfl rfl) ?_; clear hf a; intro a hf
  refine o_end ?_
  refine c_t hf ?_
  refine sy_ops ?_
  refine o_v hf hh (yv_move rfl) ?_; clear hf a; intro a hf
  refine o_v hf hh (yv_move rfl) ?_; clear hf a; intro a hf
  refine o_v hf hh (yv_cap Try.se_25 rfl) ?_; clear hf a; intro a hf
  refine o_v hf hh (yv_cutHi (a := none) (n := 0) (c := 0) (m := 0) Try.se_25 rfl rfl (Nat.le_refl _)) ?_; clear hf a; intro a hf
  refine o_v hf hh (yv_move rfl) ?_; clear hf a; intro a hf
  refine ops_room hf hh Try.eb_25 Try.un_3 rfl (q := q) (by rfl) h0 (by simp only [maxLen]; omega) (by omega) (.inl rfl) rfl ?_; clear hf hh a; intro B cap cur a w hcz hqc hcm hf hh
  refine o_v hf hh (yv_move rfl) ?_; clear hf a; intro a hf
  refine o_v hf hh (yv_len Try.se_25 rfl) ?_; clear hf a; intro a hf
  refine o_v hf hh (yv_cutHi (a := (some ⟨B, 0, none⟩)) (n := q) (c := cap) (m := 0) Try.se_25 rfl rfl (Nat.zero_le _)) ?_; clear hf a; intro a hf
  refine o_v hf hh (yv_assign rfl) ?_; clear hf a; intro a hf
  refine o_end ?_
  refine sy_sq ?_
  refine o_v hf hh (yv_move rfl) ?_; clear hf a; intro a hf
  refine o_v hf hh (yv_assign rfl) ?_; clear hf a; intro a hf
  refine o_end ?_
  refine sy_ret ?_
  refine ret_r hf rfl rfl ?_
  exact ⟨B, cap, cur, rfl, hcz, hqc, hcm, hh⟩
theorem c98 (q : Nat) (hq : q ≤ 1000) (u : World) : Calls Try.prog 93 #[.slice none 0 0, .int .i64 q] u (Ret fun v w' => ∃ X, OwnSl 54 4 v 0 (encM []) X ∧ Hp u [] X w') := by
  rcases Nat.eq_zero_or_pos q with rfl | h0
  · exact Calls.ret_mono (c98z u) fun v w' h => ⟨[], h.1 ▸ OwnSl.nil _ _, (Hp.init u []).more h.2⟩
  · exact Calls.ret_mono (c98p q h0 hq u) fun v w' ⟨B, cap, cur, h1, h2, h3, h4, h5⟩ => ⟨_, ⟨by simp [encM], .inr ⟨B, cap, cur, h1, rfl, Nat.zero_le _, h4, h2, by simp [encM]⟩⟩, h5⟩
def tk (l r : List Mk) (j : Nat) : List Mk := if j = 0 then [] else if j = 1 then l else l ++ r
def cells2 (l r : List Mk) (sa sb : Option Addr) (ca cb : Nat) : Array Value := #[.slice sa l.length ca, .slice sb r.length cb]
theorem pick2 {l r : List Mk} {sa sb : Option Addr} {ca cb : Nat} {u : World} (hA : MkAt u sa l) (hB : MkAt u sb r) {j : Nat} (hj : j < 2) : ∃ sx xs cx, (cells2 l r sa sb ca cb)[0 + ((j : Nat) : Int).toNat * 1]? = some (.slice sx xs.length cx) ∧ MkAt u sx xs ∧ tk l r (j + 1) = tk l r j ++ xs := by
  match j, hj with
  | 0, _ => exact ⟨sa, l, ca, rfl, hA, rfl⟩
  | 1, _ => exact ⟨sb, r, cb, rfl, hB, rfl⟩
theorem tk_le (l r : List Mk) (j : Nat) : (tk l r j).length ≤ l.length + r.length := by
  unfold tk; split
  · simp
  · split <;> simp
theorem c79 (l r : List Mk) (sa sb : Option Addr) (ca cb bs : Nat) (u : World) (hA : MkAt u sa l) (hB : MkAt u sb r) (hl : l.length ≤ 10) (hr : r.length ≤ 10) (hb : u.heap[bs]? = some (.cells (cells2 l r sa sb ca cb) 25 (0, 0))) :
    Calls Try.prog 77 #[.slice (some ⟨bs, 0, none⟩) 2 2] u (Ret fun v w' => ∃ oa cap, v = .slice oa (l ++ r).length cap ∧ MkAt w' oa (l ++ r) ∧ Ext [] u w') := by
  refine calls_of Try.func77 rfl rfl (fun a hf => ?_)
  have hh := Hp.init u []
  refine sy_sq ?_
  refine o_v hf hh (yv_assign rfl) ?_; clear hf a; intro a hf
  refine o_end ?_
  refine sy_sq ?_
  refine o_v hf hh (yv_assign rfl) ?_; clear hf a; intro a hf
  refine o_end ?_
  refine sy_seq ?_
  refine sy_sq ?_
  refine o_v hf hh (yv_move rfl) ?_; clear hf a; intro a hf
  refine o_v hf hh (yv_len Try.se_152 rfl) ?_; clear hf a; intro a hf
  refine o_v hf hh (yv_move rfl) ?_; clear hf a; intro a hf
  refine o_end ?_
  refine sy_block ?_
  refine sy_loopF (σ := Nat) [3, 5, 11, 12, 13, 14, 15, 16, 17, 18, 19, 20, 21, 22] (fun j => [(3, .int .i64 (tk l r j).length), (11, .int .i64 j)]) (fun j => j ≤ 2) (fun j => 2 - j) (0) hf hh ?_ ?_ ?_
  · repeat' (first | exact True.intro | refine And.intro rfl ?_)
  · first | exact True.intro | omega | (simp; omega) | simp
  ·rintro j a w hpr hf hh
   have htk := tk_le l r j
   refine sy_sq ?_
   refine o_v hf hh (yv_bin rfl rfl rfl) ?_; clear hf a; intro a hf
   refine o_end ?_
   refine sy_seq ?_
   refine sy_cond hf rfl (fun hg2 => ?_) (fun hg2 => ?_)
   ·have hG2 := hg2; try simp only [gS] at hG2
    refine sy_skip ?_
    refine then_n ?_
    refine sy_seq ?_
    refine sy_block ?_
    refine sy_seq ?_
    obtain ⟨sx, xs, cx, hcx, hMx, htj⟩ := pick2 (sa := sa) (sb := sb) (ca := ca) (cb := cb) hA hB (j := j) (by omega)
    have htk2 := tk_le l r (j + 1)
    have htl := congrArg List.length htj
    rw [List.length_append] at htl
    refine sy_ops ?_
    refine o_v hf hh (y_ix Try.se_152 rfl rfl) ?_; clear hf a; intro a hf
    refine o_v hf hh (y_ld Try.sc_25 rfl) ?_; clear hf a; intro a hf
    refine o_v hf hh (yv_assign rfl) ?_; clear hf a; intro a hf
    refine o_end ?_
    refine sy_sq ?_
    refine o_v hf hh (yv_move rfl) ?_; clear hf a; intro a hf
    refine o_v hf hh (yv_move rfl) ?_; clear hf a; intro a hf
    refine o_v hf hh (yv_len Try.se_25 rfl) ?_; clear hf a; intro a hf
    refine o_v hf hh (y_add rfl rfl) ?_; clear hf a; intro a hf
    refine o_v hf hh (yv_assign rfl) ?_; clear hf a; intro a hf
    refine o_end ?_
    refine sy_sq ?_
    refine o_v hf hh (yv_move rfl) ?_; clear hf a; intro a hf
    refine o_v hf hh (yv_bin rfl rfl rfl) ?_; clear hf a; intro a hf
    refine o_end ?_
    refine c_f hf ?_
    refine sy_skip ?_
    refine blk_n ?_
    refine then_n ?_
    refine sy_ops ?_
    refine o_v hf hh (y_add rfl rfl) ?_; clear hf a; intro a hf
    refine o_v hf hh (yv_move rfl) ?_; clear hf a; intro a hf
    refine ops_end ?_
    refine then_n ?_
    exact ⟨j + 1, ⟨by omega, hf.head ⟨congrArg (fun z => some (Value.int IntKind.i64 z)) (by rw [htj, List.length_append]; omega), rfl, True.intro⟩ (Keep.cons rfl (Keep.cons rfl (Keep.cons rfl (Keep.cons rfl (Keep.cons rfl (Keep.cons rfl (Keep.cons rfl (Keep.cons rfl (Keep.cons rfl (Keep.cons rfl (Keep.cons rfl (Keep.cons rfl (Keep.cons rfl (Keep.app rfl (Keep.rm rfl Keep.base))))))))))))))), hh⟩, by omega⟩
   ·have hG2 := hg2; try simp only [gS] at hG2
    refine sy_exit ?_
    refine then_e ?_
    refine then_e ?_
    refine blk_e ?_
    refine then_n ?_
    refine sy_sq ?_
    refine o_v hf hh (yv_move rfl) ?_; clear hf a; intro a hf
    refine o_call hf Try.en_93 rfl rfl rfl (c98 _ (by omega) _) ?_; clear hf a; intro v98 a w hR hf
    obtain ⟨X98, hO98, hx⟩ := hR; replace hh := hh.join hx; clear hx
    refine o_v hf hh (yv_assign rfl) ?_; clear hf a; intro a hf
    refine o_end ?_
    refine sy_seq ?_
    refine sy_sq ?_
    refine o_v hf hh (yv_move rfl) ?_; clear hf a; intro a hf
    refine o_v hf hh (yv_len Try.se_152 rfl) ?_; clear hf a; intro a hf
    refine o_v hf hh (yv_move rfl) ?_; clear hf a; intro a hf
    refine o_end ?_
    refine sy_block ?_
    refine sy_loopH (σ := Nat × Value × List (Nat × Obj)) [6, 8, 27, 28, 29, 30, 31, 32, 33, 34] (fun s => [(6, s.2.1), (27, .int .i64 s.1)]) (fun s => fun w => s.1 ≤ 2 ∧ OwnSl 54 4 s.2.1 (tk l r s.1).length (encM (tk l r s.1)) s.2.2 ∧ Hp u [] (s.2.2 ++ []) w) (fun s => 2 - s.1) ((0, v98, X98)) hf ?_ ?_ ?_
    · repeat' (first | exact True.intro | refine And.intro rfl ?_)
    · exact ⟨Nat.zero_le _, hO98, by simpa using hh⟩
    ·rintro s a w ⟨hi, hO, hh⟩ hf
     obtain ⟨j, v6, X6⟩ := s; simp only at hi hO hh hf ⊢
     have htk := tk_le l r j
     refine sy_sq ?_
     refine o_v hf hh (yv_bin rfl rfl rfl) ?_; clear hf a; intro a hf
     refine o_end ?_
     refine sy_seq ?_
     refine sy_cond hf rfl (fun hg6 => ?_) (fun hg6 => ?_)
     ·have hG6 := hg6; try simp only [gS] at hG6
      refine sy_skip ?_
      refine then_n ?_
      refine sy_seq ?_
      refine sy_block ?_
      refine sy_seq ?_
      obtain ⟨sx, xs, cx, hcx, hMx, htj⟩ := pick2 (sa := sa) (sb := sb) (ca := ca) (cb := cb) hA hB (j := j) (by omega)
      have htk2 := tk_le l r (j + 1)
      have htl := congrArg List.length htj
      rw [List.length_append] at htl
      refine sy_ops ?_
      refine o_v hf hh (y_ix Try.se_152 rfl rfl) ?_; clear hf a; intro a hf
      refine o_v hf hh (y_ld Try.sc_25 rfl) ?_; clear hf a; intro a hf
      refine o_v hf hh (yv_assign rfl) ?_; clear hf a; intro a hf
      refine o_end ?_
      refine sy_ops ?_
      refine o_v hf hh (yv_move rfl) ?_; clear hf a; intro a hf
      refine o_v hf hh (yv_move rfl) ?_; clear hf a; intro a hf
      refine ops_appendM (A := tk l r j) (B := xs) hf hh Try.eb_25 rfl rfl hO (hMx.ext hh.ext) (by simp only [maxLen]; omega) (by omega) (.inl rfl) rfl ?_; clear hf hh; clear a w; intro v' X' a w hO' hf hh
      refine o_v hf hh (yv_assign rfl) ?_; clear hf a; intro a hf
      refine ops_end ?_
      refine blk_n ?_
      refine then_n ?_
      refine sy_ops ?_
      refine o_v hf hh (y_add rfl rfl) ?_; clear hf a; intro a hf
      refine o_v hf hh (yv_move rfl) ?_; clear hf a; intro a hf
      refine ops_end ?_
      refine then_n ?_
      exact ⟨(j + 1, v', X'), ⟨⟨by simp only; omega, by simp only [htj]; rw [List.length_append]; exact hO', hh⟩, (hf.head (by repeat' (first | exact True.intro | refine And.intro rfl ?_)) (Keep.cons rfl (Keep.cons rfl (Keep.cons rfl (Keep.cons rfl (Keep.cons rfl (Keep.cons rfl (Keep.cons rfl (Keep.cons rfl (Keep.cons rfl (Keep.cons rfl (Keep.app rfl (Keep.rm rfl Keep.base)))))))))))))⟩, by simp only; omega⟩
     ·have hG6 := hg6; try simp only [gS] at hG6
      refine sy_exit ?_
      refine then_e ?_
      refine then_e ?_
      refine blk_e ?_
      refine then_n ?_
      refine sy_sq ?_
      refine o_v hf hh (yv_move rfl) ?_; clear hf a; intro a hf
      refine o_v hf hh (yv_assign rfl) ?_; clear hf a; intro a hf
      refine o_end ?_
      refine sy_ret ?_
      refine ret_r hf rfl rfl ?_
      have hj2 : j = 2 := by omega
      subst hj2
      have ht2 : tk l r 2 = l ++ r := rfl
      rw [ht2] at hO
      have hval : ∃ oa cap, v6 = .slice oa (l ++ r).length cap := by
        rcases hO.2 with ⟨e, h0, _⟩ | ⟨B, cp, cur, e, _⟩
        · exact ⟨none, 0, by rw [e, h0]⟩
        · exact ⟨_, _, e⟩
      obtain ⟨oa, cap, rfl⟩ := hval
      exact ⟨oa, cap, rfl, mkAt_of hO fun x hx => hh.get x (by simpa using hx), hh.ext⟩
end Go.Proofs.Ytidieepndphodaa
namespace Go.Proofs.Ytidieepndphodaa
open Go Go.Sy Go.MatM
theorem okRows_t {d : RowsD} (h1 : d.l.length ≤ 10) (h2 : d.r.length ≤ 10) (h3 : (d.l ++ d.r).all okM = true) : okRows d = (decide (-65536 ≤ d.lo ∧ d.lo ≤ d.hi ∧ d.hi ≤ 65536) && decide (0 ≤ d.hid ∧ d.hid ≤ 20)) := by
  simp only [okRows, h1, h2, h3, decide_true, Bool.true_and]
theorem okRows_f {d : RowsD} (h : ¬ (d.l.length ≤ 10 ∧ d.r.length ≤ 10 ∧ (d.l ++ d.r).all okM = true)) : okRows d = false := by
  rw [Bool.eq_false_iff]
  intro h'
  simp only [okRows, Bool.and_eq_true, decide_eq_true_eq] at h'
  exact h ⟨h'.1.1.1.1, h'.1.1.1.2, h'.1.1.2⟩
theorem c42 (d : RowsD) (sa sb : Option Addr) (ca cb : Nat) (u : World) (hA : MkAt u sa d.l) (hB : MkAt u sb d.r) : Calls Try.prog 63 #[rowsV d sa sb ca cb] u (Ret fun v w' => v = .bool (okRows d) ∧ Ext [] u w') := by
  refine calls_of Try.func63 rfl rfl (fun a hf => ?_)
  have hh := Hp.init u []
  refine sy_sq ?_
  refine o_box hf hh ?_; clear hf hh a; intro B1 a w hf hh
  refine o_v hf hh (yv_assign rfl) ?_; clear hf a; intro a hf
  refine o_end ?_
  refine sy_sq ?_
  refine o_v hf hh (yv_assign rfl) ?_; clear hf a; intro a hf
  refine o_end ?_
  refine sy_sq ?_
  refine o_v hf hh (yv_fieldAddr Try.fo_29_0 rfl) ?_; clear hf a; intro a hf
  refine o_v hf hh (y_ld Try.sc_25 rfl) ?_; clear hf a; intro a hf
  refine o_v hf hh (yv_len Try.se_25 rfl) ?_; clear hf a; intro a hf
  refine o_v hf hh (yv_bin rfl rfl rfl) ?_; clear hf a; intro a hf
  refine o_v hf hh (yv_move rfl) ?_; clear hf a; intro a hf
  refine guard_split hf (t := 9) rfl (fun hg2 => ?_) (fun hg2 => ?_)
  ·have hG2 := hg2; try simp only [gS] at hG2
   refine o_v hf hh (yv_fieldAddr Try.fo_29_1 rfl) ?_; clear hf a; intro a hf
   refine o_v hf hh (y_ld Try.sc_25 rfl) ?_; clear hf a; intro a hf
   refine o_v hf hh (yv_len Try.se_25 rfl) ?_; clear hf a; intro a hf
   refine o_v hf hh (yv_bin rfl rfl rfl) ?_; clear hf a; intro a hf
   refine o_v hf hh (y_pt rfl rfl) ?_; clear hf a; intro a hf
   refine o_v hf hh (yv_move rfl) ?_; clear hf a; intro a hf
   refine guard_split hf (t := 15) rfl (fun hg4 => ?_) (fun hg4 => ?_)
   ·have hG4 := hg4; try simp only [gS] at hG4
    refine o_v hf hh (yv_fieldAddr Try.fo_29_0 rfl) ?_; clear hf a; intro a hf
    refine o_v hf hh (y_ld Try.sc_25 rfl) ?_; clear hf a; intro a hf
    refine o_v hf hh (yv_fieldAddr Try.fo_29_1 rfl) ?_; clear hf a; intro a hf
    refine o_v hf hh (y_ld Try.sc_25 rfl) ?_; clear hf a; intro a hf
    refine ops_buildSl hf hh Try.bl_152_2 rfl rfl (gon rfl rfl rfl (by first | assumption | rfl | (simp; done) | (simp; omega))) rfl ?_; clear hf hh; clear a; intro B20 a w hf hh
    refine o_call hf Try.en_77 rfl rfl rfl (c79 d.l d.r sa sb ca cb B20 _ (hA.ext hh.ext) (hB.ext hh.ext) (by omega) (by omega) (hh.at (i := 0) rfl)) ?_; clear hf a; intro v a w hR hf
    obtain ⟨oa, cap, rfl, hMo, hx⟩ := hR; replace hh := hh.more hx; clear hx
    refine o_v hf hh (yv_move rfl) ?_; clear hf a; intro a hf
    refine o_call hf Try.en_76 rfl rfl rfl (c78 (d.l ++ d.r) oa cap _ hMo (by rw [List.length_append]; omega)) ?_; clear hf a; intro v a w hR hf
    obtain ⟨rfl, hx⟩ := hR; replace hh := hh.more hx; clear hx
    refine o_v hf hh (yv_not rfl) ?_; clear hf a; intro a hf
    refine o_v hf hh (y_pt rfl rfl) ?_; clear hf a; intro a hf
    refine o_v hf hh (yv_assign rfl) ?_; clear hf a; intro a hf
    refine o_end ?_
    refine sy_sq ?_
    refine o_v hf hh (yv_move rfl) ?_; clear hf a; intro a hf
    refine o_v hf hh (yv_move rfl) ?_; clear hf a; intro a hf
    refine guard_split hf (t := 27) rfl (fun hg7 => ?_) (fun hg7 => ?_)
    ·have hG7 := hg7; try simp only [gS] at hG7
     refine o_v hf hh (yv_fieldAddr Try.fo_29_2 rfl) ?_; clear hf a; intro a hf
     refine o_v hf hh (y_lds Try.ag_27 rfl) ?_; clear hf a; intro a hf
     refine o_call hf Try.en_75 rfl rfl rfl (c77 _ _ _ _ _) ?_; clear hf a; intro v a w hR hf
     obtain ⟨rfl, hx⟩ := hR; replace hh := hh.more hx; clear hx
     refine o_v hf hh (y_pt rfl rfl) ?_; clear hf a; intro a hf
     refine o_v hf hh (yv_move rfl) ?_; clear hf a; intro a hf
     refine guard_split hf (t := 32) rfl (fun hg9 => ?_) (fun hg9 => ?_)
     ·have hG9 := hg9; try simp only [gS] at hG9
      refine o_v hf hh (yv_fieldAddr Try.fo_29_3 rfl) ?_; clear hf a; intro a hf
      refine o_v hf hh (y_ld Try.sc_3 rfl) ?_; clear hf a; intro a hf
      refine o_call hf Try.en_78 rfl rfl rfl (c43 _ _ _ _) ?_; clear hf a; intro v a w hR hf
      obtain ⟨rfl, hx⟩ := hR; replace hh := hh.more hx; clear hx
      refine o_v hf hh (y_pt rfl rfl) ?_; clear hf a; intro a hf
      refine o_v hf hh (yv_assign rfl) ?_; clear hf a; intro a hf
      refine o_end ?_
      refine sy_ret ?_
      refine ret_r hf rfl rfl ?_
      have hX := hh.ext
      refine ⟨congrArg Value.bool ?_, hX⟩
      clear hX hh hf
      first
        | (rw [okRows_t (by omega) (by omega) (by simp_all)]; rw [Bool.eq_iff_iff]; first | done | (simp_all; done) | (simp at *; omega) | (simp_all; omega))
        | (have e : okRows d = false := okRows_f (by first | omega | (simp_all; done))
           rw [e]; first | done | (simp_all; done) | (simp_all; omega))
     ·have hG9 := hg9; try simp only [gS] at hG9
      refine o_off hf ?_; clear hf a; intro a hf
      refine o_off hf ?_; clear hf a; intro a hf
      refine o_off hf ?_; clear hf a; intro a hf
      refine o_v hf hh (y_pf rfl rfl) ?_; clear hf a; intro a hf
      refine o_v hf hh (yv_assign rfl) ?_; clear hf a; intro a hf
      refine o_end ?_
      refine sy_ret ?_
      refine ret_r hf rfl rfl ?_
      have hX := hh.ext
      refine ⟨congrArg Value.bool ?_, hX⟩
      clear hX hh hf
      first
        | (rw [okRows_t (by omega) (by omega) (by simp_all)]; rw [Bool.eq_iff_iff]; first | done | (simp_all; done) | (simp at *; omega) | (simp_all; omega))
        | (have e : okRows d = false := okRows_f (by first | omega | (simp_all; done))
           rw [e]; first | done | (simp_all; done) | (simp_all; omega))
    ·have hG7 := hg7; try simp only [gS] at hG7
     refine o_off hf ?_; clear hf a; intro a hf
     refine o_off hf ?_; clear hf a; intro a hf
     refine o_off hf ?_; clear hf a; intro a hf
     refine o_v hf hh (y_pf rfl rfl) ?_; clear hf a; intro a hf
     refine o_v hf hh (yv_move rfl) ?_; clear hf a; intro a hf
     refine o_off hf ?_; clear hf a; intro a hf
     refine o_off hf ?_; clear hf a; intro a hf
     refine o_off hf ?_; clear hf a; intro a hf
     refine o_v hf hh (y_pf rfl rfl) ?_; clear hf a; intro a hf
     refine o_v hf hh (yv_assign rfl) ?_; clear hf a; intro a hf
     refine o_end ?_
     refine sy_ret ?_
     refine ret_r hf rfl rfl ?_
     have hX := hh.ext
     refine ⟨congrArg Value.bool ?_, hX⟩
     clear hX hh hf
     first
       | (rw [okRows_t (by omega) (by omega) (by simp_all)]; rw [Bool.eq_iff_iff]; first | done | (simp_all; done) | (simp at *; omega) | (simp_all; omega))
       | (have e : okRows d = false := okRows_f (by first | omega | (simp_all; done))
          rw [e]; first | done | (simp_all; done) | (simp_all; omega))
   ·have hG4 := hg4; try simp only [gS] at hG4
    refine o_off hf ?_; clear hf a; intro a hf
    refine o_off hf ?_; clear hf a; intro a hf
    refine o_off hf ?_; clear hf a; intro a hf
    refine o_off hf ?_; clear hf a; intro a hf
    refine o_off hf ?_; clear hf a; intro a hf
    refine o_off hf ?_; clear hf a; intro a hf
    refine o_off hf ?_; clear hf a; intro a hf
    refine o_off hf ?_; clear hf a; intro a hf
    refine o_off hf ?_; clear hf a; intro a hf
    refine o_v hf hh (y_pf rfl rfl) ?_; clear hf a; intro a hf
    refine o_v hf hh (yv_assign rfl) ?_; clear hf a; intro a hf
    refine o_end ?_
    refine sy_sq ?_
    refine o_v hf hh (yv_move rfl) ?_; clear hf a; intro a hf
    refine o_v hf hh (yv_move rfl) ?_; clear hf a; intro a hf
    refine o_off hf ?_; clear hf a; intro a hf
    refine o_off hf ?_; clear hf a; intro a hf
    refine o_off hf ?_; clear hf a; intro a hf
    refine o_v hf hh (y_pf rfl rfl) ?_; clear hf a; intro a hf
    refine o_v hf hh (yv_move rfl) ?_; clear hf a; intro a hf
    refine o_off hf ?_; clear hf a; intro a hf
    refine o_off hf ?_; clear hf a; intro a hf
    refine o_off hf ?_; clear hf a; intro a hf
    refine o_v hf hh (y_pf rfl rfl) ?_; clear hf a; intro a hf
    refine o_v hf hh (yv_assign rfl) ?_; clear hf a; intro a hf
    refine o_end ?_
    refine sy_ret ?_
    refine ret_r hf rfl rfl ?_
    have hX := hh.ext
    refine ⟨congrArg Value.bool ?_, hX⟩
    clear hX hh hf
    first
      | (rw [okRows_t (by omega) (by omega) (by simp_all)]; rw [Bool.eq_iff_iff]; first | done | (simp_all; done) | (simp at *; omega) | (simp_all; omega))
      | (have e : okRows d = false := okRows_f (by first | omega | (simp_all; done))
         rw [e]; first | done | (simp_all; done) | (simp_all; omega))
  ·have hG2 := hg2; try simp only [gS] at hG2
   refine o_off hf ?_; clear hf a; intro a hf
   refine o_off hf ?_; clear hf a; intro a hf
   refine o_off hf ?_; clear hf a; intro a hf
   refine o_off hf ?_; clear hf a; intro a hf
   refine o_v hf hh (y_pf rfl rfl) ?_; clear hf a; intro a hf
   refine o_v hf hh (yv_move rfl) ?_; clear hf a; intro a hf
   refine o_off hf ?_; clear hf a; intro a hf
   refine o_off hf ?_; clear hf a; intro a hf
   refine o_off hf ?_; clear hf a; intro a hf
   refine o_off hf ?_; clear hf a; intro a hf
   refine o_off hf ?_; clear hf a; intro a hf
   refine o_off hf ?_; clear hf a; intro a hf
   refine o_off hf ?_; clear hf a; intro a hf
   refine o_off hf ?_; clear hf a; intro a hf
   refine o_off hf ?_; clear hf a; intro a hf
   refine o_v hf hh (y_pf rfl rfl) ?_; clear hf a; intro a hf
   refine o_v hf hh (yv_assign rfl) ?_; clear hf a; intro a hf
   refine o_end ?_
   refine sy_sq ?_
   refine o_v hf hh (yv_move rfl) ?_; clear hf a; intro a hf
   refine o_v hf hh (yv_move rfl) ?_; clear hf a; intro a hf
   refine o_off hf ?_; clear hf a; intro a hf
   refine o_off hf ?_; clear hf a; intro a hf
   refine o_off hf ?_; clear hf a; intro a hf
   refine o_v hf hh (y_pf rfl rfl) ?_; clear hf a; intro a hf
   refine o_v hf hh (yv_move rfl) ?_; clear hf a; intro a hf
   refine o_off hf ?_; clear hf a; intro a hf
   refine o_off hf ?_; clear hf a; intro a hf
   refine o_off hf ?_; clear hf a; intro a hf
   refine o_v hf hh (y_pf rfl rfl) ?_; clear hf a; intro a hf
   refine o_v hf hh (yv_assign rfl) ?_; clear hf a; intro a hf
   refine o_end ?_
   refine sy_ret ?_
   refine ret_r hf rfl rfl ?_
   have hX := hh.ext
   refine ⟨congrArg Value.bool ?_, hX⟩
   clear hX hh hf
   first
     | (rw [okRows_t (by omega) (by omega) (by simp_all)]; rw [Bool.eq_iff_iff]; first | done | (simp_all; done) | (simp at *; omega) | (simp_all; omega))
     | (have e : okRows d = false := okRows_f (by first | omega | (simp_all; done))
        rw [e]; first | done | (simp_all; done) | (simp_all; omega))
end Go.Proofs.Ytidieepndphodaa
namespace Go.Proofs.Ytidieepndphodaa
open Go Go.Sy Go.MatM
theorem c85 (p q r s : Int) (w : World) : Calls Try.prog 84 #[.agg #[.int .i64 p, .int .i64 q], .agg #[.int .i64 r, .int .i64 s]] w (Ret fun v w' => v = .agg #[.int .i64 (max p r), .int .i64 (min q s)] ∧ Ext [] w w') := by
  refine calls_of Try.func84 rfl rfl (fun a hf => ?_)
  have hh := Hp.init w []
  refine sy_sq ?_
  refine o_box hf hh ?_; clear hf hh a; intro B2 a w hf hh
  refine o_box hf hh ?_; clear hf hh a; intro B3 a w hf hh
  refine o_alloc hf hh Try.ze_27 ?_; clear hf hh a; intro B4 a w hf hh
  refine o_end ?_
  refine sy_sq ?_
  refine o_v hf hh (yv_fieldAddr Try.fo_27_0 rfl) ?_; clear hf a; intro a hf
  refine o_v hf hh (y_ld Try.sc_3 rfl) ?_; clear hf a; intro a hf
  refine o_v hf hh (yv_fieldAddr Try.fo_27_0 rfl) ?_; clear hf a; intro a hf
  refine o_v hf hh (y_ld Try.sc_3 rfl) ?_; clear hf a; intro a hf
  refine o_v hf hh (yv_max rfl rfl) ?_; clear hf a; intro a hf
  refine o_v hf hh (yv_fieldAddr Try.fo_27_1 rfl) ?_; clear hf a; intro a hf
  refine o_v hf hh (y_ld Try.sc_3 rfl) ?_; clear hf a; intro a hf
  refine o_v hf hh (yv_fieldAddr Try.fo_27_1 rfl) ?_; clear hf a; intro a hf
  refine o_v hf hh (y_ld Try.sc_3 rfl) ?_; clear hf a; intro a hf
  refine o_v hf hh (yv_min rfl rfl) ?_; clear hf a; intro a hf
  refine o_v hf hh (yv_buildS Try.bs_27 rfl rfl) ?_; clear hf a; intro a hf
  refine o_store hf hh Try.sz_27 fun w hh => ?_
  refine o_end ?_
  refine sy_ret ?_
  refine ret_c (vs := [.agg #[.int .i64 (max p r), .int .i64 (min q s)]]) hf ?_ ?_
  · exact ⟨⟨B4, 0, _, _, _, rfl, hh.at (i := 0) rfl, .inr ⟨2, _, Try.ag_27, rfl, rfl⟩⟩, True.intro⟩
  · exact ⟨rfl, hh.ext⟩
theorem c80 (m : Mk) (w : World) : Calls Try.prog 79 #[mkV m] w (Ret fun v w' => v = .agg #[.int .i64 m.tl, .int .i64 m.th] ∧ Ext [] w w') := by
  refine calls_of Try.func79 rfl rfl (fun a hf => ?_)
  have hh := Hp.init w []
  refine sy_sq ?_
  refine o_box hf hh ?_; clear hf hh a; intro B1 a w hf hh
  refine o_alloc hf hh Try.ze_27 ?_; clear hf hh a; intro B2 a w hf hh
  refine o_end ?_
  refine sy_sq ?_
  refine o_v hf hh (yv_fieldAddr Try.fo_54_1 rfl) ?_; clear hf a; intro a hf
  refine o_v hf hh (y_lds Try.ag_27 rfl) ?_; clear hf a; intro a hf
  refine o_store hf hh Try.sz_27 fun w hh => ?_
  refine o_end ?_
  refine sy_ret ?_
  refine ret_c (vs := [.agg #[.int .i64 m.tl, .int .i64 m.th]]) hf ?_ ?_
  · exact ⟨⟨B2, 0, _, _, _, rfl, hh.at (i := 0) rfl, .inr ⟨2, _, Try.ag_27, rfl, rfl⟩⟩, True.intro⟩
  · exact ⟨rfl, hh.ext⟩
theorem c82 (m : Mk) (w : World) : Calls Try.prog 81 #[mkV m] w (Ret fun v w' => v = .agg #[.int .i64 m.al, .int .i64 m.ah] ∧ Ext [] w w') := by
  refine calls_of Try.func81 rfl rfl (fun a hf => ?_)
  have hh := Hp.init w []
  refine sy_sq ?_
  refine o_box hf hh ?_; clear hf hh a; intro B1 a w hf hh
  refine o_alloc hf hh Try.ze_27 ?_; clear hf hh a; intro B2 a w hf hh
  refine o_end ?_
  refine sy_sq ?_
  refine o_v hf hh (yv_fieldAddr Try.fo_54_0 rfl) ?_; clear hf a; intro a hf
  refine o_v hf hh (y_lds Try.ag_27 rfl) ?_; clear hf a; intro a hf
  refine o_store hf hh Try.sz_27 fun w hh => ?_
  refine o_end ?_
  refine sy_ret ?_
  refine ret_c (vs := [.agg #[.int .i64 m.al, .int .i64 m.ah]]) hf ?_ ?_
  · exact ⟨⟨B2, 0, _, _, _, rfl, hh.at (i := 0) rfl, .inr ⟨2, _, Try.ag_27, rfl, rfl⟩⟩, True.intro⟩
  · exact ⟨rfl, hh.ext⟩
theorem c81 (m : Mk) (d : RowsD) (sa sb : Option Addr) (ca cb bx : Nat) (w : World) (hb : w.heap[bx]? = some (.cells (rowsV d sa sb ca cb).cells 29 (0, 0))) (hm : okM m = true) (h1 : -65536 ≤ d.lo) (h2 : d.lo ≤ d.hi) (h3 : d.hi ≤ 65536) :
    Calls Try.prog 80 #[mkV m, ptr bx 0] w (Ret fun v w' => v = .agg #[.int .i64 (m.al - d.hi), .int .i64 (m.ah - d.lo)] ∧ Ext [] w w') := by
  refine calls_of Try.func80 rfl rfl (fun a hf => ?_)
  have hh := Hp.init w []
  have hm := okM_iff.1 hm
  refine sy_sq ?_
  refine o_box hf hh ?_; clear hf hh a; intro B2 a w hf hh
  refine o_alloc hf hh Try.ze_27 ?_; clear hf hh a; intro B3 a w hf hh
  refine o_end ?_
  refine sy_sq ?_
  refine o_v hf hh (yv_fieldAddr Try.fo_54_0 rfl) ?_; clear hf a; intro a hf
  refine o_v hf hh (yv_fieldAddr Try.fo_27_0 rfl) ?_; clear hf a; intro a hf
  refine o_v hf hh (y_ld Try.sc_3 rfl) ?_; clear hf a; intro a hf
  refine o_v hf hh (yv_fieldAddr Try.fo_29_2 rfl) ?_; clear hf a; intro a hf
  refine o_v hf hh (yv_fieldAddr Try.fo_27_1 rfl) ?_; clear hf a; intro a hf
  refine o_v hf hh (y_ld Try.sc_3 rfl) ?_; clear hf a; intro a hf
  refine o_v hf hh (y_sub rfl rfl) ?_; clear hf a; intro a hf
  refine o_v hf hh (yv_fieldAddr Try.fo_54_0 rfl) ?_; clear hf a; intro a hf
  refine o_v hf hh (yv_fieldAddr Try.fo_27_1 rfl) ?_; clear hf a; intro a hf
  refine o_v hf hh (y_ld Try.sc_3 rfl) ?_; clear hf a; intro a hf
  refine o_v hf hh (yv_fieldAddr Try.fo_29_2 rfl) ?_; clear hf a; intro a hf
  refine o_v hf hh (yv_fieldAddr Try.fo_27_0 rfl) ?_; clear hf a; intro a hf
  refine o_v hf hh (y_ld Try.sc_3 rfl) ?_; clear hf a; intro a hf
  refine o_v hf hh (y_sub rfl rfl) ?_; clear hf a; intro a hf
  refine o_v hf hh (yv_buildS Try.bs_27 rfl rfl) ?_; clear hf a; intro a hf
  refine o_store hf hh Try.sz_27 fun w hh => ?_
  refine o_end ?_
  refine sy_ret ?_
  refine ret_c (vs := [.agg #[.int .i64 (m.al - d.hi), .int .i64 (m.ah - d.lo)]]) hf ?_ ?_
  · exact ⟨⟨B3, 0, _, _, _, rfl, hh.at (i := 0) rfl, .inr ⟨2, _, Try.ag_27, rfl, rfl⟩⟩, True.intro⟩
  · exact ⟨rfl, hh.ext⟩
end Go.Proofs.Ytidieepndphodaa
namespace Go.Proofs.Ytidieepndphodaa
open Go Go.Sy Go.MatM
abbrev fn0 (n : Nat) : Value := .func (.func n) #[] #[]
abbrev rule0 : Value := .agg #[fn0 79, fn0 79]
abbrev rule1 (bx : Nat) : Value := .agg #[.func (.func 80) #[] #[ptr bx 0], fn0 81]
theorem c84a (x y : Mk) (ba bb : Nat) (w : World) (ha : w.heap[ba]? = some (.cells (mkV x).cells 54 (0, 0))) (hb : w.heap[bb]? = some (.cells (mkV y).cells 54 (0, 0))) : Calls Try.prog 83 #[rule0, ptr ba 0, ptr bb 0] w (Ret fun v w' => v = .bool (decide (max x.tl y.tl > min x.th y.th)) ∧ Ext [] w w') := by
  refine calls_of Try.func83 rfl rfl (fun a hf => ?_)
  have hh := Hp.init w []
  refine sy_sq ?_
  refine o_box hf hh ?_; clear hf hh a; intro B3 a w hf hh
  refine o_v hf hh (yv_assign rfl) ?_; clear hf a; intro a hf
  refine o_end ?_
  refine sy_seq ?_
  refine sy_tree (.q 0 (.q 1 (.q 2 (.q 4 (.q 5 (.q 6 (.e2 3 (.e2 7 (.e2 8 (.e1 9 (.e1 10 (.fin))) 9 (.e1 8 (.e1 10 (.fin)))) 9 (.e1 7 (.e1 8 (.e1 10 (.fin))))) 9 (.e1 3 (.e1 7 (.e1 8 (.e1 10 (.fin)))))))))))) [] Try.follows (by kernel_rfl) hh (fun w hh => ?_)
  refine mt_v rfl hh hf (yv_fieldAddr Try.fo_131_0 rfl) (.inl rfl) rfl rfl ?_; clear hf a; intro a hf
  refine mt_v rfl hh hf (y_ld Try.sc_129 rfl) (.inl rfl) rfl rfl ?_; clear hf a; intro a hf
  refine mt_v rfl hh hf (y_lds Try.ag_54 rfl) (.inl rfl) rfl rfl ?_; clear hf a; intro a hf
  refine mt_v rfl hh hf (yv_fieldAddr Try.fo_131_1 rfl) (.inl rfl) rfl rfl ?_; clear hf a; intro a hf
  refine mt_v rfl hh hf (y_ld Try.sc_129 rfl) (.inl rfl) rfl rfl ?_; clear hf a; intro a hf
  refine mt_v rfl hh hf (y_lds Try.ag_54 rfl) (.inl rfl) rfl rfl ?_; clear hf a; intro a hf
  refine ⟨?_, ?_⟩
  ·refine mt_e rfl fun Q1 => ?_
   refine o_call hf Try.en_79 rfl rfl rfl (c80 x _) ?_; clear hf a; intro v a w hR hf
   obtain ⟨rfl, hx⟩ := hR; replace hh := hh.more hx; clear hx
   refine ops_end ?_
   refine then_n ⟨fun _ => hh, ?_⟩
   refine ⟨?_, ?_⟩
   ·refine mt_e rfl fun Q1 => ?_
    refine o_call hf Try.en_79 rfl rfl rfl (c80 y _) ?_; clear hf a; intro v a w hR hf
    obtain ⟨rfl, hx⟩ := hR; replace hh := hh.more hx; clear hx
    refine ops_end ?_
    refine then_n ⟨fun _ => hh, ?_⟩
    refine ⟨?_, ?_⟩
    ·refine mt_e rfl fun Q1 => ?_
     refine o_call hf Try.en_84 rfl rfl rfl (c85 _ _ _ _ _) ?_; clear hf a; intro v a w hR hf
     obtain ⟨rfl, hx⟩ := hR; replace hh := hh.more hx; clear hx
     refine ops_end ?_
     refine then_n ⟨fun _ => hh, ?_⟩
     refine mt_e rfl fun Q1 => ?_
     refine o_alloc hf hh Try.ze_27 ?_; clear hf hh a; intro B5 a w hf hh
     refine ops_end ?_
     refine then_n ⟨fun _ => (hh.less (.cons _ (List.Sublist.refl _))), ?_⟩
     refine mt_e rfl fun Q1 => ?_
     refine o_store hf hh Try.sz_27 fun w hh => ?_
     refine ops_end ?_
     refine then_n ⟨fun _ => (hh.less (.cons _ (List.Sublist.refl _))), ?_⟩
     refine mt_end ?_
     refine then_n ?_
     refine sy_sq ?_
     refine o_v hf hh (yv_fieldAddr Try.fo_27_0 rfl) ?_; clear hf a; intro a hf
     refine o_v hf hh (y_ld Try.sc_3 rfl) ?_; clear hf a; intro a hf
     refine o_v hf hh (yv_fieldAddr Try.fo_27_1 rfl) ?_; clear hf a; intro a hf
     refine o_v hf hh (y_ld Try.sc_3 rfl) ?_; clear hf a; intro a hf
     refine o_v hf hh (yv_bin rfl rfl rfl) ?_; clear hf a; intro a hf
     refine o_v hf hh (yv_assign rfl) ?_; clear hf a; intro a hf
     refine o_end ?_
     refine sy_ret ?_
     refine ret_r hf rfl rfl ?_
     exact ⟨rfl, hh.ext⟩
    ·refine mt_e rfl fun Q1 => ?_
     refine o_alloc hf hh Try.ze_27 ?_; clear hf hh a; intro B5 a w hf hh
     refine ops_end ?_
     refine then_n ⟨fun _ => (hh.less (.cons _ (List.Sublist.refl _))), ?_⟩
     refine mt_e rfl fun Q1 => ?_
     refine o_call hf Try.en_84 rfl rfl rfl (c85 _ _ _ _ _) ?_; clear hf a; intro v a w hR hf
     obtain ⟨rfl, hx⟩ := hR; replace hh := hh.more hx; clear hx
     refine ops_end ?_
     refine then_n ⟨fun _ => (hh.less (.cons _ (List.Sublist.refl _))), ?_⟩
     refine mt_e rfl fun Q1 => ?_
     refine o_store hf hh Try.sz_27 fun w hh => ?_
     refine ops_end ?_
     refine then_n ⟨fun _ => (hh.less (.cons _ (List.Sublist.refl _))), ?_⟩
     refine mt_end ?_
     refine then_n ?_
     refine sy_sq ?_
     refine o_v hf hh (yv_fieldAddr Try.fo_27_0 rfl) ?_; clear hf a; intro a hf
     refine o_v hf hh (y_ld Try.sc_3 rfl) ?_; clear hf a; intro a hf
     refine o_v hf hh (yv_fieldAddr Try.fo_27_1 rfl) ?_; clear hf a; intro a hf
     refine o_v hf hh (y_ld Try.sc_3 rfl) ?_; clear hf a; intro a hf
     refine o_v hf hh (yv_bin rfl rfl rfl) ?_; clear hf a; intro a hf
     refine o_v hf hh (yv_assign rfl) ?_; clear hf a; intro a hf
     refine o_end ?_
     refine sy_ret ?_
     refine ret_r hf rfl rfl ?_
     exact ⟨rfl, hh.ext⟩
   ·refine mt_e rfl fun Q1 => ?_
    refine o_alloc hf hh Try.ze_27 ?_; clear hf hh a; intro B5 a w hf hh
    refine ops_end ?_
    refine then_n ⟨fun _ => (hh.less (.cons _ (List.Sublist.refl _))), ?_⟩
    refine mt_e rfl fun Q1 => ?_
    refine o_call hf Try.en_79 rfl rfl rfl (c80 y _) ?_; clear hf a; intro v a w hR hf
    obtain ⟨rfl, hx⟩ := hR; replace hh := hh.more hx; clear hx
    refine ops_end ?_
    refine then_n ⟨fun _ => (hh.less (.cons _ (List.Sublist.refl _))), ?_⟩
    refine mt_e rfl fun Q1 => ?_
    refine o_call hf Try.en_84 rfl rfl rfl (c85 _ _ _ _ _) ?_; clear hf a; intro v a w hR hf
    obtain ⟨rfl, hx⟩ := hR; replace hh := hh.more hx; clear hx
    refine ops_end ?_
    refine then_n ⟨fun _ => (hh.less (.cons _ (List.Sublist.refl _))), ?_⟩
    refine mt_e rfl fun Q1 => ?_
    refine o_store hf hh Try.sz_27 fun w hh => ?_
    refine ops_end ?_
    refine then_n ⟨fun _ => (hh.less (.cons _ (List.Sublist.refl _))), ?_⟩
    refine mt_end ?_
    refine then_n ?_
    refine sy_sq ?_
    refine o_v hf hh (yv_fieldAddr Try.fo_27_0 rfl) ?_; clear hf a; intro a hf
    refine o_v hf hh (y_ld Try.sc_3 rfl) ?_; clear hf a; intro a hf
    refine o_v hf hh (yv_fieldAddr Try.fo_27_1 rfl) ?_; clear hf a; intro a hf
    refine o_v hf hh (y_ld Try.sc_3 rfl) ?_; clear hf a; intro a hf
    refine o_v hf hh (yv_bin rfl rfl rfl) ?_; clear hf a; intro a hf
    refine o_v hf hh (yv_assign rfl) ?_; clear hf a; intro a hf
    refine o_end ?_
    refine sy_ret ?_
    refine ret_r hf rfl rfl ?_
    exact ⟨rfl, hh.ext⟩
  ·refine mt_e rfl fun Q1 => ?_
   refine o_alloc hf hh Try.ze_27 ?_; clear hf hh a; intro B5 a w hf hh
   refine ops_end ?_
   refine then_n ⟨fun _ => (hh.less (.cons _ (List.Sublist.refl _))), ?_⟩
   refine mt_e rfl fun Q1 => ?_
   refine o_call hf Try.en_79 rfl rfl rfl (c80 x _) ?_; clear hf a; intro v a w hR hf
   obtain ⟨rfl, hx⟩ := hR; replace hh := hh.more hx; clear hx
   refine ops_end ?_
   refine then_n ⟨fun _ => (hh.less (.cons _ (List.Sublist.refl _))), ?_⟩
   refine mt_e rfl fun Q1 => ?_
   refine o_call hf Try.en_79 rfl rfl rfl (c80 y _) ?_; clear hf a; intro v a w hR hf
   obtain ⟨rfl, hx⟩ := hR; replace hh := hh.more hx; clear hx
   refine ops_end ?_
   refine then_n ⟨fun _ => (hh.less (.cons _ (List.Sublist.refl _))), ?_⟩
   refine mt_e rfl fun Q1 => ?_
   refine o_call hf Try.en_84 rfl rfl rfl (c85 _ _ _ _ _) ?_; clear hf a; intro v a w hR hf
   obtain ⟨rfl, hx⟩ := hR; replace hh := hh.more hx; clear hx
   refine ops_end ?_
   refine then_n ⟨fun _ => (hh.less (.cons _ (List.Sublist.refl _))), ?_⟩
   refine mt_e rfl fun Q1 => ?_
   refine o_store hf hh Try.sz_27 fun w hh => ?_
   refine ops_end ?_
   refine then_n ⟨fun _ => (hh.less (.cons _ (List.Sublist.refl _))), ?_⟩
   refine mt_end ?_
   refine then_n ?_
   refine sy_sq ?_
   refine o_v hf hh (yv_fieldAddr Try.fo_27_0 rfl) ?_; clear hf a; intro a hf
   refine o_v hf hh (y_ld Try.sc_3 rfl) ?_; clear hf a; intro a hf
   refine o_v hf hh (yv_fieldAddr Try.fo_27_1 rfl) ?_; clear hf a; intro a hf
   refine o_v hf hh (y_ld Try.sc_3 rfl) ?_; clear hf a; intro a hf
   refine o_v hf hh (yv_bin rfl rfl rfl) ?_; clear hf a; intro a hf
   refine o_v hf hh (yv_assign rfl) ?_; clear hf a; intro a hf
   refine o_end ?_
   refine sy_ret ?_
   refine ret_r hf rfl rfl ?_
   exact ⟨rfl, hh.ext⟩
theorem c84b (x y : Mk) (ba bb : Nat) (w : World) (ha : w.heap[ba]? = some (.cells (mkV x).cells 54 (0, 0))) (hb : w.heap[bb]? = some (.cells (mkV y).cells 54 (0, 0))) (d : RowsD) (sa sb : Option Addr) (ca cb bx : Nat) (hx : w.heap[bx]? = some (.cells (rowsV d sa sb ca cb).cells 29 (0, 0))) (h1 : -65536 ≤ d.lo) (h2 : d.lo ≤ d.hi) (h3 : d.hi ≤ 65536) (hm : okM x = true) : Calls Try.prog 83 #[rule1 bx, ptr ba 0, ptr bb 0] w (Ret fun v w' => v = .bool (decide (max (x.al - d.hi) y.al > min (x.ah - d.lo) y.ah)) ∧ Ext [] w w') := by
  refine calls_of Try.func83 rfl rfl (fun a hf => ?_)
  have hh := Hp.init w []
  refine sy_sq ?_
  refine o_box hf hh ?_; clear hf hh a; intro B3 a w hf hh
  refine o_v hf hh (yv_assign rfl) ?_; clear hf a; intro a hf
  refine o_end ?_
  refine sy_seq ?_
  refine sy_tree (.q 0 (.q 1 (.q 2 (.q 4 (.q 5 (.q 6 (.e2 3 (.e2 7 (.e2 8 (.e1 9 (.e1 10 (.fin))) 9 (.e1 8 (.e1 10 (.fin)))) 9 (.e1 7 (.e1 8 (.e1 10 (.fin))))) 9 (.e1 3 (.e1 7 (.e1 8 (.e1 10 (.fin)))))))))))) [] Try.follows (by kernel_rfl) hh (fun w hh => ?_)
  refine mt_v rfl hh hf (yv_fieldAddr Try.fo_131_0 rfl) (.inl rfl) rfl rfl ?_; clear hf a; intro a hf
  refine mt_v rfl hh hf (y_ld Try.sc_129 rfl) (.inl rfl) rfl rfl ?_; clear hf a; intro a hf
  refine mt_v rfl hh hf (y_lds Try.ag_54 rfl) (.inl rfl) rfl rfl ?_; clear hf a; intro a hf
  refine mt_v rfl hh hf (yv_fieldAddr Try.fo_131_1 rfl) (.inl rfl) rfl rfl ?_; clear hf a; intro a hf
  refine mt_v rfl hh hf (y_ld Try.sc_129 rfl) (.inl rfl) rfl rfl ?_; clear hf a; intro a hf
  refine mt_v rfl hh hf (y_lds Try.ag_54 rfl) (.inl rfl) rfl rfl ?_; clear hf a; intro a hf
  refine ⟨?_, ?_⟩
  ·refine mt_e rfl fun Q1 => ?_
   refine o_call hf Try.en_80 rfl rfl rfl (c81 x d sa sb ca cb bx _ (hh.old hx) hm h1 h2 h3) ?_; clear hf a; intro v a w hR hf
   obtain ⟨rfl, hx⟩ := hR; replace hh := hh.more hx; clear hx
   refine ops_end ?_
   refine then_n ⟨fun _ => hh, ?_⟩
   refine ⟨?_, ?_⟩
   ·refine mt_e rfl fun Q1 => ?_
    refine o_call hf Try.en_81 rfl rfl rfl (c82 y _) ?_; clear hf a; intro v a w hR hf
    obtain ⟨rfl, hx⟩ := hR; replace hh := hh.more hx; clear hx
    refine ops_end ?_
    refine then_n ⟨fun _ => hh, ?_⟩
    refine ⟨?_, ?_⟩
    ·refine mt_e rfl fun Q1 => ?_
     refine o_call hf Try.en_84 rfl rfl rfl (c85 _ _ _ _ _) ?_; clear hf a; intro v a w hR hf
     obtain ⟨rfl, hx⟩ := hR; replace hh := hh.more hx; clear hx
     refine ops_end ?_
     refine then_n ⟨fun _ => hh, ?_⟩
     refine mt_e rfl fun Q1 => ?_
     refine o_alloc hf hh Try.ze_27 ?_; clear hf hh a; intro B5 a w hf hh
     refine ops_end ?_
     refine then_n ⟨fun _ => (hh.less (.cons _ (List.Sublist.refl _))), ?_⟩
     refine mt_e rfl fun Q1 => ?_
     refine o_store hf hh Try.sz_27 fun w hh => ?_
     refine ops_end ?_
     refine then_n ⟨fun _ => (hh.less (.cons _ (List.Sublist.refl _))), ?_⟩
     refine mt_end ?_
     refine then_n ?_
     refine sy_sq ?_
     refine o_v hf hh (yv_fieldAddr Try.fo_27_0 rfl) ?_; clear hf a; intro a hf
     refine o_v hf hh (y_ld Try.sc_3 rfl) ?_; clear hf a; intro a hf
     refine o_v hf hh (yv_fieldAddr Try.fo_27_1 rfl) ?_; clear hf a; intro a hf
     refine o_v hf hh (y_ld Try.sc_3 rfl) ?_; clear hf a; intro a hf
     refine o_v hf hh (yv_bin rfl rfl rfl) ?_; clear hf a; intro a hf
     refine o_v hf hh (yv_assign rfl) ?_; clear hf a; intro a hf
     refine o_end ?_
     refine sy_ret ?_
     refine ret_r hf rfl rfl ?_
     exact ⟨rfl, hh.ext⟩
    ·refine mt_e rfl fun Q1 => ?_
     refine o_alloc hf hh Try.ze_27 ?_; clear hf hh a; intro B5 a w hf hh
     refine ops_end ?_
     refine then_n ⟨fun _ => (hh.less (.cons _ (List.Sublist.refl _))), ?_⟩
     refine mt_e rfl fun Q1 => ?_
     refine o_call hf Try.en_84 rfl rfl rfl (c85 _ _ _ _ _) ?_; clear hf a; intro v a w hR hf
     obtain ⟨rfl, hx⟩ := hR; replace hh := hh.more hx; clear hx
     refine ops_end ?_
     refine then_n ⟨fun _ => (hh.less (.cons _ (List.Sublist.refl _))), ?_⟩
     refine mt_e rfl fun Q1 => ?_
     refine o_store hf hh Try.sz_27 fun w hh => ?_
     refine ops_end ?_
     refine then_n ⟨fun _ => (hh.less (.cons _ (List.Sublist.refl _))), ?_⟩
     refine mt_end ?_
     refine then_n ?_
     refine sy_sq ?_
     refine o_v hf hh (yv_fieldAddr Try.fo_27_0 rfl) ?_; clear hf a; intro a hf
     refine o_v hf hh (y_ld Try.sc_3 rfl) ?_; clear hf a; intro a hf
     refine o_v hf hh (yv_fieldAddr Try.fo_27_1 rfl) ?_; clear hf a; intro a hf
     refine o_v hf hh (y_ld Try.sc_3 rfl) ?_; clear hf a; intro a hf
     refine o_v hf hh (yv_bin rfl rfl rfl) ?_; clear hf a; intro a hf
     refine o_v hf hh (yv_assign rfl) ?_; clear hf a; intro a hf
     refine o_end ?_
     refine sy_ret ?_
     refine ret_r hf rfl rfl ?_
     exact ⟨rfl, hh.ext⟩
   ·refine mt_e rfl fun Q1 => ?_
    refine o_alloc hf hh Try.ze_27 ?_; clear hf hh a; intro B5 a w hf hh
    refine ops_end ?_
    refine then_n ⟨fun _ => (hh.less (.cons _ (List.Sublist.refl _))), ?_⟩
    refine mt_e rfl fun Q1 => ?_
    refine o_call hf Try.en_81 rfl rfl rfl (c82 y _) ?_; clear hf a; intro v a w hR hf
    obtain ⟨rfl, hx⟩ := hR; replace hh := hh.more hx; clear hx
    refine ops_end ?_
    refine then_n ⟨fun _ => (hh.less (.cons _ (List.Sublist.refl _))), ?_⟩
    refine mt_e rfl fun Q1 => ?_
    refine o_call hf Try.en_84 rfl rfl rfl (c85 _ _ _ _ _) ?_; clear hf a; intro v a w hR hf
    obtain ⟨rfl, hx⟩ := hR; replace hh := hh.more hx; clear hx
    refine ops_end ?_
    refine then_n ⟨fun _ => (hh.less (.cons _ (List.Sublist.refl _))), ?_⟩
    refine mt_e rfl fun Q1 => ?_
    refine o_store hf hh Try.sz_27 fun w hh => ?_
    refine ops_end ?_
    refine then_n ⟨fun _ => (hh.less (.cons _ (List.Sublist.refl _))), ?_⟩
    refine mt_end ?_
    refine then_n ?_
    refine sy_sq ?_
    refine o_v hf hh (yv_fieldAddr Try.fo_27_0 rfl) ?_; clear hf a; intro a hf
    refine o_v hf hh (y_ld Try.sc_3 rfl) ?_; clear hf a; intro a hf
    refine o_v hf hh (yv_fieldAddr Try.fo_27_1 rfl) ?_; clear hf a; intro a hf
    refine o_v hf hh (y_ld Try.sc_3 rfl) ?_; clear hf a; intro a hf
    refine o_v hf hh (yv_bin rfl rfl rfl) ?_; clear hf a; intro a hf
    refine o_v hf hh (yv_assign rfl) ?_; clear hf a; intro a hf
    refine o_end ?_
    refine sy_ret ?_
    refine ret_r hf rfl rfl ?_
    exact ⟨rfl, hh.ext⟩
  ·refine mt_e rfl fun Q1 => ?_
   refine o_alloc hf hh Try.ze_27 ?_; clear hf hh a; intro B5 a w hf hh
   refine ops_end ?_
   refine then_n ⟨fun _ => (hh.less (.cons _ (List.Sublist.refl _))), ?_⟩
   refine mt_e rfl fun Q1 => ?_
   refine o_call hf Try.en_80 rfl rfl rfl (c81 x d sa sb ca cb bx _ (hh.old hx) hm h1 h2 h3) ?_; clear hf a; intro v a w hR hf
   obtain ⟨rfl, hx⟩ := hR; replace hh := hh.more hx; clear hx
   refine ops_end ?_
   refine then_n ⟨fun _ => (hh.less (.cons _ (List.Sublist.refl _))), ?_⟩
   refine mt_e rfl fun Q1 => ?_
   refine o_call hf Try.en_81 rfl rfl rfl (c82 y _) ?_; clear hf a; intro v a w hR hf
   obtain ⟨rfl, hx⟩ := hR; replace hh := hh.more hx; clear hx
   refine ops_end ?_
   refine then_n ⟨fun _ => (hh.less (.cons _ (List.Sublist.refl _))), ?_⟩
   refine mt_e rfl fun Q1 => ?_
   refine o_call hf Try.en_84 rfl rfl rfl (c85 _ _ _ _ _) ?_; clear hf a; intro v a w hR hf
   obtain ⟨rfl, hx⟩ := hR; replace hh := hh.more hx; clear hx
   refine ops_end ?_
   refine then_n ⟨fun _ => (hh.less (.cons _ (List.Sublist.refl _))), ?_⟩
   refine mt_e rfl fun Q1 => ?_
   refine o_store hf hh Try.sz_27 fun w hh => ?_
   refine ops_end ?_
   refine then_n ⟨fun _ => (hh.less (.cons _ (List.Sublist.refl _))), ?_⟩
   refine mt_end ?_
   refine then_n ?_
   refine sy_sq ?_
   refine o_v hf hh (yv_fieldAddr Try.fo_27_0 rfl) ?_; clear hf a; intro a hf
   refine o_v hf hh (y_ld Try.sc_3 rfl) ?_; clear hf a; intro a hf
   refine o_v hf hh (yv_fieldAddr Try.fo_27_1 rfl) ?_; clear hf a; intro a hf
   refine o_v hf hh (y_ld Try.sc_3 rfl) ?_; clear hf a; intro a hf
   refine o_v hf hh (yv_bin rfl rfl rfl) ?_; clear hf a; intro a hf
   refine o_v hf hh (yv_assign rfl) ?_; clear hf a; intro a hf
   refine o_end ?_
   refine sy_ret ?_
   refine ret_r hf rfl rfl ?_
   exact ⟨rfl, hh.ext⟩
end Go.Proofs.Ytidieepndphodaa
namespace Go.Proofs.Ytidieepndphodaa
open Go Go.Sy Go.MatM
abbrev rulesC (bx : Nat) : Array Value := #[fn0 79, fn0 79, .func (.func 80) #[] #[ptr bx 0], fn0 81]
def brk0 (x y : Mk) : Bool := decide (max x.tl y.tl > min x.th y.th)
def brk1 (d : RowsD) (x y : Mk) : Bool := decide (max (x.al - d.hi) y.al > min (x.ah - d.lo) y.ah)
def brkI (d : RowsD) (x y : Mk) : Int := if brk0 x y = true then 0 else if brk1 d x y = true then 1 else -1
theorem brk_fit {d : RowsD} {x y : Mk} (hx : okM x = true) (hy : okM y = true) (h2 : d.lo ≤ d.hi) : (!decide (brkI d x y ≥ 0)) = fitM d.lo d.hi x y := by
  have hx := okM_iff.1 hx; have hy := okM_iff.1 hy
  have e : decide (brkI d x y ≥ 0) = (brk0 x y || brk1 d x y) := by
    unfold brkI; cases brk0 x y <;> cases brk1 d x y <;> rfl
  rw [e, Bool.eq_iff_iff]
  simp only [brk0, brk1, fitM, Bool.not_eq_true', Bool.or_eq_false_iff, decide_eq_false_iff_not, Bool.and_eq_true, decide_eq_true_eq]
  omega
theorem rule_at (x y : Mk) (ba bb : Nat) (u : World) (ha : u.heap[ba]? = some (.cells (mkV x).cells 54 (0, 0))) (hb : u.heap[bb]? = some (.cells (mkV y).cells 54 (0, 0))) (d : RowsD) (sa sb : Option Addr) (ca cb bx bs : Nat) (hx : u.heap[bx]? = some (.cells (rowsV d sa sb ca cb).cells 29 (0, 0))) (h1 : -65536 ≤ d.lo) (h2 : d.lo ≤ d.hi) (h3 : d.hi ≤ 65536) (hm : okM x = true) (hs : u.heap[bs]? = some (.cells (rulesC bx) 131 (0, 0))) {j : Nat} (hj : j < 2) : ∃ vs p, cellsAt (rulesC bx) (0 + ((j : Nat) : Int).toNat * 2) 2 = some vs ∧ (p = if j = 0 then brk0 x y else brk1 d x y) ∧ ∀ w', Ext [] u w' → Calls Try.prog 83 #[.agg vs.toArray, ptr ba 0, ptr bb 0] w' (Ret fun v w'' => v = .bool p ∧ Ext [] w' w'') := by
  match j, hj with
  | 0, _ => exact ⟨_, _, rfl, rfl, fun w' e => c84a x y ba bb w' (e.get ha) (e.get hb)⟩
  | 1, _ => exact ⟨_, _, rfl, rfl, fun w' e => c84b x y ba bb w' (e.get ha) (e.get hb) d sa sb ca cb bx (e.get hx) h1 h2 h3 hm⟩
theorem c99 (x y : Mk) (ba bb : Nat) (u : World) (ha : u.heap[ba]? = some (.cells (mkV x).cells 54 (0, 0))) (hb : u.heap[bb]? = some (.cells (mkV y).cells 54 (0, 0))) (d : RowsD) (sa sb : Option Addr) (ca cb bx bs : Nat) (hx : u.heap[bx]? = some (.cells (rowsV d sa sb ca cb).cells 29 (0, 0))) (h1 : -65536 ≤ d.lo) (h2 : d.lo ≤ d.hi) (h3 : d.hi ≤ 65536) (hm : okM x = true) (hs : u.heap[bs]? = some (.cells (rulesC bx) 131 (0, 0))) : Calls Try.prog 94 #[.slice (some ⟨bs, 0, none⟩) 2 2, .func (.func 83) #[] #[ptr ba 0, ptr bb 0]] u (Ret fun v w' => v = .int .i64 (brkI d x y) ∧ Ext [] u w') := by
  refine calls_of Try.func94 rfl rfl (fun a hf => ?_)
  have hh := Hp.init u []
  refine sy_sq ?_
  refine o_v hf hh (yv_assign rfl) ?_; clear hf a; intro a hf
  refine o_end ?_
  refine sy_seq ?_
  refine sy_sq ?_
  refine o_v hf hh (yv_move rfl) ?_; clear hf a; intro a hf
  refine o_v hf hh (yv_len Try.se_132 rfl) ?_; clear hf a; intro a hf
  refine o_v hf hh (yv_move rfl) ?_; clear hf a; intro a hf
  refine o_end ?_
  refine sy_block ?_
  refine sy_loopF (σ := Nat) [4, 5, 8, 9, 10, 11, 12, 13, 14, 15, 16, 17, 18] (fun j => [(8, .int .i64 j)]) (fun j => j ≤ 2 ∧ (0 < j → brk0 x y = false) ∧ (1 < j → brk1 d x y = false)) (fun j => 2 - j) (0) hf hh ?_ ?_ ?_
  · repeat' (first | exact True.intro | refine And.intro rfl ?_)
  · exact ⟨by omega, fun h => absurd h (by omega), fun h => absurd h (by omega)⟩
  ·rintro j a w ⟨hj, hq1, hq2⟩ hf hh
   refine sy_sq ?_
   refine o_v hf hh (yv_bin rfl rfl rfl) ?_; clear hf a; intro a hf
   refine o_end ?_
   refine sy_seq ?_
   refine sy_cond hf rfl (fun hg2 => ?_) (fun hg2 => ?_)
   ·have hG2 := hg2; try simp only [gS] at hG2
    refine sy_skip ?_
    refine then_n ?_
    refine sy_seq ?_
    refine sy_block ?_
    refine sy_seq ?_
    obtain ⟨vs, p, hcx, hp, hcall⟩ := rule_at x y ba bb u ha hb d sa sb ca cb bx bs hx h1 h2 h3 hm hs (j := j) (by omega)
    subst hp
    refine sy_ops ?_
    refine o_v hf hh (yv_move rfl) ?_; clear hf a; intro a hf
    refine o_v hf hh (yv_assign rfl) ?_; clear hf a; intro a hf
    refine o_end ?_
    refine sy_sq ?_
    refine o_v hf hh (yv_move rfl) ?_; clear hf a; intro a hf
    refine o_v hf hh (yv_move rfl) ?_; clear hf a; intro a hf
    refine o_v hf hh (yv_move rfl) ?_; clear hf a; intro a hf
    refine o_v hf hh (y_ix Try.se_132 rfl rfl) ?_; clear hf a; intro a hf
    refine o_v hf hh (y_lds Try.ag_131 rfl) ?_; clear hf a; intro a hf
    refine o_call hf Try.en_83 rfl rfl rfl (hcall _ hh.ext) ?_; clear hf a; intro v a w hR hf
    obtain ⟨rfl, hx⟩ := hR; replace hh := hh.more hx; clear hx
    refine o_end ?_
    refine sy_cond hf rfl (fun hg4 => ?_) (fun hg4 => ?_)
    ·have hG4 := hg4; try simp only [gS] at hG4
     refine sy_sq ?_
     refine o_v hf hh (yv_move rfl) ?_; clear hf a; intro a hf
     refine o_v hf hh (yv_assign rfl) ?_; clear hf a; intro a hf
     refine o_end ?_
     refine sy_ret ?_
     refine blk_r ?_
     refine then_r ?_
     refine then_r ?_
     refine blk_r ?_
     refine then_r ?_
     refine ret_r hf rfl rfl ?_
     refine ⟨congrArg (Value.int .i64) ?_, hh.ext⟩
     by_cases hj0 : j = 0
     · subst hj0; simp_all [brkI]
     · have hj1 : j = 1 := by omega
       subst hj1; simp_all [brkI]
    ·have hG4 := hg4; try simp only [gS] at hG4
     refine sy_skip ?_
     refine blk_n ?_
     refine then_n ?_
     refine sy_ops ?_
     refine o_v hf hh (y_add rfl rfl) ?_; clear hf a; intro a hf
     refine o_v hf hh (yv_move rfl) ?_; clear hf a; intro a hf
     refine ops_end ?_
     refine then_n ?_
     refine ⟨j + 1, ⟨⟨by omega, fun _ => ?_, fun _ => ?_⟩, (hf.head (by repeat' (first | exact True.intro | refine And.intro rfl ?_)) (Keep.cons rfl (Keep.cons rfl (Keep.cons rfl (Keep.cons rfl (Keep.cons rfl (Keep.cons rfl (Keep.cons rfl (Keep.cons rfl (Keep.cons rfl (Keep.cons rfl (Keep.cons rfl (Keep.app rfl (Keep.rm rfl Keep.base)))))))))))))), hh⟩, by omega⟩
     · by_cases hj0 : j = 0
       · subst hj0; simpa using hG4
       · exact hq1 (by omega)
     · by_cases hj0 : j = 0
       · omega
       · rw [if_neg hj0] at hG4; exact hG4
   ·have hG2 := hg2; try simp only [gS] at hG2
    refine sy_exit ?_
    refine then_e ?_
    refine then_e ?_
    refine blk_e ?_
    refine then_n ?_
    refine sy_sq ?_
    refine o_v hf hh (yv_assign rfl) ?_; clear hf a; intro a hf
    refine o_end ?_
    refine sy_ret ?_
    refine ret_r hf rfl rfl ?_
    exact ⟨congrArg (Value.int .i64) (by simp [brkI, hq1 (by omega), hq2 (by omega)]), hh.ext⟩
theorem c83 (x y : Mk) (ba bb : Nat) (u : World) (ha : u.heap[ba]? = some (.cells (mkV x).cells 54 (0, 0))) (hb : u.heap[bb]? = some (.cells (mkV y).cells 54 (0, 0))) (d : RowsD) (sa sb : Option Addr) (ca cb bx bs : Nat) (hx : u.heap[bx]? = some (.cells (rowsV d sa sb ca cb).cells 29 (0, 0))) (h1 : -65536 ≤ d.lo) (h2 : d.lo ≤ d.hi) (h3 : d.hi ≤ 65536) (hm : okM x = true) (hs : u.heap[bs]? = some (.cells (rulesC bx) 131 (0, 0))) : Calls Try.prog 82 #[.slice (some ⟨bs, 0, none⟩) 2 2, .func (.func 83) #[] #[ptr ba 0, ptr bb 0]] u (Ret fun v w' => v = .bool (decide (brkI d x y ≥ 0)) ∧ Ext [] u w') := by
  refine calls_of Try.func82 rfl rfl (fun a hf => ?_)
  have hh := Hp.init u []
  refine sy_sq ?_
  refine o_v hf hh (yv_assign rfl) ?_; clear hf a; intro a hf
  refine o_end ?_
  refine sy_sq ?_
  refine o_v hf hh (yv_move rfl) ?_; clear hf a; intro a hf
  refine o_v hf hh (yv_move rfl) ?_; clear hf a; intro a hf
  refine o_call hf Try.en_94 rfl rfl rfl (c99 x y ba bb _ (hh.old ha) (hh.old hb) d sa sb ca cb bx bs (hh.old hx) h1 h2 h3 hm (hh.old hs)) ?_; clear hf a; intro v a w hR hf
  obtain ⟨rfl, hx⟩ := hR; replace hh := hh.more hx; clear hx
  refine o_v hf hh (yv_bin rfl rfl rfl) ?_; clear hf a; intro a hf
  refine o_v hf hh (yv_assign rfl) ?_; clear hf a; intro a hf
  refine o_end ?_
  refine sy_ret ?_
  refine ret_r hf rfl rfl ?_
  exact ⟨rfl, hh.ext⟩
end Go.Proofs.Ytidieepndphodaa
namespace Go.Proofs.Ytidieepndphodaa
open Go Go.Sy Go.MatM
def isF : Option Value → Bool
  | some (.bool false) => true
  | _ => false
theorem cells_false (cs : Array Value) (h : (List.range 100).all (fun j => isF cs[5 + j]?) = true) : ∀ i k, i < 10 → k < 10 → cs[5 + i * 10 + k]? = some (.bool false) := fun i k hi hk => by
  have h1 := List.all_eq_true.1 h (i * 10 + k) (List.mem_range.2 (by omega))
  rw [← Nat.add_assoc] at h1
  unfold isF at h1
  split at h1
  · assumption
  · cases h1
def procF (d : RowsD) (i k : Nat) : Nat → Nat → Bool := fun x y => fitD d x y && decide (x < i ∨ x = i ∧ y < k)
theorem need_bd {d : RowsD} (hV : Valid d) : -9223372036854775808 ≤ needI d ∧ needI d ≤ 9223372036854775807 := by
  have h1 := hV.nl; have h2 := hV.nr; have h3 := hV.h1; have h4 := hV.h2
  unfold needI
  have := Int.tdiv_eq_ediv (a := ((d.l.length + d.r.length : Nat) - d.hid + 1)) (b := 2)
  rw [this]
  rw [show Int.sign 2 = 1 from rfl]
  split <;> omega
theorem fitD_eq {d : RowsD} {i k : Nat} {x y : Mk} (hx : d.l[i]? = some x) (hy : d.r[k]? = some y) : fitD d i k = fitM d.lo d.hi x y := by simp [fitD, hx, hy]
theorem procF_next {d : RowsD} {i k : Nat} : updF (procF d i k) i k (fitD d i k) = procF d i (k + 1) := by
  funext x y
  unfold updF procF
  split
  · rename_i h; simp [h.1, h.2]
  · rename_i h
    congr 1
    rw [decide_eq_decide]
    omega
theorem procF_row {d : RowsD} {i : Nat} : procF d i d.r.length = procF d (i + 1) 0 := by
  funext x y
  unfold procF
  by_cases h : y < d.r.length
  · congr 1; rw [decide_eq_decide]; omega
  · have : fitD d x y = false := by
      unfold fitD; rw [List.getElem?_eq_none (l := d.r) (by omega)]; cases d.l[x]? <;> rfl
    rw [this]; rfl
theorem procF_all {d : RowsD} : procF d d.l.length 0 = fitD d := by
  funext x y
  unfold procF
  by_cases h : x < d.l.length
  · simp [h]
  · have : fitD d x y = false := by
      unfold fitD; rw [List.getElem?_eq_none (l := d.l) (by omega)]
    rw [this]; rfl
theorem RowA_spl {d : RowsD} {sa sb : Option Addr} {ca cb : Nat} {F : Nat → Nat → Bool} {cs : Array Value} (h : RowA d sa sb ca cb F cs) {i k off : Nat} {b b' : Bool} (hi : i < 10) (hk : k < 10) (ho : off = 5 + i * 10 + k) (hb : b' = b) : RowA d sa sb ca cb (updF F i k b) (spl cs off [.bool b']) := by
  subst ho; subst hb
  rw [spl_one _ _ (by rw [h.size]; omega)]
  exact h.set hi hk b'
theorem procF_zero {d : RowsD} : procF d 0 0 = fun _ _ => false := by
  funext x y; simp [procF]
theorem c44 (d : RowsD) (sa sb : Option Addr) (ca cb : Nat) (u : World) (hA : MkAt u sa d.l) (hB : MkAt u sb d.r) (hV : Valid d) : Calls Try.prog 64 #[rowsV d sa sb ca cb] u (Ret fun v w' => ∃ B cs, v = ptr B 0 ∧ RowA d sa sb ca cb (fitD d) cs ∧ Hp u [] [(B, .cells cs 128)] w') := by
  refine calls_of Try.func64 rfl rfl (fun a hf => ?_)
  have hh := Hp.init u []
  have hnb := need_bd hV; have hnl := hV.nl; have hnr := hV.nr; have hh1 := hV.h1; have hh2 := hV.h2
  refine sy_sq ?_
  refine o_box hf hh ?_; clear hf hh a; intro B1 a w hf hh
  refine o_v hf hh (yv_assign rfl) ?_; clear hf a; intro a hf
  refine o_end ?_
  refine sy_sq ?_
  refine o_v hf hh (y_lds Try.ag_29 rfl) ?_; clear hf a; intro a hf
  refine o_v hf hh (yv_fieldAddr Try.fo_29_0 rfl) ?_; clear hf a; intro a hf
  refine o_v hf hh (y_ld Try.sc_25 rfl) ?_; clear hf a; intro a hf
  refine o_v hf hh (yv_len Try.se_25 rfl) ?_; clear hf a; intro a hf
  refine o_v hf hh (yv_fieldAddr Try.fo_29_1 rfl) ?_; clear hf a; intro a hf
  refine o_v hf hh (y_ld Try.sc_25 rfl) ?_; clear hf a; intro a hf
  refine o_v hf hh (yv_len Try.se_25 rfl) ?_; clear hf a; intro a hf
  refine o_v hf hh (y_add rfl rfl) ?_; clear hf a; intro a hf
  refine o_v hf hh (yv_fieldAddr Try.fo_29_3 rfl) ?_; clear hf a; intro a hf
  refine o_v hf hh (y_ld Try.sc_3 rfl) ?_; clear hf a; intro a hf
  refine o_v hf hh (y_sub rfl rfl) ?_; clear hf a; intro a hf
  refine o_v hf hh (y_add rfl rfl) ?_; clear hf a; intro a hf
  refine o_v hf hh (yv_quoT rfl rfl (by omega) hnb.1 hnb.2) ?_; clear hf a; intro a hf
  refine o_v hf hh (yv_buildS Try.bs_128 rfl rfl) ?_; clear hf a; intro a hf
  refine o_box hf hh ?_; clear hf hh a; intro B25 a w hf hh
  refine o_v hf hh (yv_assign rfl) ?_; clear hf a; intro a hf
  refine o_end ?_
  refine sy_sq ?_
  refine o_v hf hh (yv_assign rfl) ?_; clear hf a; intro a hf
  refine o_end ?_
  refine sy_sq ?_
  refine o_v hf hh (yv_makeFunc rfl rfl) ?_; clear hf a; intro a hf
  refine o_v hf hh (yv_assign rfl) ?_; clear hf a; intro a hf
  refine o_end ?_
  refine sy_sq ?_
  refine o_v hf hh (yv_move rfl) ?_; clear hf a; intro a hf
  refine o_v hf hh (yv_move rfl) ?_; clear hf a; intro a hf
  refine o_v hf hh (yv_buildS Try.bs_131 rfl rfl) ?_; clear hf a; intro a hf
  refine o_v hf hh (yv_move rfl) ?_; clear hf a; intro a hf
  refine o_v hf hh (yv_buildS Try.bs_131 rfl rfl) ?_; clear hf a; intro a hf
  refine ops_buildSl hf hh Try.bl_132_2 rfl rfl (.inl rfl) rfl ?_; clear hf hh; clear a; intro B32 a w hf hh
  refine o_v hf hh (yv_assign rfl) ?_; clear hf a; intro a hf
  refine o_end ?_
  refine sy_seq ?_
  refine sy_seq ?_
  obtain ⟨cs0, hR0, hh⟩ : ∃ cs0, RowA d sa sb ca cb (procF d 0 0) cs0 ∧ Hp u [] [(B32, .cells (rulesC B1) 131), (B25, .cells cs0 128), (B1, .cells (rowsV d sa sb ca cb).cells 29)] w := by
    refine ⟨_, ?_, hh⟩
    rw [procF_zero]
    exact ⟨rfl, rfl, rfl, rfl, rfl, rfl, cells_false _ rfl, rfl⟩
  refine sy_ops ?_
  refine o_v hf hh (yv_fieldAddr Try.fo_29_0 rfl) ?_; clear hf a; intro a hf
  refine o_v hf hh (y_ld Try.sc_25 rfl) ?_; clear hf a; intro a hf
  refine o_v hf hh (yv_len Try.se_25 rfl) ?_; clear hf a; intro a hf
  refine o_v hf hh (yv_move rfl) ?_; clear hf a; intro a hf
  refine o_end ?_
  refine sy_block ?_
  refine sy_loopH (σ := Nat) [7, 8, 9, 10, 36, 37, 38, 39, 40, 41, 42, 43, 44, 45, 46, 47, 48, 49, 50, 51, 52, 53, 54, 55, 56, 57, 58, 59, 60, 61] (fun i => [(36, .int .i64 i)]) (fun i => fun w => i ≤ d.l.length ∧ ∃ cs, RowA d sa sb ca cb (procF d i 0) cs ∧ Hp u [] [(B32, .cells (rulesC B1) 131), (B25, .cells cs 128), (B1, .cells (rowsV d sa sb ca cb).cells 29)] w) (fun i => d.l.length - i) (0) hf ?_ ?_ ?_
  · repeat' (first | exact True.intro | refine And.intro rfl ?_)
  · exact ⟨Nat.zero_le _, _, hR0, hh⟩
  ·rintro i a w ⟨hi, cs, hR, hh⟩ hf
   refine sy_sq ?_
   refine o_v hf hh (yv_bin rfl rfl rfl) ?_; clear hf a; intro a hf
   refine o_end ?_
   refine sy_seq ?_
   refine sy_cond hf rfl (fun hg3 => ?_) (fun hg3 => ?_)
   ·have hG3 := hg3; try simp only [gS] at hG3
    refine sy_skip ?_
    refine then_n ?_
    refine sy_seq ?_
    refine sy_block ?_
    refine sy_seq ?_
    obtain ⟨x, hx⟩ := ex_of (l := d.l) (i := i) (by omega)
    obtain ⟨blk, off, cc, T, fr, e, hbx, hcx⟩ := hA i x hx
    refine sy_ops ?_
    refine o_v hf hh (yv_move rfl) ?_; clear hf a; intro a hf
    refine o_v hf hh (y_ix (b := blk) (off := off) Try.se_25 (congrArg (fun z => some (Value.slice z d.l.length ca)) e) rfl) ?_; clear hf a; intro a hf
    refine o_v hf hh (y_lds Try.ag_54 rfl) ?_; clear hf a; intro a hf
    refine o_alloc hf hh Try.ze_54 ?_; clear hf hh a; intro B8 a w hf hh
    refine o_v hf hh (yv_assign rfl) ?_; clear hf a; intro a hf
    refine o_store hf hh Try.sz_54 fun w hh => ?_
    refine o_end ?_
    refine sy_sq ?_
    refine o_v hf hh (yv_fieldAddr Try.fo_29_1 rfl) ?_; clear hf a; intro a hf
    refine o_v hf hh (y_ld Try.sc_25 rfl) ?_; clear hf a; intro a hf
    refine o_v hf hh (yv_len Try.se_25 rfl) ?_; clear hf a; intro a hf
    refine o_v hf hh (yv_move rfl) ?_; clear hf a; intro a hf
    refine o_end ?_
    refine sy_block ?_
    refine sy_loopH (σ := Nat) [9, 10, 44, 45, 46, 47, 48, 49, 50, 51, 52, 53, 54, 55, 56, 57, 58, 59, 60] (fun k => [(44, .int .i64 k)]) (fun k => fun w => k ≤ d.r.length ∧ ∃ cs, RowA d sa sb ca cb (procF d i k) cs ∧ Hp u [] [(B8, .cells (mkV x).cells 54), (B32, .cells (rulesC B1) 131), (B25, .cells cs 128), (B1, .cells (rowsV d sa sb ca cb).cells 29)] w) (fun k => d.r.length - k) (0) hf ?_ ?_ ?_
    · repeat' (first | exact True.intro | refine And.intro rfl ?_)
    · exact ⟨Nat.zero_le _, _, hR, hh⟩
    ·rintro k a w ⟨hk, cs2, hR2, hh⟩ hf
     refine sy_sq ?_
     refine o_v hf hh (yv_bin rfl rfl rfl) ?_; clear hf a; intro a hf
     refine o_end ?_
     refine sy_seq ?_
     refine sy_cond hf rfl (fun hg6 => ?_) (fun hg6 => ?_)
     ·have hG6 := hg6; try simp only [gS] at hG6
      refine sy_skip ?_
      refine then_n ?_
      refine sy_seq ?_
      refine sy_block ?_
      refine sy_seq ?_
      obtain ⟨y, hy⟩ := ex_of (l := d.r) (i := k) (by omega)
      obtain ⟨blk2, off2, cc2, T2, fr2, e2, hby, hcy⟩ := hB k y hy
      have hsz := hR2.size
      refine sy_ops ?_
      refine o_v hf hh (yv_move rfl) ?_; clear hf a; intro a hf
      refine o_v hf hh (y_ix (b := blk2) (off := off2) Try.se_25 (congrArg (fun z => some (Value.slice z d.r.length cb)) e2) rfl) ?_; clear hf a; intro a hf
      refine o_v hf hh (y_lds Try.ag_54 rfl) ?_; clear hf a; intro a hf
      refine o_alloc hf hh Try.ze_54 ?_; clear hf hh a; intro B10 a w hf hh
      refine o_v hf hh (yv_assign rfl) ?_; clear hf a; intro a hf
      refine o_store hf hh Try.sz_54 fun w hh => ?_
      refine o_end ?_
      refine sy_tail (C := Hp _ _ _) 11 Try.follows (by kernel_rfl) rfl rfl (hh.drawn _) ?_
      refine oq_v hf (yv_move rfl) ?_; clear hf a; intro a hf
      refine oq_v hf (yv_move rfl) ?_; clear hf a; intro a hf
      refine oq_v hf (yv_move rfl) ?_; clear hf a; intro a hf
      refine oq_v hf (yv_move rfl) ?_; clear hf a; intro a hf
      refine oq_v hf (yv_makeFunc rfl rfl) ?_; clear hf a; intro a hf
      refine oq_call hf Try.en_82 rfl rfl rfl (fun w hh => c83 x y B8 B10 _ (hh.at (i := 1) rfl) (hh.at (i := 0) rfl) d sa sb ca cb B1 B32 (hh.at (i := 4) rfl) hV.s1 hV.s2 hV.s3 (hV.ml x (List.mem_of_getElem? hx)) (hh.at (i := 2) rfl)) ?_; clear hf a; intro a hf
      refine oq_v hf (yv_not rfl) ?_; clear hf a; intro a hf
      refine oq_v hf (yv_nilCheck rfl) ?_; clear hf a; intro a hf
      refine oq_v hf (yv_fieldAddr Try.fo_128_1 rfl) ?_; clear hf a; intro a hf
      refine oq_v hf (y_ia Try.ae_126 rfl rfl) ?_; clear hf a; intro a hf
      refine oq_v hf (y_ia Try.ae_125 rfl rfl) ?_; clear hf a; intro a hf
      refine q_end fun w hh => ?_
      refine o_store hf hh Try.sz_4 fun w hh => ?_
      refine ops_end ?_
      refine blk_n ?_
      refine then_n ?_
      refine sy_ops ?_
      refine o_v hf hh (y_add rfl rfl) ?_; clear hf a; intro a hf
      refine o_v hf hh (yv_move rfl) ?_; clear hf a; intro a hf
      refine ops_end ?_
      refine then_n ?_
      refine ⟨k + 1, ⟨⟨by omega, _, ?_, hh.less (.cons _ (List.Sublist.refl _))⟩, (hf.head (by repeat' (first | exact True.intro | refine And.intro rfl ?_)) (Keep.cons rfl (Keep.cons rfl (Keep.cons rfl (Keep.cons rfl (Keep.cons rfl (Keep.cons rfl (Keep.cons rfl (Keep.cons rfl (Keep.cons rfl (Keep.cons rfl (Keep.cons rfl (Keep.cons rfl (Keep.cons rfl (Keep.cons rfl (Keep.cons rfl (Keep.cons rfl (Keep.cons rfl (Keep.cons rfl (Keep.cons rfl (Keep.app rfl (Keep.rm rfl Keep.base))))))))))))))))))))))⟩, by omega⟩
      rw [← procF_next]
      exact RowA_spl hR2 (by omega) (by omega) (by first | (simp; done) | (simp; omega)) (by rw [fitD_eq hx hy]; exact brk_fit (hV.ml x (List.mem_of_getElem? hx)) (hV.mr y (List.mem_of_getElem? hy)) hV.s2)
     ·have hG6 := hg6; try simp only [gS] at hG6
      refine sy_exit ?_
      refine then_e ?_
      refine then_e ?_
      refine blk_e ?_
      refine blk_n ?_
      refine then_n ?_
      refine sy_ops ?_
      refine o_v hf hh (y_add rfl rfl) ?_; clear hf a; intro a hf
      refine o_v hf hh (yv_move rfl) ?_; clear hf a; intro a hf
      refine ops_end ?_
      refine then_n ?_
      exact ⟨i + 1, ⟨⟨by omega, cs2, by rw [← procF_row, ← (show k = d.r.length by omega)]; exact hR2, hh.less (.cons _ (List.Sublist.refl _))⟩, (hf.head (by repeat' (first | exact True.intro | refine And.intro rfl ?_)) (Keep.cons rfl (Keep.cons rfl (Keep.cons rfl (Keep.app rfl (Keep.rm rfl (Keep.cons rfl (Keep.cons rfl (Keep.cons rfl (Keep.cons rfl (Keep.cons rfl (Keep.cons rfl (Keep.cons rfl (Keep.cons rfl (Keep.cons rfl (Keep.cons rfl (Keep.app rfl (Keep.rm rfl Keep.base))))))))))))))))))⟩, by omega⟩
   ·have hG3 := hg3; try simp only [gS] at hG3
    refine sy_exit ?_
    refine then_e ?_
    refine then_e ?_
    refine blk_e ?_
    refine then_n ?_
    refine sy_sq ?_
    refine o_v hf hh (yv_move rfl) ?_; clear hf a; intro a hf
    refine o_v hf hh (yv_assign rfl) ?_; clear hf a; intro a hf
    refine o_end ?_
    refine sy_ret ?_
    refine ret_r hf rfl rfl ?_
    have hie : i = d.l.length := by omega
    subst hie
    exact ⟨B25, cs, rfl, procF_all ▸ hR, hh.less (.cons _ (.cons_cons _ (.cons _ .slnil)))⟩
end Go.Proofs.Ytidieepndphodaa
namespace Go.Proofs.Ytidieepndphodaa
open Go Go.Sy Go.MatM
/-- Rows that are looked at lie in memory. -/
structure RowO (w : World) (rb : Nat) (d : RowsD) (sa sb : Option Addr) (ca cb : Nat) (F : Nat → Nat → Bool) : Prop where
  ex : ∃ cs, w.heap[rb]? = some (.cells cs 128 (0, 0)) ∧ RowA d sa sb ca cb F cs
  nl : d.l.length ≤ 10
  nr : d.r.length ≤ 10
theorem RowO.ext {w w' : World} {rb : Nat} {d : RowsD} {sa sb : Option Addr} {ca cb : Nat} {F : Nat → Nat → Bool} (h : RowO w rb d sa sb ca cb F) (e : Ext [] w w') : RowO w' rb d sa sb ca cb F :=
  ⟨let ⟨cs, h1, h2⟩ := h.ex; ⟨cs, e.get h1, h2⟩, h.nl, h.nr⟩
theorem RowO.extM {w w' : World} {M : List Nat} {rb : Nat} {d : RowsD} {sa sb : Option Addr} {ca cb : Nat} {F : Nat → Nat → Bool} (h : RowO w rb d sa sb ca cb F) (e : Ext M w w') (hm : rb ∉ M) : RowO w' rb d sa sb ca cb F :=
  ⟨let ⟨cs, h1, h2⟩ := h.ex; ⟨cs, e.getM h1 hm, h2⟩, h.nl, h.nr⟩
/-- One row of the pairs that fit, from a right mark on. -/
def rowP (F : Nat → Nat → Bool) (R x y : Nat) : List Pr := (List.range' y (R - y)).filterMap fun b => if F x b then some (x, b) else none
theorem prs_step {F : Nat → Nat → Bool} {L R x k : Nat} (h : x < L) : prs F L R x k = rowP F R x k ++ prs F L R (x + 1) k := by
  unfold prs rowP
  rw [show L - x = (L - (x + 1)) + 1 by omega, List.range'_succ, List.flatMap_cons]
theorem rowP_end {F : Nat → Nat → Bool} {R x y : Nat} (h : R ≤ y) : rowP F R x y = [] := by
  unfold rowP; rw [show R - y = 0 by omega]; rfl
theorem rowP_next {F : Nat → Nat → Bool} {R x y : Nat} (h : y < R) : rowP F R x y = (if F x y then [(x, y)] else []) ++ rowP F R x (y + 1) := by
  unfold rowP
  rw [show R - y = (R - (y + 1)) + 1 by omega, List.range'_succ, List.filterMap_cons]
  cases F x y <;> rfl
def tp (p : Pr) : Array Value := #[.agg #[.int .i64 p.1, .int .i64 p.2]]
theorem at_donep {L D R : List Pr} {x : Pr} (h : L = D ++ x :: R) : (L.map tp)[D.length]? = some (tp x) := by
  subst h; simp
/-- What the iterator of pairs looks at. -/
def MemP (d : RowsD) (sa sb : Option Addr) (ca cb : Nat) (F : Nat → Nat → Bool) (rb i k B3 B4 B5 : Nat) (w : World) : Prop :=
  w.heap[B3]? = some (.cells #[ptr rb 0] 100 (0, 0)) ∧ w.heap[B4]? = some (.cells #[.int .i64 i] 3 (0, 0)) ∧ w.heap[B5]? = some (.cells #[.int .i64 k] 3 (0, 0)) ∧ RowO w rb d sa sb ca cb F
theorem c51 (rb i k : Nat) (u : World) : Calls Try.prog 86 #[ptr rb 0, .int .i64 i, .int .i64 k] u
    (Ret fun v w' => ∃ B3 B4 B5, v = .func (.func 95) #[] #[ptr B4 0, ptr B3 0, ptr B5 0] ∧ Hp u [] [(B5, .cells #[.int .i64 k] 3), (B4, .cells #[.int .i64 i] 3), (B3, .cells #[ptr rb 0] 100)] w') := by
  refine calls_of Try.func86 rfl rfl (fun a hf => ?_)
  have hh := Hp.init u []
  refine sy_sq ?_
  refine o_box hf hh ?_; clear hf hh a; intro B3 a w hf hh
  refine o_box hf hh ?_; clear hf hh a; intro B4 a w hf hh
  refine o_box hf hh ?_; clear hf hh a; intro B5 a w hf hh
  refine o_v hf hh (yv_assign rfl) ?_; clear hf a; intro a hf
  refine o_end ?_
  refine sy_sq ?_
  refine o_v hf hh (yv_makeFunc rfl rfl) ?_; clear hf a; intro a hf
  refine o_v hf hh (yv_assign rfl) ?_; clear hf a; intro a hf
  refine o_end ?_
  refine sy_ret ?_
  refine ret_r hf rfl rfl ?_
  exact ⟨B3, B4, B5, rfl, hh⟩
theorem it89 (d : RowsD) (sa sb : Option Addr) (ca cb : Nat) (F : Nat → Nat → Bool) (rb i k B3 B4 B5 : Nat) : IterSpec Try.prog 95 #[] #[ptr B4 0, ptr B3 0, ptr B5 0] ((prs F d.l.length d.r.length i k).map tp) (MemP d sa sb ca cb F rb i k B3 B4 B5) := by
  intro l J K u hJM hJe hKe hy hJ0
  show Calls Try.prog 95 #[.func (.yield l) #[] #[], ptr B4 0, ptr B3 0, ptr B5 0] u _
  refine calls_of Try.func95 rfl rfl (fun a hf => ?_)
  have hh := Hp.init u []
  obtain ⟨m1, m2, m3, ⟨cs, hb, hcs⟩, hnl, hnr⟩ := hJM _ _ hJ0
  have c0 := hcs.l; have c1 := hcs.r
  have hh := Hp.init u []
  refine sy_sq ?_
  refine o_v hf hh (y_ld Try.sc_3 rfl) ?_; clear hf a; intro a hf
  refine o_v hf hh (yv_assign rfl) ?_; clear hf a; intro a hf
  refine o_end ?_
  refine sy_block ?_
  refine sy_loopH (σ := Nat) [5, 6, 8, 9, 10, 11, 12, 13, 14, 15, 16, 17, 18, 19, 20, 21, 22, 23, 24, 25, 26, 27, 28, 29, 30, 31, 32, 33, 34, 35, 36, 37, 38, 39, 40, 41, 42, 43, 44] (fun x => [(5, .int .i64 x)]) (fun x => fun w' => ∃ done, prs F d.l.length d.r.length i k = done ++ prs F d.l.length d.r.length x k ∧ J done.length w') (fun x => d.l.length - x) (i) hf ?_ ?_ ?_
  · repeat' (first | exact True.intro | refine And.intro rfl ?_)
  · exact ⟨[], rfl, hJe _ _ _ hJ0 hh.ext⟩
  ·rintro x a w ⟨done, hx, hJ⟩ hf
   obtain ⟨m1, m2, m3, ⟨cs, hb, hcs⟩, hnl, hnr⟩ := hJM _ _ hJ
   have c0 := hcs.l; have c1 := hcs.r
   have hh := Hp.init w []
   refine sy_seq ?_
   refine sy_sq ?_
   refine o_v hf hh (yv_move rfl) ?_; clear hf a; intro a hf
   refine o_v hf hh (y_ld Try.sc_100 rfl) ?_; clear hf a; intro a hf
   refine o_v hf hh (yv_nilCheck rfl) ?_; clear hf a; intro a hf
   refine o_v hf hh (yv_fieldAddr Try.fo_128_0 rfl) ?_; clear hf a; intro a hf
   refine o_v hf hh (yv_fieldAddr Try.fo_29_0 rfl) ?_; clear hf a; intro a hf
   refine o_v hf hh (y_ld Try.sc_25 rfl) ?_; clear hf a; intro a hf
   refine o_v hf hh (yv_len Try.se_25 rfl) ?_; clear hf a; intro a hf
   refine o_v hf hh (yv_bin rfl rfl rfl) ?_; clear hf a; intro a hf
   refine o_end ?_
   refine sy_cond hf rfl (fun hg2 => ?_) (fun hg2 => ?_)
   ·have hG2 := hg2; try simp only [gS] at hG2
    refine sy_skip ?_
    refine then_n ?_
    refine sy_seq ?_
    refine sy_block ?_
    refine sy_sq ?_
    refine o_v hf hh (y_ld Try.sc_3 rfl) ?_; clear hf a; intro a hf
    refine o_v hf hh (yv_assign rfl) ?_; clear hf a; intro a hf
    refine o_end ?_
    refine sy_block ?_
    refine sy_loopH (σ := Nat) [6, 19, 20, 21, 22, 23, 24, 25, 26, 27, 28, 29, 30, 31, 32, 33, 34, 35, 36, 37, 38, 39, 40, 41, 42, 43, 44] (fun y => [(6, .int .i64 y)]) (fun y => fun w' => ∃ done, prs F d.l.length d.r.length i k = done ++ (rowP F d.r.length x y ++ prs F d.l.length d.r.length (x + 1) k) ∧ J done.length w') (fun y => d.r.length - y) (k) hf ?_ ?_ ?_
    · repeat' (first | exact True.intro | refine And.intro rfl ?_)
    · exact ⟨done, by rw [hx, prs_step (by omega)], hJe _ _ _ hJ hh.ext⟩
    ·rintro y a w ⟨done2, hx2, hJ2⟩ hf
     obtain ⟨m1, m2, m3, ⟨cs, hb, hcs⟩, hnl, hnr⟩ := hJM _ _ hJ2
     have c0 := hcs.l; have c1 := hcs.r
     have hh := Hp.init w []
     refine sy_seq ?_
     refine sy_sq ?_
     refine o_v hf hh (yv_move rfl) ?_; clear hf a; intro a hf
     refine o_v hf hh (y_ld Try.sc_100 rfl) ?_; clear hf a; intro a hf
     refine o_v hf hh (yv_nilCheck rfl) ?_; clear hf a; intro a hf
     refine o_v hf hh (yv_fieldAddr Try.fo_128_0 rfl) ?_; clear hf a; intro a hf
     refine o_v hf hh (yv_fieldAddr Try.fo_29_1 rfl) ?_; clear hf a; intro a hf
     refine o_v hf hh (y_ld Try.sc_25 rfl) ?_; clear hf a; intro a hf
     refine o_v hf hh (yv_len Try.se_25 rfl) ?_; clear hf a; intro a hf
     refine o_v hf hh (yv_bin rfl rfl rfl) ?_; clear hf a; intro a hf
     refine o_end ?_
     refine sy_cond hf rfl (fun hg4 => ?_) (fun hg4 => ?_)
     ·have hG4 := hg4; try simp only [gS] at hG4
      refine sy_skip ?_
      refine then_n ?_
      refine sy_seq ?_
      refine sy_block ?_
      refine sy_seq ?_
      have hft := hcs.fitA (i := x) (k := y) (by omega) (by omega)
      refine sy_ops ?_
      refine o_v hf hh (y_ld Try.sc_100 rfl) ?_; clear hf a; intro a hf
      refine o_v hf hh (yv_move rfl) ?_; clear hf a; intro a hf
      refine o_v hf hh (yv_move rfl) ?_; clear hf a; intro a hf
      refine o_v hf hh (yv_nilCheck rfl) ?_; clear hf a; intro a hf
      refine o_v hf hh (yv_fieldAddr Try.fo_128_1 rfl) ?_; clear hf a; intro a hf
      refine o_v hf hh (y_ia Try.ae_126 rfl rfl) ?_; clear hf a; intro a hf
      refine o_v hf hh (y_ia Try.ae_125 rfl rfl) ?_; clear hf a; intro a hf
      refine o_v hf hh (y_ld Try.sc_4 rfl) ?_; clear hf a; intro a hf
      refine o_v hf hh (yv_move rfl) ?_; clear hf a; intro a hf
      refine guard_split hf (t := 37) rfl (fun hg6 => ?_) (fun hg6 => ?_)
      ·have hG6 := hg6; try simp only [gS] at hG6
       refine o_v hf hh (yv_move rfl) ?_; clear hf a; intro a hf
       refine o_v hf hh (yv_move rfl) ?_; clear hf a; intro a hf
       refine o_v hf hh (yv_move rfl) ?_; clear hf a; intro a hf
       refine o_v hf hh (yv_buildA Try.ba_42 rfl rfl) ?_; clear hf a; intro a hf
       have hxy : prs F d.l.length d.r.length i k = done2 ++ (x, y) :: (rowP F d.r.length x (y + 1) ++ prs F d.l.length d.r.length (x + 1) k) := by
         rw [hx2, rowP_next (by omega), if_pos (by assumption)]; rfl
       refine ops_yield hf rfl rfl (gon rfl rfl rfl (by first | assumption | rfl | (simp; done) | (simp; omega))) rfl (hy _ _ _ (at_donep hxy) (hJe _ _ _ hJ2 hh.ext)) ?_; clear hf; clear a; intro v a w hR hf
       have hR2 : ∃ o : Bool, v = .bool o ∧ (o = true → J (done2.length + 1) w) ∧ (o = false → K done2.length w) := by
         rcases hR with ⟨rfl, h⟩ | ⟨rfl, h⟩
         · exact ⟨true, rfl, fun _ => h, fun h => by cases h⟩
         · exact ⟨false, rfl, (fun h => by cases h), fun _ => h⟩
       clear hR
       obtain ⟨o, rfl, ho1, ho2⟩ := hR2
       clear hh; have hh := Hp.init w []
       refine o_v hf hh (yv_not rfl) ?_; clear hf a; intro a hf
       refine o_v hf hh (y_pt rfl rfl) ?_; clear hf a; intro a hf
       refine o_end ?_
       refine sy_cond hf rfl (fun hg8 => ?_) (fun hg8 => ?_)
       ·have hG8 := hg8; try simp only [gS] at hG8
        refine sy_ret ?_
        refine blk_r ?_
        refine then_r ?_
        refine then_r ?_
        refine blk_r ?_
        refine blk_r ?_
        refine then_r ?_
        refine then_r ?_
        refine blk_r ?_
        refine ret_r hf rfl rfl ?_
        first
          | exact .inr ⟨_, hKe _ _ _ (ho2 (by assumption)) hh.ext⟩
          | (refine .inl ?_
             have hle : prs F d.l.length d.r.length i k = done := by rw [hx, prs_nil (.inl (by omega)), List.append_nil]
             rw [hle, List.length_map]
             exact hJe _ _ _ hJ hh.ext)
       ·have hG8 := hg8; try simp only [gS] at hG8
        refine sy_skip ?_
        refine blk_n ?_
        refine then_n ?_
        refine sy_ops ?_
        refine o_v hf hh (yv_move rfl) ?_; clear hf a; intro a hf
        refine o_v hf hh (y_add rfl rfl) ?_; clear hf a; intro a hf
        refine o_v hf hh (yv_assign rfl) ?_; clear hf a; intro a hf
        refine ops_end ?_
        refine then_n ?_
        first
          | (refine ⟨y + 1, ⟨⟨done2 ++ [(x, y)], by rw [hxy, List.append_assoc]; rfl, ?_⟩, (hf.head (by repeat' (first | exact True.intro | refine And.intro rfl ?_)) (Keep.cons rfl (Keep.cons rfl (Keep.cons rfl (Keep.cons rfl (Keep.cons rfl (Keep.cons rfl (Keep.cons rfl (Keep.cons rfl (Keep.cons rfl (Keep.cons rfl (Keep.cons rfl (Keep.cons rfl (Keep.cons rfl (Keep.cons rfl (Keep.cons rfl (Keep.cons rfl (Keep.cons rfl (Keep.cons rfl (Keep.cons rfl (Keep.cons rfl (Keep.cons rfl (Keep.cons rfl (Keep.cons rfl (Keep.cons rfl (Keep.cons rfl (Keep.cons rfl (Keep.cons rfl (Keep.app rfl (Keep.rm rfl Keep.base))))))))))))))))))))))))))))))⟩, by omega⟩
             rw [List.length_append]
             exact hJe _ _ _ (ho1 (by assumption)) hh.ext)
          | exact ⟨y + 1, ⟨⟨done2, by rw [hx2, rowP_next (by omega), if_neg (by simp_all)]; rfl, hJe _ _ _ hJ2 hh.ext⟩, (hf.head (by repeat' (first | exact True.intro | refine And.intro rfl ?_)) (Keep.cons rfl (Keep.cons rfl (Keep.cons rfl (Keep.cons rfl (Keep.cons rfl (Keep.cons rfl (Keep.cons rfl (Keep.cons rfl (Keep.cons rfl (Keep.cons rfl (Keep.cons rfl (Keep.cons rfl (Keep.cons rfl (Keep.cons rfl (Keep.cons rfl (Keep.cons rfl (Keep.cons rfl (Keep.cons rfl (Keep.cons rfl (Keep.cons rfl (Keep.cons rfl (Keep.cons rfl (Keep.cons rfl (Keep.cons rfl (Keep.cons rfl (Keep.cons rfl (Keep.cons rfl (Keep.app rfl (Keep.rm rfl Keep.base))))))))))))))))))))))))))))))⟩, by omega⟩
      ·have hG6 := hg6; try simp only [gS] at hG6
       refine o_off hf ?_; clear hf a; intro a hf
       refine o_off hf ?_; clear hf a; intro a hf
       refine o_off hf ?_; clear hf a; intro a hf
       refine o_off hf ?_; clear hf a; intro a hf
       refine o_off hf ?_; clear hf a; intro a hf
       refine o_off hf ?_; clear hf a; intro a hf
       refine o_v hf hh (y_pf rfl rfl) ?_; clear hf a; intro a hf
       refine o_end ?_
       refine c_f hf ?_
       refine sy_skip ?_
       refine blk_n ?_
       refine then_n ?_
       refine sy_ops ?_
       refine o_v hf hh (yv_move rfl) ?_; clear hf a; intro a hf
       refine o_v hf hh (y_add rfl rfl) ?_; clear hf a; intro a hf
       refine o_v hf hh (yv_assign rfl) ?_; clear hf a; intro a hf
       refine ops_end ?_
       refine then_n ?_
       first
         | (refine ⟨y + 1, ⟨⟨done2 ++ [(x, y)], by rw [hxy, List.append_assoc]; rfl, ?_⟩, (hf.head (by repeat' (first | exact True.intro | refine And.intro rfl ?_)) (Keep.cons rfl (Keep.cons rfl (Keep.cons rfl (Keep.cons rfl (Keep.cons rfl (Keep.cons rfl (Keep.cons rfl (Keep.cons rfl (Keep.cons rfl (Keep.cons rfl (Keep.cons rfl (Keep.cons rfl (Keep.cons rfl (Keep.cons rfl (Keep.cons rfl (Keep.cons rfl (Keep.cons rfl (Keep.cons rfl (Keep.cons rfl (Keep.cons rfl (Keep.cons rfl (Keep.cons rfl (Keep.cons rfl (Keep.cons rfl (Keep.cons rfl (Keep.cons rfl (Keep.cons rfl (Keep.app rfl (Keep.rm rfl Keep.base))))))))))))))))))))))))))))))⟩, by omega⟩
            rw [List.length_append]
            exact hJe _ _ _ (ho1 (by assumption)) hh.ext)
         | exact ⟨y + 1, ⟨⟨done2, by rw [hx2, rowP_next (by omega), if_neg (by simp_all)]; rfl, hJe _ _ _ hJ2 hh.ext⟩, (hf.head (by repeat' (first | exact True.intro | refine And.intro rfl ?_)) (Keep.cons rfl (Keep.cons rfl (Keep.cons rfl (Keep.cons rfl (Keep.cons rfl (Keep.cons rfl (Keep.cons rfl (Keep.cons rfl (Keep.cons rfl (Keep.cons rfl (Keep.cons rfl (Keep.cons rfl (Keep.cons rfl (Keep.cons rfl (Keep.cons rfl (Keep.cons rfl (Keep.cons rfl (Keep.cons rfl (Keep.cons rfl (Keep.cons rfl (Keep.cons rfl (Keep.cons rfl (Keep.cons rfl (Keep.cons rfl (Keep.cons rfl (Keep.cons rfl (Keep.cons rfl (Keep.app rfl (Keep.rm rfl Keep.base))))))))))))))))))))))))))))))⟩, by omega⟩
     ·have hG4 := hg4; try simp only [gS] at hG4
      refine sy_exit ?_
      refine then_e ?_
      refine then_e ?_
      refine blk_e ?_
      refine blk_n ?_
      refine then_n ?_
      refine sy_ops ?_
      refine o_v hf hh (yv_move rfl) ?_; clear hf a; intro a hf
      refine o_v hf hh (y_add rfl rfl) ?_; clear hf a; intro a hf
      refine o_v hf hh (yv_assign rfl) ?_; clear hf a; intro a hf
      refine ops_end ?_
      refine then_n ?_
      refine ⟨x + 1, ⟨⟨done2, ?_, hJe _ _ _ hJ2 hh.ext⟩, (hf.head (by repeat' (first | exact True.intro | refine And.intro rfl ?_)) (Keep.cons rfl (Keep.cons rfl (Keep.cons rfl (Keep.cons rfl (Keep.cons rfl (Keep.cons rfl (Keep.cons rfl (Keep.cons rfl (Keep.cons rfl (Keep.cons rfl (Keep.cons rfl (Keep.app rfl (Keep.rm rfl (Keep.cons rfl (Keep.cons rfl (Keep.cons rfl (Keep.cons rfl (Keep.cons rfl (Keep.cons rfl (Keep.cons rfl (Keep.cons rfl (Keep.cons rfl (Keep.cons rfl (Keep.app rfl (Keep.rm rfl Keep.base))))))))))))))))))))))))))⟩, by omega⟩
      rw [hx2, rowP_end (by omega)]; rfl
   ·have hG2 := hg2; try simp only [gS] at hG2
    refine sy_exit ?_
    refine then_e ?_
    refine then_e ?_
    refine blk_e ?_
    refine ret_n hf rfl rfl ?_
    first
      | exact .inr ⟨_, hKe _ _ _ (ho2 (by assumption)) hh.ext⟩
      | (refine .inl ?_
         have hle : prs F d.l.length d.r.length i k = done := by rw [hx, prs_nil (.inl (by omega)), List.append_nil]
         rw [hle, List.length_map]
         exact hJe _ _ _ hJ hh.ext)
end Go.Proofs.Ytidieepndphodaa
namespace Go.Proofs.Ytidieepndphodaa
open Go Go.Sy Go.MatM
/-- A rule that forbids pairs. -/
def NoSpec (u : World) (f : Nat) (fcs : Array Value) (no : Nat → Nat → Bool) : Prop := ∀ (i k : Nat) (w' : World), i < 10 → k < 10 → Ext [] u w' →
  Calls Try.prog f (#[] ++ [Value.int .i64 i, Value.int .i64 k].toArray ++ fcs) w' (Ret fun v w'' => v = .bool (no i k) ∧ Ext [] w' w'')
theorem NoSpec.ext {u w : World} {f : Nat} {fcs : Array Value} {no : Nat → Nat → Bool} (h : NoSpec u f fcs no) (e : Ext [] u w) : NoSpec w f fcs no := fun i k w' hi hk e' => h i k w' hi hk (e.trans e')
def procN (F no : Nat → Nat → Bool) (i k : Nat) : Nat → Nat → Bool := fun x y => F x y && !(no x y && decide (x < i ∨ x = i ∧ y < k))
theorem procN_zero {F no : Nat → Nat → Bool} : procN F no 0 0 = F := by funext x y; simp [procN]
theorem procN_next {F no : Nat → Nat → Bool} {i k : Nat} : updF (procN F no i k) i k (F i k && !no i k) = procN F no i (k + 1) := by
  funext x y
  unfold updF procN
  split
  · rename_i h; simp [h.1, h.2]
  · rename_i h
    congr 3
    rw [decide_eq_decide]
    omega
theorem procN_row {F no : Nat → Nat → Bool} {R i : Nat} (h : ∀ x y, F x y = true → y < R) : procN F no i R = procN F no (i + 1) 0 := by
  funext x y
  unfold procN
  cases e : F x y
  · rfl
  · have := h x y e
    congr 3
    rw [decide_eq_decide]; omega
theorem procN_all {F no : Nat → Nat → Bool} {L : Nat} (h : ∀ x y, F x y = true → x < L) : procN F no L 0 = fun x y => F x y && !no x y := by
  funext x y
  unfold procN
  cases e : F x y
  · rfl
  · have := h x y e
    simp [this]
end Go.Proofs.Ytidieepndphodaa
namespace Go.Proofs.Ytidieepndphodaa
open Go Go.Sy Go.MatM
theorem eb3 : eq3B Try.prog 139 = true := by kernel_rfl
theorem mke : mapKE Try.prog 136 = some (139, 3) := by kernel_rfl
theorem ze3 : zeroOf Try.prog 3 = some (.int .i64 0) := by kernel_rfl
/-- What the memory of ways says of a state. -/
def memK (F : Nat → Nat → Bool) (L R : Nat) : Int × Int × Int → Int := fun p => ((cnt F L R p.1.toNat p.2.1.toNat p.2.2.toNat : Nat) : Int)
/-- How many ways the first pairs begin. -/
def sumK (F : Nat → Nat → Bool) (L R i k n j : Nat) : Nat := (if n = 0 then 1 else 0) + (((prs F L R i k).take j).map fun p => cnt F L R (p.1 + 1) (p.2 + 1) (n - 1)).sum
theorem sumK_zero {F : Nat → Nat → Bool} {L R i k n : Nat} : sumK F L R i k n 0 = if n = 0 then 1 else 0 := by simp [sumK]
theorem sumK_all {F : Nat → Nat → Bool} {L R i k n : Nat} : sumK F L R i k n (prs F L R i k).length = cnt F L R i k n := by rw [sumK, List.take_length, cnt_eq]
theorem sumK_step {F : Nat → Nat → Bool} {L R i k n j : Nat} {p : Pr} (h : (prs F L R i k)[j]? = some p) : sumK F L R i k n (j + 1) = sumK F L R i k n j + cnt F L R (p.1 + 1) (p.2 + 1) (n - 1) := by
  unfold sumK
  rw [List.take_add_one, h, Option.toList_some, List.map_append, List.sum_append]
  simp; omega
theorem sum_take {l : List Pr} {f : Pr → Nat} (j : Nat) : ((l.take j).map f).sum ≤ (l.map f).sum := by
  conv => rhs; rw [← List.take_append_drop j l]
  rw [List.map_append, List.sum_append]; omega
theorem sumK_le {F : Nat → Nat → Bool} {L R i k n j : Nat} (hL : L ≤ 10) (hR : R ≤ 10) : sumK F L R i k n j ≤ 1048576 := by
  refine Nat.le_trans ?_ (cnt_le (F := F) (i := i) (k := k) (n := n) hL hR)
  rw [cnt_eq]
  exact Nat.add_le_add_left (sum_take j) _
/-- Where the closure that counts lies. -/
structure FndC (w : World) (d : RowsD) (sa sb : Option Addr) (ca cb : Nat) (F : Nat → Nat → Bool) (rb bm Bm Br Bf : Nat) : Prop where
  ro : RowO w rb d sa sb ca cb F
  cm : w.heap[Bm]? = some (.cells #[.map (some bm)] 136 (0, 0))
  cr : w.heap[Br]? = some (.cells #[ptr rb 0] 100 (0, 0))
  cf : w.heap[Bf]? = some (.cells #[.func (.func 85) #[] #[ptr Bm 0, ptr Br 0, ptr Bf 0]] 137 (0, 0))
  nr : rb ∉ [bm]
  nm : Bm ∉ [bm]
  nb : Br ∉ [bm]
  nf : Bf ∉ [bm]
theorem FndC.ext {w w' : World} {d : RowsD} {sa sb : Option Addr} {ca cb : Nat} {F : Nat → Nat → Bool} {rb bm Bm Br Bf : Nat} (h : FndC w d sa sb ca cb F rb bm Bm Br Bf) (e : Ext [bm] w w') : FndC w' d sa sb ca cb F rb bm Bm Br Bf :=
  ⟨h.ro.extM e h.nr, e.getM h.cm h.nm, e.getM h.cr h.nb, e.getM h.cf h.nf, h.nr, h.nm, h.nb, h.nf⟩
theorem c86 (d : RowsD) (sa sb : Option Addr) (ca cb : Nat) (F : Nat → Nat → Bool) (rb bm Bm Br Bf : Nat) : ∀ (m i k n cm : Nat) (es : Array MapEntry) (u : World) (hm : u.heap[bm]? = some (.map es cm)) (hM : MemoK enc3 .i64 (memK F d.l.length d.r.length) es) (hC : FndC u d sa sb ca cb F rb bm Bm Br Bf) (hfu : d.l.length - i < m) (hi : i ≤ 10) (hk : k ≤ 10) (hn : n ≤ 20),
    Calls Try.prog 85 #[enc3 ((i : Nat), (k : Nat), (n : Nat)), ptr Bm 0, ptr Br 0, ptr Bf 0] u (Ret fun v w' => v = .int .i64 (cnt F d.l.length d.r.length i k n : Nat) ∧ ∃ es' c', MemoK enc3 .i64 (memK F d.l.length d.r.length) es' ∧ Hp u [bm] [(bm, .map es' c')] w') := by
  intro m
  induction m with
  | zero => intro i k n cm es u hm hM hC hfu; omega
  | succ m ih =>
  intro i k n cm es u hm hM hC hfu hi hk hn
  have h2 := hC.cm; have h3 := hC.cr; have h4 := hC.cf; have n2 := hC.nm; have n3 := hC.nb; have n4 := hC.nf
  have hnl := hC.ro.nl; have hnr := hC.ro.nr
  refine calls_ofM Try.func85 rfl rfl (fun a hf => ?_)
  have hh := Hp.init1 hm
  refine sy_sq ?_
  refine o_box hf hh ?_; clear hf hh a; intro B4 a w hf hh
  refine o_v hf hh (yv_assign rfl) ?_; clear hf a; intro a hf
  refine o_end ?_
  refine sy_seq ?_
  refine sy_sq ?_
  refine o_v hf hh (y_ld Try.sc_136 rfl) ?_; clear hf a; intro a hf
  refine o_v hf hh (y_lds Try.ag_139 rfl) ?_; clear hf a; intro a hf
  refine ops_lookupK (i := 1) (p := (((i : Nat) : Int), ((k : Nat) : Int), ((n : Nat) : Int))) hf hh (key3 eb3) mke ze3 rfl rfl rfl hM (.inl rfl) rfl fun b a hf => ?_
  refine o_v hf hh (yv_move rfl) ?_; clear hf a; intro a hf
  refine o_v hf hh (yv_extract rfl rfl) ?_; clear hf a; intro a hf
  refine o_v hf hh (yv_extract rfl rfl) ?_; clear hf a; intro a hf
  refine o_v hf hh (yv_assign rfl) ?_; clear hf a; intro a hf
  refine o_v hf hh (yv_assign rfl) ?_; clear hf a; intro a hf
  refine o_end ?_
  refine sy_sq ?_
  refine o_v hf hh (yv_move rfl) ?_; clear hf a; intro a hf
  refine o_end ?_
  refine sy_cond hf rfl (fun hg4 => ?_) (fun hg4 => ?_)
  ·have hG4 := hg4; try simp only [gS] at hG4
   refine sy_sq ?_
   refine o_v hf hh (yv_move rfl) ?_; clear hf a; intro a hf
   refine o_v hf hh (yv_assign rfl) ?_; clear hf a; intro a hf
   refine o_end ?_
   refine sy_ret ?_
   refine then_r ?_
   rename_i hb
   refine ret_m (Ds := []) hf hh fun w' hh => ⟨[.int .i64 (cnt F d.l.length d.r.length i k n : Nat)], ⟨?_, True.intro⟩, rfl, es, cm, hM, hh.less (.cons _ (.refl _))⟩
   exact congrArg (fun z => some (Value.int .i64 z)) (if_pos (by assumption))
  ·have hG4 := hg4; try simp only [gS] at hG4
   refine sy_skip ?_
   refine then_n ?_
   refine sy_sq ?_
   refine o_alloc hf hh Try.ze_3 ?_; clear hf hh a; intro B8 a w hf hh
   refine o_store hf hh Try.sz_3 fun w hh => ?_
   refine o_end ?_
   refine sy_seq ?_
   refine sy_sq ?_
   refine o_v hf hh (yv_fieldAddr Try.fo_139_2 rfl) ?_; clear hf a; intro a hf
   refine o_v hf hh (y_ld Try.sc_3 rfl) ?_; clear hf a; intro a hf
   refine o_v hf hh (yv_bin rfl rfl rfl) ?_; clear hf a; intro a hf
   refine o_end ?_
   refine sy_cond hf rfl (fun hg6 => ?_) (fun hg6 => ?_)
   ·have hG6 := hg6; try simp only [gS] at hG6
    refine sy_ops ?_
    refine o_store hf hh Try.sz_3 fun w hh => ?_
    refine o_end ?_
    refine sy_seq ?_
    refine sy_seq ?_
    have e0 : ∃ z : Nat, z = sumK F d.l.length d.r.length i k n 0 ∧ Hp u [bm] [(B8, .cells #[.int .i64 z] 3), (B4, .cells #[.int .i64 i, .int .i64 k, .int .i64 n] 139), (bm, .map es cm)] w := by
      first
        | exact ⟨1, by rw [sumK_zero, if_pos (by omega)], hh⟩
        | exact ⟨0, by rw [sumK_zero, if_neg (by omega)], hh⟩
    clear hh
    obtain ⟨z, rfl, hh⟩ := e0
    refine sy_ops ?_
    refine o_v hf hh (y_ld Try.sc_100 rfl) ?_; clear hf a; intro a hf
    refine o_v hf hh (yv_fieldAddr Try.fo_139_0 rfl) ?_; clear hf a; intro a hf
    refine o_v hf hh (y_ld Try.sc_3 rfl) ?_; clear hf a; intro a hf
    refine o_v hf hh (yv_fieldAddr Try.fo_139_1 rfl) ?_; clear hf a; intro a hf
    refine o_v hf hh (y_ld Try.sc_3 rfl) ?_; clear hf a; intro a hf
    refine o_call hf Try.en_86 rfl rfl rfl (c51 rb i k _) ?_; clear hf a; intro v a w hR hf
    obtain ⟨Ba, Bi, Bk, rfl, hx⟩ := hR; replace hh := hh.join hx; clear hx
    refine o_end ?_
    refine sy_block ?_
    refine sy_range (I := fun j H => ∃ es2 cm2, MemoK enc3 .i64 (memK F d.l.length d.r.length) es2 ∧ H = [(Bk, .cells #[.int .i64 k] 3), (Bi, .cells #[.int .i64 i] 3), (Ba, .cells #[ptr rb 0] 100), (B8, .cells #[.int .i64 (sumK F d.l.length d.r.length i k n j : Nat)] 3), (B4, .cells #[.int .i64 i, .int .i64 k, .int .i64 n] 139), (bm, .map es2 cm2)]) (X := fun _ _ _ => False) hf hh Try.en_95 rfl (it89 d sa sb ca cb F rb i k Ba Bi Bk) rfl (by intro x hx; obtain ⟨y, _, rfl⟩ := List.mem_map.1 hx; rfl) ?_ ?_ ?_ ?_ ?_
    · exact ⟨es, cm, hM, rfl⟩
    · rintro _ _ l D o w ⟨es2, cm2, hM2, rfl⟩ h
      exact ⟨h.at (i := 4) rfl, h.at (i := 3) rfl, h.at (i := 2) rfl, (hC.ext h.ext).ro⟩
    ·rintro j x fn D l H w a tm hx ⟨es, cm, hM, rfl⟩ hh hf
     obtain ⟨p, hp, rfl⟩ : ∃ p, (prs F d.l.length d.r.length i k)[j]? = some p ∧ x = tp p := by
       rw [List.getElem?_map] at hx
       cases e : (prs F d.l.length d.r.length i k)[j]? with
       | none => rw [e] at hx; cases hx
       | some p => rw [e] at hx; cases hx; exact ⟨p, rfl, rfl⟩
     refine sy_ops ?_
     refine o_alloc hf hh Try.ze_42 ?_; clear hf hh a; intro B9 a w hf hh
     refine o_store hf hh Try.sz_42 fun w hh => ?_
     refine ops_end ?_
     refine then_n (Go.Sy.begun (i := 1) hh rfl fun w hh => ?_)
     refine sy_block ?_
     have hsl := sumK_le (F := F) (i := i) (k := k) (n := n) (j := j) hnl hnr
     have hsl2 := sumK_le (F := F) (i := i) (k := k) (n := n) (j := j + 1) hnl hnr
     have hst := sumK_step (n := n) hp
     have hpb := mem_prs.1 (List.mem_of_getElem? hp)
     refine sy_mix (C := (CW enc3 .i64 (memK F d.l.length d.r.length) u [bm] fun es cm => [(B9, .cells #[.int .i64 p.1, .int .i64 p.2] 42), (B8, .cells #[.int .i64 (sumK F d.l.length d.r.length i k n j : Nat)] 3), (B4, .cells #[.int .i64 i, .int .i64 k, .int .i64 n] 139), (bm, .map es cm)])) [0, 1, 2, 3, 4, 5, 6, 7, 8, 9, 10, 11, 12, 13, 14, 15] [0, 1, 2, 3, 4, 5, 6, 7, 8, 9, 10, 11, 12, 14] [15] Try.follows (by kernel_rfl) hh (fun w hh => ?_)
     refine mx_v rfl rfl (CW.mk hM (hh.less (.cons_cons _ (.cons _ (.cons _ (.cons _ (.cons _ (.cons _ (.refl _))))))))) hf (y_ld Try.sc_3 rfl) (.inl rfl) rfl rfl ?_; clear hf a; intro a hf
     refine mx_v rfl rfl (CW.mk hM (hh.less (.cons_cons _ (.cons _ (.cons _ (.cons _ (.cons _ (.cons _ (.refl _))))))))) hf (y_ld Try.sc_137 rfl) (.inl rfl) rfl rfl ?_; clear hf a; intro a hf
     refine mx_v rfl rfl (CW.mk hM (hh.less (.cons_cons _ (.cons _ (.cons _ (.cons _ (.cons _ (.cons _ (.refl _))))))))) hf (y_ia Try.ae_42 rfl rfl) (.inl rfl) rfl rfl ?_; clear hf a; intro a hf
     refine mx_v rfl rfl (CW.mk hM (hh.less (.cons_cons _ (.cons _ (.cons _ (.cons _ (.cons _ (.cons _ (.refl _))))))))) hf (y_ld Try.sc_3 rfl) (.inl rfl) rfl rfl ?_; clear hf a; intro a hf
     refine mx_v rfl rfl (CW.mk hM (hh.less (.cons_cons _ (.cons _ (.cons _ (.cons _ (.cons _ (.cons _ (.refl _))))))))) hf (yv_cast (yv_add rfl rfl (by omega) (by omega)) (intv (b := ((p.1 + 1 : Nat) : Int)) (by omega))) (.inl rfl) rfl rfl ?_; clear hf a; intro a hf
     refine mx_v rfl rfl (CW.mk hM (hh.less (.cons_cons _ (.cons _ (.cons _ (.cons _ (.cons _ (.cons _ (.refl _))))))))) hf (y_ia Try.ae_42 rfl rfl) (.inl rfl) rfl rfl ?_; clear hf a; intro a hf
     refine mx_v rfl rfl (CW.mk hM (hh.less (.cons_cons _ (.cons _ (.cons _ (.cons _ (.cons _ (.cons _ (.refl _))))))))) hf (y_ld Try.sc_3 rfl) (.inl rfl) rfl rfl ?_; clear hf a; intro a hf
     refine mx_v rfl rfl (CW.mk hM (hh.less (.cons_cons _ (.cons _ (.cons _ (.cons _ (.cons _ (.cons _ (.refl _))))))))) hf (yv_cast (yv_add rfl rfl (by omega) (by omega)) (intv (b := ((p.2 + 1 : Nat) : Int)) (by omega))) (.inl rfl) rfl rfl ?_; clear hf a; intro a hf
     refine mx_v rfl rfl (CW.mk hM (hh.less (.cons_cons _ (.cons _ (.cons _ (.cons _ (.cons _ (.cons _ (.refl _))))))))) hf (yv_fieldAddr Try.fo_139_2 rfl) (.inl rfl) rfl rfl ?_; clear hf a; intro a hf
     refine mx_v rfl rfl (CW.mk hM (hh.less (.cons_cons _ (.cons _ (.cons _ (.cons _ (.cons _ (.cons _ (.refl _))))))))) hf (y_ld Try.sc_3 rfl) (.inl rfl) rfl rfl ?_; clear hf a; intro a hf
     refine mx_v rfl rfl (CW.mk hM (hh.less (.cons_cons _ (.cons _ (.cons _ (.cons _ (.cons _ (.cons _ (.refl _))))))))) hf (y_sub rfl rfl) (.inl rfl) rfl rfl ?_; clear hf a; intro a hf
     refine mx_v rfl rfl (CW.mk hM (hh.less (.cons_cons _ (.cons _ (.cons _ (.cons _ (.cons _ (.cons _ (.refl _))))))))) hf (yv_cast (yv_max rfl rfl) (intv (b := ((n - 1 : Nat) : Int)) (by omega))) (.inl rfl) rfl rfl ?_; clear hf a; intro a hf
     refine mx_v rfl rfl (CW.mk hM (hh.less (.cons_cons _ (.cons _ (.cons _ (.cons _ (.cons _ (.cons _ (.refl _))))))))) hf (yv_buildS Try.bs_139 rfl rfl) (.inl rfl) rfl rfl ?_; clear hf a; intro a hf
     refine mx_e rfl rfl fun Q1 => ?_
     refine o_call hf Try.en_85 rfl rfl rfl (ih (p.1 + 1) (p.2 + 1) (n - 1) _ _ _ (hh.at (i := 8) rfl) hM (hC.ext hh.ext) (by omega) (by omega) (by omega) (by omega)) ?_; clear hf a; intro v a w hR hf
     obtain ⟨rfl, es, cm, hM, hx⟩ := hR; replace hh := hh.turn (i := 8) rfl hx.ext (hx.at (i := 0) rfl); clear hx
     refine ops_end ?_
     refine then_n ⟨fun _ => (CW.mk hM (hh.less (.cons_cons _ (.cons _ (.cons _ (.cons _ (.cons _ (.cons _ (.refl _))))))))), ?_⟩
     refine mx_v rfl rfl (CW.mk hM (hh.less (.cons_cons _ (.cons _ (.cons _ (.cons _ (.cons _ (.cons _ (.refl _))))))))) hf (yv_cast (yv_add rfl rfl (by omega) (by omega)) (intv (b := ((sumK F d.l.length d.r.length i k n (j + 1) : Nat) : Int)) (by omega))) (.inl rfl) rfl rfl ?_; clear hf a; intro a hf
     refine mx_e rfl rfl fun Q1 => ?_
     refine o_store hf hh Try.sz_3 fun w hh => ?_
     refine ops_end ?_
     refine then_n ⟨fun h => absurd h (by decide), ?_⟩
     refine mx_end ?_
     refine blk_n ?_
     exact ⟨_, ⟨es, cm, hM, rfl⟩, (hh.less (.cons _ (List.Sublist.refl _)))⟩
    ·rintro D H a w ⟨es, cm, hM, rfl⟩ hf hh
     rw [List.length_map, sumK_all] at hh
     refine blk_n ?_
     refine then_n ?_
     refine sy_sq ?_
     refine o_v hf hh (y_ld Try.sc_136 rfl) ?_; clear hf a; intro a hf
     refine o_v hf hh (y_lds Try.ag_139 rfl) ?_; clear hf a; intro a hf
     refine o_v hf hh (y_ld Try.sc_3 rfl) ?_; clear hf a; intro a hf
     refine ops_mapUpdateK (i := 6) (p := (((i : Nat) : Int), ((k : Nat) : Int), ((n : Nat) : Int))) (F := memK F d.l.length d.r.length) hf hh (key3 eb3) mke rfl rfl rfl rfl hM (.inl rfl) fun es cm w hM hh => ?_
     refine o_end ?_
     refine sy_sq ?_
     refine o_v hf hh (y_ld Try.sc_3 rfl) ?_; clear hf a; intro a hf
     refine o_v hf hh (yv_assign rfl) ?_; clear hf a; intro a hf
     refine o_end ?_
     refine sy_ret ?_
     exact ret_m (Ds := [D]) hf hh fun w' hh => ⟨[.int .i64 (cnt F d.l.length d.r.length i k n : Nat)], ⟨rfl, True.intro⟩, rfl, es, cm, hM, hh.less (.cons _ (.cons _ (.cons _ (.cons _ (.cons _ (.refl _))))))⟩
    ·rintro j c D H a w hX hf hh
     exact hX.elim
   ·have hG6 := hg6; try simp only [gS] at hG6
    refine sy_skip ?_
    refine then_n ?_
    refine sy_seq ?_
    refine sy_seq ?_
    have e0 : ∃ z : Nat, z = sumK F d.l.length d.r.length i k n 0 ∧ Hp u [bm] [(B8, .cells #[.int .i64 z] 3), (B4, .cells #[.int .i64 i, .int .i64 k, .int .i64 n] 139), (bm, .map es cm)] w := by
      first
        | exact ⟨1, by rw [sumK_zero, if_pos (by omega)], hh⟩
        | exact ⟨0, by rw [sumK_zero, if_neg (by omega)], hh⟩
    clear hh
    obtain ⟨z, rfl, hh⟩ := e0
    refine sy_ops ?_
    refine o_v hf hh (y_ld Try.sc_100 rfl) ?_; clear hf a; intro a hf
    refine o_v hf hh (yv_fieldAddr Try.fo_139_0 rfl) ?_; clear hf a; intro a hf
    refine o_v hf hh (y_ld Try.sc_3 rfl) ?_; clear hf a; intro a hf
    refine o_v hf hh (yv_fieldAddr Try.fo_139_1 rfl) ?_; clear hf a; intro a hf
    refine o_v hf hh (y_ld Try.sc_3 rfl) ?_; clear hf a; intro a hf
    refine o_call hf Try.en_86 rfl rfl rfl (c51 rb i k _) ?_; clear hf a; intro v a w hR hf
    obtain ⟨Ba, Bi, Bk, rfl, hx⟩ := hR; replace hh := hh.join hx; clear hx
    refine o_end ?_
    refine sy_block ?_
    refine sy_range (I := fun j H => ∃ es2 cm2, MemoK enc3 .i64 (memK F d.l.length d.r.length) es2 ∧ H = [(Bk, .cells #[.int .i64 k] 3), (Bi, .cells #[.int .i64 i] 3), (Ba, .cells #[ptr rb 0] 100), (B8, .cells #[.int .i64 (sumK F d.l.length d.r.length i k n j : Nat)] 3), (B4, .cells #[.int .i64 i, .int .i64 k, .int .i64 n] 139), (bm, .map es2 cm2)]) (X := fun _ _ _ => False) hf hh Try.en_95 rfl (it89 d sa sb ca cb F rb i k Ba Bi Bk) rfl (by intro x hx; obtain ⟨y, _, rfl⟩ := List.mem_map.1 hx; rfl) ?_ ?_ ?_ ?_ ?_
    · exact ⟨es, cm, hM, rfl⟩
    · rintro _ _ l D o w ⟨es2, cm2, hM2, rfl⟩ h
      exact ⟨h.at (i := 4) rfl, h.at (i := 3) rfl, h.at (i := 2) rfl, (hC.ext h.ext).ro⟩
    ·rintro j x fn D l H w a tm hx ⟨es, cm, hM, rfl⟩ hh hf
     obtain ⟨p, hp, rfl⟩ : ∃ p, (prs F d.l.length d.r.length i k)[j]? = some p ∧ x = tp p := by
       rw [List.getElem?_map] at hx
       cases e : (prs F d.l.length d.r.length i k)[j]? with
       | none => rw [e] at hx; cases hx
       | some p => rw [e] at hx; cases hx; exact ⟨p, rfl, rfl⟩
     refine sy_ops ?_
     refine o_alloc hf hh Try.ze_42 ?_; clear hf hh a; intro B9 a w hf hh
     refine o_store hf hh Try.sz_42 fun w hh => ?_
     refine ops_end ?_
     refine then_n (Go.Sy.begun (i := 1) hh rfl fun w hh => ?_)
     refine sy_block ?_
     have hsl := sumK_le (F := F) (i := i) (k := k) (n := n) (j := j) hnl hnr
     have hsl2 := sumK_le (F := F) (i := i) (k := k) (n := n) (j := j + 1) hnl hnr
     have hst := sumK_step (n := n) hp
     have hpb := mem_prs.1 (List.mem_of_getElem? hp)
     refine sy_mix (C := (CW enc3 .i64 (memK F d.l.length d.r.length) u [bm] fun es cm => [(B9, .cells #[.int .i64 p.1, .int .i64 p.2] 42), (B8, .cells #[.int .i64 (sumK F d.l.length d.r.length i k n j : Nat)] 3), (B4, .cells #[.int .i64 i, .int .i64 k, .int .i64 n] 139), (bm, .map es cm)])) [0, 1, 2, 3, 4, 5, 6, 7, 8, 9, 10, 11, 12, 13, 14, 15] [0, 1, 2, 3, 4, 5, 6, 7, 8, 9, 10, 11, 12, 14] [15] Try.follows (by kernel_rfl) hh (fun w hh => ?_)
     refine mx_v rfl rfl (CW.mk hM (hh.less (.cons_cons _ (.cons _ (.cons _ (.cons _ (.cons _ (.cons _ (.refl _))))))))) hf (y_ld Try.sc_3 rfl) (.inl rfl) rfl rfl ?_; clear hf a; intro a hf
     refine mx_v rfl rfl (CW.mk hM (hh.less (.cons_cons _ (.cons _ (.cons _ (.cons _ (.cons _ (.cons _ (.refl _))))))))) hf (y_ld Try.sc_137 rfl) (.inl rfl) rfl rfl ?_; clear hf a; intro a hf
     refine mx_v rfl rfl (CW.mk hM (hh.less (.cons_cons _ (.cons _ (.cons _ (.cons _ (.cons _ (.cons _ (.refl _))))))))) hf (y_ia Try.ae_42 rfl rfl) (.inl rfl) rfl rfl ?_; clear hf a; intro a hf
     refine mx_v rfl rfl (CW.mk hM (hh.less (.cons_cons _ (.cons _ (.cons _ (.cons _ (.cons _ (.cons _ (.refl _))))))))) hf (y_ld Try.sc_3 rfl) (.inl rfl) rfl rfl ?_; clear hf a; intro a hf
     refine mx_v rfl rfl (CW.mk hM (hh.less (.cons_cons _ (.cons _ (.cons _ (.cons _ (.cons _ (.cons _ (.refl _))))))))) hf (yv_cast (yv_add rfl rfl (by omega) (by omega)) (intv (b := ((p.1 + 1 : Nat) : Int)) (by omega))) (.inl rfl) rfl rfl ?_; clear hf a; intro a hf
     refine mx_v rfl rfl (CW.mk hM (hh.less (.cons_cons _ (.cons _ (.cons _ (.cons _ (.cons _ (.cons _ (.refl _))))))))) hf (y_ia Try.ae_42 rfl rfl) (.inl rfl) rfl rfl ?_; clear hf a; intro a hf
     refine mx_v rfl rfl (CW.mk hM (hh.less (.cons_cons _ (.cons _ (.cons _ (.cons _ (.cons _ (.cons _ (.refl _))))))))) hf (y_ld Try.sc_3 rfl) (.inl rfl) rfl rfl ?_; clear hf a; intro a hf
     refine mx_v rfl rfl (CW.mk hM (hh.less (.cons_cons _ (.cons _ (.cons _ (.cons _ (.cons _ (.cons _ (.refl _))))))))) hf (yv_cast (yv_add rfl rfl (by omega) (by omega)) (intv (b := ((p.2 + 1 : Nat) : Int)) (by omega))) (.inl rfl) rfl rfl ?_; clear hf a; intro a hf
     refine mx_v rfl rfl (CW.mk hM (hh.less (.cons_cons _ (.cons _ (.cons _ (.cons _ (.cons _ (.cons _ (.refl _))))))))) hf (yv_fieldAddr Try.fo_139_2 rfl) (.inl rfl) rfl rfl ?_; clear hf a; intro a hf
     refine mx_v rfl rfl (CW.mk hM (hh.less (.cons_cons _ (.cons _ (.cons _ (.cons _ (.cons _ (.cons _ (.refl _))))))))) hf (y_ld Try.sc_3 rfl) (.inl rfl) rfl rfl ?_; clear hf a; intro a hf
     refine mx_v rfl rfl (CW.mk hM (hh.less (.cons_cons _ (.cons _ (.cons _ (.cons _ (.cons _ (.cons _ (.refl _))))))))) hf (y_sub rfl rfl) (.inl rfl) rfl rfl ?_; clear hf a; intro a hf
     refine mx_v rfl rfl (CW.mk hM (hh.less (.cons_cons _ (.cons _ (.cons _ (.cons _ (.cons _ (.cons _ (.refl _))))))))) hf (yv_cast (yv_max rfl rfl) (intv (b := ((n - 1 : Nat) : Int)) (by omega))) (.inl rfl) rfl rfl ?_; clear hf a; intro a hf
     refine mx_v rfl rfl (CW.mk hM (hh.less (.cons_cons _ (.cons _ (.cons _ (.cons _ (.cons _ (.cons _ (.refl _))))))))) hf (yv_buildS Try.bs_139 rfl rfl) (.inl rfl) rfl rfl ?_; clear hf a; intro a hf
     refine mx_e rfl rfl fun Q1 => ?_
     refine o_call hf Try.en_85 rfl rfl rfl (ih (p.1 + 1) (p.2 + 1) (n - 1) _ _ _ (hh.at (i := 8) rfl) hM (hC.ext hh.ext) (by omega) (by omega) (by omega) (by omega)) ?_; clear hf a; intro v a w hR hf
     obtain ⟨rfl, es, cm, hM, hx⟩ := hR; replace hh := hh.turn (i := 8) rfl hx.ext (hx.at (i := 0) rfl); clear hx
     refine ops_end ?_
     refine then_n ⟨fun _ => (CW.mk hM (hh.less (.cons_cons _ (.cons _ (.cons _ (.cons _ (.cons _ (.cons _ (.refl _))))))))), ?_⟩
     refine mx_v rfl rfl (CW.mk hM (hh.less (.cons_cons _ (.cons _ (.cons _ (.cons _ (.cons _ (.cons _ (.refl _))))))))) hf (yv_cast (yv_add rfl rfl (by omega) (by omega)) (intv (b := ((sumK F d.l.length d.r.length i k n (j + 1) : Nat) : Int)) (by omega))) (.inl rfl) rfl rfl ?_; clear hf a; intro a hf
     refine mx_e rfl rfl fun Q1 => ?_
     refine o_store hf hh Try.sz_3 fun w hh => ?_
     refine ops_end ?_
     refine then_n ⟨fun h => absurd h (by decide), ?_⟩
     refine mx_end ?_
     refine blk_n ?_
     exact ⟨_, ⟨es, cm, hM, rfl⟩, (hh.less (.cons _ (List.Sublist.refl _)))⟩
    ·rintro D H a w ⟨es, cm, hM, rfl⟩ hf hh
     rw [List.length_map, sumK_all] at hh
     refine blk_n ?_
     refine then_n ?_
     refine sy_sq ?_
     refine o_v hf hh (y_ld Try.sc_136 rfl) ?_; clear hf a; intro a hf
     refine o_v hf hh (y_lds Try.ag_139 rfl) ?_; clear hf a; intro a hf
     refine o_v hf hh (y_ld Try.sc_3 rfl) ?_; clear hf a; intro a hf
     refine ops_mapUpdateK (i := 6) (p := (((i : Nat) : Int), ((k : Nat) : Int), ((n : Nat) : Int))) (F := memK F d.l.length d.r.length) hf hh (key3 eb3) mke rfl rfl rfl rfl hM (.inl rfl) fun es cm w hM hh => ?_
     refine o_end ?_
     refine sy_sq ?_
     refine o_v hf hh (y_ld Try.sc_3 rfl) ?_; clear hf a; intro a hf
     refine o_v hf hh (yv_assign rfl) ?_; clear hf a; intro a hf
     refine o_end ?_
     refine sy_ret ?_
     exact ret_m (Ds := [D]) hf hh fun w' hh => ⟨[.int .i64 (cnt F d.l.length d.r.length i k n : Nat)], ⟨rfl, True.intro⟩, rfl, es, cm, hM, hh.less (.cons _ (.cons _ (.cons _ (.cons _ (.cons _ (.refl _))))))⟩
    ·rintro j c D H a w hX hf hh
     exact hX.elim
theorem c47 (d : RowsD) (sa sb : Option Addr) (ca cb : Nat) (F : Nat → Nat → Bool) (rb : Nat) (u : World) (hO : RowO u rb d sa sb ca cb F) (hV : Valid d) : Calls Try.prog 65 #[ptr rb 0] u (Ret fun v w' => v = .int .i64 (cnt F d.l.length d.r.length 0 0 (need d) : Nat) ∧ Ext [] u w') := by
  refine calls_of Try.func65 rfl rfl (fun a hf => ?_)
  have hh := Hp.init u []
  have hbd := need_bd hV
  have hnd : max 0 (needI d) = ((need d : Nat) : Int) := by unfold need; omega
  have hn20 : need d ≤ 20 := by
    have h1 := hV.nl; have h2 := hV.nr; have h3 := hV.h1
    unfold need needI
    have := Int.tdiv_eq_ediv (a := ((d.l.length + d.r.length : Nat) - d.hid + 1)) (b := 2)
    rw [this, show Int.sign 2 = 1 from rfl]
    split <;> omega
  obtain ⟨cs, hb, hcs⟩ := hO.ex
  have hnc := hcs.need
  have hbl : rb < u.heap.size := (Array.getElem?_eq_some_iff.1 hb).1
  refine sy_sq ?_
  refine o_box hf hh ?_; clear hf hh a; intro B1 a w hf hh
  refine o_v hf hh (yv_assign rfl) ?_; clear hf a; intro a hf
  refine o_end ?_
  refine sy_sq ?_
  refine ops_makeMap hf hh (.inl rfl) rfl ?_; clear hf hh; clear a; intro B5 a w hf hh
  refine o_alloc hf hh Try.ze_136 ?_; clear hf hh a; intro B3 a w hf hh
  refine o_store hf hh Try.sz_136 fun w hh => ?_
  refine o_end ?_
  refine sy_sq ?_
  refine o_alloc hf hh Try.ze_137 ?_; clear hf hh a; intro B4 a w hf hh
  refine o_end ?_
  refine sy_sq ?_
  refine o_v hf hh (yv_makeFunc rfl rfl) ?_; clear hf a; intro a hf
  refine o_store hf hh Try.sz_137 fun w hh => ?_
  refine o_end ?_
  refine sy_seq ?_
  refine sy_tail (C := Hp _ _ _) 7 Try.follows (by kernel_rfl) rfl rfl (hh.drawn _) ?_
  refine oq_v hf (y_ld Try.sc_137 rfl) ?_; clear hf a; intro a hf
  refine oq_v hf (y_ld Try.sc_100 rfl) ?_; clear hf a; intro a hf
  refine oq_v hf (yv_nilCheck rfl) ?_; clear hf a; intro a hf
  refine oq_v hf (yv_fieldAddr Try.fo_128_2 rfl) ?_; clear hf a; intro a hf
  refine oq_v hf (y_ld Try.sc_3 rfl) ?_; clear hf a; intro a hf
  refine q_v hf (yv_cast (yv_max rfl rfl) (intv (b := ((need d : Nat) : Int)) hnd)) (.inl rfl) rfl rfl ?_; clear hf a; intro a hf
  refine oq_v hf (yv_buildS Try.bs_139 rfl rfl) ?_; clear hf a; intro a hf
  refine q_end fun w hh => ?_
  have hnn : [B4, B3, B5, B1].Nodup := hh.nodup
  simp only [List.nodup_cons, List.mem_cons, List.not_mem_nil, not_or, or_false] at hnn
  have hmm := hh.mine (B5, .map #[] 0) (by simp)
  simp only [List.not_mem_nil, or_false] at hmm
  refine o_call hf Try.en_85 rfl rfl rfl (c86 d sa sb ca cb F rb B5 B3 B1 B4 11 0 0 (need d) _ _ _ (hh.at (i := 2) rfl) (MemoK.nil _ _ _) ⟨hO.ext hh.ext, hh.at (i := 1) rfl, hh.at (i := 3) rfl, hh.at (i := 0) rfl, by simp only [List.mem_singleton]; omega, by simp only [List.mem_singleton]; omega, by simp only [List.mem_singleton]; omega, by simp only [List.mem_singleton]; omega⟩ (by have := hO.nl; omega) (by omega) (by omega) hn20) ?_; clear hf a; intro v a w hR hf
  obtain ⟨rfl, es, cm, hM, hx⟩ := hR; replace hh := hh.turn (i := 2) rfl hx.ext (hx.at (i := 0) rfl); clear hx
  refine o_v hf hh (yv_assign rfl) ?_; clear hf a; intro a hf
  refine o_end ?_
  refine sy_ret ?_
  refine ret_r hf rfl rfl ?_
  exact ⟨rfl, hh.ext⟩
end Go.Proofs.Ytidieepndphodaa
namespace Go.Proofs.Ytidieepndphodaa
open Go Go.Sy Go.MatM
theorem c50 (d : RowsD) (sa sb : Option Addr) (ca cb : Nat) (F : Nat → Nat → Bool) (rb : Nat) (u : World) (hO : RowO u rb d sa sb ca cb F) : Calls Try.prog 89 #[ptr rb 0] u (Ret fun v w' => v = .agg (gridV 11 11 (mosG F d.l.length d.r.length)) ∧ Ext [] u w') := by
  refine calls_of Try.func89 rfl rfl (fun a hf => ?_)
  have hh := Hp.init u []
  obtain ⟨⟨rs, hb, hcs⟩, hnl, hnr⟩ := hO
  have c0 := hcs.l; have c1 := hcs.r
  refine sy_sq ?_
  refine o_alloc hf hh Try.ze_148 ?_; clear hf hh a; intro B2 a w hf hh
  refine o_end ?_
  refine sy_seq ?_
  refine sy_sq ?_
  refine o_v hf hh (yv_move rfl) ?_; clear hf a; intro a hf
  refine o_v hf hh (yv_nilCheck rfl) ?_; clear hf a; intro a hf
  refine o_v hf hh (yv_fieldAddr Try.fo_128_0 rfl) ?_; clear hf a; intro a hf
  refine o_v hf hh (yv_fieldAddr Try.fo_29_0 rfl) ?_; clear hf a; intro a hf
  refine o_v hf hh (y_ld Try.sc_25 rfl) ?_; clear hf a; intro a hf
  refine o_v hf hh (yv_len Try.se_25 rfl) ?_; clear hf a; intro a hf
  refine o_v hf hh (y_sub rfl rfl) ?_; clear hf a; intro a hf
  refine o_v hf hh (yv_assign rfl) ?_; clear hf a; intro a hf
  refine o_end ?_
  refine sy_block ?_
  refine sy_loopH (σ := Nat) [3, 4, 12, 13, 14, 15, 16, 17, 18, 19, 20, 21, 22, 23, 24, 25, 26, 27, 28, 29, 30, 31, 32, 33, 34, 35, 36, 37, 38, 39, 40, 41, 42, 43, 44, 45, 46, 47, 48, 49, 50, 51, 52, 53, 54, 55, 56, 57, 58, 59, 60, 61, 62, 63, 64, 65, 66, 67, 68, 69] (fun s => [(3, .int .i64 ((s : Nat) - 1))]) (fun s => fun w => s ≤ d.l.length ∧ ∃ cs, Grid 11 11 (procM F d.l.length d.r.length s d.r.length) cs ∧ Hp u [] [(B2, .cells cs 148)] w) (fun s => s) (d.l.length) hf ?_ ?_ ?_
  · repeat' (first | exact True.intro | refine And.intro rfl ?_)
  · refine ⟨Nat.le_refl _, _, ?_, hh⟩
    exact (grid_zero (m := 11) (c := 11) rfl rfl).congr fun x y _ _ => (procM_start x y).symm
  ·rintro s a w ⟨hs, cs, hG, hh⟩ hf
   refine sy_seq ?_
   refine sy_sq ?_
   refine o_v hf hh (yv_move rfl) ?_; clear hf a; intro a hf
   refine o_v hf hh (yv_bin rfl rfl rfl) ?_; clear hf a; intro a hf
   refine o_end ?_
   refine sy_cond hf rfl (fun hg2 => ?_) (fun hg2 => ?_)
   ·have hG2 := hg2; try simp only [gS] at hG2
    refine sy_skip ?_
    refine then_n ?_
    refine sy_seq ?_
    refine sy_block ?_
    refine sy_seq ?_
    obtain ⟨i, rfl⟩ : ∃ i, s = i + 1 := ⟨s - 1, by omega⟩
    rw [show (((i + 1 : Nat) : Int) - 1) = (i : Int) by omega] at hf
    refine sy_ops ?_
    refine o_v hf hh (yv_move rfl) ?_; clear hf a; intro a hf
    refine o_v hf hh (yv_nilCheck rfl) ?_; clear hf a; intro a hf
    refine o_v hf hh (yv_fieldAddr Try.fo_128_0 rfl) ?_; clear hf a; intro a hf
    refine o_v hf hh (yv_fieldAddr Try.fo_29_1 rfl) ?_; clear hf a; intro a hf
    refine o_v hf hh (y_ld Try.sc_25 rfl) ?_; clear hf a; intro a hf
    refine o_v hf hh (yv_len Try.se_25 rfl) ?_; clear hf a; intro a hf
    refine o_v hf hh (y_sub rfl rfl) ?_; clear hf a; intro a hf
    refine o_v hf hh (yv_assign rfl) ?_; clear hf a; intro a hf
    refine o_end ?_
    refine sy_block ?_
    refine sy_loopH (σ := Nat) [4, 23, 24, 25, 26, 27, 28, 29, 30, 31, 32, 33, 34, 35, 36, 37, 38, 39, 40, 41, 42, 43, 44, 45, 46, 47, 48, 49, 50, 51, 52, 53, 54, 55, 56, 57, 58, 59, 60, 61, 62, 63, 64, 65, 66, 67, 68, 69] (fun t => [(4, .int .i64 ((t : Nat) - 1))]) (fun t => fun w => t ≤ d.r.length ∧ ∃ cs, Grid 11 11 (procM F d.l.length d.r.length (i + 1) t) cs ∧ Hp u [] [(B2, .cells cs 148)] w) (fun t => t) (d.r.length) hf ?_ ?_ ?_
    · repeat' (first | exact True.intro | refine And.intro rfl ?_)
    · exact ⟨Nat.le_refl _, cs, hG, hh⟩
    ·rintro t a w ⟨ht, cs2, hG2, hh⟩ hf
     refine sy_seq ?_
     refine sy_sq ?_
     refine o_v hf hh (yv_move rfl) ?_; clear hf a; intro a hf
     refine o_v hf hh (yv_bin rfl rfl rfl) ?_; clear hf a; intro a hf
     refine o_end ?_
     refine sy_cond hf rfl (fun hg4 => ?_) (fun hg4 => ?_)
     ·have hG4 := hg4; try simp only [gS] at hG4
      refine sy_skip ?_
      refine then_n ?_
      refine sy_seq ?_
      refine sy_block ?_
      refine sy_seq ?_
      obtain ⟨k, rfl⟩ : ∃ k, t = k + 1 := ⟨t - 1, by omega⟩
      rw [show (((k + 1 : Nat) : Int) - 1) = (k : Int) by omega] at hf
      have hft := hcs.fitA (i := i) (k := k) (by omega) (by omega)
      have hms := mos_step (F := F) (L := d.l.length) (R := d.r.length) (i := i) (k := k) (by omega) (by omega)
      have hb1 := mos_le F d.l.length d.r.length (i + 1) (k + 1)
      have g1 := grid11 hG2 (i := i + 1) (k := k) (by omega) (by omega)
      have g2 := grid11 hG2 (i := i) (k := k + 1) (by omega) (by omega)
      rw [show procM F d.l.length d.r.length (i + 1) (k + 1) (i + 1) k = ((mos F d.l.length d.r.length (i + 1) k : Nat) : Int) by unfold procM; rw [if_pos (by omega)]] at g1
      rw [show procM F d.l.length d.r.length (i + 1) (k + 1) i (k + 1) = ((mos F d.l.length d.r.length i (k + 1) : Nat) : Int) by unfold procM; rw [if_pos (by omega)]] at g2
      have hz2 := hG2.size
      refine sy_tail (C := Hp _ _ _) 17 Try.follows (by kernel_rfl) rfl rfl (hh.drawn _) ?_
      refine oq_v hf (yv_move rfl) ?_; clear hf a; intro a hf
      refine oq_v hf (yv_move rfl) ?_; clear hf a; intro a hf
      refine oq_v hf (yv_move rfl) ?_; clear hf a; intro a hf
      refine q_v hf (yv_cast (yv_add rfl rfl (by omega) (by omega)) (intv (b := ((i + 1 : Nat) : Int)) (by omega))) (.inl rfl) rfl rfl ?_; clear hf a; intro a hf
      refine oq_v hf (yv_move rfl) ?_; clear hf a; intro a hf
      refine oq_v hf (y_ia Try.ae_148 rfl rfl) ?_; clear hf a; intro a hf
      refine oq_v hf (y_ia Try.ae_147 rfl rfl) ?_; clear hf a; intro a hf
      refine oq_v hf (y_ld Try.sc_3 rfl) ?_; clear hf a; intro a hf
      refine oq_v hf (yv_move rfl) ?_; clear hf a; intro a hf
      refine oq_v hf (yv_move rfl) ?_; clear hf a; intro a hf
      refine q_v hf (yv_cast (yv_add rfl rfl (by omega) (by omega)) (intv (b := ((k + 1 : Nat) : Int)) (by omega))) (.inl rfl) rfl rfl ?_; clear hf a; intro a hf
      refine oq_v hf (y_ia Try.ae_148 rfl rfl) ?_; clear hf a; intro a hf
      refine oq_v hf (y_ia Try.ae_147 rfl rfl) ?_; clear hf a; intro a hf
      refine oq_v hf (y_ld Try.sc_3 rfl) ?_; clear hf a; intro a hf
      refine oq_v hf (yv_max rfl rfl) ?_; clear hf a; intro a hf
      refine oq_v hf (y_ia Try.ae_148 rfl rfl) ?_; clear hf a; intro a hf
      refine oq_v hf (y_ia Try.ae_147 rfl rfl) ?_; clear hf a; intro a hf
      refine q_end fun w hh => ?_
      refine o_store hf hh Try.sz_3 fun w hh => ?_
      refine o_end ?_
      refine sy_seq ?_
      have hG4 := hG2.set (i := i) (k := k) (off := 0 + ((i : Nat) : Int).toNat * 11 + ((k : Nat) : Int).toNat * 1) (by omega) (by omega) (by first | (simp; done) | (simp; omega)) (max ((mos F d.l.length d.r.length (i + 1) k : Nat) : Int) ((mos F d.l.length d.r.length i (k + 1) : Nat) : Int))
      obtain ⟨cs4, hc4⟩ : ∃ z, z = spl cs2 (0 + ((i : Nat) : Int).toNat * 11 + ((k : Nat) : Int).toNat * 1) [.int .i64 (max ((mos F d.l.length d.r.length (i + 1) k : Nat) : Int) ((mos F d.l.length d.r.length i (k + 1) : Nat) : Int))] := ⟨_, rfl⟩
      rw [← hc4] at hG4
      replace hh : Hp u [] [(B2, .cells cs4 148)] w := hc4 ▸ hh
      have g3 := grid11 hG4 (i := i) (k := k) (by omega) (by omega)
      have g4 := grid11 hG4 (i := i + 1) (k := k + 1) (by omega) (by omega)
      rw [show updG (procM F d.l.length d.r.length (i + 1) (k + 1)) i k (max ((mos F d.l.length d.r.length (i + 1) k : Nat) : Int) ((mos F d.l.length d.r.length i (k + 1) : Nat) : Int)) i k = max ((mos F d.l.length d.r.length (i + 1) k : Nat) : Int) ((mos F d.l.length d.r.length i (k + 1) : Nat) : Int) by unfold updG; rw [if_pos ⟨rfl, rfl⟩]] at g3
      rw [show updG (procM F d.l.length d.r.length (i + 1) (k + 1)) i k (max ((mos F d.l.length d.r.length (i + 1) k : Nat) : Int) ((mos F d.l.length d.r.length i (k + 1) : Nat) : Int)) (i + 1) (k + 1) = ((mos F d.l.length d.r.length (i + 1) (k + 1) : Nat) : Int) by unfold updG procM; rw [if_neg (by omega), if_pos (by omega)]] at g4
      have hz4 := hG4.size
      refine sy_ops ?_
      refine o_v hf hh (yv_move rfl) ?_; clear hf a; intro a hf
      refine o_v hf hh (yv_move rfl) ?_; clear hf a; intro a hf
      refine o_v hf hh (yv_move rfl) ?_; clear hf a; intro a hf
      refine o_v hf hh (yv_nilCheck rfl) ?_; clear hf a; intro a hf
      refine o_v hf hh (yv_fieldAddr Try.fo_128_1 rfl) ?_; clear hf a; intro a hf
      refine o_v hf hh (y_ia Try.ae_126 rfl rfl) ?_; clear hf a; intro a hf
      refine o_v hf hh (y_ia Try.ae_125 rfl rfl) ?_; clear hf a; intro a hf
      refine o_v hf hh (y_ld Try.sc_4 rfl) ?_; clear hf a; intro a hf
      refine o_end ?_
      refine sy_cond hf rfl (fun hg8 => ?_) (fun hg8 => ?_)
      ·have hG8 := hg8; try simp only [gS] at hG8
       refine sy_tail (C := Hp _ _ _) 18 Try.follows (by kernel_rfl) rfl rfl (hh.drawn _) ?_
       refine oq_v hf (yv_move rfl) ?_; clear hf a; intro a hf
       refine oq_v hf (yv_move rfl) ?_; clear hf a; intro a hf
       refine oq_v hf (yv_move rfl) ?_; clear hf a; intro a hf
       refine oq_v hf (yv_move rfl) ?_; clear hf a; intro a hf
       refine oq_v hf (y_ia Try.ae_148 rfl rfl) ?_; clear hf a; intro a hf
       refine oq_v hf (y_ia Try.ae_147 rfl rfl) ?_; clear hf a; intro a hf
       refine oq_v hf (y_ld Try.sc_3 rfl) ?_; clear hf a; intro a hf
       refine oq_v hf (yv_move rfl) ?_; clear hf a; intro a hf
       refine q_v hf (yv_cast (yv_add rfl rfl (by omega) (by omega)) (intv (b := ((i + 1 : Nat) : Int)) (by omega))) (.inl rfl) rfl rfl ?_; clear hf a; intro a hf
       refine oq_v hf (yv_move rfl) ?_; clear hf a; intro a hf
       refine q_v hf (yv_cast (yv_add rfl rfl (by omega) (by omega)) (intv (b := ((k + 1 : Nat) : Int)) (by omega))) (.inl rfl) rfl rfl ?_; clear hf a; intro a hf
       refine oq_v hf (y_ia Try.ae_148 rfl rfl) ?_; clear hf a; intro a hf
       refine oq_v hf (y_ia Try.ae_147 rfl rfl) ?_; clear hf a; intro a hf
       refine oq_v hf (y_ld Try.sc_3 rfl) ?_; clear hf a; intro a hf
       refine oq_v hf (y_add rfl rfl) ?_; clear hf a; intro a hf
       refine oq_v hf (yv_max rfl rfl) ?_; clear hf a; intro a hf
       refine oq_v hf (y_ia Try.ae_148 rfl rfl) ?_; clear hf a; intro a hf
       refine oq_v hf (y_ia Try.ae_147 rfl rfl) ?_; clear hf a; intro a hf
       refine q_end fun w hh => ?_
       refine o_store hf hh Try.sz_3 fun w hh => ?_
       refine ops_end ?_
       refine blk_n ?_
       refine then_n ?_
       refine sy_ops ?_
       refine o_v hf hh (yv_move rfl) ?_; clear hf a; intro a hf
       refine o_v hf hh (y_sub rfl rfl) ?_; clear hf a; intro a hf
       refine o_v hf hh (yv_assign rfl) ?_; clear hf a; intro a hf
       refine ops_end ?_
       refine then_n ?_
       first
         | exact ⟨k, ⟨⟨by omega, _, (hG4.set (i := i) (k := k) (by omega) (by omega) (by first | (simp; done) | (simp; omega)) _).congr (fun x y _ _ => by rw [updG_updG]; exact procM_step (by have hq : F i k = true := (by assumption); rw [if_pos hq] at hms; omega) x y), hh⟩, (hf.head (by repeat' (first | exact True.intro | refine And.intro rfl ?_)) (Keep.cons rfl (Keep.cons rfl (Keep.cons rfl (Keep.cons rfl (Keep.cons rfl (Keep.cons rfl (Keep.cons rfl (Keep.cons rfl (Keep.cons rfl (Keep.cons rfl (Keep.cons rfl (Keep.cons rfl (Keep.cons rfl (Keep.cons rfl (Keep.cons rfl (Keep.cons rfl (Keep.cons rfl (Keep.cons rfl (Keep.cons rfl (Keep.cons rfl (Keep.cons rfl (Keep.cons rfl (Keep.cons rfl (Keep.cons rfl (Keep.cons rfl (Keep.cons rfl (Keep.cons rfl (Keep.cons rfl (Keep.cons rfl (Keep.cons rfl (Keep.cons rfl (Keep.cons rfl (Keep.cons rfl (Keep.cons rfl (Keep.cons rfl (Keep.cons rfl (Keep.cons rfl (Keep.cons rfl (Keep.cons rfl (Keep.cons rfl (Keep.cons rfl (Keep.cons rfl (Keep.cons rfl (Keep.cons rfl (Keep.cons rfl (Keep.cons rfl (Keep.cons rfl (Keep.cons rfl (Keep.app rfl (Keep.rm rfl Keep.base)))))))))))))))))))))))))))))))))))))))))))))))))))⟩, by omega⟩
         | exact ⟨k, ⟨⟨by omega, _, hG4.congr (fun x y _ _ => procM_step (by have hq : F i k = false := (by assumption); rw [if_neg (by simp [hq])] at hms; omega) x y), hh⟩, (hf.head (by repeat' (first | exact True.intro | refine And.intro rfl ?_)) (Keep.cons rfl (Keep.cons rfl (Keep.cons rfl (Keep.cons rfl (Keep.cons rfl (Keep.cons rfl (Keep.cons rfl (Keep.cons rfl (Keep.cons rfl (Keep.cons rfl (Keep.cons rfl (Keep.cons rfl (Keep.cons rfl (Keep.cons rfl (Keep.cons rfl (Keep.cons rfl (Keep.cons rfl (Keep.cons rfl (Keep.cons rfl (Keep.cons rfl (Keep.cons rfl (Keep.cons rfl (Keep.cons rfl (Keep.cons rfl (Keep.cons rfl (Keep.cons rfl (Keep.cons rfl (Keep.cons rfl (Keep.cons rfl (Keep.cons rfl (Keep.cons rfl (Keep.cons rfl (Keep.cons rfl (Keep.cons rfl (Keep.cons rfl (Keep.cons rfl (Keep.cons rfl (Keep.cons rfl (Keep.cons rfl (Keep.cons rfl (Keep.cons rfl (Keep.cons rfl (Keep.cons rfl (Keep.cons rfl (Keep.cons rfl (Keep.cons rfl (Keep.cons rfl (Keep.cons rfl (Keep.app rfl (Keep.rm rfl Keep.base)))))))))))))))))))))))))))))))))))))))))))))))))))⟩, by omega⟩
      ·have hG8 := hg8; try simp only [gS] at hG8
       refine sy_skip ?_
       refine blk_n ?_
       refine then_n ?_
       refine sy_ops ?_
       refine o_v hf hh (yv_move rfl) ?_; clear hf a; intro a hf
       refine o_v hf hh (y_sub rfl rfl) ?_; clear hf a; intro a hf
       refine o_v hf hh (yv_assign rfl) ?_; clear hf a; intro a hf
       refine ops_end ?_
       refine then_n ?_
       first
         | exact ⟨k, ⟨⟨by omega, _, (hG4.set (i := i) (k := k) (by omega) (by omega) (by first | (simp; done) | (simp; omega)) _).congr (fun x y _ _ => by rw [updG_updG]; exact procM_step (by have hq : F i k = true := (by assumption); rw [if_pos hq] at hms; omega) x y), hh⟩, (hf.head (by repeat' (first | exact True.intro | refine And.intro rfl ?_)) (Keep.cons rfl (Keep.cons rfl (Keep.cons rfl (Keep.cons rfl (Keep.cons rfl (Keep.cons rfl (Keep.cons rfl (Keep.cons rfl (Keep.cons rfl (Keep.cons rfl (Keep.cons rfl (Keep.cons rfl (Keep.cons rfl (Keep.cons rfl (Keep.cons rfl (Keep.cons rfl (Keep.cons rfl (Keep.cons rfl (Keep.cons rfl (Keep.cons rfl (Keep.cons rfl (Keep.cons rfl (Keep.cons rfl (Keep.cons rfl (Keep.cons rfl (Keep.cons rfl (Keep.cons rfl (Keep.cons rfl (Keep.cons rfl (Keep.cons rfl (Keep.app rfl (Keep.rm rfl Keep.base)))))))))))))))))))))))))))))))))⟩, by omega⟩
         | exact ⟨k, ⟨⟨by omega, _, hG4.congr (fun x y _ _ => procM_step (by have hq : F i k = false := (by assumption); rw [if_neg (by simp [hq])] at hms; omega) x y), hh⟩, (hf.head (by repeat' (first | exact True.intro | refine And.intro rfl ?_)) (Keep.cons rfl (Keep.cons rfl (Keep.cons rfl (Keep.cons rfl (Keep.cons rfl (Keep.cons rfl (Keep.cons rfl (Keep.cons rfl (Keep.cons rfl (Keep.cons rfl (Keep.cons rfl (Keep.cons rfl (Keep.cons rfl (Keep.cons rfl (Keep.cons rfl (Keep.cons rfl (Keep.cons rfl (Keep.cons rfl (Keep.cons rfl (Keep.cons rfl (Keep.cons rfl (Keep.cons rfl (Keep.cons rfl (Keep.cons rfl (Keep.cons rfl (Keep.cons rfl (Keep.cons rfl (Keep.cons rfl (Keep.cons rfl (Keep.cons rfl (Keep.app rfl (Keep.rm rfl Keep.base)))))))))))))))))))))))))))))))))⟩, by omega⟩
     ·have hG4 := hg4; try simp only [gS] at hG4
      refine sy_exit ?_
      refine then_e ?_
      refine then_e ?_
      refine blk_e ?_
      refine blk_n ?_
      refine then_n ?_
      refine sy_ops ?_
      refine o_v hf hh (yv_move rfl) ?_; clear hf a; intro a hf
      refine o_v hf hh (y_sub rfl rfl) ?_; clear hf a; intro a hf
      refine o_v hf hh (yv_assign rfl) ?_; clear hf a; intro a hf
      refine ops_end ?_
      refine then_n ?_
      have ht0 : t = 0 := by omega
      subst ht0
      exact ⟨i, ⟨⟨by omega, cs2, hG2.congr (fun x y _ _ => procM_row x y), hh⟩, (hf.head (by repeat' (first | exact True.intro | refine And.intro rfl ?_)) (Keep.cons rfl (Keep.cons rfl (Keep.cons rfl (Keep.cons rfl (Keep.cons rfl (Keep.app rfl (Keep.rm rfl (Keep.cons rfl (Keep.cons rfl (Keep.cons rfl (Keep.cons rfl (Keep.cons rfl (Keep.cons rfl (Keep.cons rfl (Keep.cons rfl (Keep.cons rfl (Keep.cons rfl (Keep.app rfl (Keep.rm rfl Keep.base))))))))))))))))))))⟩, by omega⟩
   ·have hG2 := hg2; try simp only [gS] at hG2
    refine sy_exit ?_
    refine then_e ?_
    refine then_e ?_
    refine blk_e ?_
    refine then_n ?_
    refine sy_seq ?_
    have hs0 : s = 0 := by omega
    subst hs0
    replace hG := hG.congr (fun x y _ _ => procM_end x y)
    refine sy_ops ?_
    refine o_v hf hh (yv_loads (vs := cs.toList) Try.ag_148 rfl (fun w h => h.at (i := 0) rfl) (by rw [show 121 = cs.size from hG.size.symm]; exact cellsAt_all)) ?_; clear hf a; intro a hf
    refine o_store hf hh Try.sz_148 (hx := rfl) (hi := atI (i := 0) rfl) (hy := rfl) (hv := hG.size) (h1 := hG.one) (hl := by rw [hG.size]; rfl) fun w hh => ?_
    replace hh : Hp u [] [(B2, .cells cs 148)] w := by have e := spl_all (z := cs) (cs := cs) rfl; exact e ▸ hh
    refine o_end ?_
    refine sy_ret ?_
    refine ret_c (vs := [.agg cs.toList.toArray]) hf ?_ ?_
    · exact ⟨⟨B2, 0, _, _, _, rfl, hh.at (i := 0) rfl, .inr ⟨121, _, Try.ag_148, by rw [show 121 = cs.size from hG.size.symm]; exact cellsAt_all, rfl⟩⟩, True.intro⟩
    · exact ⟨congrArg Value.agg hG.eq, hh.ext⟩
theorem c88 (d : RowsD) (sa sb : Option Addr) (ca cb : Nat) (F : Nat → Nat → Bool) (rb : Nat) (u : World) (hO : RowO u rb d sa sb ca cb F) (hV : Valid d) : Calls Try.prog 98 #[ptr rb 0] u (Ret fun v w' => v = .bool (decide (need d ≤ mos F d.l.length d.r.length 0 0)) ∧ Ext [] u w') := by
  refine calls_of Try.func98 rfl rfl (fun a hf => ?_)
  have hh := Hp.init u []
  obtain ⟨rs, hb, hcs⟩ := hO.ex
  have hnc := hcs.need
  refine sy_sq ?_
  refine o_v hf hh (yv_assign rfl) ?_; clear hf a; intro a hf
  refine o_end ?_
  refine sy_seq ?_
  refine sy_quiet (C := Hp _ _ _) Try.follows (by kernel_rfl) (hh.drawn _) ?_
  refine oq_v hf (yv_move rfl) ?_; clear hf a; intro a hf
  refine oq_call hf Try.en_89 rfl rfl rfl (fun w hh => c50 d sa sb ca cb F rb _ (hO.ext hh.ext)) ?_; clear hf a; intro a hf
  refine oq_v hf (yv_idxA Try.ae_148 Try.ag_147 rfl rfl) ?_; clear hf a; intro a hf
  refine oq_v hf (yv_idxS Try.ae_147 Try.sc_3 rfl rfl (v := .int .i64 (mosG F d.l.length d.r.length 0 0)) (by rw [Array.getElem?_extract]; exact (gridV_grid 11 11 (mosG F d.l.length d.r.length)).get 0 0 (by omega) (by omega))) ?_; clear hf a; intro a hf
  refine oq_v hf (yv_move rfl) ?_; clear hf a; intro a hf
  refine oq_v hf (yv_nilCheck rfl) ?_; clear hf a; intro a hf
  refine oq_v hf (yv_fieldAddr Try.fo_128_2 rfl) ?_; clear hf a; intro a hf
  refine oq_v hf (y_ld Try.sc_3 rfl) ?_; clear hf a; intro a hf
  refine oq_v hf (yv_bin rfl rfl rfl) ?_; clear hf a; intro a hf
  refine oq_v hf (yv_assign rfl) ?_; clear hf a; intro a hf
  refine q_end fun w hh => ?_
  refine then_n ?_
  refine sy_ret ?_
  refine ret_r hf rfl rfl ?_
  exact ⟨congrArg Value.bool (by rw [decide_eq_decide]; unfold need mosG; omega), hh.ext⟩
end Go.Proofs.Ytidieepndphodaa
namespace Go.Proofs.Ytidieepndphodaa
open Go Go.Sy Go.MatM
/-- Pairs that fit are pairs of marks. -/
def FB (d : RowsD) (F : Nat → Nat → Bool) : Prop := ∀ x y, F x y = true → x < d.l.length ∧ y < d.r.length
theorem fitD_FB (d : RowsD) : FB d (fitD d) := fun x y h => by
  unfold fitD at h
  split at h
  · rename_i a b h1 h2; exact ⟨len_of h1, len_of h2⟩
  · cases h
def un2 (x y j : Nat) : Nat := if j = 0 then 0 else if j = 1 then x else x ||| y
end Go.Proofs.Ytidieepndphodaa
namespace Go.Proofs.Ytidieepndphodaa
open Go Go.Sy Go.MatM
theorem c93 (x : Nat) (hx : x < 65536) (w : World) : Calls Try.prog 97 #[.int .u64 x] w (Ret fun v w' => v = .int .i64 (pc x) ∧ Ext [] w w') := by
  refine calls_of Try.func97 rfl rfl (fun a hf => ?_)
  have hh := Hp.init w []
  have k1 := sw1_le x hx; have k2 := sw2_le x hx; have k3 := sw3_le x hx; have k4 := sw4_le x hx; have k5 := sw5_le x hx; have k6 := sw6_le x hx
  have n0 := @Nat.and_le_left (x / 2) 6148914691236517205
  have n1 := @Nat.and_le_left (x) 6148914691236517205
  have n2 := @Nat.and_le_left (sw1 x / 4) 3689348814741910323
  have n3 := @Nat.and_le_left (sw1 x) 3689348814741910323
  refine sy_sq ?_
  refine o_v hf hh (yv_assign rfl) ?_; clear hf a; intro a hf
  refine o_end ?_
  refine sy_sq ?_
  refine o_v hf hh (yv_move rfl) ?_; clear hf a; intro a hf
  refine ops_v hf hh (yv_cast (yv_shrx (.inr rfl) rfl rfl (by omega) (by omega) (by omega)) (intv (b := (((x) / 2 : Nat) : Int)) (by simp [Nat.shiftRight_eq_div_pow]))) (.inl rfl) rfl rfl rfl ?_; clear hf; clear a; intro a hf
  refine ops_v hf hh (yv_cast (yv_and (.inr rfl) rfl rfl (by omega) (by simp only [IntKind.top]; omega) (by omega) (by simp only [IntKind.top]; omega)) (intv (b := ((x / 2 &&& 6148914691236517205 : Nat) : Int)) rfl)) (.inl rfl) rfl rfl rfl ?_; clear hf; clear a; intro a hf
  refine o_v hf hh (yv_move rfl) ?_; clear hf a; intro a hf
  refine ops_v hf hh (yv_cast (yv_and (.inr rfl) rfl rfl (by omega) (by simp only [IntKind.top]; omega) (by omega) (by simp only [IntKind.top]; omega)) (intv (b := ((x &&& 6148914691236517205 : Nat) : Int)) rfl)) (.inl rfl) rfl rfl rfl ?_; clear hf; clear a; intro a hf
  first | refine o_v hf hh (yv_addx (.inr rfl) rfl rfl (by omega) (by simp only [IntKind.top]; omega)) ?_; clear hf a; intro a hf | refine o_v hf hh (yv_bin rfl rfl rfl) ?_; clear hf a; intro a hf
  refine ops_v hf hh (yv_cast (yv_assign rfl) (intv (b := ((sw1 x : Nat) : Int)) rfl)) (.inl rfl) rfl rfl rfl ?_; clear hf; clear a; intro a hf
  refine o_end ?_
  refine sy_sq ?_
  refine o_v hf hh (yv_move rfl) ?_; clear hf a; intro a hf
  refine ops_v hf hh (yv_cast (yv_shrx (.inr rfl) rfl rfl (by omega) (by omega) (by omega)) (intv (b := ((((sw1 x)) / 4 : Nat) : Int)) (by simp [Nat.shiftRight_eq_div_pow]))) (.inl rfl) rfl rfl rfl ?_; clear hf; clear a; intro a hf
  refine ops_v hf hh (yv_cast (yv_and (.inr rfl) rfl rfl (by omega) (by simp only [IntKind.top]; omega) (by omega) (by simp only [IntKind.top]; omega)) (intv (b := ((sw1 x / 4 &&& 3689348814741910323 : Nat) : Int)) rfl)) (.inl rfl) rfl rfl rfl ?_; clear hf; clear a; intro a hf
  refine o_v hf hh (yv_move rfl) ?_; clear hf a; intro a hf
  refine ops_v hf hh (yv_cast (yv_and (.inr rfl) rfl rfl (by omega) (by simp only [IntKind.top]; omega) (by omega) (by simp only [IntKind.top]; omega)) (intv (b := ((sw1 x &&& 3689348814741910323 : Nat) : Int)) rfl)) (.inl rfl) rfl rfl rfl ?_; clear hf; clear a; intro a hf
  first | refine o_v hf hh (yv_addx (.inr rfl) rfl rfl (by omega) (by simp only [IntKind.top]; omega)) ?_; clear hf a; intro a hf | refine o_v hf hh (yv_bin rfl rfl rfl) ?_; clear hf a; intro a hf
  refine ops_v hf hh (yv_cast (yv_assign rfl) (intv (b := ((sw2 (sw1 x) : Nat) : Int)) rfl)) (.inl rfl) rfl rfl rfl ?_; clear hf; clear a; intro a hf
  refine o_end ?_
  refine sy_sq ?_
  refine o_v hf hh (yv_move rfl) ?_; clear hf a; intro a hf
  refine ops_v hf hh (yv_cast (yv_shrx (.inr rfl) rfl rfl (by omega) (by omega) (by omega)) (intv (b := ((((sw2 (sw1 x))) / 16 : Nat) : Int)) (by simp [Nat.shiftRight_eq_div_pow]))) (.inl rfl) rfl rfl rfl ?_; clear hf; clear a; intro a hf
  refine o_v hf hh (yv_move rfl) ?_; clear hf a; intro a hf
  first | refine o_v hf hh (yv_addx (.inr rfl) rfl rfl (by omega) (by simp only [IntKind.top]; omega)) ?_; clear hf a; intro a hf | refine o_v hf hh (yv_bin rfl rfl rfl) ?_; clear hf a; intro a hf
  first | refine o_v hf hh (yv_and (.inr rfl) rfl rfl (by omega) (by simp only [IntKind.top]; omega) (by omega) (by simp only [IntKind.top]; omega)) ?_; clear hf a; intro a hf | refine o_v hf hh (yv_bin rfl rfl rfl) ?_; clear hf a; intro a hf
  refine ops_v hf hh (yv_cast (yv_assign rfl) (intv (b := ((sw3 (sw2 (sw1 x)) : Nat) : Int)) rfl)) (.inl rfl) rfl rfl rfl ?_; clear hf; clear a; intro a hf
  refine o_end ?_
  refine sy_sq ?_
  refine o_v hf hh (yv_move rfl) ?_; clear hf a; intro a hf
  refine o_v hf hh (yv_move rfl) ?_; clear hf a; intro a hf
  refine ops_v hf hh (yv_cast (yv_shrx (.inr rfl) rfl rfl (by omega) (by omega) (by omega)) (intv (b := ((((sw3 (sw2 (sw1 x)))) / 256 : Nat) : Int)) (by simp [Nat.shiftRight_eq_div_pow]))) (.inl rfl) rfl rfl rfl ?_; clear hf; clear a; intro a hf
  first | refine o_v hf hh (yv_addx (.inr rfl) rfl rfl (by omega) (by simp only [IntKind.top]; omega)) ?_; clear hf a; intro a hf | refine o_v hf hh (yv_bin rfl rfl rfl) ?_; clear hf a; intro a hf
  refine ops_v hf hh (yv_cast (yv_assign rfl) (intv (b := ((sw4 (sw3 (sw2 (sw1 x))) : Nat) : Int)) rfl)) (.inl rfl) rfl rfl rfl ?_; clear hf; clear a; intro a hf
  refine o_end ?_
  refine sy_sq ?_
  refine o_v hf hh (yv_move rfl) ?_; clear hf a; intro a hf
  refine o_v hf hh (yv_move rfl) ?_; clear hf a; intro a hf
  refine ops_v hf hh (yv_cast (yv_shrx (.inr rfl) rfl rfl (by omega) (by omega) (by omega)) (intv (b := ((((sw4 (sw3 (sw2 (sw1 x))))) / 65536 : Nat) : Int)) (by simp [Nat.shiftRight_eq_div_pow]))) (.inl rfl) rfl rfl rfl ?_; clear hf; clear a; intro a hf
  first | refine o_v hf hh (yv_addx (.inr rfl) rfl rfl (by omega) (by simp only [IntKind.top]; omega)) ?_; clear hf a; intro a hf | refine o_v hf hh (yv_bin rfl rfl rfl) ?_; clear hf a; intro a hf
  refine ops_v hf hh (yv_cast (yv_assign rfl) (intv (b := ((sw5 (sw4 (sw3 (sw2 (sw1 x)))) : Nat) : Int)) rfl)) (.inl rfl) rfl rfl rfl ?_; clear hf; clear a; intro a hf
  refine o_end ?_
  refine sy_sq ?_
  refine o_v hf hh (yv_move rfl) ?_; clear hf a; intro a hf
  refine o_v hf hh (yv_move rfl) ?_; clear hf a; intro a hf
  refine ops_v hf hh (yv_cast (yv_shrx (.inr rfl) rfl rfl (by omega) (by omega) (by omega)) (intv (b := ((((sw5 (sw4 (sw3 (sw2 (sw1 x)))))) / 4294967296 : Nat) : Int)) (by simp [Nat.shiftRight_eq_div_pow]))) (.inl rfl) rfl rfl rfl ?_; clear hf; clear a; intro a hf
  first | refine o_v hf hh (yv_addx (.inr rfl) rfl rfl (by omega) (by simp only [IntKind.top]; omega)) ?_; clear hf a; intro a hf | refine o_v hf hh (yv_bin rfl rfl rfl) ?_; clear hf a; intro a hf
  refine ops_v hf hh (yv_cast (yv_assign rfl) (intv (b := ((sw6 (sw5 (sw4 (sw3 (sw2 (sw1 x))))) : Nat) : Int)) rfl)) (.inl rfl) rfl rfl rfl ?_; clear hf; clear a; intro a hf
  refine o_end ?_
  refine sy_sq ?_
  refine o_v hf hh (yv_move rfl) ?_; clear hf a; intro a hf
  first | refine o_v hf hh (yv_convx (.inl rfl) (by kernel_rfl) Try.un_3 rfl (by omega) (by simp only [IntKind.top]; omega)) ?_; clear hf a; intro a hf | refine o_v hf hh (yv_conv (by kernel_rfl) Try.un_3 rfl) ?_; clear hf a; intro a hf
  first | refine o_v hf hh (yv_and (.inl rfl) rfl rfl (by omega) (by simp only [IntKind.top]; omega) (by omega) (by simp only [IntKind.top]; omega)) ?_; clear hf a; intro a hf | refine o_v hf hh (yv_bin rfl rfl rfl) ?_; clear hf a; intro a hf
  refine o_v hf hh (yv_assign rfl) ?_; clear hf a; intro a hf
  refine o_end ?_
  refine sy_ret ?_
  refine ret_r hf rfl rfl ?_
  refine ⟨?_, hh.ext⟩
  rw [← sw_pc hx]
  exact intv (by unfold sw; rfl)
theorem c67 (x : Nat) (hx : x < 65536) (w : World) : Calls Try.prog 87 #[.int .u64 x] w (Ret fun v w' => v = .int .i64 (pc x) ∧ Ext [] w w') := by
  refine calls_of Try.func87 rfl rfl (fun a hf => ?_)
  have hh := Hp.init w []
  refine sy_sq ?_
  refine o_v hf hh (yv_assign rfl) ?_; clear hf a; intro a hf
  refine o_end ?_
  refine sy_seq ?_
  refine c_f hf ?_
  refine sy_skip ?_
  refine then_n ?_
  refine sy_sq ?_
  refine o_v hf hh (yv_move rfl) ?_; clear hf a; intro a hf
  refine o_call hf Try.en_97 rfl rfl rfl (c93 x hx _) ?_; clear hf a; intro v a w hR hf
  obtain ⟨rfl, hx⟩ := hR; replace hh := hh.more hx; clear hx
  refine o_v hf hh (yv_assign rfl) ?_; clear hf a; intro a hf
  refine o_end ?_
  refine sy_ret ?_
  refine ret_r hf rfl rfl ?_
  exact ⟨rfl, hh.ext⟩
/-- The library's table for lowest bits lies in its variable. -/
def GTab (w : World) : Prop := ∃ c T fr, w.heap[1]? = some (.cells c T fr) ∧ ∀ j, j < 64 → c[j]? = some (.int .u8 (Lib.deBruijn64tab.getD j 0))
theorem GTab.ext {w w' : World} {M : List Nat} (h : GTab w) (e : Ext M w w') (hm : 1 ∉ M) : GTab w' :=
  let ⟨c, T, fr, h1, h2⟩ := h
  ⟨c, T, fr, e.getM h1 hm, h2⟩
theorem tz_idx (x : Nat) (hx : x < 65536) (hx0 : x ≠ 0) : (IntKind.u64.wrap (IntKind.u64.wrap ((BitVec.ofInt IntKind.u64.bits (x : Int) &&& BitVec.ofInt IntKind.u64.bits (IntKind.u64.wrap (0 - (x : Int)))).toNat : Int) * 285870213051353865)).fdiv (2 ^ (58 : Int).toNat) =
    ((2 ^ Lib.ctz 64 x * 285870213051353865 % 18446744073709551616 / 288230376151711744 : Nat) : Int) := by
  obtain ⟨hlow, _⟩ := Lib.lowest_bit 64 x hx0 (by omega)
  have h := tz64_key x _ (by omega) hx0 hlow
  rw [Int.zero_sub, Int.fdiv_eq_ediv_of_nonneg _ (Int.pow_nonneg (by omega))]
  exact h
theorem tz_all (x : Nat) (hx : x < 65536) (hx0 : x ≠ 0) (w : World) (hT : GTab w) : ∃ (n1 n2 n3 : Int) (idx : Nat) (c : Array Value) (T : TypeId) (fr : Nat × Nat),
    IntKind.u64.wrap (0 - (x : Int)) = n1 ∧ IntKind.u64.wrap ((BitVec.ofInt IntKind.u64.bits (x : Int) &&& BitVec.ofInt IntKind.u64.bits n1).toNat : Int) = n2 ∧ IntKind.u64.wrap (n2 * 285870213051353865) = n3 ∧
    n3.fdiv (2 ^ (58 : Int).toNat) = (idx : Int) ∧ idx < 64 ∧ w.heap[1]? = some (.cells c T fr) ∧ c[0 + idx * 1]? = some (.int .u8 (Lib.ctz 64 x)) ∧ Lib.ctz 64 x < 64 := by
  obtain ⟨c, T, fr, hb, hc⟩ := hT
  obtain ⟨_, hk⟩ := Lib.lowest_bit 64 x hx0 (by omega)
  obtain ⟨hi, htab⟩ := Lib.deBruijn64_at _ hk
  have hcc := hc _ hi
  rw [htab] at hcc
  exact ⟨_, _, _, _, c, T, fr, rfl, rfl, rfl, tz_idx x hx hx0, hi, hb, by rw [Nat.zero_add, Nat.mul_one]; exact hcc, hk⟩
theorem c49 (d : RowsD) (sa sb : Option Addr) (ca cb : Nat) (u : World) (hA : MkAt u sa d.l) (hB : MkAt u sb d.r) (ok : Bool) : Calls Try.prog 88 #[rowsV d sa sb ca cb, .bool ok] u (Ret fun v w' => ∃ p e X, v = .tuple #[p, .int .i64 (e : Int)] ∧ ((e = 0 ∧ okRows d = true ∧ ok = true ∧ need d ≤ mos (fitD d) d.l.length d.r.length 0 0 ∧ ∃ B cs, p = ptr B 0 ∧ RowA d sa sb ca cb (fitD d) cs ∧ X = [(B, .cells cs 128)]) ∨ (e = 1 ∧ okRows d = false) ∨ (e = 2 ∧ okRows d = true ∧ ok = false) ∨ (e = 4 ∧ okRows d = true ∧ ok = true ∧ ¬ need d ≤ mos (fitD d) d.l.length d.r.length 0 0)) ∧ Hp u [] X w') := by
  refine calls_of Try.func88 rfl rfl (fun a hf => ?_)
  have hh := Hp.init u []
  refine sy_sq ?_
  refine o_box hf hh ?_; clear hf hh a; intro B2 a w hf hh
  refine o_v hf hh (yv_assign rfl) ?_; clear hf a; intro a hf
  refine o_v hf hh (yv_assign rfl) ?_; clear hf a; intro a hf
  refine o_end ?_
  refine sy_seq ?_
  refine sy_block ?_
  refine sy_sq ?_
  refine o_v hf hh (y_lds Try.ag_29 rfl) ?_; clear hf a; intro a hf
  refine o_call hf Try.en_63 rfl rfl rfl (c42 d sa sb ca cb _ (hA.ext hh.ext) (hB.ext hh.ext)) ?_; clear hf a; intro v a w hR hf
  obtain ⟨rfl, hx⟩ := hR; replace hh := hh.more hx; clear hx
  refine o_v hf hh (yv_not rfl) ?_; clear hf a; intro a hf
  refine o_v hf hh (yv_assign rfl) ?_; clear hf a; intro a hf
  refine o_end ?_
  refine sy_cond hf rfl (fun hg2 => ?_) (fun hg2 => ?_)
  ·have hG2 := hg2; try simp only [gS] at hG2
   refine sy_sq ?_
   refine o_v hf hh (yv_assign rfl) ?_; clear hf a; intro a hf
   refine o_v hf hh (yv_assign rfl) ?_; clear hf a; intro a hf
   refine o_end ?_
   refine sy_ret ?_
   refine blk_r ?_
   refine then_r ?_
   refine ret_r hf rfl rfl ?_
   exact ⟨_, 1, [], rfl, .inr (.inl ⟨rfl, by simp_all⟩), hh.less (List.nil_sublist _)⟩
  ·have hG2 := hg2; try simp only [gS] at hG2
   refine sy_sq ?_
   refine o_v hf hh (yv_move rfl) ?_; clear hf a; intro a hf
   refine o_v hf hh (yv_not rfl) ?_; clear hf a; intro a hf
   refine o_v hf hh (yv_assign rfl) ?_; clear hf a; intro a hf
   refine o_end ?_
   refine sy_cond hf rfl (fun hg4 => ?_) (fun hg4 => ?_)
   ·have hG4 := hg4; try simp only [gS] at hG4
    refine sy_sq ?_
    refine o_v hf hh (yv_assign rfl) ?_; clear hf a; intro a hf
    refine o_v hf hh (yv_assign rfl) ?_; clear hf a; intro a hf
    refine o_end ?_
    refine sy_ret ?_
    refine blk_r ?_
    refine then_r ?_
    refine ret_r hf rfl rfl ?_
    exact ⟨_, 2, [], rfl, .inr (.inr (.inl ⟨rfl, by simp_all, by simp_all⟩)), hh.less (List.nil_sublist _)⟩
   ·have hG4 := hg4; try simp only [gS] at hG4
    refine sy_skip ?_
    refine blk_n ?_
    refine then_n ?_
    refine sy_seq ?_
    have hV : Valid d := (okRows_iff d).1 (by simp_all)
    refine sy_ops ?_
    refine o_v hf hh (y_lds Try.ag_29 rfl) ?_; clear hf a; intro a hf
    refine o_call hf Try.en_64 rfl rfl rfl (c44 d sa sb ca cb _ (hA.ext hh.ext) (hB.ext hh.ext) hV) ?_; clear hf a; intro v a w hR hf
    obtain ⟨Bo, cso, rfl, hRo, hx⟩ := hR; replace hh := hh.join hx; clear hx
    refine o_v hf hh (yv_assign rfl) ?_; clear hf a; intro a hf
    refine o_end ?_
    refine sy_seq ?_
    refine sy_sq ?_
    refine o_v hf hh (yv_move rfl) ?_; clear hf a; intro a hf
    refine o_call hf Try.en_98 rfl rfl rfl (c88 d sa sb ca cb (fitD d) Bo _ ⟨⟨cso, hh.at (i := 0) rfl, hRo⟩, hV.nl, hV.nr⟩ hV) ?_; clear hf a; intro v a w hR hf
    obtain ⟨rfl, hx⟩ := hR; replace hh := hh.more hx; clear hx
    refine o_v hf hh (yv_not rfl) ?_; clear hf a; intro a hf
    refine o_end ?_
    refine sy_cond hf rfl (fun hg7 => ?_) (fun hg7 => ?_)
    ·have hG7 := hg7; try simp only [gS] at hG7
     refine sy_sq ?_
     refine o_v hf hh (yv_assign rfl) ?_; clear hf a; intro a hf
     refine o_v hf hh (yv_assign rfl) ?_; clear hf a; intro a hf
     refine o_end ?_
     refine sy_ret ?_
     refine then_r ?_
     refine ret_r hf rfl rfl ?_
     exact ⟨_, 4, [], rfl, .inr (.inr (.inr ⟨rfl, by simp_all, by simp_all, by simp_all⟩)), hh.less (List.nil_sublist _)⟩
    ·have hG7 := hg7; try simp only [gS] at hG7
     refine sy_skip ?_
     refine then_n ?_
     refine sy_sq ?_
     refine o_v hf hh (yv_move rfl) ?_; clear hf a; intro a hf
     refine o_v hf hh (yv_assign rfl) ?_; clear hf a; intro a hf
     refine o_v hf hh (yv_assign rfl) ?_; clear hf a; intro a hf
     refine o_end ?_
     refine sy_ret ?_
     refine ret_r hf rfl rfl ?_
     exact ⟨_, 0, _, rfl, .inl ⟨rfl, by simp_all, by simp_all, by simp_all, Bo, cso, rfl, hRo, rfl⟩, hh.less (.cons_cons _ (List.nil_sublist _))⟩
end Go.Proofs.Ytidieepndphodaa
namespace Go.Proofs.Ytidieepndphodaa
open Go Go.Sy Go.MatM
theorem c49e (d : RowsD) (sa sb : Option Addr) (ca cb : Nat) (u : World) (hA : MkAt u sa d.l) (hB : MkAt u sb d.r) (ok : Bool) : Calls Try.prog 88 #[rowsV d sa sb ca cb, .bool ok] u (Ret fun v w' => ∃ p X, v = .tuple #[p, .int .i64 (opE d ok)] ∧ (opE d ok = 0 → ∃ B cs, p = ptr B 0 ∧ RowA d sa sb ca cb (fitD d) cs ∧ X = [(B, .cells cs 128)]) ∧ Hp u [] X w') :=
  Calls.ret_mono (c49 d sa sb ca cb u hA hB ok) fun v w' ⟨p, e, X, h1, h2, h3⟩ => by
    refine ⟨p, X, ?_, ?_, h3⟩
    · rw [h1]
      rcases h2 with ⟨rfl, a, b, c, _⟩ | ⟨rfl, a⟩ | ⟨rfl, a, b⟩ | ⟨rfl, a, b, c⟩
      · simp [opE, isD, a, b, c]
      · simp [opE, a]
      · simp [opE, a, b]
      · simp [opE, isD, a, b, c]
    · intro h
      obtain ⟨a, b, c⟩ := opE_zero.1 h
      rcases h2 with ⟨rfl, _, _, _, h4⟩ | ⟨rfl, a'⟩ | ⟨rfl, a', b'⟩ | ⟨rfl, a', b', c'⟩
      · exact h4
      · rw [a] at a'; cases a'
      · rw [b] at b'; cases b'
      · exact absurd (of_decide_eq_true c) c' 
theorem c15 (d : RowsD) (sa sb : Option Addr) (ca cb : Nat) (u : World) (hA : MkAt u sa d.l) (hB : MkAt u sb d.r) (l r : Int) (hl : -9223372036854775808 ≤ l ∧ l ≤ 9223372036854775807) (hr : -9223372036854775808 ≤ r ∧ r ≤ 9223372036854775807) : Calls Try.prog 67 #[rowsV d sa sb ca cb, .int .i64 l, .int .i64 r] u (Ret fun v w' => v = .tuple #[.bool (fitsV d l r), .int .i64 (fitsE d l r)] ∧ Ext [] u w') := by
  refine calls_of Try.func67 rfl rfl (fun a hf => ?_)
  have hh := Hp.init u []
  refine sy_sq ?_
  refine o_box hf hh ?_; clear hf hh a; intro B3 a w hf hh
  refine o_v hf hh (yv_assign rfl) ?_; clear hf a; intro a hf
  refine o_v hf hh (yv_assign rfl) ?_; clear hf a; intro a hf
  refine o_end ?_
  refine sy_seq ?_
  refine sy_block ?_
  refine sy_sq ?_
  refine o_v hf hh (y_lds Try.ag_29 rfl) ?_; clear hf a; intro a hf
  refine o_call hf Try.en_63 rfl rfl rfl (c42 d sa sb ca cb _ (hA.ext hh.ext) (hB.ext hh.ext)) ?_; clear hf a; intro v a w hR hf
  obtain ⟨rfl, hx⟩ := hR; replace hh := hh.more hx; clear hx
  refine o_v hf hh (yv_not rfl) ?_; clear hf a; intro a hf
  refine o_v hf hh (yv_assign rfl) ?_; clear hf a; intro a hf
  refine o_end ?_
  refine sy_cond hf rfl (fun hg2 => ?_) (fun hg2 => ?_)
  ·have hG2 := hg2; try simp only [gS] at hG2
   refine sy_sq ?_
   refine o_v hf hh (yv_assign rfl) ?_; clear hf a; intro a hf
   refine o_v hf hh (yv_assign rfl) ?_; clear hf a; intro a hf
   refine o_end ?_
   refine sy_ret ?_
   refine blk_r ?_
   refine then_r ?_
   refine ret_r hf rfl rfl ?_
   have hE : fitsE d l r = 1 := by unfold fitsE; rw [if_pos (by simp_all)]
   exact ⟨by simp [fitsV, hE, tup], hh.ext⟩
  ·have hG2 := hg2; try simp only [gS] at hG2
   refine sy_seq ?_
   have hok : okRows d = true := by simp_all
   have hV := (okRows_iff d).1 hok
   have hnl := hV.nl; have hnr := hV.nr
   refine sy_ops ?_
   refine o_v hf hh (yv_move rfl) ?_; clear hf a; intro a hf
   refine o_v hf hh (yv_fieldAddr Try.fo_29_0 rfl) ?_; clear hf a; intro a hf
   refine o_v hf hh (y_ld Try.sc_25 rfl) ?_; clear hf a; intro a hf
   refine o_v hf hh (yv_len Try.se_25 rfl) ?_; clear hf a; intro a hf
   refine o_v hf hh (y_sub rfl rfl) ?_; clear hf a; intro a hf
   refine o_call hf Try.en_78 rfl rfl rfl (c43 _ _ _ _) ?_; clear hf a; intro v a w hR hf
   obtain ⟨rfl, hx⟩ := hR; replace hh := hh.more hx; clear hx
   refine o_v hf hh (yv_not rfl) ?_; clear hf a; intro a hf
   refine o_v hf hh (yv_move rfl) ?_; clear hf a; intro a hf
   refine guard_split hf (t := 20) rfl (fun hg4 => ?_) (fun hg4 => ?_)
   ·have hG4 := hg4; try simp only [gS] at hG4
    refine o_off hf ?_; clear hf a; intro a hf
    refine o_off hf ?_; clear hf a; intro a hf
    refine o_off hf ?_; clear hf a; intro a hf
    refine o_off hf ?_; clear hf a; intro a hf
    refine o_off hf ?_; clear hf a; intro a hf
    refine o_off hf ?_; clear hf a; intro a hf
    refine o_off hf ?_; clear hf a; intro a hf
    refine o_v hf hh (y_pt rfl rfl) ?_; clear hf a; intro a hf
    refine o_v hf hh (yv_assign rfl) ?_; clear hf a; intro a hf
    refine o_end ?_
    refine c_t hf ?_
    refine sy_sq ?_
    refine o_v hf hh (yv_assign rfl) ?_; clear hf a; intro a hf
    refine o_v hf hh (yv_assign rfl) ?_; clear hf a; intro a hf
    refine o_end ?_
    refine sy_ret ?_
    refine blk_r ?_
    refine then_r ?_
    refine ret_r hf rfl rfl ?_
    first
      | (have hE : fitsE d l r = 2 := by unfold fitsE inB; rw [if_neg (by simp_all), if_pos (by first | (simp_all; done) | (simp_all; omega))]
         exact ⟨by simp [fitsV, hE, tup], hh.ext⟩)
      | exact ⟨by simp [fitsV, hE, tup], hh.ext⟩
   ·have hG4 := hg4; try simp only [gS] at hG4
    refine o_v hf hh (yv_move rfl) ?_; clear hf a; intro a hf
    refine o_v hf hh (yv_fieldAddr Try.fo_29_1 rfl) ?_; clear hf a; intro a hf
    refine o_v hf hh (y_ld Try.sc_25 rfl) ?_; clear hf a; intro a hf
    refine o_v hf hh (yv_len Try.se_25 rfl) ?_; clear hf a; intro a hf
    refine o_v hf hh (y_sub rfl rfl) ?_; clear hf a; intro a hf
    refine o_call hf Try.en_78 rfl rfl rfl (c43 _ _ _ _) ?_; clear hf a; intro v a w hR hf
    obtain ⟨rfl, hx⟩ := hR; replace hh := hh.more hx; clear hx
    refine o_v hf hh (yv_not rfl) ?_; clear hf a; intro a hf
    refine o_v hf hh (y_pf rfl rfl) ?_; clear hf a; intro a hf
    refine o_v hf hh (yv_assign rfl) ?_; clear hf a; intro a hf
    refine o_end ?_
    refine sy_cond hf rfl (fun hg6 => ?_) (fun hg6 => ?_)
    ·have hG6 := hg6; try simp only [gS] at hG6
     refine sy_sq ?_
     refine o_v hf hh (yv_assign rfl) ?_; clear hf a; intro a hf
     refine o_v hf hh (yv_assign rfl) ?_; clear hf a; intro a hf
     refine o_end ?_
     refine sy_ret ?_
     refine blk_r ?_
     refine then_r ?_
     refine ret_r hf rfl rfl ?_
     first
       | (have hE : fitsE d l r = 2 := by unfold fitsE inB; rw [if_neg (by simp_all), if_pos (by first | (simp_all; done) | (simp_all; omega))]
          exact ⟨by simp [fitsV, hE, tup], hh.ext⟩)
       | exact ⟨by simp [fitsV, hE, tup], hh.ext⟩
    ·have hG6 := hg6; try simp only [gS] at hG6
     refine sy_skip ?_
     refine blk_n ?_
     refine then_n ?_
     refine sy_seq ?_
     have hin : (inB l d.l.length && inB r d.r.length) = true := by unfold inB; simp_all
     have hE : fitsE d l r = 0 := by simp [fitsE, hok, hin]
     obtain ⟨x, y, rfl, rfl, hx, hy⟩ : ∃ x y : Nat, l = (x : Int) ∧ r = (y : Int) ∧ x < d.l.length ∧ y < d.r.length := by
       unfold inB at hin
       simp only [Bool.and_eq_true, decide_eq_true_eq] at hin
       exact ⟨l.toNat, r.toNat, by omega, by omega, by omega, by omega⟩
     refine sy_ops ?_
     refine o_v hf hh (y_lds Try.ag_29 rfl) ?_; clear hf a; intro a hf
     refine o_call hf Try.en_64 rfl rfl rfl (c44 d sa sb ca cb _ (hA.ext hh.ext) (hB.ext hh.ext) hV) ?_; clear hf a; intro v a w hR hf
     obtain ⟨Bo, cso, rfl, hRo, hx2⟩ := hR; replace hh := hh.join hx2; clear hx2
     have hft := hRo.fitA (i := x) (k := y) (by omega) (by omega)
     refine o_v hf hh (yv_move rfl) ?_; clear hf a; intro a hf
     refine o_v hf hh (yv_move rfl) ?_; clear hf a; intro a hf
     refine o_v hf hh (yv_nilCheck rfl) ?_; clear hf a; intro a hf
     refine o_v hf hh (yv_fieldAddr Try.fo_128_1 rfl) ?_; clear hf a; intro a hf
     refine o_v hf hh (y_ia Try.ae_126 rfl rfl) ?_; clear hf a; intro a hf
     refine o_v hf hh (y_ia Try.ae_125 rfl rfl) ?_; clear hf a; intro a hf
     refine o_v hf hh (y_ld Try.sc_4 rfl) ?_; clear hf a; intro a hf
     refine o_v hf hh (yv_assign rfl) ?_; clear hf a; intro a hf
     refine o_v hf hh (yv_assign rfl) ?_; clear hf a; intro a hf
     refine o_end ?_
     refine sy_ret ?_
     refine ret_r hf rfl rfl ?_
     first
       | (have hE : fitsE d l r = 2 := by unfold fitsE inB; rw [if_neg (by simp_all), if_pos (by first | (simp_all; done) | (simp_all; omega))]
          exact ⟨by simp [fitsV, hE, tup], hh.ext⟩)
       | exact ⟨by simp [fitsV, hE, tup], hh.ext⟩
theorem c17 (d : RowsD) (sa sb : Option Addr) (ca cb : Nat) (u : World) (hA : MkAt u sa d.l) (hB : MkAt u sb d.r) : Calls Try.prog 31 #[rowsV d sa sb ca cb] u (Ret fun v w' => v = .tuple #[.int .i64 (countV d), .int .i64 (countE d)] ∧ Ext [] u w') := by
  refine calls_of Try.func31 rfl rfl (fun a hf => ?_)
  have hh := Hp.init u []
  refine sy_sq ?_
  refine o_box hf hh ?_; clear hf hh a; intro B1 a w hf hh
  refine o_v hf hh (yv_assign rfl) ?_; clear hf a; intro a hf
  refine o_v hf hh (yv_assign rfl) ?_; clear hf a; intro a hf
  refine o_end ?_
  refine sy_seq ?_
  refine sy_sq ?_
  refine o_v hf hh (y_lds Try.ag_29 rfl) ?_; clear hf a; intro a hf
  refine o_call hf Try.en_63 rfl rfl rfl (c42 d sa sb ca cb _ (hA.ext hh.ext) (hB.ext hh.ext)) ?_; clear hf a; intro v a w hR hf
  obtain ⟨rfl, hx⟩ := hR; replace hh := hh.more hx; clear hx
  refine o_v hf hh (yv_not rfl) ?_; clear hf a; intro a hf
  refine o_end ?_
  refine sy_cond hf rfl (fun hg2 => ?_) (fun hg2 => ?_)
  ·have hG2 := hg2; try simp only [gS] at hG2
   refine sy_sq ?_
   refine o_v hf hh (yv_assign rfl) ?_; clear hf a; intro a hf
   refine o_v hf hh (yv_assign rfl) ?_; clear hf a; intro a hf
   refine o_end ?_
   refine sy_ret ?_
   refine then_r ?_
   refine ret_r hf rfl rfl ?_
   have hok : okRows d = false := by simp_all
   exact ⟨by simp [tup, countV, countE, hok], hh.ext⟩
  ·have hG2 := hg2; try simp only [gS] at hG2
   refine sy_skip ?_
   refine then_n ?_
   refine sy_seq ?_
   have hok : okRows d = true := by simp_all
   have hV := (okRows_iff d).1 hok
   refine sy_ops ?_
   refine o_v hf hh (y_lds Try.ag_29 rfl) ?_; clear hf a; intro a hf
   refine o_call hf Try.en_64 rfl rfl rfl (c44 d sa sb ca cb _ (hA.ext hh.ext) (hB.ext hh.ext) hV) ?_; clear hf a; intro v a w hR hf
   obtain ⟨Bo, cso, rfl, hRo, hx2⟩ := hR; replace hh := hh.join hx2; clear hx2
   refine o_call hf Try.en_65 rfl rfl rfl (c47 d sa sb ca cb (fitD d) Bo _ ⟨⟨cso, hh.at (i := 0) rfl, hRo⟩, hV.nl, hV.nr⟩ hV) ?_; clear hf a; intro v a w hR hf
   obtain ⟨rfl, hx⟩ := hR; replace hh := hh.more hx; clear hx
   refine o_v hf hh (yv_assign rfl) ?_; clear hf a; intro a hf
   refine o_v hf hh (yv_assign rfl) ?_; clear hf a; intro a hf
   refine o_end ?_
   refine sy_ret ?_
   refine ret_r hf rfl rfl ?_
   exact ⟨by simp [tup, countV, countE, hok], hh.ext⟩
end Go.Proofs.Ytidieepndphodaa
namespace Go.Proofs.Ytidieepndphodaa
open Go Go.Sy Go.MatM
end Go.Proofs.Ytidieepndphodaa
namespace Go.Proofs.Ytidieepndphodaa
open Go Go.Sy Go.MatM
theorem OwnSl_val {e size m : Nat} {v : Value} {xs : List Value} {X : List (Nat × Obj)} (h : OwnSl e size v m xs X) : ∃ oa cap, v = .slice oa m cap := by
  rcases h.2 with ⟨h1, h2, _⟩ | ⟨B, cap, cur, h1, _⟩
  · exact ⟨none, 0, by rw [h1, h2]⟩
  · exact ⟨_, _, h1⟩
structure FewS where
  (n i k B8 B9 : Nat)
  done : List Pr
  v : Value
  X : List (Nat × Obj)
  Ds : List Nat
theorem grd_at {F : Nat → Nat → Bool} {L R i k n j : Nat} {p : Pr} (hp : (prs F L R i k)[j]? = some p) (h1 : 1 + mos F L R (p.1 + 1) (p.2 + 1) = n + 1) (hno : ∀ j2, j2 < j → ∀ q, (prs F L R i k)[j2]? = some q → ¬ 1 + mos F L R (q.1 + 1) (q.2 + 1) = n + 1) :
    grd F L R (n + 1) i k = p :: grd F L R n (p.1 + 1) (p.2 + 1) := by
  have e : (prs F L R i k).find? (fun p => decide (1 + mos F L R (p.1 + 1) (p.2 + 1) = n + 1)) = some p := by
    rw [List.find?_eq_some_iff_getElem]
    obtain ⟨hj, he⟩ := List.getElem?_eq_some_iff.1 hp
    refine ⟨decide_eq_true h1, j, hj, he, fun j2 hj2 => ?_⟩
    have := hno j2 hj2 _ (List.getElem?_eq_getElem (by omega))
    simp [this]
  simp only [grd, e]
theorem c19 (d : RowsD) (sa sb : Option Addr) (ca cb : Nat) (u : World) (hA : MkAt u sa d.l) (hB : MkAt u sb d.r) : Calls Try.prog 69 #[rowsV d sa sb ca cb] u (Ret fun v w' => ∃ sv X, v = .tuple #[sv, .int .i64 (fewH d), .int .i64 (opE d true)] ∧ OwnSl 42 2 sv (fewL d).length (encP (fewL d)) X ∧ Hp u [] X w') := by
  refine calls_ofM Try.func69 rfl rfl (fun a hf => ?_)
  have hh := Hp.init u []
  refine sy_sq ?_
  refine o_box hf hh ?_; clear hf hh a; intro B1 a w hf hh
  refine o_alloc hf hh Try.ze_111 ?_; clear hf hh a; intro B2 a w hf hh
  refine o_v hf hh (yv_assign rfl) ?_; clear hf a; intro a hf
  refine o_v hf hh (yv_assign rfl) ?_; clear hf a; intro a hf
  refine o_end ?_
  refine sy_sq ?_
  refine o_v hf hh (y_lds Try.ag_29 rfl) ?_; clear hf a; intro a hf
  refine o_call hf Try.en_88 rfl rfl rfl (c49e d sa sb ca cb _ (hA.ext hh.ext) (hB.ext hh.ext) true) ?_; clear hf a; intro v a w hR hf
  obtain ⟨p, Xp, rfl, hp0, hx⟩ := hR; replace hh := hh.join hx; clear hx
  refine o_v hf hh (yv_move rfl) ?_; clear hf a; intro a hf
  refine o_v hf hh (yv_extract rfl rfl) ?_; clear hf a; intro a hf
  refine o_v hf hh (yv_extract rfl rfl) ?_; clear hf a; intro a hf
  refine o_v hf hh (yv_assign rfl) ?_; clear hf a; intro a hf
  refine o_v hf hh (yv_assign rfl) ?_; clear hf a; intro a hf
  refine o_end ?_
  refine sy_seq ?_
  refine sy_sq ?_
  refine o_v hf hh (yv_move rfl) ?_; clear hf a; intro a hf
  refine o_v hf hh (yv_bin rfl rfl rfl) ?_; clear hf a; intro a hf
  refine o_end ?_
  refine sy_cond hf rfl (fun hg5 => ?_) (fun hg5 => ?_)
  ·have hG5 := hg5; try simp only [gS] at hG5
   refine sy_seq ?_
   replace hh := hh.less (List.sublist_append_right Xp _)
   refine sy_ops ?_
   refine o_v hf hh (yv_move rfl) ?_; clear hf a; intro a hf
   refine o_store hf hh Try.sz_111 fun w hh => ?_
   refine o_v hf hh (yv_assign rfl) ?_; clear hf a; intro a hf
   refine o_v hf hh (yv_assign rfl) ?_; clear hf a; intro a hf
   refine o_end ?_
   refine sy_ret ?_
   refine then_r ?_
   have hne : ¬ opE d true = 0 := by simp_all
   have eL : fewL d = [] := by unfold fewL; rw [if_neg hne]
   have eH : fewH d = 0 := by unfold fewH; rw [if_neg hne]
   rw [eL, eH]
   exact ret_m (Ds := []) hf hh fun w' hh => ⟨[.slice none 0 0, .int .i64 0, .int .i64 (opE d true)], ⟨⟨B2, 0, _, _, _, rfl, hh.at (i := 0) rfl, .inl ⟨Try.sc_111, rfl⟩⟩, rfl, rfl, True.intro⟩, _, [], rfl, OwnSl.nil _ _, hh.less (List.nil_sublist _)⟩
  ·have hG5 := hg5; try simp only [gS] at hG5
   refine sy_skip ?_
   refine then_n ?_
   refine sy_seq ?_
   have hop : opE d true = 0 := by simp_all
   obtain ⟨Bo, cso, rfl, hRo, rfl⟩ := hp0 hop
   obtain ⟨hok, _, his⟩ := opE_zero.1 hop
   have hV := (okRows_iff d).1 hok
   have hnl := hV.nl; have hnr := hV.nr
   clear hp0
   obtain ⟨cg, hcg⟩ : ∃ cg, cg = gridV 11 11 (mosG (fitD d) d.l.length d.r.length) := ⟨_, rfl⟩
   have hG : Grid 11 11 (mosG (fitD d) d.l.length d.r.length) cg := hcg ▸ gridV_grid 11 11 _
   have hml := mos_le (fitD d) d.l.length d.r.length 0 0
   have hz := hG.size
   refine sy_ops ?_
   refine o_v hf hh (yv_move rfl) ?_; clear hf a; intro a hf
   refine o_call hf Try.en_89 rfl rfl rfl (c50 d sa sb ca cb (fitD d) Bo _ ⟨⟨cso, hh.get (Bo, .cells cso 128) (by simp), hRo⟩, hnl, hnr⟩) ?_; clear hf a; intro v a w hR hf
   rw [← hcg] at hR
   obtain ⟨rfl, hx⟩ := hR; replace hh := hh.more hx; clear hx
   refine o_alloc hf hh Try.ze_148 ?_; clear hf hh a; intro B6 a w hf hh
   refine o_store hf hh Try.sz_148 (hx := rfl) (hi := atI (i := 0) rfl) (hy := rfl) (hv := hG.size) (h1 := hG.one) fun w hh => ?_
   replace hh : Hp u [] [(B6, .cells cg 148), (Bo, .cells cso 128), (B2, .cells #[.slice none 0 0] 111), (B1, .cells (rowsV d sa sb ca cb).cells 29)] w := by
    have e : ∀ z : Array Value, z.size = 121 → spl z 0 cg.toList = cg := fun z hz2 => spl_all (by rw [hz2, hz])
    have h2 := hh
    simp only [List.set_cons_zero] at h2
    rw [show (Value.agg cg).cells.toList = cg.toList from rfl, e _ rfl] at h2
    exact h2
   refine o_end ?_
   refine sy_seq ?_
   have g0 := grid11 hG (i := 0) (k := 0) (by omega) (by omega)
   have g00 : cg[0 + (0 : Int).toNat * 11 + (0 : Int).toNat * 1]? = some (.int .i64 (mosD d)) := g0
   refine sy_ops ?_
   refine o_v hf hh (y_ia Try.ae_148 rfl rfl) ?_; clear hf a; intro a hf
   refine o_v hf hh (y_ia Try.ae_147 rfl rfl) ?_; clear hf a; intro a hf
   refine o_v hf hh (y_ld Try.sc_3 rfl) ?_; clear hf a; intro a hf
   refine o_alloc hf hh Try.ze_3 ?_; clear hf hh a; intro B7 a w hf hh
   refine o_store hf hh Try.sz_3 fun w hh => ?_
   refine o_end ?_
   refine sy_seq ?_
   have hmd : mosD d ≤ d.l.length - 0 ∧ mosD d ≤ d.r.length - 0 := hml
   refine sy_ops ?_
   refine o_v hf hh (yv_fieldAddr Try.fo_29_0 rfl) ?_; clear hf a; intro a hf
   refine o_v hf hh (y_ld Try.sc_25 rfl) ?_; clear hf a; intro a hf
   refine o_v hf hh (yv_len Try.se_25 rfl) ?_; clear hf a; intro a hf
   refine o_v hf hh (yv_fieldAddr Try.fo_29_1 rfl) ?_; clear hf a; intro a hf
   refine o_v hf hh (y_ld Try.sc_25 rfl) ?_; clear hf a; intro a hf
   refine o_v hf hh (yv_len Try.se_25 rfl) ?_; clear hf a; intro a hf
   refine o_v hf hh (y_add rfl rfl) ?_; clear hf a; intro a hf
   refine o_v hf hh (y_ld Try.sc_3 rfl) ?_; clear hf a; intro a hf
   refine o_v hf hh (y_mul rfl rfl) ?_; clear hf a; intro a hf
   refine o_v hf hh (y_sub rfl rfl) ?_; clear hf a; intro a hf
   refine o_v hf hh (yv_assign rfl) ?_; clear hf a; intro a hf
   refine o_end ?_
   refine sy_seq ?_
   refine sy_sq ?_
   refine o_alloc hf hh Try.ze_3 ?_; clear hf hh a; intro B8 a w hf hh
   refine o_alloc hf hh Try.ze_3 ?_; clear hf hh a; intro B9 a w hf hh
   refine o_store hf hh Try.sz_3 fun w hh => ?_
   refine o_store hf hh Try.sz_3 fun w hh => ?_
   refine o_end ?_
   refine sy_block ?_
   refine sy_loopM (σ := FewS) [8, 9, 34, 35, 36, 37, 38, 39, 40, 41, 65, 66] (fun s => mkd (s.Ds)) (fun s => [(8, ptr s.B8 0), (9, ptr s.B9 0)]) (fun s => fun w => mos (fitD d) d.l.length d.r.length s.i s.k = s.n ∧ s.i ≤ 10 ∧ s.k ≤ 10 ∧ s.n ≤ 10 ∧ s.done.length ≤ 10 - s.n ∧ grd (fitD d) d.l.length d.r.length (mosD d) 0 0 = s.done ++ grd (fitD d) d.l.length d.r.length s.n s.i s.k ∧ OwnSl 42 2 s.v s.done.length (encP s.done) s.X ∧ Hp u [] ([(s.B9, .cells #[.int .i64 s.k] 3), (s.B8, .cells #[.int .i64 s.i] 3), (B7, .cells #[.int .i64 s.n] 3), (B6, .cells cg 148), (Bo, .cells cso 128), (B2, .cells #[s.v] 111), (B1, .cells (rowsV d sa sb ca cb).cells 29)] ++ (s.X ++ dls s.Ds)) w) (fun s => s.n) (⟨mosD d, 0, 0, B8, B9, [], .slice none 0 0, [], []⟩) hf rfl ?_ ?_ ?_
   · repeat' (first | exact True.intro | refine And.intro rfl ?_)
   · exact ⟨rfl, Nat.zero_le _, Nat.zero_le _, by simp only; omega, by simp, rfl, OwnSl.nil _ _, hh⟩
   ·rintro s a w ⟨hms, hi10, hk10, hn10, hdl, hgr, hown, hh⟩ hf
    refine sy_seq ?_
    refine sy_sq ?_
    refine o_v hf hh (y_ld Try.sc_3 rfl) ?_; clear hf a; intro a hf
    refine o_v hf hh (yv_bin rfl rfl rfl) ?_; clear hf a; intro a hf
    refine o_end ?_
    refine sy_cond hf rfl (fun hg8 => ?_) (fun hg8 => ?_)
    ·have hG8 := hg8; try simp only [gS] at hG8
     refine sy_skip ?_
     refine then_n ?_
     refine sy_seq ?_
     refine sy_block ?_
     refine sy_scope ?_
     refine sy_seq ?_
     refine sy_label ?_
     refine then_n ?_
     refine sy_seq ?_
     obtain ⟨n, hn⟩ : ∃ n, s.n = n + 1 := ⟨s.n - 1, by omega⟩
     refine sy_ops ?_
     refine o_v hf hh (yv_move rfl) ?_; clear hf a; intro a hf
     refine o_v hf hh (y_ld Try.sc_3 rfl) ?_; clear hf a; intro a hf
     refine o_v hf hh (y_ld Try.sc_3 rfl) ?_; clear hf a; intro a hf
     refine o_call hf Try.en_86 rfl rfl rfl (c51 Bo s.i s.k _) ?_; clear hf a; intro v a w hR hf
     obtain ⟨Ba, Bi, Bk, rfl, hx⟩ := hR; replace hh := hh.join hx; clear hx
     refine o_end ?_
     refine sy_block ?_
     refine sy_range (I := fun j H => (∀ j2, j2 < j → ∀ q, (prs (fitD d) d.l.length d.r.length s.i s.k)[j2]? = some q → ¬ 1 + mos (fitD d) d.l.length d.r.length (q.1 + 1) (q.2 + 1) = s.n) ∧ H = [(Bk, .cells #[.int .i64 s.k] 3), (Bi, .cells #[.int .i64 s.i] 3), (Ba, .cells #[ptr Bo 0] 100)] ++ ([(s.B9, .cells #[.int .i64 s.k] 3), (s.B8, .cells #[.int .i64 s.i] 3), (B7, .cells #[.int .i64 s.n] 3), (B6, .cells cg 148), (Bo, .cells cso 128), (B2, .cells #[s.v] 111), (B1, .cells (rowsV d sa sb ca cb).cells 29)] ++ (s.X ++ dls s.Ds))) (X := fun j c H => c = .exit 2 ∧ ∃ p v2 X2, (prs (fitD d) d.l.length d.r.length s.i s.k)[j]? = some p ∧ 1 + mos (fitD d) d.l.length d.r.length (p.1 + 1) (p.2 + 1) = s.n ∧ (∀ j2, j2 < j → ∀ q, (prs (fitD d) d.l.length d.r.length s.i s.k)[j2]? = some q → ¬ 1 + mos (fitD d) d.l.length d.r.length (q.1 + 1) (q.2 + 1) = s.n) ∧ OwnSl 42 2 v2 (s.done.length + 1) (encP s.done ++ [.int .i64 p.1, .int .i64 p.2]) X2 ∧ H = [(Bk, .cells #[.int .i64 s.k] 3), (Bi, .cells #[.int .i64 s.i] 3), (Ba, .cells #[ptr Bo 0] 100)] ++ ([(s.B9, .cells #[.int .i64 ((p.2 + 1 : Nat) : Int)] 3), (s.B8, .cells #[.int .i64 ((p.1 + 1 : Nat) : Int)] 3), (B7, .cells #[.int .i64 s.n] 3), (B6, .cells cg 148), (Bo, .cells cso 128), (B2, .cells #[v2] 111), (B1, .cells (rowsV d sa sb ca cb).cells 29)] ++ (X2 ++ dls s.Ds))) hf hh Try.en_95 rfl (it89 d sa sb ca cb (fitD d) Bo s.i s.k Ba Bi Bk) rfl (by intro x hx; obtain ⟨y, _, rfl⟩ := List.mem_map.1 hx; rfl) ?_ ?_ ?_ ?_ ?_
     · exact ⟨fun j2 h => absurd h (Nat.not_lt_zero _), rfl⟩
     · rintro _ _ l D o w ⟨_, rfl⟩ h
       exact ⟨h.at (i := 4) rfl, h.at (i := 3) rfl, h.at (i := 2) rfl, ⟨cso, h.at (i := 9) rfl, hRo⟩, hnl, hnr⟩
     ·rintro j x fn D l H w a tm hx ⟨hno, rfl⟩ hh hf
      obtain ⟨p, hp, rfl⟩ : ∃ p, (prs (fitD d) d.l.length d.r.length s.i s.k)[j]? = some p ∧ x = tp p := by
        rw [List.getElem?_map] at hx
        cases e : (prs (fitD d) d.l.length d.r.length s.i s.k)[j]? with
        | none => rw [e] at hx; cases hx
        | some p => rw [e] at hx; cases hx; exact ⟨p, rfl, rfl⟩
      refine sy_ops ?_
      refine o_alloc hf hh Try.ze_42 ?_; clear hf hh a; intro B10 a w hf hh
      refine o_store hf hh Try.sz_42 fun w hh => ?_
      refine ops_end ?_
      refine then_n (Go.Sy.begun (i := 1) hh rfl fun w hh => ?_)
      refine sy_block ?_
      refine sy_seq ?_
      have hpb := mem_prs.1 (List.mem_of_getElem? hp)
      have gp := grid11 hG (i := p.1 + 1) (k := p.2 + 1) (by omega) (by omega)
      have hpl := mos_le (fitD d) d.l.length d.r.length (p.1 + 1) (p.2 + 1)
      have gp2 : cg[0 + ((p.1 + 1 : Nat) : Int).toNat * 11 + ((p.2 + 1 : Nat) : Int).toNat * 1]? = some (.int .i64 ((mos (fitD d) d.l.length d.r.length (p.1 + 1) (p.2 + 1) : Nat) : Int)) := gp
      refine sy_quiet (C := Hp _ _ _) Try.follows (by kernel_rfl) (hh.drawn _) ?_
      refine oq_v hf (y_ia Try.ae_42 rfl rfl) ?_; clear hf a; intro a hf
      refine oq_v hf (y_ld Try.sc_3 rfl) ?_; clear hf a; intro a hf
      refine q_v hf (yv_cast (yv_add rfl rfl (by omega) (by omega)) (intv (b := ((p.1 + 1 : Nat) : Int)) (by omega))) (.inl rfl) rfl rfl ?_; clear hf a; intro a hf
      refine oq_v hf (y_ia Try.ae_42 rfl rfl) ?_; clear hf a; intro a hf
      refine oq_v hf (y_ld Try.sc_3 rfl) ?_; clear hf a; intro a hf
      refine q_v hf (yv_cast (yv_add rfl rfl (by omega) (by omega)) (intv (b := ((p.2 + 1 : Nat) : Int)) (by omega))) (.inl rfl) rfl rfl ?_; clear hf a; intro a hf
      refine oq_v hf (y_ia Try.ae_148 rfl rfl) ?_; clear hf a; intro a hf
      refine oq_v hf (y_ia Try.ae_147 rfl rfl) ?_; clear hf a; intro a hf
      refine oq_v hf (y_ld Try.sc_3 rfl) ?_; clear hf a; intro a hf
      refine oq_v hf (y_add rfl rfl) ?_; clear hf a; intro a hf
      refine oq_v hf (y_ld Try.sc_3 rfl) ?_; clear hf a; intro a hf
      refine oq_v hf (yv_bin rfl rfl rfl) ?_; clear hf a; intro a hf
      refine q_end fun w hh => ?_
      refine then_n ?_
      refine sy_cond hf rfl (fun hg14 => ?_) (fun hg14 => ?_)
      ·have hG14 := hg14; try simp only [gS] at hG14
       refine sy_seq ?_
       refine sy_treeC (.q 0 0 (.q 0 1 (.p 4 (.q 1 5 (.p 6 (.p 7 (.q 1 8 (.p 9 (.e1 2 (.e1 3 (.e1 10 (.e1 11 (.e1 12 (.fin)))))))))))))) [[10, 11, 12], []] [(AtE u [] [(B10, .cells #[.int .i64 p.1, .int .i64 p.2] 42), (B2, .cells #[s.v] 111)], [10, 11, 12]), (AtE u [] [(B10, .cells #[.int .i64 p.1, .int .i64 p.2] 42)], [])] Try.follows (by kernel_rfl) rfl hh (fun w hh => ?_)
       refine mc_q rfl rfl (by first | exact AtE.mk2 hh.ext (hh.at (i := 0) rfl) (hh.at (i := 11) rfl) | exact AtE.mk2 hh.ext (hh.at (i := 1) rfl) (hh.at (i := 12) rfl)) hf (y_ld Try.sc_111 rfl) (.inl rfl) rfl rfl ?_; clear hf a; intro a hf
       refine mc_q rfl rfl (by first | exact AtE.mk2 hh.ext (hh.at (i := 0) rfl) (hh.at (i := 11) rfl) | exact AtE.mk2 hh.ext (hh.at (i := 1) rfl) (hh.at (i := 12) rfl)) hf (y_lds Try.ag_42 rfl) (.inl rfl) rfl rfl ?_; clear hf a; intro a hf
       refine mc_p rfl   hf (y_ia Try.ae_42 rfl rfl) (.inl rfl) rfl rfl ?_; clear hf a; intro a hf
       refine mc_q rfl rfl (by first | exact AtE.mk1 hh.ext (hh.at (i := 0) rfl) | exact AtE.mk1 hh.ext (hh.at (i := 1) rfl)) hf (y_ld Try.sc_3 rfl) (.inl rfl) rfl rfl ?_; clear hf a; intro a hf
       refine mc_p rfl   hf (yv_cast (yv_add rfl rfl (by omega) (by omega)) (intv (b := ((p.1 + 1 : Nat) : Int)) (by omega))) (.inl rfl) rfl rfl ?_; clear hf a; intro a hf
       refine mc_p rfl   hf (y_ia Try.ae_42 rfl rfl) (.inl rfl) rfl rfl ?_; clear hf a; intro a hf
       refine mc_q rfl rfl (by first | exact AtE.mk1 hh.ext (hh.at (i := 0) rfl) | exact AtE.mk1 hh.ext (hh.at (i := 1) rfl)) hf (y_ld Try.sc_3 rfl) (.inl rfl) rfl rfl ?_; clear hf a; intro a hf
       refine mc_p rfl   hf (yv_cast (yv_add rfl rfl (by omega) (by omega)) (intv (b := ((p.2 + 1 : Nat) : Int)) (by omega))) (.inl rfl) rfl rfl ?_; clear hf a; intro a hf
       refine mc_e rfl fun Q1 => ?_
       refine ops_buildSl hf hh Try.bl_111_1 rfl rfl (.inl rfl) rfl ?_; clear hf hh; clear a; intro B57 a w hf hh
       refine ops_end ?_
       refine then_n ⟨⟨fun _ _ => (by first | exact AtE.mk2 hh.ext (hh.at (i := 0) rfl) (hh.at (i := 11) rfl) | exact AtE.mk2 hh.ext (hh.at (i := 1) rfl) (hh.at (i := 12) rfl)), fun _ _ => (by first | exact AtE.mk1 hh.ext (hh.at (i := 0) rfl) | exact AtE.mk1 hh.ext (hh.at (i := 1) rfl)), trivial⟩, ?_⟩
       refine mc_e rfl fun Q1 => ?_
       replace hh := hh.perm (List.Perm.cons _ (List.perm_append_comm_assoc [_, _, _, _, _, _, _, _, _, _, _, _, _] s.X (dls s.Ds)))
       refine ops_append (e := 42) (size := 2) (xs := encP s.done) hf hh Try.eb_111 rfl rfl hown rfl rfl rfl (by simp only [maxLen]; omega) (by omega) (.inl rfl) rfl ?_; clear hf hh a; intro v2 X2 a w hown2 hf hh
       replace hh := hh.perm (List.perm_append_comm_assoc X2 [_, _, _, _, _, _, _, _, _, _, _, _, _] (dls s.Ds))
       obtain ⟨oa2, cap2, rfl⟩ := OwnSl_val hown2
       refine ops_end ?_
       refine then_n ⟨⟨fun _ _ => (by first | exact AtE.mk2 hh.ext (hh.at (i := 0) rfl) (hh.at (i := 11) rfl) | exact AtE.mk2 hh.ext (hh.at (i := 1) rfl) (hh.at (i := 12) rfl)), fun _ _ => (by first | exact AtE.mk1 hh.ext (hh.at (i := 0) rfl) | exact AtE.mk1 hh.ext (hh.at (i := 1) rfl)), trivial⟩, ?_⟩
       refine mc_e rfl fun Q1 => ?_
       refine o_store hf hh Try.sz_111 fun w hh => ?_
       refine ops_end ?_
       refine then_n ⟨⟨fun h => Bool.noConfusion (show true = false from h), fun _ _ => (by first | exact AtE.mk1 hh.ext (hh.at (i := 0) rfl) | exact AtE.mk1 hh.ext (hh.at (i := 1) rfl)), trivial⟩, ?_⟩
       refine mc_e rfl fun Q1 => ?_
       refine o_store hf hh Try.sz_3 fun w hh => ?_
       refine ops_end ?_
       refine then_n ⟨⟨fun h => Bool.noConfusion (show true = false from h), fun _ _ => (by first | exact AtE.mk1 hh.ext (hh.at (i := 0) rfl) | exact AtE.mk1 hh.ext (hh.at (i := 1) rfl)), trivial⟩, ?_⟩
       refine mc_e rfl fun Q1 => ?_
       refine o_store hf hh Try.sz_3 fun w hh => ?_
       refine ops_end ?_
       refine then_n ⟨⟨fun h => Bool.noConfusion (show true = false from h), fun _ _ => (by first | exact AtE.mk1 hh.ext (hh.at (i := 0) rfl) | exact AtE.mk1 hh.ext (hh.at (i := 1) rfl)), trivial⟩, ?_⟩
       refine mc_end ?_
       refine then_n ?_
       refine sy_exit ?_
       refine blk_x rfl ?_
       exact ⟨_, ⟨rfl, p, _, X2, hp, by omega, hno, hown2, rfl⟩, (hh.less (.cons _ (List.Sublist.refl _)))⟩
      ·have hG14 := hg14; try simp only [gS] at hG14
       refine sy_skip ?_
       refine blk_n ?_
       exact ⟨_, ⟨fun j2 h2 q hq => by
         rcases Nat.lt_or_ge j2 j with h3 | h3
         · exact hno j2 h3 q hq
         · have h4 : j2 = j := by omega
           subst h4; rw [hp] at hq; cases hq; omega, rfl⟩, (hh.less (.cons _ (List.Sublist.refl _)))⟩
     ·rintro D H a w ⟨hno, rfl⟩ hf hh
      exfalso
      rw [List.length_map] at hno
      obtain ⟨p, h1, h2, h3, _⟩ := grd_find (hms.trans hn)
      obtain ⟨j2, hj2, hjp⟩ := List.getElem_of_mem h3
      exact hno j2 hj2 p (by rw [List.getElem?_eq_getElem hj2, hjp]) (by omega)
     ·rintro j c D H a w hX hf hh
      obtain ⟨rfl, p, v2, X2, hp, hpm, hno, hown2, rfl⟩ := hX
      have hpb := mem_prs.1 (List.mem_of_getElem? hp)
      refine sy_exit ?_
      refine blk_e ?_
      refine ng_n ?_
      refine blk_n ?_
      refine then_n ?_
      refine sy_seq ?_
      refine sy_sq ?_
      refine o_v hf hh (y_ld Try.sc_3 rfl) ?_; clear hf a; intro a hf
      refine o_v hf hh (y_ld Try.sc_3 rfl) ?_; clear hf a; intro a hf
      refine o_end ?_
      refine sy_ops ?_
      refine o_alloc hf hh Try.ze_3 ?_; clear hf hh a; intro B8 a w hf hh
      refine o_store hf hh Try.sz_3 fun w hh => ?_
      refine o_alloc hf hh Try.ze_3 ?_; clear hf hh a; intro B9 a w hf hh
      refine o_store hf hh Try.sz_3 fun w hh => ?_
      refine o_end ?_
      refine sy_ops ?_
      refine o_v hf hh (y_ld Try.sc_3 rfl) ?_; clear hf a; intro a hf
      refine ops_v hf hh (yv_cast (yv_sub rfl rfl (by omega) (by omega)) (intv (b := ((n : Nat) : Int)) (by omega))) (.inl rfl) rfl rfl rfl ?_; clear hf a; intro a hf
      refine o_store hf hh Try.sz_3 fun w hh => ?_
      refine ops_end ?_
      refine then_n ?_
      refine ⟨⟨n, p.1 + 1, p.2 + 1, B8, B9, s.done ++ [p], v2, X2, D :: s.Ds⟩, ⟨⟨by simp only; omega, by simp only; omega, by simp only; omega, by simp only; omega, by simp only [List.length_append, List.length_singleton]; omega, ?_, ?_, ?_⟩, hf.head ⟨rfl, rfl, True.intro⟩ (Keep.cons rfl (Keep.cons rfl (Keep.cons rfl (Keep.cons rfl (Keep.cons rfl (Keep.cons rfl (Keep.cons rfl (Keep.cons rfl (Keep.cons rfl (Keep.cons rfl (Keep.cons rfl (Keep.cons rfl (Keep.app rfl (Keep.rm rfl Keep.base))))))))))))))⟩, by simp only; omega⟩
      · rw [hgr, hn, grd_at hp (by omega) (fun j2 h2 q hq => by rw [← hn]; exact hno j2 h2 q hq)]; simp
      · simp only [List.length_append, List.length_singleton, encP_snoc]; exact hown2
      · have h1 := (hh.less (.cons_cons _ (.cons_cons _ (.cons_cons _ (.cons _ (.cons _ (.cons _ (.cons _ (.cons _ (.refl _))))))))))
        have h2 : Hp u [] ((D, .deferred (some [])) :: (([(B9, .cells #[.int .i64 ((p.2 + 1 : Nat) : Int)] 3), (B8, .cells #[.int .i64 ((p.1 + 1 : Nat) : Int)] 3), (B7, .cells #[.int .i64 n] 3), (B6, .cells cg 148), (Bo, .cells cso 128), (B2, .cells #[v2] 111), (B1, .cells (rowsV d sa sb ca cb).cells 29)] ++ X2) ++ dls s.Ds)) w := by rw [List.append_assoc]; exact h1.perm (List.perm_middle (l₁ := [_, _]))
        have h3 := Hp.mark h2
        rw [List.append_assoc] at h3
        exact h3
    ·have hG8 := hg8; try simp only [gS] at hG8
     refine sy_exit ?_
     refine then_e ?_
     refine then_e ?_
     refine blk_e ?_
     refine then_n ?_
     refine sy_seq ?_
     obtain ⟨oa, cp, hv⟩ := OwnSl_val hown
     rw [hv] at hh hown
     refine sy_ops ?_
     refine o_v hf hh (y_ld Try.sc_111 rfl) ?_; clear hf a; intro a hf
     refine o_v hf hh (yv_move rfl) ?_; clear hf a; intro a hf
     refine o_store hf hh Try.sz_111 fun w hh => ?_
     refine o_v hf hh (yv_assign rfl) ?_; clear hf a; intro a hf
     refine o_v hf hh (yv_assign rfl) ?_; clear hf a; intro a hf
     refine o_end ?_
     refine sy_ret ?_
     have hn0 : s.n = 0 := by omega
     have eL : fewL d = s.done := by
       unfold fewL; rw [if_pos hop, hgr, hn0]; unfold grd; rw [List.append_nil]
     have eH : fewH d = ((d.l.length + d.r.length : Nat) : Int) - 2 * (mosD d : Nat) := by unfold fewH; rw [if_pos hop]
     rw [eL, eH, hop]
     have hh2 : Hp u [] ([(s.B9, .cells #[.int .i64 s.k] 3), (s.B8, .cells #[.int .i64 s.i] 3), (B7, .cells #[.int .i64 s.n] 3), (B6, .cells cg 148), (Bo, .cells cso 128), (B2, .cells #[.slice oa s.done.length cp] 111), (B1, .cells (rowsV d sa sb ca cb).cells 29)] ++ (s.X ++ dls s.Ds)) w := hh
     rw [← List.append_assoc] at hh2
     exact ret_mb (Ds := s.Ds) hf hh2 fun w' hh => ⟨[.slice oa s.done.length cp, .int .i64 (((d.l.length + d.r.length : Nat) : Int) - 2 * (mosD d : Nat)), .int .i64 0], ⟨⟨B2, 0, _, _, _, rfl, hh.at (i := 5) rfl, .inl ⟨Try.sc_111, rfl⟩⟩, rfl, rfl, True.intro⟩, _, s.X, rfl, hown, hh.less (List.sublist_append_right _ _)⟩
end Go.Proofs.Ytidieepndphodaa
namespace Go.Proofs.Ytidieepndphodaa
open Go Go.Sy Go.MatM
theorem fl45 : flatB Try.prog 42 = some 2 := by kernel_rfl
theorem fl24 : flatB Try.prog 27 = some 2 := by kernel_rfl
theorem fl53 : flatB Try.prog 54 = some 4 := by kernel_rfl
end Go.Proofs.Ytidieepndphodaa
namespace Go.Proofs.Ytidieepndphodaa
open Go Go.Sy Go.MatM
theorem c58 (n l h : Int) (w : World) : Calls Try.prog 60 #[.int .i64 n, .int .i64 l, .int .i64 h] w (Ret fun v w' => v = .bool (decide (l ≤ n) && decide (n ≤ h)) ∧ Ext [] w w') := by
  refine calls_of Try.func60 rfl rfl (fun a hf => ?_)
  have hh := Hp.init w []
  refine sy_sq ?_
  refine o_v hf hh (yv_assign rfl) ?_; clear hf a; intro a hf
  refine o_end ?_
  refine sy_sq ?_
  refine o_v hf hh (yv_move rfl) ?_; clear hf a; intro a hf
  refine o_v hf hh (yv_move rfl) ?_; clear hf a; intro a hf
  refine o_v hf hh (yv_bin rfl rfl rfl) ?_; clear hf a; intro a hf
  refine o_v hf hh (yv_move rfl) ?_; clear hf a; intro a hf
  refine guard_split hf (t := 10) rfl (fun hg2 => ?_) (fun hg2 => ?_)
  ·have hG2 := hg2; try simp only [gS] at hG2
   refine o_v hf hh (yv_move rfl) ?_; clear hf a; intro a hf
   refine o_v hf hh (yv_move rfl) ?_; clear hf a; intro a hf
   refine o_v hf hh (yv_bin rfl rfl rfl) ?_; clear hf a; intro a hf
   refine o_v hf hh (y_pt rfl rfl) ?_; clear hf a; intro a hf
   refine o_v hf hh (yv_assign rfl) ?_; clear hf a; intro a hf
   refine o_end ?_
   refine sy_ret ?_
   refine ret_r hf rfl rfl ?_
   exact ⟨by simp [tup, *], hh.ext⟩
  ·have hG2 := hg2; try simp only [gS] at hG2
   refine o_off hf ?_; clear hf a; intro a hf
   refine o_off hf ?_; clear hf a; intro a hf
   refine o_off hf ?_; clear hf a; intro a hf
   refine o_v hf hh (y_pf rfl rfl) ?_; clear hf a; intro a hf
   refine o_v hf hh (yv_assign rfl) ?_; clear hf a; intro a hf
   refine o_end ?_
   refine sy_ret ?_
   refine ret_r hf rfl rfl ?_
   exact ⟨by simp [tup, *], hh.ext⟩
theorem c65 (x y l h : Int) (w : World) : Calls Try.prog 59 #[.agg #[.int .i64 x, .int .i64 y], .int .i64 l, .int .i64 h] w (Ret fun v w' => v = .bool (decide (l ≤ x) && decide (x ≤ y) && decide (y ≤ h)) ∧ Ext [] w w') := by
  refine calls_of Try.func59 rfl rfl (fun a hf => ?_)
  have hh := Hp.init w []
  refine sy_sq ?_
  refine o_box hf hh ?_; clear hf hh a; intro B3 a w hf hh
  refine o_v hf hh (yv_assign rfl) ?_; clear hf a; intro a hf
  refine o_end ?_
  refine sy_sq ?_
  refine o_v hf hh (yv_move rfl) ?_; clear hf a; intro a hf
  refine o_v hf hh (yv_fieldAddr Try.fo_27_0 rfl) ?_; clear hf a; intro a hf
  refine o_v hf hh (y_ld Try.sc_3 rfl) ?_; clear hf a; intro a hf
  refine o_v hf hh (yv_bin rfl rfl rfl) ?_; clear hf a; intro a hf
  refine o_v hf hh (yv_move rfl) ?_; clear hf a; intro a hf
  refine guard_split hf (t := 11) rfl (fun hg2 => ?_) (fun hg2 => ?_)
  ·have hG2 := hg2; try simp only [gS] at hG2
   refine o_v hf hh (yv_fieldAddr Try.fo_27_0 rfl) ?_; clear hf a; intro a hf
   refine o_v hf hh (y_ld Try.sc_3 rfl) ?_; clear hf a; intro a hf
   refine o_v hf hh (yv_fieldAddr Try.fo_27_1 rfl) ?_; clear hf a; intro a hf
   refine o_v hf hh (y_ld Try.sc_3 rfl) ?_; clear hf a; intro a hf
   refine o_v hf hh (yv_bin rfl rfl rfl) ?_; clear hf a; intro a hf
   refine o_v hf hh (y_pt rfl rfl) ?_; clear hf a; intro a hf
   refine o_v hf hh (yv_move rfl) ?_; clear hf a; intro a hf
   refine guard_split hf (t := 18) rfl (fun hg4 => ?_) (fun hg4 => ?_)
   ·have hG4 := hg4; try simp only [gS] at hG4
    refine o_v hf hh (yv_fieldAddr Try.fo_27_1 rfl) ?_; clear hf a; intro a hf
    refine o_v hf hh (y_ld Try.sc_3 rfl) ?_; clear hf a; intro a hf
    refine o_v hf hh (yv_move rfl) ?_; clear hf a; intro a hf
    refine o_v hf hh (yv_bin rfl rfl rfl) ?_; clear hf a; intro a hf
    refine o_v hf hh (y_pt rfl rfl) ?_; clear hf a; intro a hf
    refine o_v hf hh (yv_assign rfl) ?_; clear hf a; intro a hf
    refine o_end ?_
    refine sy_ret ?_
    refine ret_r hf rfl rfl ?_
    exact ⟨by simp [tup, *], hh.ext⟩
   ·have hG4 := hg4; try simp only [gS] at hG4
    refine o_off hf ?_; clear hf a; intro a hf
    refine o_off hf ?_; clear hf a; intro a hf
    refine o_off hf ?_; clear hf a; intro a hf
    refine o_off hf ?_; clear hf a; intro a hf
    refine o_v hf hh (y_pf rfl rfl) ?_; clear hf a; intro a hf
    refine o_v hf hh (yv_assign rfl) ?_; clear hf a; intro a hf
    refine o_end ?_
    refine sy_ret ?_
    refine ret_r hf rfl rfl ?_
    exact ⟨by simp [tup, *], hh.ext⟩
  ·have hG2 := hg2; try simp only [gS] at hG2
   refine o_off hf ?_; clear hf a; intro a hf
   refine o_off hf ?_; clear hf a; intro a hf
   refine o_off hf ?_; clear hf a; intro a hf
   refine o_off hf ?_; clear hf a; intro a hf
   refine o_off hf ?_; clear hf a; intro a hf
   refine o_v hf hh (y_pf rfl rfl) ?_; clear hf a; intro a hf
   refine o_v hf hh (yv_move rfl) ?_; clear hf a; intro a hf
   refine o_off hf ?_; clear hf a; intro a hf
   refine o_off hf ?_; clear hf a; intro a hf
   refine o_off hf ?_; clear hf a; intro a hf
   refine o_off hf ?_; clear hf a; intro a hf
   refine o_v hf hh (y_pf rfl rfl) ?_; clear hf a; intro a hf
   refine o_v hf hh (yv_assign rfl) ?_; clear hf a; intro a hf
   refine o_end ?_
   refine sy_ret ?_
   refine ret_r hf rfl rfl ?_
   exact ⟨by simp [tup, *], hh.ext⟩
theorem all_take {l : List Mk} {i : Nat} {x : Mk} (h : (l.take i).all okM = true) (hx : l[i]? = some x) (hk : okM x = true) : (l.take (i + 1)).all okM = true := by
  rw [List.take_add_one, hx, List.all_append, h]; simp [hk]
theorem all_not {l : List Mk} {i : Nat} {x : Mk} (hx : l[i]? = some x) (hk : okM x = false) : l.all okM = false := by
  rw [Bool.eq_false_iff]; intro h
  have := List.all_eq_true.1 h x (List.mem_of_getElem? hx)
  rw [hk] at this; cases this
theorem okM_and (x : Mk) : okM x = ((decide (0 ≤ x.al) && decide (x.al ≤ x.ah) && decide (x.ah ≤ 65536)) && (decide (0 ≤ x.tl) && decide (x.tl ≤ x.th) && decide (x.th ≤ 1000))) := by
  unfold okM; rw [Bool.eq_iff_iff]; simp only [decide_eq_true_eq, Bool.and_eq_true, and_assoc]
theorem c64 (l : List Mk) (sa : Option Addr) (ca : Nat) (u : World) (hA : MkAt u sa l) (hl : l.length ≤ 1000000) : Calls Try.prog 58 #[.slice sa l.length ca] u (Ret fun v w' => v = .bool (l.all okM && decide (l.length ≤ 10)) ∧ Ext [] u w') := by
  refine calls_of Try.func58 rfl rfl (fun a hf => ?_)
  have hh := Hp.init u []
  refine sy_sq ?_
  refine o_v hf hh (yv_assign rfl) ?_; clear hf a; intro a hf
  refine o_end ?_
  refine sy_seq ?_
  refine sy_sq ?_
  refine o_v hf hh (yv_assign rfl) ?_; clear hf a; intro a hf
  refine o_end ?_
  refine sy_block ?_
  refine sy_loopF (σ := Nat) [2, 3, 4, 5, 6, 7, 8, 9, 10, 11, 12, 13, 14, 15, 16, 17, 18, 19, 20, 21, 22, 23, 24, 25] (fun i => [(3, .int .i64 i)]) (fun i => i ≤ l.length ∧ (l.take i).all okM = true) (fun i => l.length - i) (0) hf hh ?_ ?_ ?_
  · repeat' (first | exact True.intro | refine And.intro rfl ?_)
  · exact ⟨Nat.zero_le _, rfl⟩
  ·rintro i a w ⟨hi, hq⟩ hf hh
   refine sy_seq ?_
   refine sy_sq ?_
   refine o_v hf hh (yv_move rfl) ?_; clear hf a; intro a hf
   refine o_v hf hh (yv_move rfl) ?_; clear hf a; intro a hf
   refine o_v hf hh (yv_len Try.se_25 rfl) ?_; clear hf a; intro a hf
   refine o_v hf hh (yv_bin rfl rfl rfl) ?_; clear hf a; intro a hf
   refine o_end ?_
   refine sy_cond hf rfl (fun hg2 => ?_) (fun hg2 => ?_)
   ·have hG2 := hg2; try simp only [gS] at hG2
    refine sy_skip ?_
    refine then_n ?_
    refine sy_seq ?_
    refine sy_block ?_
    refine sy_seq ?_
    obtain ⟨x, hx⟩ := ex_of (l := l) (i := i) (by omega)
    obtain ⟨blk, off, c, Tx, fr, e1, hbx, hcx⟩ := hA i x hx
    subst e1
    obtain ⟨_, hg⟩ := cellsAt_get _ _ _ hcx
    have a0 := hg 0 _ rfl; have a1 := hg 1 _ rfl; have a2 := hg 2 _ rfl; have a3 := hg 3 _ rfl
    have g1 : cellsAt c (off + ((i : Nat) : Int).toNat * 4 + 0) 2 = some [.int .i64 x.al, .int .i64 x.ah] := by
      simp only [Int.toNat_natCast, Nat.add_zero] at *; simp [cellsAt, a0, a1]
    have g2 : cellsAt c (off + ((i : Nat) : Int).toNat * 4 + 2) 2 = some [.int .i64 x.tl, .int .i64 x.th] := by
      simp only [Int.toNat_natCast] at *; simp [cellsAt, a2, a3]
    have hok := okM_and x
    refine sy_ops ?_
    refine o_v hf hh (yv_move rfl) ?_; clear hf a; intro a hf
    refine o_v hf hh (yv_move rfl) ?_; clear hf a; intro a hf
    refine o_v hf hh (y_ix Try.se_25 rfl rfl) ?_; clear hf a; intro a hf
    refine o_v hf hh (yv_fieldAddr Try.fo_54_0 rfl) ?_; clear hf a; intro a hf
    refine o_v hf hh (y_lds Try.ag_27 rfl) ?_; clear hf a; intro a hf
    refine o_call hf Try.en_59 rfl rfl rfl (c65 _ _ _ _ _) ?_; clear hf a; intro v a w hR hf
    obtain ⟨rfl, hx⟩ := hR; replace hh := hh.more hx; clear hx
    refine o_v hf hh (yv_not rfl) ?_; clear hf a; intro a hf
    refine o_v hf hh (yv_move rfl) ?_; clear hf a; intro a hf
    refine guard_split hf (t := 17) rfl (fun hg4 => ?_) (fun hg4 => ?_)
    ·have hG4 := hg4; try simp only [gS] at hG4
     refine o_off hf ?_; clear hf a; intro a hf
     refine o_off hf ?_; clear hf a; intro a hf
     refine o_off hf ?_; clear hf a; intro a hf
     refine o_off hf ?_; clear hf a; intro a hf
     refine o_off hf ?_; clear hf a; intro a hf
     refine o_off hf ?_; clear hf a; intro a hf
     refine o_off hf ?_; clear hf a; intro a hf
     refine o_v hf hh (y_pt rfl rfl) ?_; clear hf a; intro a hf
     refine o_end ?_
     refine c_t hf ?_
     refine sy_sq ?_
     refine o_v hf hh (yv_assign rfl) ?_; clear hf a; intro a hf
     refine o_end ?_
     refine sy_ret ?_
     refine blk_r ?_
     refine then_r ?_
     refine then_r ?_
     refine blk_r ?_
     refine then_r ?_
     refine ret_r hf rfl rfl ?_
     exact ⟨congrArg Value.bool (by rw [all_not hx (by rw [hok]; (simp only [*, Bool.and_true, Bool.true_and, Bool.and_false, Bool.false_and, Bool.and_self, Bool.or_true, Bool.or_false]))]; rfl), hh.ext⟩
    ·have hG4 := hg4; try simp only [gS] at hG4
     refine o_v hf hh (yv_move rfl) ?_; clear hf a; intro a hf
     refine o_v hf hh (yv_move rfl) ?_; clear hf a; intro a hf
     refine o_v hf hh (y_ix Try.se_25 rfl rfl) ?_; clear hf a; intro a hf
     refine o_v hf hh (yv_fieldAddr Try.fo_54_1 rfl) ?_; clear hf a; intro a hf
     refine o_v hf hh (y_lds Try.ag_27 rfl) ?_; clear hf a; intro a hf
     refine o_call hf Try.en_59 rfl rfl rfl (c65 _ _ _ _ _) ?_; clear hf a; intro v a w hR hf
     obtain ⟨rfl, hx⟩ := hR; replace hh := hh.more hx; clear hx
     refine o_v hf hh (yv_not rfl) ?_; clear hf a; intro a hf
     refine o_v hf hh (y_pf rfl rfl) ?_; clear hf a; intro a hf
     refine o_end ?_
     refine sy_cond hf rfl (fun hg6 => ?_) (fun hg6 => ?_)
     ·have hG6 := hg6; try simp only [gS] at hG6
      refine sy_sq ?_
      refine o_v hf hh (yv_assign rfl) ?_; clear hf a; intro a hf
      refine o_end ?_
      refine sy_ret ?_
      refine blk_r ?_
      refine then_r ?_
      refine then_r ?_
      refine blk_r ?_
      refine then_r ?_
      refine ret_r hf rfl rfl ?_
      exact ⟨congrArg Value.bool (by rw [all_not hx (by rw [hok]; (simp only [*, Bool.and_true, Bool.true_and, Bool.and_false, Bool.false_and, Bool.and_self, Bool.or_true, Bool.or_false]))]; rfl), hh.ext⟩
     ·have hG6 := hg6; try simp only [gS] at hG6
      refine sy_skip ?_
      refine blk_n ?_
      refine then_n ?_
      refine sy_ops ?_
      refine o_v hf hh (yv_move rfl) ?_; clear hf a; intro a hf
      refine o_v hf hh (y_add rfl rfl) ?_; clear hf a; intro a hf
      refine o_v hf hh (yv_assign rfl) ?_; clear hf a; intro a hf
      refine ops_end ?_
      refine then_n ?_
      refine ⟨i + 1, ⟨⟨by omega, all_take hq hx (by rw [hok]; (simp only [*, Bool.and_true, Bool.true_and, Bool.and_false, Bool.false_and, Bool.and_self, Bool.or_true, Bool.or_false]))⟩, (hf.head (by repeat' (first | exact True.intro | refine And.intro rfl ?_)) (Keep.cons rfl (Keep.cons rfl (Keep.cons rfl (Keep.cons rfl (Keep.cons rfl (Keep.cons rfl (Keep.cons rfl (Keep.cons rfl (Keep.cons rfl (Keep.cons rfl (Keep.cons rfl (Keep.cons rfl (Keep.cons rfl (Keep.cons rfl (Keep.cons rfl (Keep.cons rfl (Keep.cons rfl (Keep.cons rfl (Keep.cons rfl (Keep.cons rfl (Keep.cons rfl (Keep.cons rfl (Keep.cons rfl (Keep.app rfl (Keep.rm rfl Keep.base)))))))))))))))))))))))))), hh⟩, by omega⟩
   ·have hG2 := hg2; try simp only [gS] at hG2
    refine sy_exit ?_
    refine then_e ?_
    refine then_e ?_
    refine blk_e ?_
    refine then_n ?_
    refine sy_sq ?_
    refine o_v hf hh (yv_move rfl) ?_; clear hf a; intro a hf
    refine o_v hf hh (yv_len Try.se_25 rfl) ?_; clear hf a; intro a hf
    refine o_v hf hh (yv_bin rfl rfl rfl) ?_; clear hf a; intro a hf
    refine o_v hf hh (yv_assign rfl) ?_; clear hf a; intro a hf
    refine o_end ?_
    refine sy_ret ?_
    refine ret_r hf rfl rfl ?_
    have hie : i = l.length := by omega
    rw [hie, List.take_length] at hq
    exact ⟨congrArg Value.bool (by rw [hq, Bool.true_and, decide_eq_decide]; omega), hh.ext⟩
theorem okRows_eq (d : RowsD) : okRows d = ((d.l.all okM && decide (d.l.length ≤ 10)) && (d.r.all okM && decide (d.r.length ≤ 10)) && (decide (-65536 ≤ d.lo) && decide (d.lo ≤ d.hi) && decide (d.hi ≤ 65536)) && (decide (0 ≤ d.hid) && decide (d.hid ≤ 20))) := by
  unfold okRows
  rw [Bool.eq_iff_iff]
  simp only [Bool.and_eq_true, decide_eq_true_eq, List.all_append]
  constructor
  · rintro ⟨⟨⟨⟨h1, h2⟩, h3, h4⟩, h5, h6, h7⟩, h8, h9⟩; exact ⟨⟨⟨⟨h3, h1⟩, h4, h2⟩, ⟨h5, h6⟩, h7⟩, h8, h9⟩
  · rintro ⟨⟨⟨⟨h3, h1⟩, h4, h2⟩, ⟨h5, h6⟩, h7⟩, h8, h9⟩; exact ⟨⟨⟨⟨h1, h2⟩, h3, h4⟩, h5, h6, h7⟩, h8, h9⟩
theorem c26 (d : RowsD) (sa sb : Option Addr) (ca cb : Nat) (u : World) (hA : MkAt u sa d.l) (hB : MkAt u sb d.r) (hla : d.l.length ≤ 1000000) (hlb : d.r.length ≤ 1000000) : Calls Try.prog 28 #[rowsV d sa sb ca cb] u (Ret fun v w' => v = .bool (okRows d) ∧ Ext [] u w') := by
  refine calls_of Try.func28 rfl rfl (fun a hf => ?_)
  have hh := Hp.init u []
  refine sy_sq ?_
  refine o_box hf hh ?_; clear hf hh a; intro B1 a w hf hh
  refine o_v hf hh (yv_assign rfl) ?_; clear hf a; intro a hf
  refine o_end ?_
  refine sy_sq ?_
  refine o_v hf hh (yv_fieldAddr Try.fo_29_0 rfl) ?_; clear hf a; intro a hf
  refine o_v hf hh (y_ld Try.sc_25 rfl) ?_; clear hf a; intro a hf
  refine o_call hf Try.en_58 rfl rfl rfl (c64 d.l sa ca _ (hA.ext hh.ext) hla) ?_; clear hf a; intro v a w hR hf
  obtain ⟨rfl, hx⟩ := hR; replace hh := hh.more hx; clear hx
  refine o_v hf hh (yv_move rfl) ?_; clear hf a; intro a hf
  refine guard_split hf (t := 6) rfl (fun hg2 => ?_) (fun hg2 => ?_)
  ·have hG2 := hg2; try simp only [gS] at hG2
   refine o_v hf hh (yv_fieldAddr Try.fo_29_1 rfl) ?_; clear hf a; intro a hf
   refine o_v hf hh (y_ld Try.sc_25 rfl) ?_; clear hf a; intro a hf
   refine o_call hf Try.en_58 rfl rfl rfl (c64 d.r sb cb _ (hB.ext hh.ext) hlb) ?_; clear hf a; intro v a w hR hf
   obtain ⟨rfl, hx⟩ := hR; replace hh := hh.more hx; clear hx
   refine o_v hf hh (y_pt rfl rfl) ?_; clear hf a; intro a hf
   refine o_v hf hh (yv_move rfl) ?_; clear hf a; intro a hf
   refine guard_split hf (t := 11) rfl (fun hg4 => ?_) (fun hg4 => ?_)
   ·have hG4 := hg4; try simp only [gS] at hG4
    refine o_v hf hh (yv_fieldAddr Try.fo_29_2 rfl) ?_; clear hf a; intro a hf
    refine o_v hf hh (y_lds Try.ag_27 rfl) ?_; clear hf a; intro a hf
    refine o_call hf Try.en_59 rfl rfl rfl (c65 _ _ _ _ _) ?_; clear hf a; intro v a w hR hf
    obtain ⟨rfl, hx⟩ := hR; replace hh := hh.more hx; clear hx
    refine o_v hf hh (y_pt rfl rfl) ?_; clear hf a; intro a hf
    refine o_v hf hh (yv_move rfl) ?_; clear hf a; intro a hf
    refine guard_split hf (t := 16) rfl (fun hg6 => ?_) (fun hg6 => ?_)
    ·have hG6 := hg6; try simp only [gS] at hG6
     refine o_v hf hh (yv_fieldAddr Try.fo_29_3 rfl) ?_; clear hf a; intro a hf
     refine o_v hf hh (y_ld Try.sc_3 rfl) ?_; clear hf a; intro a hf
     refine o_call hf Try.en_60 rfl rfl rfl (c58 _ _ _ _) ?_; clear hf a; intro v a w hR hf
     obtain ⟨rfl, hx⟩ := hR; replace hh := hh.more hx; clear hx
     refine o_v hf hh (y_pt rfl rfl) ?_; clear hf a; intro a hf
     refine o_v hf hh (yv_assign rfl) ?_; clear hf a; intro a hf
     refine o_end ?_
     refine sy_ret ?_
     refine ret_r hf rfl rfl ?_
     exact ⟨congrArg Value.bool (by rw [okRows_eq]; (simp only [*, Bool.and_true, Bool.true_and, Bool.and_false, Bool.false_and, Bool.and_self, Bool.or_true, Bool.or_false])), hh.ext⟩
    ·have hG6 := hg6; try simp only [gS] at hG6
     refine o_off hf ?_; clear hf a; intro a hf
     refine o_off hf ?_; clear hf a; intro a hf
     refine o_off hf ?_; clear hf a; intro a hf
     refine o_v hf hh (y_pf rfl rfl) ?_; clear hf a; intro a hf
     refine o_v hf hh (yv_assign rfl) ?_; clear hf a; intro a hf
     refine o_end ?_
     refine sy_ret ?_
     refine ret_r hf rfl rfl ?_
     exact ⟨congrArg Value.bool (by rw [okRows_eq]; (simp only [*, Bool.and_true, Bool.true_and, Bool.and_false, Bool.false_and, Bool.and_self, Bool.or_true, Bool.or_false])), hh.ext⟩
   ·have hG4 := hg4; try simp only [gS] at hG4
    refine o_off hf ?_; clear hf a; intro a hf
    refine o_off hf ?_; clear hf a; intro a hf
    refine o_off hf ?_; clear hf a; intro a hf
    refine o_v hf hh (y_pf rfl rfl) ?_; clear hf a; intro a hf
    refine o_v hf hh (yv_move rfl) ?_; clear hf a; intro a hf
    refine o_off hf ?_; clear hf a; intro a hf
    refine o_off hf ?_; clear hf a; intro a hf
    refine o_off hf ?_; clear hf a; intro a hf
    refine o_v hf hh (y_pf rfl rfl) ?_; clear hf a; intro a hf
    refine o_v hf hh (yv_assign rfl) ?_; clear hf a; intro a hf
    refine o_end ?_
    refine sy_ret ?_
    refine ret_r hf rfl rfl ?_
    exact ⟨congrArg Value.bool (by rw [okRows_eq]; (simp only [*, Bool.and_true, Bool.true_and, Bool.and_false, Bool.false_and, Bool.and_self, Bool.or_true, Bool.or_false])), hh.ext⟩
  ·have hG2 := hg2; try simp only [gS] at hG2
   refine o_off hf ?_; clear hf a; intro a hf
   refine o_off hf ?_; clear hf a; intro a hf
   refine o_off hf ?_; clear hf a; intro a hf
   refine o_v hf hh (y_pf rfl rfl) ?_; clear hf a; intro a hf
   refine o_v hf hh (yv_move rfl) ?_; clear hf a; intro a hf
   refine o_off hf ?_; clear hf a; intro a hf
   refine o_off hf ?_; clear hf a; intro a hf
   refine o_off hf ?_; clear hf a; intro a hf
   refine o_v hf hh (y_pf rfl rfl) ?_; clear hf a; intro a hf
   refine o_v hf hh (yv_move rfl) ?_; clear hf a; intro a hf
   refine o_off hf ?_; clear hf a; intro a hf
   refine o_off hf ?_; clear hf a; intro a hf
   refine o_off hf ?_; clear hf a; intro a hf
   refine o_v hf hh (y_pf rfl rfl) ?_; clear hf a; intro a hf
   refine o_v hf hh (yv_assign rfl) ?_; clear hf a; intro a hf
   refine o_end ?_
   refine sy_ret ?_
   refine ret_r hf rfl rfl ?_
   exact ⟨congrArg Value.bool (by rw [okRows_eq]; (simp only [*, Bool.and_true, Bool.true_and, Bool.and_false, Bool.false_and, Bool.and_self, Bool.or_true, Bool.or_false])), hh.ext⟩
end Go.Proofs.Ytidieepndphodaa
namespace Go.Proofs.Ytidieepndphodaa
open Go Go.Sy Go.MatM
theorem c91 (n : Nat) (hn : n ≤ 60) (u : World) : Calls Try.prog 91 #[.int .i64 (n : Nat)] u (Ret fun v w' => v = .int .i64 ((2 ^ n : Nat) : Int) ∧ Ext [] u w') := by
  refine calls_of Try.func91 rfl rfl (fun a hf => ?_)
  have hh := Hp.init u []
  refine sy_sq ?_
  refine o_v hf hh (yv_assign rfl) ?_; clear hf a; intro a hf
  refine o_end ?_
  refine sy_sq ?_
  refine o_v hf hh (yv_assign rfl) ?_; clear hf a; intro a hf
  refine o_end ?_
  refine sy_seq ?_
  refine sy_sq ?_
  refine o_v hf hh (yv_assign rfl) ?_; clear hf a; intro a hf
  refine o_end ?_
  refine sy_block ?_
  refine sy_loopF (σ := Nat) [3, 4, 5, 6, 7, 8, 9, 10, 11] (fun i => [(4, .int .i64 (i : Nat)), (3, .int .i64 ((2 ^ i : Nat) : Int))]) (fun i => i ≤ n) (fun i => n - i) (0) hf hh ?_ ?_ ?_
  · repeat' (first | exact True.intro | refine And.intro rfl ?_)
  · exact Nat.zero_le _
  ·rintro i a w hi hf hh
   refine sy_seq ?_
   refine sy_sq ?_
   refine o_v hf hh (yv_move rfl) ?_; clear hf a; intro a hf
   refine o_v hf hh (yv_move rfl) ?_; clear hf a; intro a hf
   refine o_v hf hh (yv_bin rfl rfl rfl) ?_; clear hf a; intro a hf
   refine o_end ?_
   refine sy_cond hf rfl (fun hg2 => ?_) (fun hg2 => ?_)
   ·have hG2 := hg2; try simp only [gS] at hG2
    refine sy_skip ?_
    refine then_n ?_
    refine sy_seq ?_
    refine sy_block ?_
    have hz2 : 2 ^ (i + 1) = 2 * 2 ^ i := by rw [Nat.pow_succ]; omega
    have hzb : 2 ^ i ≤ 2 ^ 60 := Nat.pow_le_pow_right (by decide) (by omega)
    obtain ⟨z, hz⟩ : ∃ z : Nat, z = 2 ^ i := ⟨_, rfl⟩
    rw [← hz] at hf hz2 hzb
    refine sy_ops ?_
    refine o_v hf hh (yv_move rfl) ?_; clear hf a; intro a hf
    refine ops_v hf hh (yv_cast (yv_mul rfl rfl (by omega) (by omega)) (intv (b := ((2 ^ (i + 1) : Nat) : Int)) (by rw [hz2]; omega))) (.inl rfl) rfl rfl rfl ?_; clear hf a; intro a hf
    refine o_v hf hh (yv_assign rfl) ?_; clear hf a; intro a hf
    refine ops_end ?_
    refine blk_n ?_
    refine then_n ?_
    refine sy_ops ?_
    refine o_v hf hh (yv_move rfl) ?_; clear hf a; intro a hf
    refine o_v hf hh (y_add rfl rfl) ?_; clear hf a; intro a hf
    refine o_v hf hh (yv_assign rfl) ?_; clear hf a; intro a hf
    refine ops_end ?_
    refine then_n ?_
    exact ⟨i + 1, ⟨by omega, (hf.head (by repeat' (first | exact True.intro | refine And.intro rfl ?_)) (Keep.cons rfl (Keep.cons rfl (Keep.cons rfl (Keep.cons rfl (Keep.cons rfl (Keep.cons rfl (Keep.cons rfl (Keep.cons rfl (Keep.cons rfl (Keep.app rfl (Keep.rm rfl Keep.base)))))))))))), hh⟩, by omega⟩
   ·have hG2 := hg2; try simp only [gS] at hG2
    refine sy_exit ?_
    refine then_e ?_
    refine then_e ?_
    refine blk_e ?_
    refine then_n ?_
    refine sy_sq ?_
    refine o_v hf hh (yv_move rfl) ?_; clear hf a; intro a hf
    refine o_v hf hh (yv_assign rfl) ?_; clear hf a; intro a hf
    refine o_end ?_
    refine sy_ret ?_
    refine ret_r hf rfl rfl ?_
    rw [show n = i by omega]
    exact ⟨rfl, hh.ext⟩
theorem c71 (s n : Nat) (hs : s ≤ 2305843009213693952) (hn : n ≤ 60) (u : World) : Calls Try.prog 73 #[.int .i64 (s : Nat), .int .i64 (n : Nat)] u (Ret fun v w' => v = .bool (s.testBit n) ∧ Ext [] u w') := by
  refine calls_of Try.func73 rfl rfl (fun a hf => ?_)
  have hh := Hp.init u []
  have hz0 : 0 < 2 ^ n := Nat.two_pow_pos _
  have hy : ∀ y z : Nat, 0 < z → 0 ≤ (y : Int) ∧ 1 ≤ (z : Int) := fun y z h => ⟨Int.natCast_nonneg _, by omega⟩
  refine sy_sq ?_
  refine o_v hf hh (yv_assign rfl) ?_; clear hf a; intro a hf
  refine o_end ?_
  refine sy_sq ?_
  refine o_v hf hh (yv_move rfl) ?_; clear hf a; intro a hf
  refine o_v hf hh (yv_move rfl) ?_; clear hf a; intro a hf
  refine o_call hf Try.en_91 rfl rfl rfl (c91 n hn _) ?_; clear hf a; intro v a w hR hf
  obtain ⟨rfl, hx⟩ := hR; replace hh := hh.more hx; clear hx
  refine ops_v hf hh (yv_cast (yv_quo rfl rfl (hy s _ hz0).1 (hy s _ hz0).2 (by omega)) (intv (b := ((s / 2 ^ n : Nat) : Int)) rfl)) (.inl rfl) rfl rfl rfl ?_; clear hf a; intro a hf
  refine ops_v hf hh (yv_cast (yv_rem rfl rfl (Int.natCast_nonneg _) (by omega)) (intv (b := ((s / 2 ^ n % 2 : Nat) : Int)) rfl)) (.inl rfl) rfl rfl rfl ?_; clear hf a; intro a hf
  refine o_v hf hh (yv_cast (yv_bin rfl rfl rfl) (congrArg Value.bool (has_bit s n))) ?_; clear hf a; intro a hf
  refine o_v hf hh (yv_assign rfl) ?_; clear hf a; intro a hf
  refine o_end ?_
  refine sy_ret ?_
  refine ret_r hf rfl rfl ?_
  exact ⟨rfl, hh.ext⟩
end Go.Proofs.Ytidieepndphodaa
namespace Go.Proofs.Ytidieepndphodaa
open Go Go.Sy Go.MatM
theorem p52 (s n : Nat) (hs : s < 65536) (hn : n ≤ 60) (u : World) : Calls Try.prog 52 #[.int .u64 (s : Nat), .int .i64 (n : Nat)] u (Ret fun v w' => v = .bool (s.testBit n) ∧ Ext [] u w') := by
  refine calls_of Try.func52 rfl rfl (fun a hf => ?_)
  have hh := Hp.init u []
  have hz : ∀ k : Nat, ((s >>> k : Nat) : Int) ≤ 65535 := fun k => by have := Nat.shiftRight_le s k; omega
  have hz1 : ((((s : Nat) : Int).toNat >>> ((n : Nat) : Int).toNat : Nat) : Int) ≤ IntKind.top .u64 := by have := hz ((n : Nat) : Int).toNat; rw [Int.toNat_natCast s]; simp only [IntKind.top]; omega
  refine sy_sq ?_
  refine o_v hf hh (yv_assign rfl) ?_; clear hf a; intro a hf
  refine o_end ?_
  refine sy_sq ?_
  refine o_v hf hh (yv_move rfl) ?_; clear hf a; intro a hf
  refine o_v hf hh (yv_move rfl) ?_; clear hf a; intro a hf
  refine o_v hf hh (yv_shrx (.inr rfl) rfl rfl (by omega) (by omega) (by omega)) ?_; clear hf a; intro a hf
  refine o_v hf hh (yv_and (.inr rfl) rfl rfl (Int.natCast_nonneg _) hz1 (by omega) (by simp only [IntKind.top]; omega)) ?_; clear hf a; intro a hf
  refine o_v hf hh (yv_cast (yv_bin rfl rfl rfl) (congrArg Value.bool (has_u s n))) ?_; clear hf a; intro a hf
  refine o_v hf hh (yv_assign rfl) ?_; clear hf a; intro a hf
  refine o_end ?_
  refine sy_ret ?_
  refine ret_r hf rfl rfl ?_
  exact ⟨rfl, hh.ext⟩
theorem p68 (s : Nat) (hs : s < 65536) (u : World) : Calls Try.prog 68 #[.int .u64 (s : Nat)] u (Ret fun v w' => v = .int .i64 (pc s) ∧ Ext [] u w') := by
  refine calls_of Try.func68 rfl rfl (fun a hf => ?_)
  have hh := Hp.init u []
  refine sy_sq ?_
  refine o_v hf hh (yv_assign rfl) ?_; clear hf a; intro a hf
  refine o_end ?_
  refine sy_sq ?_
  refine o_v hf hh (yv_move rfl) ?_; clear hf a; intro a hf
  refine o_call hf Try.en_87 rfl rfl rfl (c67 s hs _) ?_; clear hf a; intro v a w hR hf
  obtain ⟨rfl, hx⟩ := hR; replace hh := hh.more hx; clear hx
  refine o_v hf hh (yv_assign rfl) ?_; clear hf a; intro a hf
  refine o_end ?_
  refine sy_ret ?_
  refine ret_r hf rfl rfl ?_
  exact ⟨rfl, hh.ext⟩
theorem p72 (l : List Mk) (sa : Option Addr) (ca : Nat) (s : Nat) (u : World) (hA : MkAt u sa l) (hl : l.length ≤ 10) (hs : s < 65536) : Calls Try.prog 72 #[.slice sa l.length ca, .int .u64 (s : Nat)] u (Ret fun v w' => ∃ X, OwnSl 54 4 v (keepL l s).length (encM (keepL l s)) X ∧ Hp u [] X w') := by
  refine calls_of Try.func72 rfl rfl (fun a hf => ?_)
  have hh := Hp.init u []
  refine sy_sq ?_
  refine o_v hf hh (yv_assign rfl) ?_; clear hf a; intro a hf
  refine o_end ?_
  refine sy_seq ?_
  refine sy_sq ?_
  refine o_v hf hh (yv_move rfl) ?_; clear hf a; intro a hf
  refine o_v hf hh (yv_len Try.se_25 rfl) ?_; clear hf a; intro a hf
  refine o_v hf hh (yv_move rfl) ?_; clear hf a; intro a hf
  refine o_end ?_
  refine sy_block ?_
  refine sy_loopH (σ := Nat × Value × List (Nat × Obj)) [4, 5, 6, 9, 10, 11, 12, 13, 14, 15, 16, 17, 18, 19, 20, 21, 22] (fun q => [(9, .int .i64 (q.1 : Nat)), (4, q.2.1)]) (fun q => fun w => q.1 ≤ l.length ∧ OwnSl 54 4 q.2.1 (keepL (l.take q.1) s).length (encM (keepL (l.take q.1) s)) q.2.2 ∧ Hp u [] q.2.2 w) (fun q => l.length - q.1) ((0, .slice none 0 0, [])) hf ?_ ?_ ?_
  · exact ⟨rfl, rfl, True.intro⟩
  · exact ⟨Nat.zero_le _, OwnSl.nil _ _, hh⟩
  ·rintro q a w ⟨hi, hO, hh⟩ hf
   obtain ⟨i, v0, X⟩ := q; simp only at hi hO hh hf ⊢
   refine sy_sq ?_
   refine o_v hf hh (yv_bin rfl rfl rfl) ?_; clear hf a; intro a hf
   refine o_end ?_
   refine sy_seq ?_
   refine sy_cond hf rfl (fun hg2 => ?_) (fun hg2 => ?_)
   ·have hG2 := hg2; try simp only [gS] at hG2
    refine sy_skip ?_
    refine then_n ?_
    refine sy_seq ?_
    refine sy_block ?_
    refine sy_seq ?_
    obtain ⟨m, hm⟩ := ex_of (l := l) (i := i) (by omega)
    obtain ⟨blk, off, c, Tx, fr, e1, hbx, hcx⟩ := hA i m hm
    subst e1
    replace hcx : cellsAt c (off + ((i : Nat) : Int).toNat * 4) 4 = some (mkC m) := by rw [Int.toNat_natCast]; exact hcx
    have hsn := keepL_snoc (s := s) hm
    have hkl := keepL_len (l.take i) s
    rw [List.length_take] at hkl
    refine sy_ops ?_
    refine o_v hf hh (yv_move rfl) ?_; clear hf a; intro a hf
    refine o_v hf hh (y_ix Try.se_25 rfl rfl) ?_; clear hf a; intro a hf
    refine o_v hf hh (y_lds Try.ag_54 rfl) ?_; clear hf a; intro a hf
    refine o_alloc hf hh Try.ze_54 ?_; clear hf hh a; intro B6 a w hf hh
    refine o_v hf hh (yv_assign rfl) ?_; clear hf a; intro a hf
    refine o_store hf hh Try.sz_54 fun w hh => ?_
    refine o_end ?_
    refine sy_sq ?_
    refine o_v hf hh (yv_move rfl) ?_; clear hf a; intro a hf
    refine o_v hf hh (yv_move rfl) ?_; clear hf a; intro a hf
    refine o_call hf Try.en_52 rfl rfl rfl (p52 s i hs (by omega) _) ?_; clear hf a; intro v a w hR hf
    obtain ⟨rfl, hx⟩ := hR; replace hh := hh.more hx; clear hx
    refine o_v hf hh (yv_not rfl) ?_; clear hf a; intro a hf
    refine o_end ?_
    refine sy_cond hf rfl (fun hg4 => ?_) (fun hg4 => ?_)
    ·have hG4 := hg4; try simp only [gS] at hG4
     refine sy_ops ?_
     refine o_v hf hh (yv_move rfl) ?_; clear hf a; intro a hf
     refine o_v hf hh (y_lds Try.ag_54 rfl) ?_; clear hf a; intro a hf
     refine ops_buildSl hf hh Try.bl_25_1 rfl rfl (.inl rfl) rfl ?_; clear hf hh; clear a; intro B20 a w hf hh
     refine ops_append (e := 54) (size := 4) (xs := encM (keepL (l.take i) s)) (X := X) (Z := [(B6, .cells (mkV m).cells 54)]) (m := (keepL (l.take i) s).length) (q := 1) hf (hh.perm (.cons _ (List.perm_append_comm (l₁ := [_]) (l₂ := X)))) Try.eb_25 rfl rfl hO rfl rfl rfl (by simp only [maxLen]; omega) (by omega) (.inl rfl) rfl ?_; clear hf hh a; intro v1 X1 a w hO1 hf hh
     replace hh := hh.less (List.sublist_append_left _ _)
     refine o_v hf hh (yv_assign rfl) ?_; clear hf a; intro a hf
     refine ops_end ?_
     refine blk_n ?_
     refine then_n ?_
     refine sy_ops ?_
     refine o_v hf hh (y_add rfl rfl) ?_; clear hf a; intro a hf
     refine o_v hf hh (yv_move rfl) ?_; clear hf a; intro a hf
     refine ops_end ?_
     refine then_n ?_
     first
       | (rw [if_pos (by assumption)] at hsn
          exact ⟨(i + 1, v0, X), ⟨⟨by simp only; omega, by simp only [hsn]; exact hO, hh.less (.cons _ (List.Sublist.refl _))⟩, hf.head ⟨rfl, rfl, True.intro⟩ (Keep.cons rfl (Keep.cons rfl (Keep.cons rfl (Keep.cons rfl (Keep.cons rfl (Keep.cons rfl (Keep.cons rfl (Keep.cons rfl (Keep.cons rfl (Keep.cons rfl (Keep.cons rfl (Keep.cons rfl (Keep.cons rfl (Keep.cons rfl (Keep.cons rfl (Keep.cons rfl (Keep.cons rfl (Keep.app rfl (Keep.rm rfl Keep.base)))))))))))))))))))⟩, by simp only; omega⟩)
       | (rw [if_neg (by simp_all)] at hsn
          exact ⟨(i + 1, v1, X1), ⟨⟨by simp only; omega, by simp only [hsn, List.length_append, encM_app]; exact hO1, hh⟩, hf.head ⟨rfl, rfl, True.intro⟩ (Keep.cons rfl (Keep.cons rfl (Keep.cons rfl (Keep.cons rfl (Keep.cons rfl (Keep.cons rfl (Keep.cons rfl (Keep.cons rfl (Keep.cons rfl (Keep.cons rfl (Keep.cons rfl (Keep.cons rfl (Keep.cons rfl (Keep.cons rfl (Keep.cons rfl (Keep.cons rfl (Keep.cons rfl (Keep.app rfl (Keep.rm rfl Keep.base)))))))))))))))))))⟩, by simp only; omega⟩)
    ·have hG4 := hg4; try simp only [gS] at hG4
     refine sy_skip ?_
     refine blk_n ?_
     refine then_n ?_
     refine sy_ops ?_
     refine o_v hf hh (y_add rfl rfl) ?_; clear hf a; intro a hf
     refine o_v hf hh (yv_move rfl) ?_; clear hf a; intro a hf
     refine ops_end ?_
     refine then_n ?_
     first
       | (rw [if_pos (by assumption)] at hsn
          exact ⟨(i + 1, v0, X), ⟨⟨by simp only; omega, by simp only [hsn]; exact hO, hh.less (.cons _ (List.Sublist.refl _))⟩, hf.head ⟨rfl, rfl, True.intro⟩ (Keep.cons rfl (Keep.cons rfl (Keep.cons rfl (Keep.cons rfl (Keep.cons rfl (Keep.cons rfl (Keep.cons rfl (Keep.cons rfl (Keep.cons rfl (Keep.cons rfl (Keep.cons rfl (Keep.cons rfl (Keep.app rfl (Keep.rm rfl Keep.base))))))))))))))⟩, by simp only; omega⟩)
       | (rw [if_neg (by simp_all)] at hsn
          exact ⟨(i + 1, v1, X1), ⟨⟨by simp only; omega, by simp only [hsn, List.length_append, encM_app]; exact hO1, hh⟩, hf.head ⟨rfl, rfl, True.intro⟩ (Keep.cons rfl (Keep.cons rfl (Keep.cons rfl (Keep.cons rfl (Keep.cons rfl (Keep.cons rfl (Keep.cons rfl (Keep.cons rfl (Keep.cons rfl (Keep.cons rfl (Keep.cons rfl (Keep.cons rfl (Keep.app rfl (Keep.rm rfl Keep.base))))))))))))))⟩, by simp only; omega⟩)
   ·have hG2 := hg2; try simp only [gS] at hG2
    refine sy_exit ?_
    refine then_e ?_
    refine then_e ?_
    refine blk_e ?_
    refine then_n ?_
    refine sy_sq ?_
    refine o_v hf hh (yv_move rfl) ?_; clear hf a; intro a hf
    refine o_v hf hh (yv_assign rfl) ?_; clear hf a; intro a hf
    refine o_end ?_
    refine sy_ret ?_
    refine ret_r hf rfl rfl ?_
    rw [List.take_of_length_le (by omega)] at hO
    exact ⟨X, hO, hh⟩
theorem p38l (d : RowsD) (p : Int) (sa sb : Option Addr) (ca cb bm Bc : Nat) (u : World) (hc : u.heap[Bc]? = some (.cells (canC d p sa sb ca cb bm) 109 (0, 0))) (hl : d.l.length ≤ 1000) (hr : d.r.length ≤ 1000) : Calls Try.prog 38 #[ptr Bc 0, .int .i64 0] u (Ret fun v w' => v = .int .i64 ((d.l.length : Nat) : Int) ∧ Ext [] u w') := by
  refine calls_of Try.func38 rfl rfl (fun a hf => ?_)
  have hh := Hp.init u []
  refine sy_sq ?_
  refine o_v hf hh (yv_assign rfl) ?_; clear hf a; intro a hf
  refine o_end ?_
  refine sy_seq ?_
  refine sy_quiet (C := Hp _ _ _) Try.follows (by kernel_rfl) (hh.drawn _) ?_
  refine oq_v hf (yv_move rfl) ?_; clear hf a; intro a hf
  refine oq_v hf (yv_nilCheck rfl) ?_; clear hf a; intro a hf
  refine oq_v hf (yv_fieldAddr Try.fo_109_0 rfl) ?_; clear hf a; intro a hf
  refine oq_v hf (yv_fieldAddr Try.fo_31_0 rfl) ?_; clear hf a; intro a hf
  refine oq_v hf (yv_fieldAddr Try.fo_29_0 rfl) ?_; clear hf a; intro a hf
  refine oq_v hf (y_ld Try.sc_25 rfl) ?_; clear hf a; intro a hf
  refine oq_v hf (yv_len Try.se_25 rfl) ?_; clear hf a; intro a hf
  refine oq_v hf (yv_move rfl) ?_; clear hf a; intro a hf
  refine oq_v hf (yv_nilCheck rfl) ?_; clear hf a; intro a hf
  refine oq_v hf (yv_fieldAddr Try.fo_109_0 rfl) ?_; clear hf a; intro a hf
  refine oq_v hf (yv_fieldAddr Try.fo_31_0 rfl) ?_; clear hf a; intro a hf
  refine oq_v hf (yv_fieldAddr Try.fo_29_1 rfl) ?_; clear hf a; intro a hf
  refine oq_v hf (y_ld Try.sc_25 rfl) ?_; clear hf a; intro a hf
  refine oq_v hf (yv_len Try.se_25 rfl) ?_; clear hf a; intro a hf
  refine oq_v hf (yv_buildA Try.ba_42 rfl rfl) ?_; clear hf a; intro a hf
  refine oq_v hf (yv_move rfl) ?_; clear hf a; intro a hf
  refine oq_v hf (yv_idxS Try.ae_42 Try.sc_3 rfl rfl (by first | rfl | assumption)) ?_; clear hf a; intro a hf
  refine oq_v hf (yv_assign rfl) ?_; clear hf a; intro a hf
  refine q_end fun w hh => ?_
  refine then_n ?_
  refine sy_ret ?_
  refine ret_r hf rfl rfl ?_
  exact ⟨rfl, hh.ext⟩
theorem p38r (d : RowsD) (p : Int) (sa sb : Option Addr) (ca cb bm Bc : Nat) (u : World) (hc : u.heap[Bc]? = some (.cells (canC d p sa sb ca cb bm) 109 (0, 0))) (hl : d.l.length ≤ 1000) (hr : d.r.length ≤ 1000) : Calls Try.prog 38 #[ptr Bc 0, .int .i64 1] u (Ret fun v w' => v = .int .i64 ((d.r.length : Nat) : Int) ∧ Ext [] u w') := by
  refine calls_of Try.func38 rfl rfl (fun a hf => ?_)
  have hh := Hp.init u []
  refine sy_sq ?_
  refine o_v hf hh (yv_assign rfl) ?_; clear hf a; intro a hf
  refine o_end ?_
  refine sy_seq ?_
  refine sy_quiet (C := Hp _ _ _) Try.follows (by kernel_rfl) (hh.drawn _) ?_
  refine oq_v hf (yv_move rfl) ?_; clear hf a; intro a hf
  refine oq_v hf (yv_nilCheck rfl) ?_; clear hf a; intro a hf
  refine oq_v hf (yv_fieldAddr Try.fo_109_0 rfl) ?_; clear hf a; intro a hf
  refine oq_v hf (yv_fieldAddr Try.fo_31_0 rfl) ?_; clear hf a; intro a hf
  refine oq_v hf (yv_fieldAddr Try.fo_29_0 rfl) ?_; clear hf a; intro a hf
  refine oq_v hf (y_ld Try.sc_25 rfl) ?_; clear hf a; intro a hf
  refine oq_v hf (yv_len Try.se_25 rfl) ?_; clear hf a; intro a hf
  refine oq_v hf (yv_move rfl) ?_; clear hf a; intro a hf
  refine oq_v hf (yv_nilCheck rfl) ?_; clear hf a; intro a hf
  refine oq_v hf (yv_fieldAddr Try.fo_109_0 rfl) ?_; clear hf a; intro a hf
  refine oq_v hf (yv_fieldAddr Try.fo_31_0 rfl) ?_; clear hf a; intro a hf
  refine oq_v hf (yv_fieldAddr Try.fo_29_1 rfl) ?_; clear hf a; intro a hf
  refine oq_v hf (y_ld Try.sc_25 rfl) ?_; clear hf a; intro a hf
  refine oq_v hf (yv_len Try.se_25 rfl) ?_; clear hf a; intro a hf
  refine oq_v hf (yv_buildA Try.ba_42 rfl rfl) ?_; clear hf a; intro a hf
  refine oq_v hf (yv_move rfl) ?_; clear hf a; intro a hf
  refine oq_v hf (yv_idxS Try.ae_42 Try.sc_3 rfl rfl (by first | rfl | assumption)) ?_; clear hf a; intro a hf
  refine oq_v hf (yv_assign rfl) ?_; clear hf a; intro a hf
  refine q_end fun w hh => ?_
  refine then_n ?_
  refine sy_ret ?_
  refine ret_r hf rfl rfl ?_
  exact ⟨rfl, hh.ext⟩
theorem p56 (d : RowsD) (p : Int) (sa sb : Option Addr) (ca cb bm Bc : Nat) (u : World) (hc : u.heap[Bc]? = some (.cells (canC d p sa sb ca cb bm) 109 (0, 0))) (hA : MkAt u sa d.l) (hB : MkAt u sb d.r) (hV : Valid d) (x : Nat × Nat) (hx1 : x.1 < 65536) (hx2 : x.2 < 65536) : Calls Try.prog 56 #[ptr Bc 0, enc2 x] u (Ret fun v w' => ∃ oa ob cpa cpb X1 X2, v = rowsV (woD d x) oa ob cpa cpb ∧ OwnSl 54 4 (.slice oa (woD d x).l.length cpa) (woD d x).l.length (encM (woD d x).l) X1 ∧ OwnSl 54 4 (.slice ob (woD d x).r.length cpb) (woD d x).r.length (encM (woD d x).r) X2 ∧ Hp u [] (X1 ++ X2) w') := by
  refine calls_of Try.func56 rfl rfl (fun a hf => ?_)
  have hh := Hp.init u []
  refine sy_sq ?_
  refine o_box hf hh ?_; clear hf hh a; intro B3 a w hf hh
  refine o_alloc hf hh Try.ze_29 ?_; clear hf hh a; intro B4 a w hf hh
  refine o_end ?_
  refine sy_sq ?_
  refine o_v hf hh (yv_move rfl) ?_; clear hf a; intro a hf
  refine o_v hf hh (yv_nilCheck rfl) ?_; clear hf a; intro a hf
  refine o_v hf hh (yv_fieldAddr Try.fo_109_0 rfl) ?_; clear hf a; intro a hf
  refine o_v hf hh (yv_fieldAddr Try.fo_31_0 rfl) ?_; clear hf a; intro a hf
  refine o_v hf hh (y_lds Try.ag_29 rfl) ?_; clear hf a; intro a hf
  refine o_alloc hf hh Try.ze_29 ?_; clear hf hh a; intro B5 a w hf hh
  refine o_store hf hh Try.sz_29 fun w hh => ?_
  refine o_end ?_
  refine sy_seq ?_
  replace hh : Hp u [] [(B5, .cells (rowsV d sa sb ca cb).cells 29), (B4, .cells #[.slice none 0 0, .slice none 0 0, .int .i64 0, .int .i64 0, .int .i64 0] 29), (B3, .cells (enc2 x).cells 73)] w := hh
  refine sy_treeC (.p 0 (.q 0 1 (.p 2 (.q 0 3 (.p 5 (.q 0 6 (.p 7 (.q 0 8 (.e1 4 (.p 10 (.e1 9 (.e1 11 (.p 12 (.e1 13 (.fin))))))))))))))) [[11, 13]] [(AtE u [] [(B5, .cells (rowsV d sa sb ca cb).cells 29), (B3, .cells (enc2 x).cells 73)], [11, 13])] Try.follows (by kernel_rfl) rfl hh (fun w hh => ?_)
  refine mc_p rfl   hf (yv_fieldAddr Try.fo_29_0 rfl) (.inl rfl) rfl rfl ?_; clear hf a; intro a hf
  refine mc_q rfl rfl (AtE.mk2 hh.ext (hh.at (i := 0) rfl) (hh.at (i := 2) rfl)) hf (y_ld Try.sc_25 rfl) (.inl rfl) rfl rfl ?_; clear hf a; intro a hf
  refine mc_p rfl   hf (y_ia Try.ae_73 rfl rfl) (.inl rfl) rfl rfl ?_; clear hf a; intro a hf
  refine mc_q rfl rfl (AtE.mk2 hh.ext (hh.at (i := 0) rfl) (hh.at (i := 2) rfl)) hf (y_ld Try.sc_71 rfl) (.inl rfl) rfl rfl ?_; clear hf a; intro a hf
  refine mc_p rfl   hf (yv_fieldAddr Try.fo_29_1 rfl) (.inl rfl) rfl rfl ?_; clear hf a; intro a hf
  refine mc_q rfl rfl (AtE.mk2 hh.ext (hh.at (i := 0) rfl) (hh.at (i := 2) rfl)) hf (y_ld Try.sc_25 rfl) (.inl rfl) rfl rfl ?_; clear hf a; intro a hf
  refine mc_p rfl   hf (y_ia Try.ae_73 rfl rfl) (.inl rfl) rfl rfl ?_; clear hf a; intro a hf
  refine mc_q rfl rfl (AtE.mk2 hh.ext (hh.at (i := 0) rfl) (hh.at (i := 2) rfl)) hf (y_ld Try.sc_71 rfl) (.inl rfl) rfl rfl ?_; clear hf a; intro a hf
  refine mc_e rfl fun Q1 => ?_
  refine o_call hf Try.en_72 rfl rfl rfl (p72 d.l sa ca x.1 _ (hA.ext hh.ext) hV.nl hx1) ?_; clear hf a; intro v a w hR hf
  obtain ⟨X1, hO1, hx⟩ := hR; replace hh := (hh.join hx).perm List.perm_append_comm; clear hx
  obtain ⟨oa1, cp1, rfl⟩ := OwnSl_val hO1
  refine ops_end ?_
  refine then_n ⟨⟨fun _ _ => (AtE.mk2 hh.ext (hh.at (i := 0) rfl) (hh.at (i := 2) rfl)), trivial⟩, ?_⟩
  refine mc_p rfl   hf (yv_fieldAddr Try.fo_29_0 rfl) (.inl rfl) rfl rfl ?_; clear hf a; intro a hf
  refine mc_e rfl fun Q1 => ?_
  refine o_call hf Try.en_72 rfl rfl rfl (p72 d.r sb cb x.2 _ (hB.ext hh.ext) hV.nr hx2) ?_; clear hf a; intro v a w hR hf
  obtain ⟨X2, hO2, hx⟩ := hR; replace hh := (hh.join hx).perm List.perm_append_comm; clear hx
  obtain ⟨oa2, cp2, rfl⟩ := OwnSl_val hO2
  refine ops_end ?_
  refine then_n ⟨⟨fun _ _ => (AtE.mk2 hh.ext (hh.at (i := 0) rfl) (hh.at (i := 2) rfl)), trivial⟩, ?_⟩
  refine mc_e rfl fun Q1 => ?_
  refine o_store hf hh Try.sz_25 fun w hh => ?_
  refine ops_end ?_
  refine then_n ⟨⟨fun h => Bool.noConfusion (show true = false from h), trivial⟩, ?_⟩
  refine mc_p rfl   hf (yv_fieldAddr Try.fo_29_1 rfl) (.inl rfl) rfl rfl ?_; clear hf a; intro a hf
  refine mc_e rfl fun Q1 => ?_
  refine o_store hf hh Try.sz_25 fun w hh => ?_
  refine ops_end ?_
  refine then_n ⟨⟨fun h => Bool.noConfusion (show true = false from h), trivial⟩, ?_⟩
  refine mc_end ?_
  refine then_n ?_
  refine sy_sq ?_
  refine o_v hf hh (y_lds Try.ag_29 rfl) ?_; clear hf a; intro a hf
  refine o_store hf hh Try.sz_29 fun w hh => ?_
  refine o_end ?_
  refine sy_ret ?_
  refine ret_c (vs := [rowsV (woD d x) oa1 oa2 cp1 cp2]) hf ?_ ?_
  · exact ⟨⟨B4, 0, _, 29, (0, 0), rfl, hh.at (i := 1) rfl, .inr ⟨5, _, Try.ag_29, rfl, rfl⟩⟩, trivial⟩
  exact ⟨oa1, oa2, cp1, cp2, X1, X2, rfl, hO1, hO2, hh.less (.cons _ (.cons _ (.cons _ (.refl _))))⟩
end Go.Proofs.Ytidieepndphodaa
