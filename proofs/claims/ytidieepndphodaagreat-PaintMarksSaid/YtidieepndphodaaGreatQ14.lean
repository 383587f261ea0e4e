/- Lemmas, in order: What a canvas is: rows, and how many marks can have been painted; sets of marks. Closed facts on the loaded program's types and functions, by program. Panics, and what becomes of them. Marks that are kept: those that are not in a set. Small walks: spans, marks, the first bad mark. Room, joined rows, valid rows. Valid rows. What two marks have in common. Do two marks break a rule? Do two marks break one of the rules? look: rows that are looked at. All pairs that fit, one after the other. Rows in which no pairs are that a rule forbids. How many ways there are, counted. The most pairs; is there a way? Which marks are a pair, or hidden, in some way. Rows that are opened; bits of numbers. Fits, Count, Can. Sure, Hides. Fewest. The law's own small functions. Rows that are valid, for the document's answer; too many marks. The reference's Can, walked. Marks that are kept; rows without marks.. -/
import Derived.Test.YtidieepndphodaaGreatQ13
import Derived.Test.YtidieepndphodaaGreatProg
import Derived.Shelf.Spec.TrailingZeros
namespace Go.MatM
open Go Go.Sy Go.Proofs Go.RowKit
/-- Two sets of marks, as a value. -/
abbrev enc2 (x : Nat × Nat) : Value := .agg #[.int .u64 ((x.1 : Nat) : Int), .int .u64 ((x.2 : Nat) : Int)]
abbrev canV (d : RowsD) (p : Int) (sa sb : Option Addr) (ca cb : Nat) : Value := .agg #[.slice sa d.l.length ca, .slice sb d.r.length cb, .int .i64 d.lo, .int .i64 d.hi, .int .i64 d.hid, .int .i64 p]
/-- The cells of a canvas that is looked at. -/
abbrev canC (d : RowsD) (p : Int) (sa sb : Option Addr) (ca cb bm : Nat) : Array Value := #[.slice sa d.l.length ca, .slice sb d.r.length cb, .int .i64 d.lo, .int .i64 d.hi, .int .i64 d.hid, .int .i64 p, .map (some bm)]
def okCan (d : RowsD) (p : Int) : Bool := okRows d && (decide (0 ≤ p) && decide (p ≤ 3))
end Go.MatM
namespace Go.Proofs.YtidieepndphodaaGreat
open Go Go.Sy
theorem Tryz.follows : Tryz.prog.follows .mixedOrders = true := by kernel_rfl
theorem Tryz.ae_100 : arrayElem Tryz.prog 100 = some (2, 3, 1) := by kernel_rfl
theorem Tryz.ae_119 : arrayElem Tryz.prog 119 = some (10, 4, 1) := by kernel_rfl
theorem Tryz.ae_120 : arrayElem Tryz.prog 120 = some (10, 119, 10) := by kernel_rfl
theorem Tryz.ae_128 : arrayElem Tryz.prog 128 = some (11, 3, 1) := by kernel_rfl
theorem Tryz.ae_129 : arrayElem Tryz.prog 129 = some (11, 128, 11) := by kernel_rfl
theorem Tryz.ae_57 : arrayElem Tryz.prog 57 = some (2, 55, 1) := by kernel_rfl
theorem Tryz.ag_100 : aggB Tryz.prog 100 = some 2 := by kernel_rfl
theorem Tryz.ag_128 : aggB Tryz.prog 128 = some 11 := by kernel_rfl
theorem Tryz.ag_129 : aggB Tryz.prog 129 = some 121 := by kernel_rfl
theorem Tryz.ag_141 : aggB Tryz.prog 141 = some 2 := by kernel_rfl
theorem Tryz.ag_175 : aggB Tryz.prog 175 = some 1 := by kernel_rfl
theorem Tryz.ag_24 : aggB Tryz.prog 24 = some 2 := by kernel_rfl
theorem Tryz.ag_26 : aggB Tryz.prog 26 = some 5 := by kernel_rfl
theorem Tryz.ag_28 : aggB Tryz.prog 28 = some 6 := by kernel_rfl
theorem Tryz.ag_57 : aggB Tryz.prog 57 = some 2 := by kernel_rfl
theorem Tryz.ag_89 : aggB Tryz.prog 89 = some 4 := by kernel_rfl
theorem Tryz.ba_100 : arrayB Tryz.prog 100 = some ([(.int .i64 0), (.int .i64 0)], 1) := by kernel_rfl
theorem Tryz.ba_57 : arrayB Tryz.prog 57 = some ([(.int .u64 0), (.int .u64 0)], 1) := by kernel_rfl
theorem Tryz.bl_103_0 : sliceB Tryz.prog 103 0 = some (100, 2, []) := by kernel_rfl
theorem Tryz.bl_103_1 : sliceB Tryz.prog 103 1 = some (100, 2, [(.int .i64 0), (.int .i64 0)]) := by kernel_rfl
theorem Tryz.bl_106_1 : sliceB Tryz.prog 106 1 = some (103, 1, [(.slice none 0 0)]) := by kernel_rfl
theorem Tryz.bl_142_2 : sliceB Tryz.prog 142 2 = some (141, 2, [.nilFunc, .nilFunc, .nilFunc, .nilFunc]) := by kernel_rfl
theorem Tryz.bl_154_2 : sliceB Tryz.prog 154 2 = some (22, 1, [(.slice none 0 0), (.slice none 0 0)]) := by kernel_rfl
theorem Tryz.bl_171_3 : sliceB Tryz.prog 171 3 = some (175, 1, [.nilFunc, .nilFunc, .nilFunc]) := by kernel_rfl
theorem Tryz.bl_177_2 : sliceB Tryz.prog 177 2 = some (55, 1, [(.int .u64 0), (.int .u64 0)]) := by kernel_rfl
theorem Tryz.bl_22_1 : sliceB Tryz.prog 22 1 = some (89, 4, [(.int .i64 0), (.int .i64 0), (.int .i64 0), (.int .i64 0)]) := by kernel_rfl
theorem Tryz.bl_22_3 : sliceB Tryz.prog 22 3 = some (89, 4, [(.int .i64 0), (.int .i64 0), (.int .i64 0), (.int .i64 0), (.int .i64 0), (.int .i64 0), (.int .i64 0), (.int .i64 0), (.int .i64 0), (.int .i64 0), (.int .i64 0), (.int .i64 0)]) := by kernel_rfl
theorem Tryz.bl_22_4 : sliceB Tryz.prog 22 4 = some (89, 4, [(.int .i64 0), (.int .i64 0), (.int .i64 0), (.int .i64 0), (.int .i64 0), (.int .i64 0), (.int .i64 0), (.int .i64 0), (.int .i64 0), (.int .i64 0), (.int .i64 0), (.int .i64 0), (.int .i64 0), (.int .i64 0), (.int .i64 0), (.int .i64 0)]) := by kernel_rfl
theorem Tryz.bl_64_1 : sliceB Tryz.prog 64 1 = some (73, 2, [(.int .i64 0), (.int .i64 0)]) := by kernel_rfl
theorem Tryz.bl_84_2 : sliceB Tryz.prog 84 2 = some (3, 1, [(.int .i64 0), (.int .i64 0)]) := by kernel_rfl
theorem Tryz.bs_122 : structB Tryz.prog 122 = some ([(.slice none 0 0), (.slice none 0 0), (.int .i64 0), (.int .i64 0), (.int .i64 0), (.bool false), (.bool false), (.bool false), (.bool false), (.bool false), (.bool false), (.bool false), (.bool false), (.bool false), (.bool false), (.bool false), (.bool false), (.bool false), (.bool false), (.bool false), (.bool false), (.bool false), (.bool false), (.bool false), (.bool false), (.bool false), (.bool false), (.bool false), (.bool false), (.bool false), (.bool false), (.bool false), (.bool false), (.bool false), (.bool false), (.bool false), (.bool false), (.bool false), (.bool false), (.bool false), (.bool false), (.bool false), (.bool false), (.bool false), (.bool false), (.bool false), (.bool false), (.bool false), (.bool false), (.bool false), (.bool false), (.bool false), (.bool false), (.bool false), (.bool false), (.bool false), (.bool false), (.bool false), (.bool false), (.bool false), (.bool false), (.bool false), (.bool false), (.bool false), (.bool false), (.bool false), (.bool false), (.bool false), (.bool false), (.bool false), (.bool false), (.bool false), (.bool false), (.bool false), (.bool false), (.bool false), (.bool false), (.bool false), (.bool false), (.bool false), (.bool false), (.bool false), (.bool false), (.bool false), (.bool false), (.bool false), (.bool false), (.bool false), (.bool false), (.bool false), (.bool false), (.bool false), (.bool false), (.bool false), (.bool false), (.bool false), (.bool false), (.bool false), (.bool false), (.bool false), (.bool false), (.bool false), (.bool false), (.bool false), (.bool false), (.int .i64 0)], [(0, 5), (5, 100), (105, 1)]) := by kernel_rfl
theorem Tryz.bs_141 : structB Tryz.prog 141 = some ([.nilFunc, .nilFunc], [(0, 1), (1, 1)]) := by kernel_rfl
theorem Tryz.bs_175 : structB Tryz.prog 175 = some ([.nilFunc], [(0, 1)]) := by kernel_rfl
theorem Tryz.bs_24 : structB Tryz.prog 24 = some ([(.int .i64 0), (.int .i64 0)], [(0, 1), (1, 1)]) := by kernel_rfl
theorem Tryz.bs_26 : structB Tryz.prog 26 = some ([(.slice none 0 0), (.slice none 0 0), (.int .i64 0), (.int .i64 0), (.int .i64 0)], [(0, 1), (1, 1), (2, 2), (4, 1)]) := by kernel_rfl
theorem Tryz.bs_28 : structB Tryz.prog 28 = some ([(.slice none 0 0), (.slice none 0 0), (.int .i64 0), (.int .i64 0), (.int .i64 0), (.int .i64 0)], [(0, 5), (5, 1)]) := by kernel_rfl
theorem Tryz.bs_73 : structB Tryz.prog 73 = some ([(.int .i64 0), (.int .i64 0)], [(0, 1), (1, 1)]) := by kernel_rfl
theorem Tryz.bs_89 : structB Tryz.prog 89 = some ([(.int .i64 0), (.int .i64 0), (.int .i64 0), (.int .i64 0)], [(0, 2), (2, 2)]) := by kernel_rfl
theorem Tryz.bs_94 : structB Tryz.prog 94 = some ([(.int .i64 0)], [(0, 1)]) := by kernel_rfl
theorem Tryz.bs_99 : structB Tryz.prog 99 = some ([(.slice none 0 0), (.slice none 0 0), (.int .i64 0), (.int .i64 0), (.int .i64 0), (.int .i64 0), (.map none)], [(0, 6), (6, 1)]) := by kernel_rfl
theorem Tryz.eb_103 : elemB Tryz.prog 103 = some (100, 2, 16, (.agg #[(.int .i64 0), (.int .i64 0)])) := by kernel_rfl
theorem Tryz.eb_106 : elemB Tryz.prog 106 = some (103, 1, 24, (.slice none 0 0)) := by kernel_rfl
theorem Tryz.eb_22 : elemB Tryz.prog 22 = some (89, 4, 32, (.agg #[(.int .i64 0), (.int .i64 0), (.int .i64 0), (.int .i64 0)])) := by kernel_rfl
theorem Tryz.eb_64 : elemB Tryz.prog 64 = some (73, 2, 16, (.agg #[(.int .i64 0), (.int .i64 0)])) := by kernel_rfl
theorem Tryz.en_10 : Enters Tryz.prog 10 := enters_of Tryz.func10 (by kernel_rfl) rfl
theorem Tryz.en_100 : Enters Tryz.prog 100 := enters_of Tryz.func100 (by kernel_rfl) rfl
theorem Tryz.en_101 : Enters Tryz.prog 101 := enters_of Tryz.func101 (by kernel_rfl) rfl
theorem Tryz.en_102 : Enters Tryz.prog 102 := enters_of Tryz.func102 (by kernel_rfl) rfl
theorem Tryz.en_103 : Enters Tryz.prog 103 := enters_of Tryz.func103 (by kernel_rfl) rfl
theorem Tryz.en_11 : Enters Tryz.prog 11 := enters_of Tryz.func11 (by kernel_rfl) rfl
theorem Tryz.en_119 : Enters Tryz.prog 119 := enters_of Tryz.func119 (by kernel_rfl) rfl
theorem Tryz.en_12 : Enters Tryz.prog 12 := enters_of Tryz.func12 (by kernel_rfl) rfl
theorem Tryz.en_120 : Enters Tryz.prog 120 := enters_of Tryz.func120 (by kernel_rfl) rfl
theorem Tryz.en_121 : Enters Tryz.prog 121 := enters_of Tryz.func121 (by kernel_rfl) rfl
theorem Tryz.en_122 : Enters Tryz.prog 122 := enters_of Tryz.func122 (by kernel_rfl) rfl
theorem Tryz.en_123 : Enters Tryz.prog 123 := enters_of Tryz.func123 (by kernel_rfl) rfl
theorem Tryz.en_124 : Enters Tryz.prog 124 := enters_of Tryz.func124 (by kernel_rfl) rfl
theorem Tryz.en_125 : Enters Tryz.prog 125 := enters_of Tryz.func125 (by kernel_rfl) rfl
theorem Tryz.en_126 : Enters Tryz.prog 126 := enters_of Tryz.func126 (by kernel_rfl) rfl
theorem Tryz.en_127 : Enters Tryz.prog 127 := enters_of Tryz.func127 (by kernel_rfl) rfl
theorem Tryz.en_128 : Enters Tryz.prog 128 := enters_of Tryz.func128 (by kernel_rfl) rfl
theorem Tryz.en_13 : Enters Tryz.prog 13 := enters_of Tryz.func13 (by kernel_rfl) rfl
theorem Tryz.en_14 : Enters Tryz.prog 14 := enters_of Tryz.func14 (by kernel_rfl) rfl
theorem Tryz.en_15 : Enters Tryz.prog 15 := enters_of Tryz.func15 (by kernel_rfl) rfl
theorem Tryz.en_16 : Enters Tryz.prog 16 := enters_of Tryz.func16 (by kernel_rfl) rfl
theorem Tryz.en_17 : Enters Tryz.prog 17 := enters_of Tryz.func17 (by kernel_rfl) rfl
theorem Tryz.en_18 : Enters Tryz.prog 18 := enters_of Tryz.func18 (by kernel_rfl) rfl
theorem Tryz.en_19 : Enters Tryz.prog 19 := enters_of Tryz.func19 (by kernel_rfl) rfl
theorem Tryz.en_20 : Enters Tryz.prog 20 := enters_of Tryz.func20 (by kernel_rfl) rfl
theorem Tryz.en_21 : Enters Tryz.prog 21 := enters_of Tryz.func21 (by kernel_rfl) rfl
theorem Tryz.en_22 : Enters Tryz.prog 22 := enters_of Tryz.func22 (by kernel_rfl) rfl
theorem Tryz.en_23 : Enters Tryz.prog 23 := enters_of Tryz.func23 (by kernel_rfl) rfl
theorem Tryz.en_24 : Enters Tryz.prog 24 := enters_of Tryz.func24 (by kernel_rfl) rfl
theorem Tryz.en_25 : Enters Tryz.prog 25 := enters_of Tryz.func25 (by kernel_rfl) rfl
theorem Tryz.en_26 : Enters Tryz.prog 26 := enters_of Tryz.func26 (by kernel_rfl) rfl
theorem Tryz.en_27 : Enters Tryz.prog 27 := enters_of Tryz.func27 (by kernel_rfl) rfl
theorem Tryz.en_28 : Enters Tryz.prog 28 := enters_of Tryz.func28 (by kernel_rfl) rfl
theorem Tryz.en_29 : Enters Tryz.prog 29 := enters_of Tryz.func29 (by kernel_rfl) rfl
theorem Tryz.en_3 : Enters Tryz.prog 3 := enters_of Tryz.func3 (by kernel_rfl) rfl
theorem Tryz.en_30 : Enters Tryz.prog 30 := enters_of Tryz.func30 (by kernel_rfl) rfl
theorem Tryz.en_31 : Enters Tryz.prog 31 := enters_of Tryz.func31 (by kernel_rfl) rfl
theorem Tryz.en_32 : Enters Tryz.prog 32 := enters_of Tryz.func32 (by kernel_rfl) rfl
theorem Tryz.en_33 : Enters Tryz.prog 33 := enters_of Tryz.func33 (by kernel_rfl) rfl
theorem Tryz.en_34 : Enters Tryz.prog 34 := enters_of Tryz.func34 (by kernel_rfl) rfl
theorem Tryz.en_35 : Enters Tryz.prog 35 := enters_of Tryz.func35 (by kernel_rfl) rfl
theorem Tryz.en_36 : Enters Tryz.prog 36 := enters_of Tryz.func36 (by kernel_rfl) rfl
theorem Tryz.en_37 : Enters Tryz.prog 37 := enters_of Tryz.func37 (by kernel_rfl) rfl
theorem Tryz.en_38 : Enters Tryz.prog 38 := enters_of Tryz.func38 (by kernel_rfl) rfl
theorem Tryz.en_39 : Enters Tryz.prog 39 := enters_of Tryz.func39 (by kernel_rfl) rfl
theorem Tryz.en_4 : Enters Tryz.prog 4 := enters_of Tryz.func4 (by kernel_rfl) rfl
theorem Tryz.en_40 : Enters Tryz.prog 40 := enters_of Tryz.func40 (by kernel_rfl) rfl
theorem Tryz.en_41 : Enters Tryz.prog 41 := enters_of Tryz.func41 (by kernel_rfl) rfl
theorem Tryz.en_42 : Enters Tryz.prog 42 := enters_of Tryz.func42 (by kernel_rfl) rfl
theorem Tryz.en_43 : Enters Tryz.prog 43 := enters_of Tryz.func43 (by kernel_rfl) rfl
theorem Tryz.en_44 : Enters Tryz.prog 44 := enters_of Tryz.func44 (by kernel_rfl) rfl
theorem Tryz.en_45 : Enters Tryz.prog 45 := enters_of Tryz.func45 (by kernel_rfl) rfl
theorem Tryz.en_46 : Enters Tryz.prog 46 := enters_of Tryz.func46 (by kernel_rfl) rfl
theorem Tryz.en_47 : Enters Tryz.prog 47 := enters_of Tryz.func47 (by kernel_rfl) rfl
theorem Tryz.en_48 : Enters Tryz.prog 48 := enters_of Tryz.func48 (by kernel_rfl) rfl
theorem Tryz.en_49 : Enters Tryz.prog 49 := enters_of Tryz.func49 (by kernel_rfl) rfl
theorem Tryz.en_5 : Enters Tryz.prog 5 := enters_of Tryz.func5 (by kernel_rfl) rfl
theorem Tryz.en_50 : Enters Tryz.prog 50 := enters_of Tryz.func50 (by kernel_rfl) rfl
theorem Tryz.en_51 : Enters Tryz.prog 51 := enters_of Tryz.func51 (by kernel_rfl) rfl
theorem Tryz.en_52 : Enters Tryz.prog 52 := enters_of Tryz.func52 (by kernel_rfl) rfl
theorem Tryz.en_53 : Enters Tryz.prog 53 := enters_of Tryz.func53 (by kernel_rfl) rfl
theorem Tryz.en_54 : Enters Tryz.prog 54 := enters_of Tryz.func54 (by kernel_rfl) rfl
theorem Tryz.en_55 : Enters Tryz.prog 55 := enters_of Tryz.func55 (by kernel_rfl) rfl
theorem Tryz.en_56 : Enters Tryz.prog 56 := enters_of Tryz.func56 (by kernel_rfl) rfl
theorem Tryz.en_57 : Enters Tryz.prog 57 := enters_of Tryz.func57 (by kernel_rfl) rfl
theorem Tryz.en_58 : Enters Tryz.prog 58 := enters_of Tryz.func58 (by kernel_rfl) rfl
theorem Tryz.en_59 : Enters Tryz.prog 59 := enters_of Tryz.func59 (by kernel_rfl) rfl
theorem Tryz.en_6 : Enters Tryz.prog 6 := enters_of Tryz.func6 (by kernel_rfl) rfl
theorem Tryz.en_60 : Enters Tryz.prog 60 := enters_of Tryz.func60 (by kernel_rfl) rfl
theorem Tryz.en_61 : Enters Tryz.prog 61 := enters_of Tryz.func61 (by kernel_rfl) rfl
theorem Tryz.en_62 : Enters Tryz.prog 62 := enters_of Tryz.func62 (by kernel_rfl) rfl
theorem Tryz.en_63 : Enters Tryz.prog 63 := enters_of Tryz.func63 (by kernel_rfl) rfl
theorem Tryz.en_64 : Enters Tryz.prog 64 := enters_of Tryz.func64 (by kernel_rfl) rfl
theorem Tryz.en_65 : Enters Tryz.prog 65 := enters_of Tryz.func65 (by kernel_rfl) rfl
theorem Tryz.en_66 : Enters Tryz.prog 66 := enters_of Tryz.func66 (by kernel_rfl) rfl
theorem Tryz.en_67 : Enters Tryz.prog 67 := enters_of Tryz.func67 (by kernel_rfl) rfl
theorem Tryz.en_68 : Enters Tryz.prog 68 := enters_of Tryz.func68 (by kernel_rfl) rfl
theorem Tryz.en_69 : Enters Tryz.prog 69 := enters_of Tryz.func69 (by kernel_rfl) rfl
theorem Tryz.en_7 : Enters Tryz.prog 7 := enters_of Tryz.func7 (by kernel_rfl) rfl
theorem Tryz.en_70 : Enters Tryz.prog 70 := enters_of Tryz.func70 (by kernel_rfl) rfl
theorem Tryz.en_71 : Enters Tryz.prog 71 := enters_of Tryz.func71 (by kernel_rfl) rfl
theorem Tryz.en_72 : Enters Tryz.prog 72 := enters_of Tryz.func72 (by kernel_rfl) rfl
theorem Tryz.en_73 : Enters Tryz.prog 73 := enters_of Tryz.func73 (by kernel_rfl) rfl
theorem Tryz.en_74 : Enters Tryz.prog 74 := enters_of Tryz.func74 (by kernel_rfl) rfl
theorem Tryz.en_75 : Enters Tryz.prog 75 := enters_of Tryz.func75 (by kernel_rfl) rfl
theorem Tryz.en_76 : Enters Tryz.prog 76 := enters_of Tryz.func76 (by kernel_rfl) rfl
theorem Tryz.en_77 : Enters Tryz.prog 77 := enters_of Tryz.func77 (by kernel_rfl) rfl
theorem Tryz.en_78 : Enters Tryz.prog 78 := enters_of Tryz.func78 (by kernel_rfl) rfl
theorem Tryz.en_79 : Enters Tryz.prog 79 := enters_of Tryz.func79 (by kernel_rfl) rfl
theorem Tryz.en_8 : Enters Tryz.prog 8 := enters_of Tryz.func8 (by kernel_rfl) rfl
theorem Tryz.en_80 : Enters Tryz.prog 80 := enters_of Tryz.func80 (by kernel_rfl) rfl
theorem Tryz.en_81 : Enters Tryz.prog 81 := enters_of Tryz.func81 (by kernel_rfl) rfl
theorem Tryz.en_82 : Enters Tryz.prog 82 := enters_of Tryz.func82 (by kernel_rfl) rfl
theorem Tryz.en_83 : Enters Tryz.prog 83 := enters_of Tryz.func83 (by kernel_rfl) rfl
theorem Tryz.en_84 : Enters Tryz.prog 84 := enters_of Tryz.func84 (by kernel_rfl) rfl
theorem Tryz.en_85 : Enters Tryz.prog 85 := enters_of Tryz.func85 (by kernel_rfl) rfl
theorem Tryz.en_86 : Enters Tryz.prog 86 := enters_of Tryz.func86 (by kernel_rfl) rfl
theorem Tryz.en_87 : Enters Tryz.prog 87 := enters_of Tryz.func87 (by kernel_rfl) rfl
theorem Tryz.en_88 : Enters Tryz.prog 88 := enters_of Tryz.func88 (by kernel_rfl) rfl
theorem Tryz.en_89 : Enters Tryz.prog 89 := enters_of Tryz.func89 (by kernel_rfl) rfl
theorem Tryz.en_9 : Enters Tryz.prog 9 := enters_of Tryz.func9 (by kernel_rfl) rfl
theorem Tryz.en_90 : Enters Tryz.prog 90 := enters_of Tryz.func90 (by kernel_rfl) rfl
theorem Tryz.en_91 : Enters Tryz.prog 91 := enters_of Tryz.func91 (by kernel_rfl) rfl
theorem Tryz.en_92 : Enters Tryz.prog 92 := enters_of Tryz.func92 (by kernel_rfl) rfl
theorem Tryz.en_93 : Enters Tryz.prog 93 := enters_of Tryz.func93 (by kernel_rfl) rfl
theorem Tryz.en_94 : Enters Tryz.prog 94 := enters_of Tryz.func94 (by kernel_rfl) rfl
theorem Tryz.en_95 : Enters Tryz.prog 95 := enters_of Tryz.func95 (by kernel_rfl) rfl
theorem Tryz.en_96 : Enters Tryz.prog 96 := enters_of Tryz.func96 (by kernel_rfl) rfl
theorem Tryz.en_97 : Enters Tryz.prog 97 := enters_of Tryz.func97 (by kernel_rfl) rfl
theorem Tryz.en_98 : Enters Tryz.prog 98 := enters_of Tryz.func98 (by kernel_rfl) rfl
theorem Tryz.en_99 : Enters Tryz.prog 99 := enters_of Tryz.func99 (by kernel_rfl) rfl
theorem Tryz.fo_122_0 : fieldOff Tryz.prog 122 0 = some 0 := by kernel_rfl
theorem Tryz.fo_122_1 : fieldOff Tryz.prog 122 1 = some 5 := by kernel_rfl
theorem Tryz.fo_122_2 : fieldOff Tryz.prog 122 2 = some 105 := by kernel_rfl
theorem Tryz.fo_141_0 : fieldOff Tryz.prog 141 0 = some 0 := by kernel_rfl
theorem Tryz.fo_141_1 : fieldOff Tryz.prog 141 1 = some 1 := by kernel_rfl
theorem Tryz.fo_175_0 : fieldOff Tryz.prog 175 0 = some 0 := by kernel_rfl
theorem Tryz.fo_24_0 : fieldOff Tryz.prog 24 0 = some 0 := by kernel_rfl
theorem Tryz.fo_24_1 : fieldOff Tryz.prog 24 1 = some 1 := by kernel_rfl
theorem Tryz.fo_26_0 : fieldOff Tryz.prog 26 0 = some 0 := by kernel_rfl
theorem Tryz.fo_26_1 : fieldOff Tryz.prog 26 1 = some 1 := by kernel_rfl
theorem Tryz.fo_26_2 : fieldOff Tryz.prog 26 2 = some 2 := by kernel_rfl
theorem Tryz.fo_26_3 : fieldOff Tryz.prog 26 3 = some 4 := by kernel_rfl
theorem Tryz.fo_28_0 : fieldOff Tryz.prog 28 0 = some 0 := by kernel_rfl
theorem Tryz.fo_28_1 : fieldOff Tryz.prog 28 1 = some 5 := by kernel_rfl
theorem Tryz.fo_59_0 : fieldOff Tryz.prog 59 0 = some 0 := by kernel_rfl
theorem Tryz.fo_67_0 : fieldOff Tryz.prog 67 0 = some 0 := by kernel_rfl
theorem Tryz.fo_73_0 : fieldOff Tryz.prog 73 0 = some 0 := by kernel_rfl
theorem Tryz.fo_73_1 : fieldOff Tryz.prog 73 1 = some 1 := by kernel_rfl
theorem Tryz.fo_75_0 : fieldOff Tryz.prog 75 0 = some 0 := by kernel_rfl
theorem Tryz.fo_75_1 : fieldOff Tryz.prog 75 1 = some 1 := by kernel_rfl
theorem Tryz.fo_78_0 : fieldOff Tryz.prog 78 0 = some 0 := by kernel_rfl
theorem Tryz.fo_78_1 : fieldOff Tryz.prog 78 1 = some 1 := by kernel_rfl
theorem Tryz.fo_78_2 : fieldOff Tryz.prog 78 2 = some 3 := by kernel_rfl
theorem Tryz.fo_89_0 : fieldOff Tryz.prog 89 0 = some 0 := by kernel_rfl
theorem Tryz.fo_89_1 : fieldOff Tryz.prog 89 1 = some 2 := by kernel_rfl
theorem Tryz.fo_94_0 : fieldOff Tryz.prog 94 0 = some 0 := by kernel_rfl
theorem Tryz.fo_99_0 : fieldOff Tryz.prog 99 0 = some 0 := by kernel_rfl
theorem Tryz.fo_99_1 : fieldOff Tryz.prog 99 1 = some 6 := by kernel_rfl
theorem Tryz.sc_103 : scalB Tryz.prog 103 = true := by kernel_rfl
theorem Tryz.sc_113 : scalB Tryz.prog 113 = true := by kernel_rfl
theorem Tryz.sc_123 : scalB Tryz.prog 123 = true := by kernel_rfl
theorem Tryz.sc_139 : scalB Tryz.prog 139 = true := by kernel_rfl
theorem Tryz.sc_173 : scalB Tryz.prog 173 = true := by kernel_rfl
theorem Tryz.sc_22 : scalB Tryz.prog 22 = true := by kernel_rfl
theorem Tryz.sc_3 : scalB Tryz.prog 3 = true := by kernel_rfl
theorem Tryz.sc_31 : scalB Tryz.prog 31 = true := by kernel_rfl
theorem Tryz.sc_4 : scalB Tryz.prog 4 = true := by kernel_rfl
theorem Tryz.sc_48 : scalB Tryz.prog 48 = true := by kernel_rfl
theorem Tryz.sc_53 : scalB Tryz.prog 53 = true := by kernel_rfl
theorem Tryz.sc_55 : scalB Tryz.prog 55 = true := by kernel_rfl
theorem Tryz.sc_97 : scalB Tryz.prog 97 = true := by kernel_rfl
theorem Tryz.se_103 : sliceElem Tryz.prog 103 = some (100, 2) := by kernel_rfl
theorem Tryz.se_106 : sliceElem Tryz.prog 106 = some (103, 1) := by kernel_rfl
theorem Tryz.se_142 : sliceElem Tryz.prog 142 = some (141, 2) := by kernel_rfl
theorem Tryz.se_154 : sliceElem Tryz.prog 154 = some (22, 1) := by kernel_rfl
theorem Tryz.se_171 : sliceElem Tryz.prog 171 = some (175, 1) := by kernel_rfl
theorem Tryz.se_177 : sliceElem Tryz.prog 177 = some (55, 1) := by kernel_rfl
theorem Tryz.se_22 : sliceElem Tryz.prog 22 = some (89, 4) := by kernel_rfl
theorem Tryz.se_64 : sliceElem Tryz.prog 64 = some (73, 2) := by kernel_rfl
theorem Tryz.se_84 : sliceElem Tryz.prog 84 = some (3, 1) := by kernel_rfl
theorem Tryz.sz_100 : (Tryz.prog.info? 100).map (·.size) = some 2 := by kernel_rfl
theorem Tryz.sz_103 : (Tryz.prog.info? 103).map (·.size) = some 1 := by kernel_rfl
theorem Tryz.sz_129 : (Tryz.prog.info? 129).map (·.size) = some 121 := by kernel_rfl
theorem Tryz.sz_175 : (Tryz.prog.info? 175).map (·.size) = some 1 := by kernel_rfl
theorem Tryz.sz_22 : (Tryz.prog.info? 22).map (·.size) = some 1 := by kernel_rfl
theorem Tryz.sz_24 : (Tryz.prog.info? 24).map (·.size) = some 2 := by kernel_rfl
theorem Tryz.sz_26 : (Tryz.prog.info? 26).map (·.size) = some 5 := by kernel_rfl
theorem Tryz.sz_28 : (Tryz.prog.info? 28).map (·.size) = some 6 := by kernel_rfl
theorem Tryz.sz_3 : (Tryz.prog.info? 3).map (·.size) = some 1 := by kernel_rfl
theorem Tryz.sz_31 : (Tryz.prog.info? 31).map (·.size) = some 1 := by kernel_rfl
theorem Tryz.sz_4 : (Tryz.prog.info? 4).map (·.size) = some 1 := by kernel_rfl
theorem Tryz.sz_48 : (Tryz.prog.info? 48).map (·.size) = some 1 := by kernel_rfl
theorem Tryz.sz_53 : (Tryz.prog.info? 53).map (·.size) = some 1 := by kernel_rfl
theorem Tryz.sz_55 : (Tryz.prog.info? 55).map (·.size) = some 1 := by kernel_rfl
theorem Tryz.sz_57 : (Tryz.prog.info? 57).map (·.size) = some 2 := by kernel_rfl
theorem Tryz.sz_59 : (Tryz.prog.info? 59).map (·.size) = some 1 := by kernel_rfl
theorem Tryz.sz_67 : (Tryz.prog.info? 67).map (·.size) = some 1 := by kernel_rfl
theorem Tryz.sz_75 : (Tryz.prog.info? 75).map (·.size) = some 3 := by kernel_rfl
theorem Tryz.sz_78 : (Tryz.prog.info? 78).map (·.size) = some 5 := by kernel_rfl
theorem Tryz.sz_89 : (Tryz.prog.info? 89).map (·.size) = some 4 := by kernel_rfl
theorem Tryz.sz_94 : (Tryz.prog.info? 94).map (·.size) = some 1 := by kernel_rfl
theorem Tryz.ub_4 : Tryz.prog.underlying 4 = some .bool := by kernel_rfl
theorem Tryz.un_147 : Tryz.prog.underlying 147 = some (.int .u32) := by kernel_rfl
theorem Tryz.un_3 : Tryz.prog.underlying 3 = some (.int .i64) := by kernel_rfl
theorem Tryz.un_55 : Tryz.prog.underlying 55 = some (.int .u64) := by kernel_rfl
theorem Tryz.ze_100 : zeroOf Tryz.prog 100 = some (.agg #[(.int .i64 0), (.int .i64 0)]) := by kernel_rfl
theorem Tryz.ze_103 : zeroOf Tryz.prog 103 = some (.slice none 0 0) := by kernel_rfl
theorem Tryz.ze_129 : zeroOf Tryz.prog 129 = some (.agg #[(.int .i64 0), (.int .i64 0), (.int .i64 0), (.int .i64 0), (.int .i64 0), (.int .i64 0), (.int .i64 0), (.int .i64 0), (.int .i64 0), (.int .i64 0), (.int .i64 0), (.int .i64 0), (.int .i64 0), (.int .i64 0), (.int .i64 0), (.int .i64 0), (.int .i64 0), (.int .i64 0), (.int .i64 0), (.int .i64 0), (.int .i64 0), (.int .i64 0), (.int .i64 0), (.int .i64 0), (.int .i64 0), (.int .i64 0), (.int .i64 0), (.int .i64 0), (.int .i64 0), (.int .i64 0), (.int .i64 0), (.int .i64 0), (.int .i64 0), (.int .i64 0), (.int .i64 0), (.int .i64 0), (.int .i64 0), (.int .i64 0), (.int .i64 0), (.int .i64 0), (.int .i64 0), (.int .i64 0), (.int .i64 0), (.int .i64 0), (.int .i64 0), (.int .i64 0), (.int .i64 0), (.int .i64 0), (.int .i64 0), (.int .i64 0), (.int .i64 0), (.int .i64 0), (.int .i64 0), (.int .i64 0), (.int .i64 0), (.int .i64 0), (.int .i64 0), (.int .i64 0), (.int .i64 0), (.int .i64 0), (.int .i64 0), (.int .i64 0), (.int .i64 0), (.int .i64 0), (.int .i64 0), (.int .i64 0), (.int .i64 0), (.int .i64 0), (.int .i64 0), (.int .i64 0), (.int .i64 0), (.int .i64 0), (.int .i64 0), (.int .i64 0), (.int .i64 0), (.int .i64 0), (.int .i64 0), (.int .i64 0), (.int .i64 0), (.int .i64 0), (.int .i64 0), (.int .i64 0), (.int .i64 0), (.int .i64 0), (.int .i64 0), (.int .i64 0), (.int .i64 0), (.int .i64 0), (.int .i64 0), (.int .i64 0), (.int .i64 0), (.int .i64 0), (.int .i64 0), (.int .i64 0), (.int .i64 0), (.int .i64 0), (.int .i64 0), (.int .i64 0), (.int .i64 0), (.int .i64 0), (.int .i64 0), (.int .i64 0), (.int .i64 0), (.int .i64 0), (.int .i64 0), (.int .i64 0), (.int .i64 0), (.int .i64 0), (.int .i64 0), (.int .i64 0), (.int .i64 0), (.int .i64 0), (.int .i64 0), (.int .i64 0), (.int .i64 0), (.int .i64 0), (.int .i64 0), (.int .i64 0), (.int .i64 0), (.int .i64 0), (.int .i64 0)]) := by kernel_rfl
theorem Tryz.ze_175 : zeroOf Tryz.prog 175 = some (.agg #[.nilFunc]) := by kernel_rfl
theorem Tryz.ze_24 : zeroOf Tryz.prog 24 = some (.agg #[(.int .i64 0), (.int .i64 0)]) := by kernel_rfl
theorem Tryz.ze_26 : zeroOf Tryz.prog 26 = some (.agg #[(.slice none 0 0), (.slice none 0 0), (.int .i64 0), (.int .i64 0), (.int .i64 0)]) := by kernel_rfl
theorem Tryz.ze_28 : zeroOf Tryz.prog 28 = some (.agg #[(.slice none 0 0), (.slice none 0 0), (.int .i64 0), (.int .i64 0), (.int .i64 0), (.int .i64 0)]) := by kernel_rfl
theorem Tryz.ze_3 : zeroOf Tryz.prog 3 = some (.int .i64 0) := by kernel_rfl
theorem Tryz.ze_31 : zeroOf Tryz.prog 31 = some (.int .i64 0) := by kernel_rfl
theorem Tryz.ze_48 : zeroOf Tryz.prog 48 = some (.pointer none) := by kernel_rfl
theorem Tryz.ze_53 : zeroOf Tryz.prog 53 = some .nilFunc := by kernel_rfl
theorem Tryz.ze_57 : zeroOf Tryz.prog 57 = some (.agg #[(.int .u64 0), (.int .u64 0)]) := by kernel_rfl
theorem Tryz.ze_59 : zeroOf Tryz.prog 59 = some (.agg #[(.int .i64 0)]) := by kernel_rfl
theorem Tryz.ze_67 : zeroOf Tryz.prog 67 = some (.agg #[(.int .i64 0)]) := by kernel_rfl
theorem Tryz.ze_75 : zeroOf Tryz.prog 75 = some (.agg #[(.int .i64 0), (.int .u64 0), (.int .u64 0)]) := by kernel_rfl
theorem Tryz.ze_78 : zeroOf Tryz.prog 78 = some (.agg #[(.int .i64 0), (.int .u64 0), (.int .u64 0), (.int .u64 0), (.int .u64 0)]) := by kernel_rfl
theorem Tryz.ze_89 : zeroOf Tryz.prog 89 = some (.agg #[(.int .i64 0), (.int .i64 0), (.int .i64 0), (.int .i64 0)]) := by kernel_rfl
theorem Tryz.ze_94 : zeroOf Tryz.prog 94 = some (.agg #[(.int .i64 0)]) := by kernel_rfl
end Go.Proofs.YtidieepndphodaaGreat
namespace Go.Proofs.YtidieepndphodaaGreat
open Go Go.Sy Go.MatM
/-- The panic of what cannot be told. -/
abbrev misfit (e : Int) : List PanicEntry := [{ v := .iface 94 (.agg #[.int .i64 e]), recovered := false }]
theorem p50 (b : Bool) (e : Int) (u : World) : Calls Tryz.prog 48 #[.bool b, .int .i64 e] u (RetX (fun v w' => b = true ∧ Ext [] u w') (fun ch w' => b = false ∧ ch = misfit e ∧ Ext [] u w')) := by
  refine calls_ofX Tryz.func48 rfl rfl (fun a hf => ?_)
  have hh := Hp.init u []
  refine sy_sq ?_
  refine o_v hf hh (yv_move rfl) ?_; clear hf a; intro a hf
  refine o_v hf hh (yv_not rfl) ?_; clear hf a; intro a hf
  refine o_end ?_
  refine sy_cond hf rfl (fun hg2 => ?_) (fun hg2 => ?_)
  ·have hG2 := hg2; try simp only [gS] at hG2
   refine sy_ops ?_
   refine o_v hf hh (yv_move rfl) ?_; clear hf a; intro a hf
   refine o_v hf hh (yv_buildS Tryz.bs_94 rfl rfl) ?_; clear hf a; intro a hf
   refine o_v hf hh (yv_makeIface (by kernel_rfl) rfl) ?_; clear hf a; intro a hf
   refine o_panic hf fun hf => ?_
   refine pan_x hf ?_
   exact ⟨by simp_all, rfl, hh.ext⟩
  ·have hG2 := hg2; try simp only [gS] at hG2
   refine sy_skip ?_
   refine ret_xn ?_
   refine ret_n hf rfl rfl ?_
   exact ⟨by simp_all, hh.ext⟩
theorem p37 (n l h : Int) (w : World) : Calls Tryz.prog 30 #[.int .i64 n, .int .i64 l, .int .i64 h] w (Ret fun v w' => v = .bool (decide (l ≤ n) && decide (n ≤ h)) ∧ Ext [] w w') := by
  refine calls_of Tryz.func30 rfl rfl (fun a hf => ?_)
  have hh := Hp.init w []
  refine sy_sq ?_
  refine o_v hf hh (yv_assign rfl) ?_; clear hf a; intro a hf
  refine o_end ?_
  refine sy_sq ?_
  refine o_v hf hh (yv_move rfl) ?_; clear hf a; intro a hf
  refine o_v hf hh (yv_move rfl) ?_; clear hf a; intro a hf
  refine o_v hf hh (yv_bin rfl rfl rfl) ?_; clear hf a; intro a hf
  refine o_v hf hh (yv_move rfl) ?_; clear hf a; intro a hf
  refine guard_split hf (t := 10) rfl (fun hg2 => ?_) (fun hg2 => ?_)
  ·have hG2 := hg2; try simp only [gS] at hG2
   refine o_v hf hh (yv_move rfl) ?_; clear hf a; intro a hf
   refine o_v hf hh (yv_move rfl) ?_; clear hf a; intro a hf
   refine o_v hf hh (yv_bin rfl rfl rfl) ?_; clear hf a; intro a hf
   refine o_v hf hh (y_pt rfl rfl) ?_; clear hf a; intro a hf
   refine o_v hf hh (yv_assign rfl) ?_; clear hf a; intro a hf
   refine o_end ?_
   refine sy_ret ?_
   refine ret_r hf rfl rfl ?_
   first
     | (rw [decide_eq_true (show l ≤ n by omega), Bool.true_and]; exact ⟨rfl, hh.ext⟩)
     | (rw [decide_eq_false (show ¬ l ≤ n by omega), Bool.false_and]; exact ⟨rfl, hh.ext⟩)
  ·have hG2 := hg2; try simp only [gS] at hG2
   refine o_off hf ?_; clear hf a; intro a hf
   refine o_off hf ?_; clear hf a; intro a hf
   refine o_off hf ?_; clear hf a; intro a hf
   refine o_v hf hh (y_pf rfl rfl) ?_; clear hf a; intro a hf
   refine o_v hf hh (yv_assign rfl) ?_; clear hf a; intro a hf
   refine o_end ?_
   refine sy_ret ?_
   refine ret_r hf rfl rfl ?_
   first
     | (rw [decide_eq_true (show l ≤ n by omega), Bool.true_and]; exact ⟨rfl, hh.ext⟩)
     | (rw [decide_eq_false (show ¬ l ≤ n by omega), Bool.false_and]; exact ⟨rfl, hh.ext⟩)
theorem p34n (Be : Nat) (u : World) : Calls Tryz.prog 27 #[.nilIface, ptr Be 0] u (Ret fun v w' => Ext [] u w') := by
  refine calls_of Tryz.func27 rfl rfl (fun a hf => ?_)
  have hh := Hp.init u []
  refine sy_seq ?_
  refine sy_sq ?_
  refine o_v hf hh (yv_move rfl) ?_; clear hf a; intro a hf
  refine o_v hf hh (yv_isNil (by kernel_rfl) rfl rfl) ?_; clear hf a; intro a hf
  refine o_end ?_
  refine c_t hf ?_
  refine sy_ret ?_
  refine then_r ?_
  refine ret_r hf rfl rfl ?_
  exact hh.ext
theorem p34s (Be : Nat) (e x : Int) (u : World) (hb : u.heap[Be]? = some (.cells #[.int .i64 x] 31 (0, 0))) : Calls Tryz.prog 27 #[.iface 94 (.agg #[.int .i64 e]), ptr Be 0] u (Ret fun v w' => Hp u [Be] [(Be, .cells #[.int .i64 e] 31)] w') := by
  refine calls_of Tryz.func27 rfl rfl (fun a hf => ?_)
  have hh := Hp.init1 hb
  refine sy_seq ?_
  refine sy_sq ?_
  refine o_v hf hh (yv_move rfl) ?_; clear hf a; intro a hf
  refine o_v hf hh (yv_notNil (by kernel_rfl) rfl rfl) ?_; clear hf a; intro a hf
  refine o_end ?_
  refine c_f hf ?_
  refine sy_skip ?_
  refine then_n ?_
  refine sy_sq ?_
  refine o_v hf hh (yv_move rfl) ?_; clear hf a; intro a hf
  refine o_v hf hh (yv_assert (by kernel_rfl) rfl) ?_; clear hf a; intro a hf
  refine o_v hf hh (yv_move rfl) ?_; clear hf a; intro a hf
  refine o_v hf hh (yv_extract rfl rfl) ?_; clear hf a; intro a hf
  refine o_v hf hh (yv_extract rfl rfl) ?_; clear hf a; intro a hf
  refine o_alloc hf hh Tryz.ze_94 ?_; clear hf hh a; intro B4 a w hf hh
  refine o_store hf hh Tryz.sz_94 fun w hh => ?_
  refine o_v hf hh (yv_assign rfl) ?_; clear hf a; intro a hf
  refine o_end ?_
  refine sy_seq ?_
  refine sy_sq ?_
  refine o_v hf hh (yv_move rfl) ?_; clear hf a; intro a hf
  refine o_v hf hh (yv_not rfl) ?_; clear hf a; intro a hf
  refine o_end ?_
  refine c_f hf ?_
  refine sy_skip ?_
  refine then_n ?_
  refine sy_ops ?_
  refine o_v hf hh (yv_move rfl) ?_; clear hf a; intro a hf
  refine o_v hf hh (yv_fieldAddr Tryz.fo_94_0 rfl) ?_; clear hf a; intro a hf
  refine o_v hf hh (y_ld Tryz.sc_31 rfl) ?_; clear hf a; intro a hf
  refine o_v hf hh (yv_nilCheck rfl) ?_; clear hf a; intro a hf
  refine o_store hf hh Tryz.sz_31 fun w hh => ?_
  refine ops_end ?_
  refine ret_n hf rfl rfl ?_
  exact hh.less (.cons _ (.cons_cons _ (.refl _)))
theorem d33r (Be : Nat) (w : World) : CallsDIn (FR none) 0 Tryz.prog 26 #[ptr Be 0] .returning w (fun e u' w' => (∃ v, e = .returned v) ∧ u' = .returning ∧ Ext [] w w') := by
  refine callsDIn_of_wpSIn Tryz.func26 rfl trivial fun c₀ cs hu => ?_
  refine wpSIn_recover (v := .nilIface) (cs' := c₀ :: cs) rfl rfl (.inr ⟨by simp [recoverD, hu], rfl, rfl⟩) ?_
  have hf := (Fr.enter [ptr Be 0] Tryz.f26.ntmps (Nat.le_of_ble_eq_true rfl)).put (d := 1) (blt_lt rfl) .nilIface
  refine o_call hf Tryz.en_27 rfl rfl rfl (p34n Be w) ?_; clear hf; intro v a w' hR hf
  refine ops_end ?_
  exact ends_s hf rfl (frame_same hu) ⟨⟨_, rfl⟩, rfl, hR⟩
theorem d33p (Be : Nat) (e x : Int) (w : World) (hb : w.heap[Be]? = some (.cells #[.int .i64 x] 31 (0, 0))) : CallsDIn (FR none) 0 Tryz.prog 26 #[ptr Be 0] (.panicking (misfit e)) w (fun e' u' w' => (∃ v, e' = .returned v) ∧ u' = .panicking [{ v := .iface 94 (.agg #[.int .i64 e]), recovered := true }] ∧ Hp w [Be] [(Be, .cells #[.int .i64 e] 31)] w') := by
  refine callsDIn_of_wpSIn Tryz.func26 rfl trivial fun c₀ cs hu => ?_
  refine wpSIn_recover (v := .iface 94 (.agg #[.int .i64 e])) (cs' := { c₀ with mode := .panicking [{ v := .iface 94 (.agg #[.int .i64 e]), recovered := true }] } :: cs) rfl rfl (.inl (by simp [recoverD, hu])) ?_
  have hf := (Fr.enter [ptr Be 0] Tryz.f26.ntmps (Nat.le_of_ble_eq_true rfl)).put (d := 1) (blt_lt rfl) (.iface 94 (.agg #[.int .i64 e]))
  refine o_call hf Tryz.en_27 rfl rfl rfl (p34s Be e x w hb) ?_; clear hf; intro v a w' hR hf
  refine ops_end ?_
  exact ends_s hf rfl rfl ⟨⟨_, rfl⟩, rfl, hR⟩
theorem d41r (Be : Nat) (w : World) : CallsDIn (FR none) 0 Tryz.prog 35 #[ptr Be 0] .returning w (fun e u' w' => (∃ v, e = .returned v) ∧ u' = .returning ∧ Ext [] w w') := by
  refine callsDIn_of_wpSIn Tryz.func35 rfl trivial fun c₀ cs hu => ?_
  refine wpSIn_recover (v := .nilIface) (cs' := c₀ :: cs) rfl rfl (.inr ⟨by simp [recoverD, hu], rfl, rfl⟩) ?_
  have hf := (Fr.enter [ptr Be 0] Tryz.f35.ntmps (Nat.le_of_ble_eq_true rfl)).put (d := 1) (blt_lt rfl) .nilIface
  refine o_call hf Tryz.en_27 rfl rfl rfl (p34n Be w) ?_; clear hf; intro v a w' hR hf
  refine ops_end ?_
  exact ends_s hf rfl (frame_same hu) ⟨⟨_, rfl⟩, rfl, hR⟩
theorem d41p (Be : Nat) (e x : Int) (w : World) (hb : w.heap[Be]? = some (.cells #[.int .i64 x] 31 (0, 0))) : CallsDIn (FR none) 0 Tryz.prog 35 #[ptr Be 0] (.panicking (misfit e)) w (fun e' u' w' => (∃ v, e' = .returned v) ∧ u' = .panicking [{ v := .iface 94 (.agg #[.int .i64 e]), recovered := true }] ∧ Hp w [Be] [(Be, .cells #[.int .i64 e] 31)] w') := by
  refine callsDIn_of_wpSIn Tryz.func35 rfl trivial fun c₀ cs hu => ?_
  refine wpSIn_recover (v := .iface 94 (.agg #[.int .i64 e])) (cs' := { c₀ with mode := .panicking [{ v := .iface 94 (.agg #[.int .i64 e]), recovered := true }] } :: cs) rfl rfl (.inl (by simp [recoverD, hu])) ?_
  have hf := (Fr.enter [ptr Be 0] Tryz.f35.ntmps (Nat.le_of_ble_eq_true rfl)).put (d := 1) (blt_lt rfl) (.iface 94 (.agg #[.int .i64 e]))
  refine o_call hf Tryz.en_27 rfl rfl rfl (p34s Be e x w hb) ?_; clear hf; intro v a w' hR hf
  refine ops_end ?_
  exact ends_s hf rfl rfl ⟨⟨_, rfl⟩, rfl, hR⟩
theorem d45r (Be : Nat) (w : World) : CallsDIn (FR none) 0 Tryz.prog 40 #[ptr Be 0] .returning w (fun e u' w' => (∃ v, e = .returned v) ∧ u' = .returning ∧ Ext [] w w') := by
  refine callsDIn_of_wpSIn Tryz.func40 rfl trivial fun c₀ cs hu => ?_
  refine wpSIn_recover (v := .nilIface) (cs' := c₀ :: cs) rfl rfl (.inr ⟨by simp [recoverD, hu], rfl, rfl⟩) ?_
  have hf := (Fr.enter [ptr Be 0] Tryz.f40.ntmps (Nat.le_of_ble_eq_true rfl)).put (d := 1) (blt_lt rfl) .nilIface
  refine o_call hf Tryz.en_27 rfl rfl rfl (p34n Be w) ?_; clear hf; intro v a w' hR hf
  refine ops_end ?_
  exact ends_s hf rfl (frame_same hu) ⟨⟨_, rfl⟩, rfl, hR⟩
theorem d45p (Be : Nat) (e x : Int) (w : World) (hb : w.heap[Be]? = some (.cells #[.int .i64 x] 31 (0, 0))) : CallsDIn (FR none) 0 Tryz.prog 40 #[ptr Be 0] (.panicking (misfit e)) w (fun e' u' w' => (∃ v, e' = .returned v) ∧ u' = .panicking [{ v := .iface 94 (.agg #[.int .i64 e]), recovered := true }] ∧ Hp w [Be] [(Be, .cells #[.int .i64 e] 31)] w') := by
  refine callsDIn_of_wpSIn Tryz.func40 rfl trivial fun c₀ cs hu => ?_
  refine wpSIn_recover (v := .iface 94 (.agg #[.int .i64 e])) (cs' := { c₀ with mode := .panicking [{ v := .iface 94 (.agg #[.int .i64 e]), recovered := true }] } :: cs) rfl rfl (.inl (by simp [recoverD, hu])) ?_
  have hf := (Fr.enter [ptr Be 0] Tryz.f40.ntmps (Nat.le_of_ble_eq_true rfl)).put (d := 1) (blt_lt rfl) (.iface 94 (.agg #[.int .i64 e]))
  refine o_call hf Tryz.en_27 rfl rfl rfl (p34s Be e x w hb) ?_; clear hf; intro v a w' hR hf
  refine ops_end ?_
  exact ends_s hf rfl rfl ⟨⟨_, rfl⟩, rfl, hR⟩
theorem d47r (Be : Nat) (w : World) : CallsDIn (FR none) 0 Tryz.prog 43 #[ptr Be 0] .returning w (fun e u' w' => (∃ v, e = .returned v) ∧ u' = .returning ∧ Ext [] w w') := by
  refine callsDIn_of_wpSIn Tryz.func43 rfl trivial fun c₀ cs hu => ?_
  refine wpSIn_recover (v := .nilIface) (cs' := c₀ :: cs) rfl rfl (.inr ⟨by simp [recoverD, hu], rfl, rfl⟩) ?_
  have hf := (Fr.enter [ptr Be 0] Tryz.f43.ntmps (Nat.le_of_ble_eq_true rfl)).put (d := 1) (blt_lt rfl) .nilIface
  refine o_call hf Tryz.en_27 rfl rfl rfl (p34n Be w) ?_; clear hf; intro v a w' hR hf
  refine ops_end ?_
  exact ends_s hf rfl (frame_same hu) ⟨⟨_, rfl⟩, rfl, hR⟩
theorem d47p (Be : Nat) (e x : Int) (w : World) (hb : w.heap[Be]? = some (.cells #[.int .i64 x] 31 (0, 0))) : CallsDIn (FR none) 0 Tryz.prog 43 #[ptr Be 0] (.panicking (misfit e)) w (fun e' u' w' => (∃ v, e' = .returned v) ∧ u' = .panicking [{ v := .iface 94 (.agg #[.int .i64 e]), recovered := true }] ∧ Hp w [Be] [(Be, .cells #[.int .i64 e] 31)] w') := by
  refine callsDIn_of_wpSIn Tryz.func43 rfl trivial fun c₀ cs hu => ?_
  refine wpSIn_recover (v := .iface 94 (.agg #[.int .i64 e])) (cs' := { c₀ with mode := .panicking [{ v := .iface 94 (.agg #[.int .i64 e]), recovered := true }] } :: cs) rfl rfl (.inl (by simp [recoverD, hu])) ?_
  have hf := (Fr.enter [ptr Be 0] Tryz.f43.ntmps (Nat.le_of_ble_eq_true rfl)).put (d := 1) (blt_lt rfl) (.iface 94 (.agg #[.int .i64 e]))
  refine o_call hf Tryz.en_27 rfl rfl rfl (p34s Be e x w hb) ?_; clear hf; intro v a w' hR hf
  refine ops_end ?_
  exact ends_s hf rfl rfl ⟨⟨_, rfl⟩, rfl, hR⟩
theorem d48r (Be : Nat) (w : World) : CallsDIn (FR none) 0 Tryz.prog 46 #[ptr Be 0] .returning w (fun e u' w' => (∃ v, e = .returned v) ∧ u' = .returning ∧ Ext [] w w') := by
  refine callsDIn_of_wpSIn Tryz.func46 rfl trivial fun c₀ cs hu => ?_
  refine wpSIn_recover (v := .nilIface) (cs' := c₀ :: cs) rfl rfl (.inr ⟨by simp [recoverD, hu], rfl, rfl⟩) ?_
  have hf := (Fr.enter [ptr Be 0] Tryz.f46.ntmps (Nat.le_of_ble_eq_true rfl)).put (d := 1) (blt_lt rfl) .nilIface
  refine o_call hf Tryz.en_27 rfl rfl rfl (p34n Be w) ?_; clear hf; intro v a w' hR hf
  refine ops_end ?_
  exact ends_s hf rfl (frame_same hu) ⟨⟨_, rfl⟩, rfl, hR⟩
theorem d48p (Be : Nat) (e x : Int) (w : World) (hb : w.heap[Be]? = some (.cells #[.int .i64 x] 31 (0, 0))) : CallsDIn (FR none) 0 Tryz.prog 46 #[ptr Be 0] (.panicking (misfit e)) w (fun e' u' w' => (∃ v, e' = .returned v) ∧ u' = .panicking [{ v := .iface 94 (.agg #[.int .i64 e]), recovered := true }] ∧ Hp w [Be] [(Be, .cells #[.int .i64 e] 31)] w') := by
  refine callsDIn_of_wpSIn Tryz.func46 rfl trivial fun c₀ cs hu => ?_
  refine wpSIn_recover (v := .iface 94 (.agg #[.int .i64 e])) (cs' := { c₀ with mode := .panicking [{ v := .iface 94 (.agg #[.int .i64 e]), recovered := true }] } :: cs) rfl rfl (.inl (by simp [recoverD, hu])) ?_
  have hf := (Fr.enter [ptr Be 0] Tryz.f46.ntmps (Nat.le_of_ble_eq_true rfl)).put (d := 1) (blt_lt rfl) (.iface 94 (.agg #[.int .i64 e]))
  refine o_call hf Tryz.en_27 rfl rfl rfl (p34s Be e x w hb) ?_; clear hf; intro v a w' hR hf
  refine ops_end ?_
  exact ends_s hf rfl rfl ⟨⟨_, rfl⟩, rfl, hR⟩
theorem d49r (Be : Nat) (w : World) : CallsDIn (FR none) 0 Tryz.prog 47 #[ptr Be 0] .returning w (fun e u' w' => (∃ v, e = .returned v) ∧ u' = .returning ∧ Ext [] w w') := by
  refine callsDIn_of_wpSIn Tryz.func47 rfl trivial fun c₀ cs hu => ?_
  refine wpSIn_recover (v := .nilIface) (cs' := c₀ :: cs) rfl rfl (.inr ⟨by simp [recoverD, hu], rfl, rfl⟩) ?_
  have hf := (Fr.enter [ptr Be 0] Tryz.f47.ntmps (Nat.le_of_ble_eq_true rfl)).put (d := 1) (blt_lt rfl) .nilIface
  refine o_call hf Tryz.en_27 rfl rfl rfl (p34n Be w) ?_; clear hf; intro v a w' hR hf
  refine ops_end ?_
  exact ends_s hf rfl (frame_same hu) ⟨⟨_, rfl⟩, rfl, hR⟩
theorem d49p (Be : Nat) (e x : Int) (w : World) (hb : w.heap[Be]? = some (.cells #[.int .i64 x] 31 (0, 0))) : CallsDIn (FR none) 0 Tryz.prog 47 #[ptr Be 0] (.panicking (misfit e)) w (fun e' u' w' => (∃ v, e' = .returned v) ∧ u' = .panicking [{ v := .iface 94 (.agg #[.int .i64 e]), recovered := true }] ∧ Hp w [Be] [(Be, .cells #[.int .i64 e] 31)] w') := by
  refine callsDIn_of_wpSIn Tryz.func47 rfl trivial fun c₀ cs hu => ?_
  refine wpSIn_recover (v := .iface 94 (.agg #[.int .i64 e])) (cs' := { c₀ with mode := .panicking [{ v := .iface 94 (.agg #[.int .i64 e]), recovered := true }] } :: cs) rfl rfl (.inl (by simp [recoverD, hu])) ?_
  have hf := (Fr.enter [ptr Be 0] Tryz.f47.ntmps (Nat.le_of_ble_eq_true rfl)).put (d := 1) (blt_lt rfl) (.iface 94 (.agg #[.int .i64 e]))
  refine o_call hf Tryz.en_27 rfl rfl rfl (p34s Be e x w hb) ?_; clear hf; intro v a w' hR hf
  refine ops_end ?_
  exact ends_s hf rfl rfl ⟨⟨_, rfl⟩, rfl, hR⟩
theorem d54r (Be : Nat) (w : World) : CallsDIn (FR none) 0 Tryz.prog 44 #[ptr Be 0] .returning w (fun e u' w' => (∃ v, e = .returned v) ∧ u' = .returning ∧ Ext [] w w') := by
  refine callsDIn_of_wpSIn Tryz.func44 rfl trivial fun c₀ cs hu => ?_
  refine wpSIn_recover (v := .nilIface) (cs' := c₀ :: cs) rfl rfl (.inr ⟨by simp [recoverD, hu], rfl, rfl⟩) ?_
  have hf := (Fr.enter [ptr Be 0] Tryz.f44.ntmps (Nat.le_of_ble_eq_true rfl)).put (d := 1) (blt_lt rfl) .nilIface
  refine o_call hf Tryz.en_27 rfl rfl rfl (p34n Be w) ?_; clear hf; intro v a w' hR hf
  refine ops_end ?_
  exact ends_s hf rfl (frame_same hu) ⟨⟨_, rfl⟩, rfl, hR⟩
theorem d54p (Be : Nat) (e x : Int) (w : World) (hb : w.heap[Be]? = some (.cells #[.int .i64 x] 31 (0, 0))) : CallsDIn (FR none) 0 Tryz.prog 44 #[ptr Be 0] (.panicking (misfit e)) w (fun e' u' w' => (∃ v, e' = .returned v) ∧ u' = .panicking [{ v := .iface 94 (.agg #[.int .i64 e]), recovered := true }] ∧ Hp w [Be] [(Be, .cells #[.int .i64 e] 31)] w') := by
  refine callsDIn_of_wpSIn Tryz.func44 rfl trivial fun c₀ cs hu => ?_
  refine wpSIn_recover (v := .iface 94 (.agg #[.int .i64 e])) (cs' := { c₀ with mode := .panicking [{ v := .iface 94 (.agg #[.int .i64 e]), recovered := true }] } :: cs) rfl rfl (.inl (by simp [recoverD, hu])) ?_
  have hf := (Fr.enter [ptr Be 0] Tryz.f44.ntmps (Nat.le_of_ble_eq_true rfl)).put (d := 1) (blt_lt rfl) (.iface 94 (.agg #[.int .i64 e]))
  refine o_call hf Tryz.en_27 rfl rfl rfl (p34s Be e x w hb) ?_; clear hf; intro v a w' hR hf
  refine ops_end ?_
  exact ends_s hf rfl rfl ⟨⟨_, rfl⟩, rfl, hR⟩
theorem d55r (Be : Nat) (w : World) : CallsDIn (FR none) 0 Tryz.prog 52 #[ptr Be 0] .returning w (fun e u' w' => (∃ v, e = .returned v) ∧ u' = .returning ∧ Ext [] w w') := by
  refine callsDIn_of_wpSIn Tryz.func52 rfl trivial fun c₀ cs hu => ?_
  refine wpSIn_recover (v := .nilIface) (cs' := c₀ :: cs) rfl rfl (.inr ⟨by simp [recoverD, hu], rfl, rfl⟩) ?_
  have hf := (Fr.enter [ptr Be 0] Tryz.f52.ntmps (Nat.le_of_ble_eq_true rfl)).put (d := 1) (blt_lt rfl) .nilIface
  refine o_call hf Tryz.en_27 rfl rfl rfl (p34n Be w) ?_; clear hf; intro v a w' hR hf
  refine ops_end ?_
  exact ends_s hf rfl (frame_same hu) ⟨⟨_, rfl⟩, rfl, hR⟩
theorem d55p (Be : Nat) (e x : Int) (w : World) (hb : w.heap[Be]? = some (.cells #[.int .i64 x] 31 (0, 0))) : CallsDIn (FR none) 0 Tryz.prog 52 #[ptr Be 0] (.panicking (misfit e)) w (fun e' u' w' => (∃ v, e' = .returned v) ∧ u' = .panicking [{ v := .iface 94 (.agg #[.int .i64 e]), recovered := true }] ∧ Hp w [Be] [(Be, .cells #[.int .i64 e] 31)] w') := by
  refine callsDIn_of_wpSIn Tryz.func52 rfl trivial fun c₀ cs hu => ?_
  refine wpSIn_recover (v := .iface 94 (.agg #[.int .i64 e])) (cs' := { c₀ with mode := .panicking [{ v := .iface 94 (.agg #[.int .i64 e]), recovered := true }] } :: cs) rfl rfl (.inl (by simp [recoverD, hu])) ?_
  have hf := (Fr.enter [ptr Be 0] Tryz.f52.ntmps (Nat.le_of_ble_eq_true rfl)).put (d := 1) (blt_lt rfl) (.iface 94 (.agg #[.int .i64 e]))
  refine o_call hf Tryz.en_27 rfl rfl rfl (p34s Be e x w hb) ?_; clear hf; intro v a w' hR hf
  refine ops_end ?_
  exact ends_s hf rfl rfl ⟨⟨_, rfl⟩, rfl, hR⟩
end Go.Proofs.YtidieepndphodaaGreat
namespace Go.MatM
open Go Go.Sy Go.Proofs Go.RowKit
theorem has_u (s n : Nat) : decide (((((((s : Nat) : Int).toNat >>> ((n : Nat) : Int).toNat : Nat) : Int).toNat &&& (1 : Int).toNat : Nat) : Int) = 1) = s.testBit n := by
  rw [Int.toNat_natCast, Int.toNat_natCast, Int.toNat_natCast, show (1 : Int).toNat = 1 from rfl, bit1]
  cases s.testBit n <;> simp
def keepF (s : Nat) : Nat → List Mk → List Mk
  | _, [] => []
  | i, m :: l => if s.testBit i then keepF s (i + 1) l else m :: keepF s (i + 1) l
def keepL (l : List Mk) (s : Nat) : List Mk := keepF s 0 l
theorem keepF_app (s : Nat) : ∀ (a : List Mk) (i : Nat) (b : List Mk), keepF s i (a ++ b) = keepF s i a ++ keepF s (i + a.length) b
  | [], i, b => by simp [keepF]
  | m :: a, i, b => by
    rw [List.cons_append, keepF, keepF, keepF_app s a (i + 1) b, List.length_cons, show i + 1 + a.length = i + (a.length + 1) by omega]
    split <;> rfl
theorem keepL_snoc {l : List Mk} {s n : Nat} {m : Mk} (h : l[n]? = some m) : keepL (l.take (n + 1)) s = if s.testBit n then keepL (l.take n) s else keepL (l.take n) s ++ [m] := by
  have hl := len_of h
  unfold keepL
  rw [List.take_add_one, h, Option.toList_some, keepF_app, List.length_take, Nat.zero_add, Nat.min_eq_left (by omega)]
  rw [show keepF s n [m] = if s.testBit n then [] else [m] from by rw [keepF]; split <;> rfl]
  split
  · exact List.append_nil _
  · rfl
theorem keepF_sub (s : Nat) : ∀ (l : List Mk) (i : Nat), (keepF s i l).Sublist l
  | [], _ => List.Sublist.refl _
  | m :: l, i => by
    rw [keepF]
    split
    · exact .cons _ (keepF_sub s l (i + 1))
    · exact .cons_cons _ (keepF_sub s l (i + 1))
theorem keepL_len (l : List Mk) (s : Nat) : (keepL l s).length ≤ l.length := (keepF_sub s l 0).length_le
/-- The rows without marks. -/
def woD (d : RowsD) (x : Nat × Nat) : RowsD := ⟨keepL d.l x.1, keepL d.r x.2, d.lo, d.hi, d.hid⟩
theorem woD_valid {d : RowsD} (hV : Valid d) (x : Nat × Nat) : Valid (woD d x) :=
  ⟨Nat.le_trans (keepL_len _ _) hV.nl, Nat.le_trans (keepL_len _ _) hV.nr, fun m hm => hV.ml m ((keepF_sub _ _ _).subset hm), fun m hm => hV.mr m ((keepF_sub _ _ _).subset hm), hV.s1, hV.s2, hV.s3, hV.h1, hV.h2⟩
end Go.MatM
namespace Go.Proofs.YtidieepndphodaaGreat
open Go Go.Sy Go.MatM
theorem c43 (n l h : Int) (w : World) : Calls Tryz.prog 74 #[.int .i64 n, .int .i64 l, .int .i64 h] w (Ret fun v w' => v = .bool (decide (l ≤ n) && decide (n ≤ h)) ∧ Ext [] w w') := by
  refine calls_of Tryz.func74 rfl rfl (fun a hf => ?_)
  have hh := Hp.init w []
  refine sy_sq ?_
  refine o_v hf hh (yv_assign rfl) ?_; clear hf a; intro a hf
  refine o_end ?_
  refine sy_sq ?_
  refine o_v hf hh (yv_move rfl) ?_; clear hf a; intro a hf
  refine o_v hf hh (yv_move rfl) ?_; clear hf a; intro a hf
  refine o_v hf hh (yv_bin rfl rfl rfl) ?_; clear hf a; intro a hf
  refine o_v hf hh (yv_move rfl) ?_; clear hf a; intro a hf
  refine guard_split hf (t := 10) rfl (fun hg2 => ?_) (fun hg2 => ?_)
  ·have hG2 := hg2; try simp only [gS] at hG2
   refine o_v hf hh (yv_move rfl) ?_; clear hf a; intro a hf
   refine o_v hf hh (yv_move rfl) ?_; clear hf a; intro a hf
   refine o_v hf hh (yv_bin rfl rfl rfl) ?_; clear hf a; intro a hf
   refine o_v hf hh (y_pt rfl rfl) ?_; clear hf a; intro a hf
   refine o_v hf hh (yv_assign rfl) ?_; clear hf a; intro a hf
   refine o_end ?_
   refine sy_ret ?_
   refine ret_r hf rfl rfl ?_
   exact ⟨by simp [tup, *], hh.ext⟩
  ·have hG2 := hg2; try simp only [gS] at hG2
   refine o_off hf ?_; clear hf a; intro a hf
   refine o_off hf ?_; clear hf a; intro a hf
   refine o_off hf ?_; clear hf a; intro a hf
   refine o_v hf hh (y_pf rfl rfl) ?_; clear hf a; intro a hf
   refine o_v hf hh (yv_assign rfl) ?_; clear hf a; intro a hf
   refine o_end ?_
   refine sy_ret ?_
   refine ret_r hf rfl rfl ?_
   exact ⟨by simp [tup, *], hh.ext⟩
theorem c77 (x y l h : Int) (w : World) : Calls Tryz.prog 84 #[.agg #[.int .i64 x, .int .i64 y], .int .i64 l, .int .i64 h] w (Ret fun v w' => v = .bool (decide (l ≤ x) && decide (x ≤ y) && decide (y ≤ h)) ∧ Ext [] w w') := by
  refine calls_of Tryz.func84 rfl rfl (fun a hf => ?_)
  have hh := Hp.init w []
  refine sy_sq ?_
  refine o_box hf hh ?_; clear hf hh a; intro B3 a w hf hh
  refine o_v hf hh (yv_assign rfl) ?_; clear hf a; intro a hf
  refine o_end ?_
  refine sy_sq ?_
  refine o_v hf hh (yv_move rfl) ?_; clear hf a; intro a hf
  refine o_v hf hh (yv_fieldAddr Tryz.fo_24_0 rfl) ?_; clear hf a; intro a hf
  refine o_v hf hh (y_ld Tryz.sc_3 rfl) ?_; clear hf a; intro a hf
  refine o_v hf hh (yv_bin rfl rfl rfl) ?_; clear hf a; intro a hf
  refine o_v hf hh (yv_move rfl) ?_; clear hf a; intro a hf
  refine guard_split hf (t := 11) rfl (fun hg2 => ?_) (fun hg2 => ?_)
  ·have hG2 := hg2; try simp only [gS] at hG2
   refine o_v hf hh (yv_fieldAddr Tryz.fo_24_0 rfl) ?_; clear hf a; intro a hf
   refine o_v hf hh (y_ld Tryz.sc_3 rfl) ?_; clear hf a; intro a hf
   refine o_v hf hh (yv_fieldAddr Tryz.fo_24_1 rfl) ?_; clear hf a; intro a hf
   refine o_v hf hh (y_ld Tryz.sc_3 rfl) ?_; clear hf a; intro a hf
   refine o_v hf hh (yv_bin rfl rfl rfl) ?_; clear hf a; intro a hf
   refine o_v hf hh (y_pt rfl rfl) ?_; clear hf a; intro a hf
   refine o_v hf hh (yv_move rfl) ?_; clear hf a; intro a hf
   refine guard_split hf (t := 18) rfl (fun hg4 => ?_) (fun hg4 => ?_)
   ·have hG4 := hg4; try simp only [gS] at hG4
    refine o_v hf hh (yv_fieldAddr Tryz.fo_24_1 rfl) ?_; clear hf a; intro a hf
    refine o_v hf hh (y_ld Tryz.sc_3 rfl) ?_; clear hf a; intro a hf
    refine o_v hf hh (yv_move rfl) ?_; clear hf a; intro a hf
    refine o_v hf hh (yv_bin rfl rfl rfl) ?_; clear hf a; intro a hf
    refine o_v hf hh (y_pt rfl rfl) ?_; clear hf a; intro a hf
    refine o_v hf hh (yv_assign rfl) ?_; clear hf a; intro a hf
    refine o_end ?_
    refine sy_ret ?_
    refine ret_r hf rfl rfl ?_
    exact ⟨by simp [tup, *], hh.ext⟩
   ·have hG4 := hg4; try simp only [gS] at hG4
    refine o_off hf ?_; clear hf a; intro a hf
    refine o_off hf ?_; clear hf a; intro a hf
    refine o_off hf ?_; clear hf a; intro a hf
    refine o_off hf ?_; clear hf a; intro a hf
    refine o_v hf hh (y_pf rfl rfl) ?_; clear hf a; intro a hf
    refine o_v hf hh (yv_assign rfl) ?_; clear hf a; intro a hf
    refine o_end ?_
    refine sy_ret ?_
    refine ret_r hf rfl rfl ?_
    exact ⟨by simp [tup, *], hh.ext⟩
  ·have hG2 := hg2; try simp only [gS] at hG2
   refine o_off hf ?_; clear hf a; intro a hf
   refine o_off hf ?_; clear hf a; intro a hf
   refine o_off hf ?_; clear hf a; intro a hf
   refine o_off hf ?_; clear hf a; intro a hf
   refine o_off hf ?_; clear hf a; intro a hf
   refine o_v hf hh (y_pf rfl rfl) ?_; clear hf a; intro a hf
   refine o_v hf hh (yv_move rfl) ?_; clear hf a; intro a hf
   refine o_off hf ?_; clear hf a; intro a hf
   refine o_off hf ?_; clear hf a; intro a hf
   refine o_off hf ?_; clear hf a; intro a hf
   refine o_off hf ?_; clear hf a; intro a hf
   refine o_v hf hh (y_pf rfl rfl) ?_; clear hf a; intro a hf
   refine o_v hf hh (yv_assign rfl) ?_; clear hf a; intro a hf
   refine o_end ?_
   refine sy_ret ?_
   refine ret_r hf rfl rfl ?_
   exact ⟨by simp [tup, *], hh.ext⟩
theorem c76 (m : Mk) (w : World) : Calls Tryz.prog 83 #[mkV m] w (Ret fun v w' => v = .bool (!okM m) ∧ Ext [] w w') := by
  refine calls_of Tryz.func83 rfl rfl (fun a hf => ?_)
  have hh := Hp.init w []
  refine sy_sq ?_
  refine o_box hf hh ?_; clear hf hh a; intro B1 a w hf hh
  refine o_v hf hh (yv_assign rfl) ?_; clear hf a; intro a hf
  refine o_end ?_
  refine sy_sq ?_
  refine o_v hf hh (yv_fieldAddr Tryz.fo_89_0 rfl) ?_; clear hf a; intro a hf
  refine o_v hf hh (y_lds Tryz.ag_24 rfl) ?_; clear hf a; intro a hf
  refine o_call hf Tryz.en_84 rfl rfl rfl (c77 _ _ _ _ _) ?_; clear hf a; intro v a w hR hf
  obtain ⟨rfl, hx⟩ := hR; replace hh := hh.more hx; clear hx
  refine o_v hf hh (yv_not rfl) ?_; clear hf a; intro a hf
  refine o_v hf hh (yv_move rfl) ?_; clear hf a; intro a hf
  refine guard_split hf (t := 7) rfl (fun hg2 => ?_) (fun hg2 => ?_)
  ·have hG2 := hg2; try simp only [gS] at hG2
   refine o_off hf ?_; clear hf a; intro a hf
   refine o_off hf ?_; clear hf a; intro a hf
   refine o_off hf ?_; clear hf a; intro a hf
   refine o_off hf ?_; clear hf a; intro a hf
   refine o_v hf hh (y_pt rfl rfl) ?_; clear hf a; intro a hf
   refine o_v hf hh (yv_assign rfl) ?_; clear hf a; intro a hf
   refine o_end ?_
   refine sy_ret ?_
   refine ret_r hf rfl rfl ?_
   have hX := hh.ext
   refine ⟨congrArg Value.bool ?_, hX⟩
   clear hX hh hf
   rw [Bool.eq_iff_iff]
   simp [okM] at *
   omega
  ·have hG2 := hg2; try simp only [gS] at hG2
   refine o_v hf hh (yv_fieldAddr Tryz.fo_89_1 rfl) ?_; clear hf a; intro a hf
   refine o_v hf hh (y_lds Tryz.ag_24 rfl) ?_; clear hf a; intro a hf
   refine o_call hf Tryz.en_84 rfl rfl rfl (c77 _ _ _ _ _) ?_; clear hf a; intro v a w hR hf
   obtain ⟨rfl, hx⟩ := hR; replace hh := hh.more hx; clear hx
   refine o_v hf hh (yv_not rfl) ?_; clear hf a; intro a hf
   refine o_v hf hh (y_pf rfl rfl) ?_; clear hf a; intro a hf
   refine o_v hf hh (yv_assign rfl) ?_; clear hf a; intro a hf
   refine o_end ?_
   refine sy_ret ?_
   refine ret_r hf rfl rfl ?_
   have hX := hh.ext
   refine ⟨congrArg Value.bool ?_, hX⟩
   clear hX hh hf
   rw [Bool.eq_iff_iff]
   simp [okM] at *
   omega
theorem c97 (l : List Mk) (sa : Option Addr) (c : Nat) (w : World) (hM : MkAt w sa l) (hl : l.length ≤ 1000) : Calls Tryz.prog 99 #[.slice sa l.length c, .func (.func 83) #[] #[]] w (Ret fun v w' => v = .int .i64 (fbad l 0) ∧ Ext [] w w') := by
  refine calls_of Tryz.func99 rfl rfl (fun a hf => ?_)
  have hh := Hp.init w []
  refine sy_sq ?_
  refine o_v hf hh (yv_assign rfl) ?_; clear hf a; intro a hf
  refine o_end ?_
  refine sy_seq ?_
  refine sy_sq ?_
  refine o_v hf hh (yv_move rfl) ?_; clear hf a; intro a hf
  refine o_v hf hh (yv_len Tryz.se_22 rfl) ?_; clear hf a; intro a hf
  refine o_v hf hh (yv_move rfl) ?_; clear hf a; intro a hf
  refine o_end ?_
  refine sy_block ?_
  refine sy_loopF (σ := Nat) [4, 5, 8, 9, 10, 11, 12, 13, 14, 15, 16, 17, 18] (fun i => [(8, .int .i64 i)]) (fun i => i ≤ l.length ∧ fbad l 0 = fbad (l.drop i) i) (fun i => l.length - i) (0) hf hh ?_ ?_ ?_
  · repeat' (first | exact True.intro | refine And.intro rfl ?_)
  · exact ⟨Nat.zero_le _, rfl⟩
  ·rintro i a w ⟨hi, hq⟩ hf hh
   have hex : i < l.length → ∃ m, l[i]? = some m := fun h => ex_of h
   refine sy_sq ?_
   refine o_v hf hh (yv_bin rfl rfl rfl) ?_; clear hf a; intro a hf
   refine o_end ?_
   refine sy_seq ?_
   refine sy_cond hf rfl (fun hg2 => ?_) (fun hg2 => ?_)
   ·have hG2 := hg2; try simp only [gS] at hG2
    refine sy_skip ?_
    refine then_n ?_
    refine sy_seq ?_
    refine sy_block ?_
    refine sy_seq ?_
    obtain ⟨m, hm⟩ := hex (by omega)
    obtain ⟨blk, off, cc, T, fr, e, hb, hc⟩ := hM i m hm; cases e
    refine sy_ops ?_
    refine o_v hf hh (yv_move rfl) ?_; clear hf a; intro a hf
    refine o_v hf hh (yv_assign rfl) ?_; clear hf a; intro a hf
    refine o_end ?_
    refine sy_sq ?_
    refine o_v hf hh (yv_move rfl) ?_; clear hf a; intro a hf
    refine o_v hf hh (yv_move rfl) ?_; clear hf a; intro a hf
    refine o_v hf hh (yv_move rfl) ?_; clear hf a; intro a hf
    refine o_v hf hh (y_ix Tryz.se_22 rfl rfl) ?_; clear hf a; intro a hf
    refine o_v hf hh (y_lds Tryz.ag_89 rfl) ?_; clear hf a; intro a hf
    refine o_call hf Tryz.en_83 rfl rfl rfl (c76 m _) ?_; clear hf a; intro v a w hR hf
    obtain ⟨rfl, hx⟩ := hR; replace hh := hh.more hx; clear hx
    refine o_end ?_
    refine sy_cond hf rfl (fun hg4 => ?_) (fun hg4 => ?_)
    ·have hG4 := hg4; try simp only [gS] at hG4
     refine sy_sq ?_
     refine o_v hf hh (yv_move rfl) ?_; clear hf a; intro a hf
     refine o_v hf hh (yv_assign rfl) ?_; clear hf a; intro a hf
     refine o_end ?_
     refine sy_ret ?_
     refine blk_r ?_
     refine then_r ?_
     refine then_r ?_
     refine blk_r ?_
     refine then_r ?_
     refine ret_r hf rfl rfl ?_
     exact ⟨congrArg (Value.int .i64) (by rw [hq, fbad_drop hm, if_neg (by simp_all)]), hh.ext⟩
    ·have hG4 := hg4; try simp only [gS] at hG4
     refine sy_skip ?_
     refine blk_n ?_
     refine then_n ?_
     refine sy_ops ?_
     refine o_v hf hh (y_add rfl rfl) ?_; clear hf a; intro a hf
     refine o_v hf hh (yv_move rfl) ?_; clear hf a; intro a hf
     refine ops_end ?_
     refine then_n ?_
     refine ⟨i + 1, ⟨⟨by omega, by rw [hq, fbad_drop hm, if_pos (by simp_all)]⟩, (hf.head (by repeat' (first | exact True.intro | refine And.intro rfl ?_)) (Keep.cons rfl (Keep.cons rfl (Keep.cons rfl (Keep.cons rfl (Keep.cons rfl (Keep.cons rfl (Keep.cons rfl (Keep.cons rfl (Keep.cons rfl (Keep.cons rfl (Keep.cons rfl (Keep.app rfl (Keep.rm rfl Keep.base)))))))))))))), hh⟩, by omega⟩
   ·have hG2 := hg2; try simp only [gS] at hG2
    refine sy_exit ?_
    refine then_e ?_
    refine then_e ?_
    refine blk_e ?_
    refine then_n ?_
    refine sy_sq ?_
    refine o_v hf hh (yv_assign rfl) ?_; clear hf a; intro a hf
    refine o_end ?_
    refine sy_ret ?_
    refine ret_r hf rfl rfl ?_
    exact ⟨congrArg (Value.int .i64) (by rw [hq, List.drop_eq_nil_of_le (by omega)]; rfl), hh.ext⟩
theorem c78 (l : List Mk) (sa : Option Addr) (c : Nat) (w : World) (hM : MkAt w sa l) (hl : l.length ≤ 1000) : Calls Tryz.prog 85 #[.slice sa l.length c, .func (.func 83) #[] #[]] w (Ret fun v w' => v = .bool (!l.all okM) ∧ Ext [] w w') := by
  refine calls_of Tryz.func85 rfl rfl (fun a hf => ?_)
  have hh := Hp.init w []
  refine sy_sq ?_
  refine o_v hf hh (yv_assign rfl) ?_; clear hf a; intro a hf
  refine o_end ?_
  refine sy_sq ?_
  refine o_v hf hh (yv_move rfl) ?_; clear hf a; intro a hf
  refine o_v hf hh (yv_move rfl) ?_; clear hf a; intro a hf
  refine o_call hf Tryz.en_99 rfl rfl rfl (c97 l sa c _ (hM.ext hh.ext) hl) ?_; clear hf a; intro v a w hR hf
  obtain ⟨rfl, hx⟩ := hR; replace hh := hh.more hx; clear hx
  refine o_v hf hh (yv_bin rfl rfl rfl) ?_; clear hf a; intro a hf
  refine o_v hf hh (yv_assign rfl) ?_; clear hf a; intro a hf
  refine o_end ?_
  refine sy_ret ?_
  refine ret_r hf rfl rfl ?_
  exact ⟨congrArg Value.bool (fbad_all l 0), hh.ext⟩
end Go.Proofs.YtidieepndphodaaGreat
namespace Go.Proofs.YtidieepndphodaaGreat
open Go Go.Sy Go.MatM
theorem c98z (w : World) : Calls Tryz.prog 100 #[.slice none 0 0, .int .i64 0] w (Ret fun v w' => v = .slice none 0 0 ∧ Ext [] w w') := by
  refine calls_of Tryz.func100 rfl rfl (fun a hf => ?_)
  have hh := Hp.init w []
  refine sy_sq ?_
  refine o_v hf hh (yv_assign rfl) ?_; clear hf a; intro a hf
  refine o_end ?_
  refine sy_seq ?_
  refine sy_sq ?_
  refine o_v hf hh (yv_move rfl) ?_; clear hf a; intro a hf
  refine o_v hf hh (yv_bin rfl rfl rfl) ?_; clear hf a; intro a hf
  refine o_end ?_
  refine c_f hf ?_
  refine sy_skip ?_
  refine then_n ?_
  refine sy_seq ?_
  refine sy_sq ?_
  refine o_v hf hh (yv_move rfl) ?_; clear hf a; intro a hf
  refine o_v hf hh (yv_move rfl) ?_; clear hf a; intro a hf
  refine o_v hf hh (yv_cap Tryz.se_22 rfl) ?_; clear hf a; intro a hf
  refine o_v hf hh (yv_move rfl) ?_; clear hf a; intro a hf
  refine o_v hf hh (yv_len Tryz.se_22 rfl) ?_; clear hf a; intro a hf
  refine o_v hf hh (y_sub rfl rfl) ?_; clear hf a; intro a hf
  refine o_v hf hh (y_sub rfl rfl) ?_; clear hf a; intro a hf
  refine o_v hf hh (yv_assign rfl) ?_; clear hf a; intro a hf
  refine o_end ?_
  refine sy_sq ?_
  refine o_v hf hh (yv_move rfl) ?_; clear hf a; intro a hf
  refine o_v hf hh (yv_bin rfl rfl rfl) ?_; clear hf a; intro a hf
  refine o_end ?_
  refine c_f hf ?_
  refine sy_skip ?_
  refine then_n ?_
  refine sy_sq ?_
  refine o_v hf hh (yv_move rfl) ?_; clear hf a; intro a hf
  refine o_v hf hh (yv_assign rfl) ?_; clear hf a; intro a hf
  refine o_end ?_
  refine sy_ret ?_
  refine ret_r hf rfl rfl ?_
  exact ⟨rfl, hh.ext⟩
theorem c98p (q : Nat) (h0 : 0 < q) (hq : q ≤ 1000) (u : World) : Calls Tryz.prog 100 #[.slice none 0 0, .int .i64 q] u (Ret fun v w' => ∃ B cap cur, v = .slice (some ⟨B, 0, none⟩) 0 cap ∧ cur.size = cap * 4 ∧ q ≤ cap ∧ cap ≤ maxLen ∧ Hp u [] [(B, .cells cur 89 (0, 0))] w') := by
  refine calls_of Tryz.func100 rfl rfl (fun a hf => ?_)
  have hh := Hp.init u []
  refine sy_sq ?_
  refine o_v hf hh (yv_assign rfl) ?_; clear hf a; intro a hf
  refine o_end ?_
  refine sy_seq ?_
  refine sy_sq ?_
  refine o_v hf hh (yv_move rfl) ?_; clear hf a; intro a hf
  refine o_v hf hh (yv_bin rfl rfl rfl) ?_; clear hf a; intro a hf
  refine o_end ?_
  refine c_f hf ?_
  refine sy_skip ?_
  refine then_n ?_
  refine sy_seq ?_
  refine sy_sq ?_
  refine o_v hf hh (yv_move rfl) ?_; clear hf a; intro a hf
  refine o_v hf hh (yv_move rfl) ?_; clear hf a; intro a hf
  refine o_v hf hh (yv_cap Tryz.se_22 rfl) ?_; clear hf a; intro a hf
  refine o_v hf hh (yv_move rfl) ?_; clear hf a; intro a hf
  refine o_v hf hh (yv_len Tryz.se_22 rfl) ?_; clear hf a; intro a hf
  refine o_v hf hh (y_sub rfl rfl) ?_; clear hf a; intro a hf
  refine ops_v hf hh (yv_cast (yv_sub rfl rfl (by omega) (by omega)) (intv (b := ((q : Nat) : Int)) (by omega))) (.inl rfl) rfl rfl rfl ?_; clear hf a; intro a hf
  refine o_v hf hh (yv_assign rfl) ?_; clear hf a; intro a hf
  refine o_end ?_
  refine sy_sq ?_
  refine o_v hf hh (yv_move rfl) ?_; clear hf a; intro a hf
  refine o_v hf hh (yv_bin rfl rfl rfl) ?_; clear hf a; intro a hf
  refine o_end ?_
  refine c_t hf ?_
  refine sy_ops ?_
  refine o_v hf hh (yv_move rfl) ?_; clear hf a; intro a hf
  refine o_v hf hh (yv_move rfl) ?_; clear hf a; intro a hf
  refine o_v hf hh (yv_cap Tryz.se_22 rfl) ?_; clear hf a; intro a hf
  refine o_v hf hh (yv_cutHi (a := none) (n := 0) (c := 0) (m := 0) Tryz.se_22 rfl rfl (Nat.le_refl _)) ?_; clear hf a; intro a hf
  refine o_v hf hh (yv_move rfl) ?_; clear hf a; intro a hf
  refine ops_room hf hh Tryz.eb_22 Tryz.un_3 rfl (q := q) (by rfl) h0 (by simp only [maxLen]; omega) (by omega) (.inl rfl) rfl ?_; clear hf hh a; intro B cap cur a w hcz hqc hcm hf hh
  refine o_v hf hh (yv_move rfl) ?_; clear hf a; intro a hf
  refine o_v hf hh (yv_len Tryz.se_22 rfl) ?_; clear hf a; intro a hf
  refine o_v hf hh (yv_cutHi (a := (some ⟨B, 0, none⟩)) (n := q) (c := cap) (m := 0) Tryz.se_22 rfl rfl (Nat.zero_le _)) ?_; clear hf a; intro a hf
  refine o_v hf hh (yv_assign rfl) ?_; clear hf a; intro a hf
  refine o_end ?_
  refine sy_sq ?_
  refine o_v hf hh (yv_move rfl) ?_; clear hf a; intro a hf
  refine o_v hf hh (yv_assign rfl) ?_; clear hf a; intro a hf
  refine o_end ?_
  refine sy_ret ?_
  refine ret_r hf rfl rfl ?_
  exact ⟨B, cap, cur, rfl, hcz, hqc, hcm, hh⟩
theorem c98 (q : Nat) (hq : q ≤ 1000) (u : World) : Calls Tryz.prog 100 #[.slice none 0 0, .int .i64 q] u (Ret fun v w' => ∃ X, OwnSl 89 4 v 0 (encM []) X ∧ Hp u [] X w') := by
  rcases Nat.eq_zero_or_pos q with rfl | h0
  · exact Calls.ret_mono (c98z u) fun v w' h => ⟨[], h.1 ▸ OwnSl.nil _ _, (Hp.init u []).more h.2⟩
  · exact Calls.ret_mono (c98p q h0 hq u) fun v w' ⟨B, cap, cur, h1, h2, h3, h4, h5⟩ => ⟨_, ⟨by simp [encM], .inr ⟨B, cap, cur, h1, rfl, Nat.zero_le _, h4, h2, by simp [encM]⟩⟩, h5⟩
def tk (l r : List Mk) (j : Nat) : List Mk := if j = 0 then [] else if j = 1 then l else l ++ r
def cells2 (l r : List Mk) (sa sb : Option Addr) (ca cb : Nat) : Array Value := #[.slice sa l.length ca, .slice sb r.length cb]
theorem pick2 {l r : List Mk} {sa sb : Option Addr} {ca cb : Nat} {u : World} (hA : MkAt u sa l) (hB : MkAt u sb r) {j : Nat} (hj : j < 2) : ∃ sx xs cx, (cells2 l r sa sb ca cb)[0 + ((j : Nat) : Int).toNat * 1]? = some (.slice sx xs.length cx) ∧ MkAt u sx xs ∧ tk l r (j + 1) = tk l r j ++ xs := by
  match j, hj with
  | 0, _ => exact ⟨sa, l, ca, rfl, hA, rfl⟩
  | 1, _ => exact ⟨sb, r, cb, rfl, hB, rfl⟩
theorem tk_le (l r : List Mk) (j : Nat) : (tk l r j).length ≤ l.length + r.length := by
  unfold tk; split
  · simp
  · split <;> simp
theorem c79 (l r : List Mk) (sa sb : Option Addr) (ca cb bs : Nat) (u : World) (hA : MkAt u sa l) (hB : MkAt u sb r) (hl : l.length ≤ 10) (hr : r.length ≤ 10) (hb : u.heap[bs]? = some (.cells (cells2 l r sa sb ca cb) 22 (0, 0))) :
    Calls Tryz.prog 86 #[.slice (some ⟨bs, 0, none⟩) 2 2] u (Ret fun v w' => ∃ oa cap, v = .slice oa (l ++ r).length cap ∧ MkAt w' oa (l ++ r) ∧ Ext [] u w') := by
  refine calls_of Tryz.func86 rfl rfl (fun a hf => ?_)
  have hh := Hp.init u []
  refine sy_sq ?_
  refine o_v hf hh (yv_assign rfl) ?_; clear hf a; intro a hf
  refine o_end ?_
  refine sy_sq ?_
  refine o_v hf hh (yv_assign rfl) ?_; clear hf a; intro a hf
  refine o_end ?_
  refine sy_seq ?_
  refine sy_sq ?_
  refine o_v hf hh (yv_move rfl) ?_; clear hf a; intro a hf
  refine o_v hf hh (yv_len Tryz.se_154 rfl) ?_; clear hf a; intro a hf
  refine o_v hf hh (yv_move rfl) ?_; clear hf a; intro a hf
  refine o_end ?_
  refine sy_block ?_
  refine sy_loopF (σ := Nat) [3, 5, 11, 12, 13, 14, 15, 16, 17, 18, 19, 20, 21, 22] (fun j => [(3, .int .i64 (tk l r j).length), (11, .int .i64 j)]) (fun j => j ≤ 2) (fun j => 2 - j) (0) hf hh ?_ ?_ ?_
  · repeat' (first | exact True.intro | refine And.intro rfl ?_)
  · first | exact True.intro | omega | (simp; omega) | simp
  ·rintro j a w hpr hf hh
   have htk := tk_le l r j
   refine sy_sq ?_
   refine o_v hf hh (yv_bin rfl rfl rfl) ?_; clear hf a; intro a hf
   refine o_end ?_
   refine sy_seq ?_
   refine sy_cond hf rfl (fun hg2 => ?_) (fun hg2 => ?_)
   ·have hG2 := hg2; try simp only [gS] at hG2
    refine sy_skip ?_
    refine then_n ?_
    refine sy_seq ?_
    refine sy_block ?_
    refine sy_seq ?_
    obtain ⟨sx, xs, cx, hcx, hMx, htj⟩ := pick2 (sa := sa) (sb := sb) (ca := ca) (cb := cb) hA hB (j := j) (by omega)
    have htk2 := tk_le l r (j + 1)
    have htl := congrArg List.length htj
    rw [List.length_append] at htl
    refine sy_ops ?_
    refine o_v hf hh (y_ix Tryz.se_154 rfl rfl) ?_; clear hf a; intro a hf
    refine o_v hf hh (y_ld Tryz.sc_22 rfl) ?_; clear hf a; intro a hf
    refine o_v hf hh (yv_assign rfl) ?_; clear hf a; intro a hf
    refine o_end ?_
    refine sy_sq ?_
    refine o_v hf hh (yv_move rfl) ?_; clear hf a; intro a hf
    refine o_v hf hh (yv_move rfl) ?_; clear hf a; intro a hf
    refine o_v hf hh (yv_len Tryz.se_22 rfl) ?_; clear hf a; intro a hf
    refine o_v hf hh (y_add rfl rfl) ?_; clear hf a; intro a hf
    refine o_v hf hh (yv_assign rfl) ?_; clear hf a; intro a hf
    refine o_end ?_
    refine sy_sq ?_
    refine o_v hf hh (yv_move rfl) ?_; clear hf a; intro a hf
    refine o_v hf hh (yv_bin rfl rfl rfl) ?_; clear hf a; intro a hf
    refine o_end ?_
    refine c_f hf ?_
    refine sy_skip ?_
    refine blk_n ?_
    refine then_n ?_
    refine sy_ops ?_
    refine o_v hf hh (y_add rfl rfl) ?_; clear hf a; intro a hf
    refine o_v hf hh (yv_move rfl) ?_; clear hf a; intro a hf
    refine ops_end ?_
    refine then_n ?_
    exact ⟨j + 1, ⟨by omega, hf.head ⟨congrArg (fun z => some (Value.int IntKind.i64 z)) (by rw [htj, List.length_append]; omega), rfl, True.intro⟩ (Keep.cons rfl (Keep.cons rfl (Keep.cons rfl (Keep.cons rfl (Keep.cons rfl (Keep.cons rfl (Keep.cons rfl (Keep.cons rfl (Keep.cons rfl (Keep.cons rfl (Keep.cons rfl (Keep.cons rfl (Keep.cons rfl (Keep.app rfl (Keep.rm rfl Keep.base))))))))))))))), hh⟩, by omega⟩
   ·have hG2 := hg2; try simp only [gS] at hG2
    refine sy_exit ?_
    refine then_e ?_
    refine then_e ?_
    refine blk_e ?_
    refine then_n ?_
    refine sy_sq ?_
    refine o_v hf hh (yv_move rfl) ?_; clear hf a; intro a hf
    refine o_call hf Tryz.en_100 rfl rfl rfl (c98 _ (by omega) _) ?_; clear hf a; intro v98 a w hR hf
    obtain ⟨X98, hO98, hx⟩ := hR; replace hh := hh.join hx; clear hx
    refine o_v hf hh (yv_assign rfl) ?_; clear hf a; intro a hf
    refine o_end ?_
    refine sy_seq ?_
    refine sy_sq ?_
    refine o_v hf hh (yv_move rfl) ?_; clear hf a; intro a hf
    refine o_v hf hh (yv_len Tryz.se_154 rfl) ?_; clear hf a; intro a hf
    refine o_v hf hh (yv_move rfl) ?_; clear hf a; intro a hf
    refine o_end ?_
    refine sy_block ?_
    refine sy_loopH (σ := Nat × Value × List (Nat × Obj)) [6, 8, 27, 28, 29, 30, 31, 32, 33, 34] (fun s => [(6, s.2.1), (27, .int .i64 s.1)]) (fun s => fun w => s.1 ≤ 2 ∧ OwnSl 89 4 s.2.1 (tk l r s.1).length (encM (tk l r s.1)) s.2.2 ∧ Hp u [] (s.2.2 ++ []) w) (fun s => 2 - s.1) ((0, v98, X98)) hf ?_ ?_ ?_
    · repeat' (first | exact True.intro | refine And.intro rfl ?_)
    · exact ⟨Nat.zero_le _, hO98, by simpa using hh⟩
    ·rintro s a w ⟨hi, hO, hh⟩ hf
     obtain ⟨j, v6, X6⟩ := s; simp only at hi hO hh hf ⊢
     have htk := tk_le l r j
     refine sy_sq ?_
     refine o_v hf hh (yv_bin rfl rfl rfl) ?_; clear hf a; intro a hf
     refine o_end ?_
     refine sy_seq ?_
     refine sy_cond hf rfl (fun hg6 => ?_) (fun hg6 => ?_)
     ·have hG6 := hg6; try simp only [gS] at hG6
      refine sy_skip ?_
      refine then_n ?_
      refine sy_seq ?_
      refine sy_block ?_
      refine sy_seq ?_
      obtain ⟨sx, xs, cx, hcx, hMx, htj⟩ := pick2 (sa := sa) (sb := sb) (ca := ca) (cb := cb) hA hB (j := j) (by omega)
      have htk2 := tk_le l r (j + 1)
      have htl := congrArg List.length htj
      rw [List.length_append] at htl
      refine sy_ops ?_
      refine o_v hf hh (y_ix Tryz.se_154 rfl rfl) ?_; clear hf a; intro a hf
      refine o_v hf hh (y_ld Tryz.sc_22 rfl) ?_; clear hf a; intro a hf
      refine o_v hf hh (yv_assign rfl) ?_; clear hf a; intro a hf
      refine o_end ?_
      refine sy_ops ?_
      refine o_v hf hh (yv_move rfl) ?_; clear hf a; intro a hf
      refine o_v hf hh (yv_move rfl) ?_; clear hf a; intro a hf
      refine ops_appendM (A := tk l r j) (B := xs) hf hh Tryz.eb_22 rfl rfl hO (hMx.ext hh.ext) (by simp only [maxLen]; omega) (by omega) (.inl rfl) rfl ?_; clear hf hh; clear a w; intro v' X' a w hO' hf hh
      refine o_v hf hh (yv_assign rfl) ?_; clear hf a; intro a hf
      refine ops_end ?_
      refine blk_n ?_
      refine then_n ?_
      refine sy_ops ?_
      refine o_v hf hh (y_add rfl rfl) ?_; clear hf a; intro a hf
      refine o_v hf hh (yv_move rfl) ?_; clear hf a; intro a hf
      refine ops_end ?_
      refine then_n ?_
      exact ⟨(j + 1, v', X'), ⟨⟨by simp only; omega, by simp only [htj]; rw [List.length_append]; exact hO', hh⟩, (hf.head (by repeat' (first | exact True.intro | refine And.intro rfl ?_)) (Keep.cons rfl (Keep.cons rfl (Keep.cons rfl (Keep.cons rfl (Keep.cons rfl (Keep.cons rfl (Keep.cons rfl (Keep.cons rfl (Keep.cons rfl (Keep.cons rfl (Keep.app rfl (Keep.rm rfl Keep.base)))))))))))))⟩, by simp only; omega⟩
     ·have hG6 := hg6; try simp only [gS] at hG6
      refine sy_exit ?_
      refine then_e ?_
      refine then_e ?_
      refine blk_e ?_
      refine then_n ?_
      refine sy_sq ?_
      refine o_v hf hh (yv_move rfl) ?_; clear hf a; intro a hf
      refine o_v hf hh (yv_assign rfl) ?_; clear hf a; intro a hf
      refine o_end ?_
      refine sy_ret ?_
      refine ret_r hf rfl rfl ?_
      have hj2 : j = 2 := by omega
      subst hj2
      have ht2 : tk l r 2 = l ++ r := rfl
      rw [ht2] at hO
      have hval : ∃ oa cap, v6 = .slice oa (l ++ r).length cap := by
        rcases hO.2 with ⟨e, h0, _⟩ | ⟨B, cp, cur, e, _⟩
        · exact ⟨none, 0, by rw [e, h0]⟩
        · exact ⟨_, _, e⟩
      obtain ⟨oa, cap, rfl⟩ := hval
      exact ⟨oa, cap, rfl, mkAt_of hO fun x hx => hh.get x (by simpa using hx), hh.ext⟩
end Go.Proofs.YtidieepndphodaaGreat
namespace Go.Proofs.YtidieepndphodaaGreat
open Go Go.Sy Go.MatM
theorem okRows_t {d : RowsD} (h1 : d.l.length ≤ 10) (h2 : d.r.length ≤ 10) (h3 : (d.l ++ d.r).all okM = true) : okRows d = (decide (-65536 ≤ d.lo ∧ d.lo ≤ d.hi ∧ d.hi ≤ 65536) && decide (0 ≤ d.hid ∧ d.hid ≤ 20)) := by
  simp only [okRows, h1, h2, h3, decide_true, Bool.true_and]
theorem okRows_f {d : RowsD} (h : ¬ (d.l.length ≤ 10 ∧ d.r.length ≤ 10 ∧ (d.l ++ d.r).all okM = true)) : okRows d = false := by
  rw [Bool.eq_false_iff]
  intro h'
  simp only [okRows, Bool.and_eq_true, decide_eq_true_eq] at h'
  exact h ⟨h'.1.1.1.1, h'.1.1.1.2, h'.1.1.2⟩
theorem c42 (d : RowsD) (sa sb : Option Addr) (ca cb : Nat) (u : World) (hA : MkAt u sa d.l) (hB : MkAt u sb d.r) : Calls Tryz.prog 73 #[rowsV d sa sb ca cb] u (Ret fun v w' => v = .bool (okRows d) ∧ Ext [] u w') := by
  refine calls_of Tryz.func73 rfl rfl (fun a hf => ?_)
  have hh := Hp.init u []
  refine sy_sq ?_
  refine o_box hf hh ?_; clear hf hh a; intro B1 a w hf hh
  refine o_v hf hh (yv_assign rfl) ?_; clear hf a; intro a hf
  refine o_end ?_
  refine sy_sq ?_
  refine o_v hf hh (yv_assign rfl) ?_; clear hf a; intro a hf
  refine o_end ?_
  refine sy_sq ?_
  refine o_v hf hh (yv_fieldAddr Tryz.fo_26_0 rfl) ?_; clear hf a; intro a hf
  refine o_v hf hh (y_ld Tryz.sc_22 rfl) ?_; clear hf a; intro a hf
  refine o_v hf hh (yv_len Tryz.se_22 rfl) ?_; clear hf a; intro a hf
  refine o_v hf hh (yv_bin rfl rfl rfl) ?_; clear hf a; intro a hf
  refine o_v hf hh (yv_move rfl) ?_; clear hf a; intro a hf
  refine guard_split hf (t := 9) rfl (fun hg2 => ?_) (fun hg2 => ?_)
  ·have hG2 := hg2; try simp only [gS] at hG2
   refine o_v hf hh (yv_fieldAddr Tryz.fo_26_1 rfl) ?_; clear hf a; intro a hf
   refine o_v hf hh (y_ld Tryz.sc_22 rfl) ?_; clear hf a; intro a hf
   refine o_v hf hh (yv_len Tryz.se_22 rfl) ?_; clear hf a; intro a hf
   refine o_v hf hh (yv_bin rfl rfl rfl) ?_; clear hf a; intro a hf
   refine o_v hf hh (y_pt rfl rfl) ?_; clear hf a; intro a hf
   refine o_v hf hh (yv_move rfl) ?_; clear hf a; intro a hf
   refine guard_split hf (t := 15) rfl (fun hg4 => ?_) (fun hg4 => ?_)
   ·have hG4 := hg4; try simp only [gS] at hG4
    refine o_v hf hh (yv_fieldAddr Tryz.fo_26_0 rfl) ?_; clear hf a; intro a hf
    refine o_v hf hh (y_ld Tryz.sc_22 rfl) ?_; clear hf a; intro a hf
    refine o_v hf hh (yv_fieldAddr Tryz.fo_26_1 rfl) ?_; clear hf a; intro a hf
    refine o_v hf hh (y_ld Tryz.sc_22 rfl) ?_; clear hf a; intro a hf
    refine ops_buildSl hf hh Tryz.bl_154_2 rfl rfl (gon rfl rfl rfl (by first | assumption | rfl | (simp; done) | (simp; omega))) rfl ?_; clear hf hh; clear a; intro B20 a w hf hh
    refine o_call hf Tryz.en_86 rfl rfl rfl (c79 d.l d.r sa sb ca cb B20 _ (hA.ext hh.ext) (hB.ext hh.ext) (by omega) (by omega) (hh.at (i := 0) rfl)) ?_; clear hf a; intro v a w hR hf
    obtain ⟨oa, cap, rfl, hMo, hx⟩ := hR; replace hh := hh.more hx; clear hx
    refine o_v hf hh (yv_move rfl) ?_; clear hf a; intro a hf
    refine o_call hf Tryz.en_85 rfl rfl rfl (c78 (d.l ++ d.r) oa cap _ hMo (by rw [List.length_append]; omega)) ?_; clear hf a; intro v a w hR hf
    obtain ⟨rfl, hx⟩ := hR; replace hh := hh.more hx; clear hx
    refine o_v hf hh (yv_not rfl) ?_; clear hf a; intro a hf
    refine o_v hf hh (y_pt rfl rfl) ?_; clear hf a; intro a hf
    refine o_v hf hh (yv_assign rfl) ?_; clear hf a; intro a hf
    refine o_end ?_
    refine sy_sq ?_
    refine o_v hf hh (yv_move rfl) ?_; clear hf a; intro a hf
    refine o_v hf hh (yv_move rfl) ?_; clear hf a; intro a hf
    refine guard_split hf (t := 27) rfl (fun hg7 => ?_) (fun hg7 => ?_)
    ·have hG7 := hg7; try simp only [gS] at hG7
     refine o_v hf hh (yv_fieldAddr Tryz.fo_26_2 rfl) ?_; clear hf a; intro a hf
     refine o_v hf hh (y_lds Tryz.ag_24 rfl) ?_; clear hf a; intro a hf
     refine o_call hf Tryz.en_84 rfl rfl rfl (c77 _ _ _ _ _) ?_; clear hf a; intro v a w hR hf
     obtain ⟨rfl, hx⟩ := hR; replace hh := hh.more hx; clear hx
     refine o_v hf hh (y_pt rfl rfl) ?_; clear hf a; intro a hf
     refine o_v hf hh (yv_move rfl) ?_; clear hf a; intro a hf
     refine guard_split hf (t := 32) rfl (fun hg9 => ?_) (fun hg9 => ?_)
     ·have hG9 := hg9; try simp only [gS] at hG9
      refine o_v hf hh (yv_fieldAddr Tryz.fo_26_3 rfl) ?_; clear hf a; intro a hf
      refine o_v hf hh (y_ld Tryz.sc_3 rfl) ?_; clear hf a; intro a hf
      refine o_call hf Tryz.en_74 rfl rfl rfl (c43 _ _ _ _) ?_; clear hf a; intro v a w hR hf
      obtain ⟨rfl, hx⟩ := hR; replace hh := hh.more hx; clear hx
      refine o_v hf hh (y_pt rfl rfl) ?_; clear hf a; intro a hf
      refine o_v hf hh (yv_assign rfl) ?_; clear hf a; intro a hf
      refine o_end ?_
      refine sy_ret ?_
      refine ret_r hf rfl rfl ?_
      have hX := hh.ext
      refine ⟨congrArg Value.bool ?_, hX⟩
      clear hX hh hf
      first
        | (rw [okRows_t (by omega) (by omega) (by simp_all)]; rw [Bool.eq_iff_iff]; first | done | (simp_all; done) | (simp at *; omega) | (simp_all; omega))
        | (have e : okRows d = false := okRows_f (by first | omega | (simp_all; done))
           rw [e]; first | done | (simp_all; done) | (simp_all; omega))
     ·have hG9 := hg9; try simp only [gS] at hG9
      refine o_off hf ?_; clear hf a; intro a hf
      refine o_off hf ?_; clear hf a; intro a hf
      refine o_off hf ?_; clear hf a; intro a hf
      refine o_v hf hh (y_pf rfl rfl) ?_; clear hf a; intro a hf
      refine o_v hf hh (yv_assign rfl) ?_; clear hf a; intro a hf
      refine o_end ?_
      refine sy_ret ?_
      refine ret_r hf rfl rfl ?_
      have hX := hh.ext
      refine ⟨congrArg Value.bool ?_, hX⟩
      clear hX hh hf
      first
        | (rw [okRows_t (by omega) (by omega) (by simp_all)]; rw [Bool.eq_iff_iff]; first | done | (simp_all; done) | (simp at *; omega) | (simp_all; omega))
        | (have e : okRows d = false := okRows_f (by first | omega | (simp_all; done))
           rw [e]; first | done | (simp_all; done) | (simp_all; omega))
    ·have hG7 := hg7; try simp only [gS] at hG7
     refine o_off hf ?_; clear hf a; intro a hf
     refine o_off hf ?_; clear hf a; intro a hf
     refine o_off hf ?_; clear hf a; intro a hf
     refine o_v hf hh (y_pf rfl rfl) ?_; clear hf a; intro a hf
     refine o_v hf hh (yv_move rfl) ?_; clear hf a; intro a hf
     refine o_off hf ?_; clear hf a; intro a hf
     refine o_off hf ?_; clear hf a; intro a hf
     refine o_off hf ?_; clear hf a; intro a hf
     refine o_v hf hh (y_pf rfl rfl) ?_; clear hf a; intro a hf
     refine o_v hf hh (yv_assign rfl) ?_; clear hf a; intro a hf
     refine o_end ?_
     refine sy_ret ?_
     refine ret_r hf rfl rfl ?_
     have hX := hh.ext
     refine ⟨congrArg Value.bool ?_, hX⟩
     clear hX hh hf
     first
       | (rw [okRows_t (by omega) (by omega) (by simp_all)]; rw [Bool.eq_iff_iff]; first | done | (simp_all; done) | (simp at *; omega) | (simp_all; omega))
       | (have e : okRows d = false := okRows_f (by first | omega | (simp_all; done))
          rw [e]; first | done | (simp_all; done) | (simp_all; omega))
   ·have hG4 := hg4; try simp only [gS] at hG4
    refine o_off hf ?_; clear hf a; intro a hf
    refine o_off hf ?_; clear hf a; intro a hf
    refine o_off hf ?_; clear hf a; intro a hf
    refine o_off hf ?_; clear hf a; intro a hf
    refine o_off hf ?_; clear hf a; intro a hf
    refine o_off hf ?_; clear hf a; intro a hf
    refine o_off hf ?_; clear hf a; intro a hf
    refine o_off hf ?_; clear hf a; intro a hf
    refine o_off hf ?_; clear hf a; intro a hf
    refine o_v hf hh (y_pf rfl rfl) ?_; clear hf a; intro a hf
    refine o_v hf hh (yv_assign rfl) ?_; clear hf a; intro a hf
    refine o_end ?_
    refine sy_sq ?_
    refine o_v hf hh (yv_move rfl) ?_; clear hf a; intro a hf
    refine o_v hf hh (yv_move rfl) ?_; clear hf a; intro a hf
    refine o_off hf ?_; clear hf a; intro a hf
    refine o_off hf ?_; clear hf a; intro a hf
    refine o_off hf ?_; clear hf a; intro a hf
    refine o_v hf hh (y_pf rfl rfl) ?_; clear hf a; intro a hf
    refine o_v hf hh (yv_move rfl) ?_; clear hf a; intro a hf
    refine o_off hf ?_; clear hf a; intro a hf
    refine o_off hf ?_; clear hf a; intro a hf
    refine o_off hf ?_; clear hf a; intro a hf
    refine o_v hf hh (y_pf rfl rfl) ?_; clear hf a; intro a hf
    refine o_v hf hh (yv_assign rfl) ?_; clear hf a; intro a hf
    refine o_end ?_
    refine sy_ret ?_
    refine ret_r hf rfl rfl ?_
    have hX := hh.ext
    refine ⟨congrArg Value.bool ?_, hX⟩
    clear hX hh hf
    first
      | (rw [okRows_t (by omega) (by omega) (by simp_all)]; rw [Bool.eq_iff_iff]; first | done | (simp_all; done) | (simp at *; omega) | (simp_all; omega))
      | (have e : okRows d = false := okRows_f (by first | omega | (simp_all; done))
         rw [e]; first | done | (simp_all; done) | (simp_all; omega))
  ·have hG2 := hg2; try simp only [gS] at hG2
   refine o_off hf ?_; clear hf a; intro a hf
   refine o_off hf ?_; clear hf a; intro a hf
   refine o_off hf ?_; clear hf a; intro a hf
   refine o_off hf ?_; clear hf a; intro a hf
   refine o_v hf hh (y_pf rfl rfl) ?_; clear hf a; intro a hf
   refine o_v hf hh (yv_move rfl) ?_; clear hf a; intro a hf
   refine o_off hf ?_; clear hf a; intro a hf
   refine o_off hf ?_; clear hf a; intro a hf
   refine o_off hf ?_; clear hf a; intro a hf
   refine o_off hf ?_; clear hf a; intro a hf
   refine o_off hf ?_; clear hf a; intro a hf
   refine o_off hf ?_; clear hf a; intro a hf
   refine o_off hf ?_; clear hf a; intro a hf
   refine o_off hf ?_; clear hf a; intro a hf
   refine o_off hf ?_; clear hf a; intro a hf
   refine o_v hf hh (y_pf rfl rfl) ?_; clear hf a; intro a hf
   refine o_v hf hh (yv_assign rfl) ?_; clear hf a; intro a hf
   refine o_end ?_
   refine sy_sq ?_
   refine o_v hf hh (yv_move rfl) ?_; clear hf a; intro a hf
   refine o_v hf hh (yv_move rfl) ?_; clear hf a; intro a hf
   refine o_off hf ?_; clear hf a; intro a hf
   refine o_off hf ?_; clear hf a; intro a hf
   refine o_off hf ?_; clear hf a; intro a hf
   refine o_v hf hh (y_pf rfl rfl) ?_; clear hf a; intro a hf
   refine o_v hf hh (yv_move rfl) ?_; clear hf a; intro a hf
   refine o_off hf ?_; clear hf a; intro a hf
   refine o_off hf ?_; clear hf a; intro a hf
   refine o_off hf ?_; clear hf a; intro a hf
   refine o_v hf hh (y_pf rfl rfl) ?_; clear hf a; intro a hf
   refine o_v hf hh (yv_assign rfl) ?_; clear hf a; intro a hf
   refine o_end ?_
   refine sy_ret ?_
   refine ret_r hf rfl rfl ?_
   have hX := hh.ext
   refine ⟨congrArg Value.bool ?_, hX⟩
   clear hX hh hf
   first
     | (rw [okRows_t (by omega) (by omega) (by simp_all)]; rw [Bool.eq_iff_iff]; first | done | (simp_all; done) | (simp at *; omega) | (simp_all; omega))
     | (have e : okRows d = false := okRows_f (by first | omega | (simp_all; done))
        rw [e]; first | done | (simp_all; done) | (simp_all; omega))
end Go.Proofs.YtidieepndphodaaGreat
namespace Go.Proofs.YtidieepndphodaaGreat
open Go Go.Sy Go.MatM
theorem c85 (p q r s : Int) (w : World) : Calls Tryz.prog 92 #[.agg #[.int .i64 p, .int .i64 q], .agg #[.int .i64 r, .int .i64 s]] w (Ret fun v w' => v = .agg #[.int .i64 (max p r), .int .i64 (min q s)] ∧ Ext [] w w') := by
  refine calls_of Tryz.func92 rfl rfl (fun a hf => ?_)
  have hh := Hp.init w []
  refine sy_sq ?_
  refine o_box hf hh ?_; clear hf hh a; intro B2 a w hf hh
  refine o_box hf hh ?_; clear hf hh a; intro B3 a w hf hh
  refine o_alloc hf hh Tryz.ze_24 ?_; clear hf hh a; intro B4 a w hf hh
  refine o_end ?_
  refine sy_sq ?_
  refine o_v hf hh (yv_fieldAddr Tryz.fo_24_0 rfl) ?_; clear hf a; intro a hf
  refine o_v hf hh (y_ld Tryz.sc_3 rfl) ?_; clear hf a; intro a hf
  refine o_v hf hh (yv_fieldAddr Tryz.fo_24_0 rfl) ?_; clear hf a; intro a hf
  refine o_v hf hh (y_ld Tryz.sc_3 rfl) ?_; clear hf a; intro a hf
  refine o_v hf hh (yv_max rfl rfl) ?_; clear hf a; intro a hf
  refine o_v hf hh (yv_fieldAddr Tryz.fo_24_1 rfl) ?_; clear hf a; intro a hf
  refine o_v hf hh (y_ld Tryz.sc_3 rfl) ?_; clear hf a; intro a hf
  refine o_v hf hh (yv_fieldAddr Tryz.fo_24_1 rfl) ?_; clear hf a; intro a hf
  refine o_v hf hh (y_ld Tryz.sc_3 rfl) ?_; clear hf a; intro a hf
  refine o_v hf hh (yv_min rfl rfl) ?_; clear hf a; intro a hf
  refine o_v hf hh (yv_buildS Tryz.bs_24 rfl rfl) ?_; clear hf a; intro a hf
  refine o_store hf hh Tryz.sz_24 fun w hh => ?_
  refine o_end ?_
  refine sy_ret ?_
  refine ret_c (vs := [.agg #[.int .i64 (max p r), .int .i64 (min q s)]]) hf ?_ ?_
  · exact ⟨⟨B4, 0, _, _, _, rfl, hh.at (i := 0) rfl, .inr ⟨2, _, Tryz.ag_24, rfl, rfl⟩⟩, True.intro⟩
  · exact ⟨rfl, hh.ext⟩
theorem c80 (m : Mk) (w : World) : Calls Tryz.prog 87 #[mkV m] w (Ret fun v w' => v = .agg #[.int .i64 m.tl, .int .i64 m.th] ∧ Ext [] w w') := by
  refine calls_of Tryz.func87 rfl rfl (fun a hf => ?_)
  have hh := Hp.init w []
  refine sy_sq ?_
  refine o_box hf hh ?_; clear hf hh a; intro B1 a w hf hh
  refine o_alloc hf hh Tryz.ze_24 ?_; clear hf hh a; intro B2 a w hf hh
  refine o_end ?_
  refine sy_sq ?_
  refine o_v hf hh (yv_fieldAddr Tryz.fo_89_1 rfl) ?_; clear hf a; intro a hf
  refine o_v hf hh (y_lds Tryz.ag_24 rfl) ?_; clear hf a; intro a hf
  refine o_store hf hh Tryz.sz_24 fun w hh => ?_
  refine o_end ?_
  refine sy_ret ?_
  refine ret_c (vs := [.agg #[.int .i64 m.tl, .int .i64 m.th]]) hf ?_ ?_
  · exact ⟨⟨B2, 0, _, _, _, rfl, hh.at (i := 0) rfl, .inr ⟨2, _, Tryz.ag_24, rfl, rfl⟩⟩, True.intro⟩
  · exact ⟨rfl, hh.ext⟩
theorem c82 (m : Mk) (w : World) : Calls Tryz.prog 89 #[mkV m] w (Ret fun v w' => v = .agg #[.int .i64 m.al, .int .i64 m.ah] ∧ Ext [] w w') := by
  refine calls_of Tryz.func89 rfl rfl (fun a hf => ?_)
  have hh := Hp.init w []
  refine sy_sq ?_
  refine o_box hf hh ?_; clear hf hh a; intro B1 a w hf hh
  refine o_alloc hf hh Tryz.ze_24 ?_; clear hf hh a; intro B2 a w hf hh
  refine o_end ?_
  refine sy_sq ?_
  refine o_v hf hh (yv_fieldAddr Tryz.fo_89_0 rfl) ?_; clear hf a; intro a hf
  refine o_v hf hh (y_lds Tryz.ag_24 rfl) ?_; clear hf a; intro a hf
  refine o_store hf hh Tryz.sz_24 fun w hh => ?_
  refine o_end ?_
  refine sy_ret ?_
  refine ret_c (vs := [.agg #[.int .i64 m.al, .int .i64 m.ah]]) hf ?_ ?_
  · exact ⟨⟨B2, 0, _, _, _, rfl, hh.at (i := 0) rfl, .inr ⟨2, _, Tryz.ag_24, rfl, rfl⟩⟩, True.intro⟩
  · exact ⟨rfl, hh.ext⟩
theorem c81 (m : Mk) (d : RowsD) (sa sb : Option Addr) (ca cb bx : Nat) (w : World) (hb : w.heap[bx]? = some (.cells (rowsV d sa sb ca cb).cells 26 (0, 0))) (hm : okM m = true) (h1 : -65536 ≤ d.lo) (h2 : d.lo ≤ d.hi) (h3 : d.hi ≤ 65536) :
    Calls Tryz.prog 88 #[mkV m, ptr bx 0] w (Ret fun v w' => v = .agg #[.int .i64 (m.al - d.hi), .int .i64 (m.ah - d.lo)] ∧ Ext [] w w') := by
  refine calls_of Tryz.func88 rfl rfl (fun a hf => ?_)
  have hh := Hp.init w []
  have hm := okM_iff.1 hm
  refine sy_sq ?_
  refine o_box hf hh ?_; clear hf hh a; intro B2 a w hf hh
  refine o_alloc hf hh Tryz.ze_24 ?_; clear hf hh a; intro B3 a w hf hh
  refine o_end ?_
  refine sy_sq ?_
  refine o_v hf hh (yv_fieldAddr Tryz.fo_89_0 rfl) ?_; clear hf a; intro a hf
  refine o_v hf hh (yv_fieldAddr Tryz.fo_24_0 rfl) ?_; clear hf a; intro a hf
  refine o_v hf hh (y_ld Tryz.sc_3 rfl) ?_; clear hf a; intro a hf
  refine o_v hf hh (yv_fieldAddr Tryz.fo_26_2 rfl) ?_; clear hf a; intro a hf
  refine o_v hf hh (yv_fieldAddr Tryz.fo_24_1 rfl) ?_; clear hf a; intro a hf
  refine o_v hf hh (y_ld Tryz.sc_3 rfl) ?_; clear hf a; intro a hf
  refine o_v hf hh (y_sub rfl rfl) ?_; clear hf a; intro a hf
  refine o_v hf hh (yv_fieldAddr Tryz.fo_89_0 rfl) ?_; clear hf a; intro a hf
  refine o_v hf hh (yv_fieldAddr Tryz.fo_24_1 rfl) ?_; clear hf a; intro a hf
  refine o_v hf hh (y_ld Tryz.sc_3 rfl) ?_; clear hf a; intro a hf
  refine o_v hf hh (yv_fieldAddr Tryz.fo_26_2 rfl) ?_; clear hf a; intro a hf
  refine o_v hf hh (yv_fieldAddr Tryz.fo_24_0 rfl) ?_; clear hf a; intro a hf
  refine o_v hf hh (y_ld Tryz.sc_3 rfl) ?_; clear hf a; intro a hf
  refine o_v hf hh (y_sub rfl rfl) ?_; clear hf a; intro a hf
  refine o_v hf hh (yv_buildS Tryz.bs_24 rfl rfl) ?_; clear hf a; intro a hf
  refine o_store hf hh Tryz.sz_24 fun w hh => ?_
  refine o_end ?_
  refine sy_ret ?_
  refine ret_c (vs := [.agg #[.int .i64 (m.al - d.hi), .int .i64 (m.ah - d.lo)]]) hf ?_ ?_
  · exact ⟨⟨B3, 0, _, _, _, rfl, hh.at (i := 0) rfl, .inr ⟨2, _, Tryz.ag_24, rfl, rfl⟩⟩, True.intro⟩
  · exact ⟨rfl, hh.ext⟩
end Go.Proofs.YtidieepndphodaaGreat
namespace Go.Proofs.YtidieepndphodaaGreat
open Go Go.Sy Go.MatM
abbrev fn0 (n : Nat) : Value := .func (.func n) #[] #[]
abbrev rule0 : Value := .agg #[fn0 87, fn0 87]
abbrev rule1 (bx : Nat) : Value := .agg #[.func (.func 88) #[] #[ptr bx 0], fn0 89]
theorem c84a (x y : Mk) (ba bb : Nat) (w : World) (ha : w.heap[ba]? = some (.cells (mkV x).cells 89 (0, 0))) (hb : w.heap[bb]? = some (.cells (mkV y).cells 89 (0, 0))) : Calls Tryz.prog 91 #[rule0, ptr ba 0, ptr bb 0] w (Ret fun v w' => v = .bool (decide (max x.tl y.tl > min x.th y.th)) ∧ Ext [] w w') := by
  refine calls_of Tryz.func91 rfl rfl (fun a hf => ?_)
  have hh := Hp.init w []
  refine sy_sq ?_
  refine o_box hf hh ?_; clear hf hh a; intro B3 a w hf hh
  refine o_v hf hh (yv_assign rfl) ?_; clear hf a; intro a hf
  refine o_end ?_
  refine sy_seq ?_
  refine sy_tree (.q 0 (.q 1 (.q 2 (.q 4 (.q 5 (.q 6 (.e2 3 (.e2 7 (.e2 8 (.e1 9 (.e1 10 (.fin))) 9 (.e1 8 (.e1 10 (.fin)))) 9 (.e1 7 (.e1 8 (.e1 10 (.fin))))) 9 (.e1 3 (.e1 7 (.e1 8 (.e1 10 (.fin)))))))))))) [] Tryz.follows (by kernel_rfl) hh (fun w hh => ?_)
  refine mt_v rfl hh hf (yv_fieldAddr Tryz.fo_141_0 rfl) (.inl rfl) rfl rfl ?_; clear hf a; intro a hf
  refine mt_v rfl hh hf (y_ld Tryz.sc_139 rfl) (.inl rfl) rfl rfl ?_; clear hf a; intro a hf
  refine mt_v rfl hh hf (y_lds Tryz.ag_89 rfl) (.inl rfl) rfl rfl ?_; clear hf a; intro a hf
  refine mt_v rfl hh hf (yv_fieldAddr Tryz.fo_141_1 rfl) (.inl rfl) rfl rfl ?_; clear hf a; intro a hf
  refine mt_v rfl hh hf (y_ld Tryz.sc_139 rfl) (.inl rfl) rfl rfl ?_; clear hf a; intro a hf
  refine mt_v rfl hh hf (y_lds Tryz.ag_89 rfl) (.inl rfl) rfl rfl ?_; clear hf a; intro a hf
  refine ⟨?_, ?_⟩
  ·refine mt_e rfl fun Q1 => ?_
   refine o_call hf Tryz.en_87 rfl rfl rfl (c80 x _) ?_; clear hf a; intro v a w hR hf
   obtain ⟨rfl, hx⟩ := hR; replace hh := hh.more hx; clear hx
   refine ops_end ?_
   refine then_n ⟨fun _ => hh, ?_⟩
   refine ⟨?_, ?_⟩
   ·refine mt_e rfl fun Q1 => ?_
    refine o_call hf Tryz.en_87 rfl rfl rfl (c80 y _) ?_; clear hf a; intro v a w hR hf
    obtain ⟨rfl, hx⟩ := hR; replace hh := hh.more hx; clear hx
    refine ops_end ?_
    refine then_n ⟨fun _ => hh, ?_⟩
    refine ⟨?_, ?_⟩
    ·refine mt_e rfl fun Q1 => ?_
     refine o_call hf Tryz.en_92 rfl rfl rfl (c85 _ _ _ _ _) ?_; clear hf a; intro v a w hR hf
     obtain ⟨rfl, hx⟩ := hR; replace hh := hh.more hx; clear hx
     refine ops_end ?_
     refine then_n ⟨fun _ => hh, ?_⟩
     refine mt_e rfl fun Q1 => ?_
     refine o_alloc hf hh Tryz.ze_24 ?_; clear hf hh a; intro B5 a w hf hh
     refine ops_end ?_
     refine then_n ⟨fun _ => (hh.less (.cons _ (List.Sublist.refl _))), ?_⟩
     refine mt_e rfl fun Q1 => ?_
     refine o_store hf hh Tryz.sz_24 fun w hh => ?_
     refine ops_end ?_
     refine then_n ⟨fun _ => (hh.less (.cons _ (List.Sublist.refl _))), ?_⟩
     refine mt_end ?_
     refine then_n ?_
     refine sy_sq ?_
     refine o_v hf hh (yv_fieldAddr Tryz.fo_24_0 rfl) ?_; clear hf a; intro a hf
     refine o_v hf hh (y_ld Tryz.sc_3 rfl) ?_; clear hf a; intro a hf
     refine o_v hf hh (yv_fieldAddr Tryz.fo_24_1 rfl) ?_; clear hf a; intro a hf
     refine o_v hf hh (y_ld Tryz.sc_3 rfl) ?_; clear hf a; intro a hf
     refine o_v hf hh (yv_bin rfl rfl rfl) ?_; clear hf a; intro a hf
     refine o_v hf hh (yv_assign rfl) ?_; clear hf a; intro a hf
     refine o_end ?_
     refine sy_ret ?_
     refine ret_r hf rfl rfl ?_
     exact ⟨rfl, hh.ext⟩
    ·refine mt_e rfl fun Q1 => ?_
     refine o_alloc hf hh Tryz.ze_24 ?_; clear hf hh a; intro B5 a w hf hh
     refine ops_end ?_
     refine then_n ⟨fun _ => (hh.less (.cons _ (List.Sublist.refl _))), ?_⟩
     refine mt_e rfl fun Q1 => ?_
     refine o_call hf Tryz.en_92 rfl rfl rfl (c85 _ _ _ _ _) ?_; clear hf a; intro v a w hR hf
     obtain ⟨rfl, hx⟩ := hR; replace hh := hh.more hx; clear hx
     refine ops_end ?_
     refine then_n ⟨fun _ => (hh.less (.cons _ (List.Sublist.refl _))), ?_⟩
     refine mt_e rfl fun Q1 => ?_
     refine o_store hf hh Tryz.sz_24 fun w hh => ?_
     refine ops_end ?_
     refine then_n ⟨fun _ => (hh.less (.cons _ (List.Sublist.refl _))), ?_⟩
     refine mt_end ?_
     refine then_n ?_
     refine sy_sq ?_
     refine o_v hf hh (yv_fieldAddr Tryz.fo_24_0 rfl) ?_; clear hf a; intro a hf
     refine o_v hf hh (y_ld Tryz.sc_3 rfl) ?_; clear hf a; intro a hf
     refine o_v hf hh (yv_fieldAddr Tryz.fo_24_1 rfl) ?_; clear hf a; intro a hf
     refine o_v hf hh (y_ld Tryz.sc_3 rfl) ?_; clear hf a; intro a hf
     refine o_v hf hh (yv_bin rfl rfl rfl) ?_; clear hf a; intro a hf
     refine o_v hf hh (yv_assign rfl) ?_; clear hf a; intro a hf
     refine o_end ?_
     refine sy_ret ?_
     refine ret_r hf rfl rfl ?_
     exact ⟨rfl, hh.ext⟩
   ·refine mt_e rfl fun Q1 => ?_
    refine o_alloc hf hh Tryz.ze_24 ?_; clear hf hh a; intro B5 a w hf hh
    refine ops_end ?_
    refine then_n ⟨fun _ => (hh.less (.cons _ (List.Sublist.refl _))), ?_⟩
    refine mt_e rfl fun Q1 => ?_
    refine o_call hf Tryz.en_87 rfl rfl rfl (c80 y _) ?_; clear hf a; intro v a w hR hf
    obtain ⟨rfl, hx⟩ := hR; replace hh := hh.more hx; clear hx
    refine ops_end ?_
    refine then_n ⟨fun _ => (hh.less (.cons _ (List.Sublist.refl _))), ?_⟩
    refine mt_e rfl fun Q1 => ?_
    refine o_call hf Tryz.en_92 rfl rfl rfl (c85 _ _ _ _ _) ?_; clear hf a; intro v a w hR hf
    obtain ⟨rfl, hx⟩ := hR; replace hh := hh.more hx; clear hx
    refine ops_end ?_
    refine then_n ⟨fun _ => (hh.less (.cons _ (List.Sublist.refl _))), ?_⟩
    refine mt_e rfl fun Q1 => ?_
    refine o_store hf hh Tryz.sz_24 fun w hh => ?_
    refine ops_end ?_
    refine then_n ⟨fun _ => (hh.less (.cons _ (List.Sublist.refl _))), ?_⟩
    refine mt_end ?_
    refine then_n ?_
    refine sy_sq ?_
    refine o_v hf hh (yv_fieldAddr Tryz.fo_24_0 rfl) ?_; clear hf a; intro a hf
    refine o_v hf hh (y_ld Tryz.sc_3 rfl) ?_; clear hf a; intro a hf
    refine o_v hf hh (yv_fieldAddr Tryz.fo_24_1 rfl) ?_; clear hf a; intro a hf
    refine o_v hf hh (y_ld Tryz.sc_3 rfl) ?_; clear hf a; intro a hf
    refine o_v hf hh (yv_bin rfl rfl rfl) ?_; clear hf a; intro a hf
    refine o_v hf hh (yv_assign rfl) ?_; clear hf a; intro a hf
    refine o_end ?_
    refine sy_ret ?_
    refine ret_r hf rfl rfl ?_
    exact ⟨rfl, hh.ext⟩
  ·refine mt_e rfl fun Q1 => ?_
   refine o_alloc hf hh Tryz.ze_24 ?_; clear hf hh a; intro B5 a w hf hh
   refine ops_end ?_
   refine then_n ⟨fun _ => (hh.less (.cons _ (List.Sublist.refl _))), ?_⟩
   refine mt_e rfl fun Q1 => ?_
   refine o_call hf Tryz.en_87 rfl rfl rfl (c80 x _) ?_; clear hf a; intro v a w hR hf
   obtain ⟨rfl, hx⟩ := hR; replace hh := hh.more hx; clear hx
   refine ops_end ?_
   refine then_n ⟨fun _ => (hh.less (.cons _ (List.Sublist.refl _))), ?_⟩
   refine mt_e rfl fun Q1 => ?_
   refine o_call hf Tryz.en_87 rfl rfl rfl (c80 y _) ?_; clear hf a; intro v a w hR hf
   obtain ⟨rfl, hx⟩ := hR; replace hh := hh.more hx; clear hx
   refine ops_end ?_
   refine then_n ⟨fun _ => (hh.less (.cons _ (List.Sublist.refl _))), ?_⟩
   refine mt_e rfl fun Q1 => ?_
   refine o_call hf Tryz.en_92 rfl rfl rfl (c85 _ _ _ _ _) ?_; clear hf a; intro v a w hR hf
   obtain ⟨rfl, hx⟩ := hR; replace hh := hh.more hx; clear hx
   refine ops_end ?_
   refine then_n ⟨fun _ => (hh.less (.cons _ (List.Sublist.refl _))), ?_⟩
   refine mt_e rfl fun Q1 => ?_
   refine o_store hf hh Tryz.sz_24 fun w hh => ?_
   refine ops_end ?_
   refine then_n ⟨fun _ => (hh.less (.cons _ (List.Sublist.refl _))), ?_⟩
   refine mt_end ?_
   refine then_n ?_
   refine sy_sq ?_
   refine o_v hf hh (yv_fieldAddr Tryz.fo_24_0 rfl) ?_; clear hf a; intro a hf
   refine o_v hf hh (y_ld Tryz.sc_3 rfl) ?_; clear hf a; intro a hf
   refine o_v hf hh (yv_fieldAddr Tryz.fo_24_1 rfl) ?_; clear hf a; intro a hf
   refine o_v hf hh (y_ld Tryz.sc_3 rfl) ?_; clear hf a; intro a hf
   refine o_v hf hh (yv_bin rfl rfl rfl) ?_; clear hf a; intro a hf
   refine o_v hf hh (yv_assign rfl) ?_; clear hf a; intro a hf
   refine o_end ?_
   refine sy_ret ?_
   refine ret_r hf rfl rfl ?_
   exact ⟨rfl, hh.ext⟩
theorem c84b (x y : Mk) (ba bb : Nat) (w : World) (ha : w.heap[ba]? = some (.cells (mkV x).cells 89 (0, 0))) (hb : w.heap[bb]? = some (.cells (mkV y).cells 89 (0, 0))) (d : RowsD) (sa sb : Option Addr) (ca cb bx : Nat) (hx : w.heap[bx]? = some (.cells (rowsV d sa sb ca cb).cells 26 (0, 0))) (h1 : -65536 ≤ d.lo) (h2 : d.lo ≤ d.hi) (h3 : d.hi ≤ 65536) (hm : okM x = true) : Calls Tryz.prog 91 #[rule1 bx, ptr ba 0, ptr bb 0] w (Ret fun v w' => v = .bool (decide (max (x.al - d.hi) y.al > min (x.ah - d.lo) y.ah)) ∧ Ext [] w w') := by
  refine calls_of Tryz.func91 rfl rfl (fun a hf => ?_)
  have hh := Hp.init w []
  refine sy_sq ?_
  refine o_box hf hh ?_; clear hf hh a; intro B3 a w hf hh
  refine o_v hf hh (yv_assign rfl) ?_; clear hf a; intro a hf
  refine o_end ?_
  refine sy_seq ?_
  refine sy_tree (.q 0 (.q 1 (.q 2 (.q 4 (.q 5 (.q 6 (.e2 3 (.e2 7 (.e2 8 (.e1 9 (.e1 10 (.fin))) 9 (.e1 8 (.e1 10 (.fin)))) 9 (.e1 7 (.e1 8 (.e1 10 (.fin))))) 9 (.e1 3 (.e1 7 (.e1 8 (.e1 10 (.fin)))))))))))) [] Tryz.follows (by kernel_rfl) hh (fun w hh => ?_)
  refine mt_v rfl hh hf (yv_fieldAddr Tryz.fo_141_0 rfl) (.inl rfl) rfl rfl ?_; clear hf a; intro a hf
  refine mt_v rfl hh hf (y_ld Tryz.sc_139 rfl) (.inl rfl) rfl rfl ?_; clear hf a; intro a hf
  refine mt_v rfl hh hf (y_lds Tryz.ag_89 rfl) (.inl rfl) rfl rfl ?_; clear hf a; intro a hf
  refine mt_v rfl hh hf (yv_fieldAddr Tryz.fo_141_1 rfl) (.inl rfl) rfl rfl ?_; clear hf a; intro a hf
  refine mt_v rfl hh hf (y_ld Tryz.sc_139 rfl) (.inl rfl) rfl rfl ?_; clear hf a; intro a hf
  refine mt_v rfl hh hf (y_lds Tryz.ag_89 rfl) (.inl rfl) rfl rfl ?_; clear hf a; intro a hf
  refine ⟨?_, ?_⟩
  ·refine mt_e rfl fun Q1 => ?_
   refine o_call hf Tryz.en_88 rfl rfl rfl (c81 x d sa sb ca cb bx _ (hh.old hx) hm h1 h2 h3) ?_; clear hf a; intro v a w hR hf
   obtain ⟨rfl, hx⟩ := hR; replace hh := hh.more hx; clear hx
   refine ops_end ?_
   refine then_n ⟨fun _ => hh, ?_⟩
   refine ⟨?_, ?_⟩
   ·refine mt_e rfl fun Q1 => ?_
    refine o_call hf Tryz.en_89 rfl rfl rfl (c82 y _) ?_; clear hf a; intro v a w hR hf
    obtain ⟨rfl, hx⟩ := hR; replace hh := hh.more hx; clear hx
    refine ops_end ?_
    refine then_n ⟨fun _ => hh, ?_⟩
    refine ⟨?_, ?_⟩
    ·refine mt_e rfl fun Q1 => ?_
     refine o_call hf Tryz.en_92 rfl rfl rfl (c85 _ _ _ _ _) ?_; clear hf a; intro v a w hR hf
     obtain ⟨rfl, hx⟩ := hR; replace hh := hh.more hx; clear hx
     refine ops_end ?_
     refine then_n ⟨fun _ => hh, ?_⟩
     refine mt_e rfl fun Q1 => ?_
     refine o_alloc hf hh Tryz.ze_24 ?_; clear hf hh a; intro B5 a w hf hh
     refine ops_end ?_
     refine then_n ⟨fun _ => (hh.less (.cons _ (List.Sublist.refl _))), ?_⟩
     refine mt_e rfl fun Q1 => ?_
     refine o_store hf hh Tryz.sz_24 fun w hh => ?_
     refine ops_end ?_
     refine then_n ⟨fun _ => (hh.less (.cons _ (List.Sublist.refl _))), ?_⟩
     refine mt_end ?_
     refine then_n ?_
     refine sy_sq ?_
     refine o_v hf hh (yv_fieldAddr Tryz.fo_24_0 rfl) ?_; clear hf a; intro a hf
     refine o_v hf hh (y_ld Tryz.sc_3 rfl) ?_; clear hf a; intro a hf
     refine o_v hf hh (yv_fieldAddr Tryz.fo_24_1 rfl) ?_; clear hf a; intro a hf
     refine o_v hf hh (y_ld Tryz.sc_3 rfl) ?_; clear hf a; intro a hf
     refine o_v hf hh (yv_bin rfl rfl rfl) ?_; clear hf a; intro a hf
     refine o_v hf hh (yv_assign rfl) ?_; clear hf a; intro a hf
     refine o_end ?_
     refine sy_ret ?_
     refine ret_r hf rfl rfl ?_
     exact ⟨rfl, hh.ext⟩
    ·refine mt_e rfl fun Q1 => ?_
     refine o_alloc hf hh Tryz.ze_24 ?_; clear hf hh a; intro B5 a w hf hh
     refine ops_end ?_
     refine then_n ⟨fun _ => (hh.less (.cons _ (List.Sublist.refl _))), ?_⟩
     refine mt_e rfl fun Q1 => ?_
     refine o_call hf Tryz.en_92 rfl rfl rfl (c85 _ _ _ _ _) ?_; clear hf a; intro v a w hR hf
     obtain ⟨rfl, hx⟩ := hR; replace hh := hh.more hx; clear hx
     refine ops_end ?_
     refine then_n ⟨fun _ => (hh.less (.cons _ (List.Sublist.refl _))), ?_⟩
     refine mt_e rfl fun Q1 => ?_
     refine o_store hf hh Tryz.sz_24 fun w hh => ?_
     refine ops_end ?_
     refine then_n ⟨fun _ => (hh.less (.cons _ (List.Sublist.refl _))), ?_⟩
     refine mt_end ?_
     refine then_n ?_
     refine sy_sq ?_
     refine o_v hf hh (yv_fieldAddr Tryz.fo_24_0 rfl) ?_; clear hf a; intro a hf
     refine o_v hf hh (y_ld Tryz.sc_3 rfl) ?_; clear hf a; intro a hf
     refine o_v hf hh (yv_fieldAddr Tryz.fo_24_1 rfl) ?_; clear hf a; intro a hf
     refine o_v hf hh (y_ld Tryz.sc_3 rfl) ?_; clear hf a; intro a hf
     refine o_v hf hh (yv_bin rfl rfl rfl) ?_; clear hf a; intro a hf
     refine o_v hf hh (yv_assign rfl) ?_; clear hf a; intro a hf
     refine o_end ?_
     refine sy_ret ?_
     refine ret_r hf rfl rfl ?_
     exact ⟨rfl, hh.ext⟩
   ·refine mt_e rfl fun Q1 => ?_
    refine o_alloc hf hh Tryz.ze_24 ?_; clear hf hh a; intro B5 a w hf hh
    refine ops_end ?_
    refine then_n ⟨fun _ => (hh.less (.cons _ (List.Sublist.refl _))), ?_⟩
    refine mt_e rfl fun Q1 => ?_
    refine o_call hf Tryz.en_89 rfl rfl rfl (c82 y _) ?_; clear hf a; intro v a w hR hf
    obtain ⟨rfl, hx⟩ := hR; replace hh := hh.more hx; clear hx
    refine ops_end ?_
    refine then_n ⟨fun _ => (hh.less (.cons _ (List.Sublist.refl _))), ?_⟩
    refine mt_e rfl fun Q1 => ?_
    refine o_call hf Tryz.en_92 rfl rfl rfl (c85 _ _ _ _ _) ?_; clear hf a; intro v a w hR hf
    obtain ⟨rfl, hx⟩ := hR; replace hh := hh.more hx; clear hx
    refine ops_end ?_
    refine then_n ⟨fun _ => (hh.less (.cons _ (List.Sublist.refl _))), ?_⟩
    refine mt_e rfl fun Q1 => ?_
    refine o_store hf hh Tryz.sz_24 fun w hh => ?_
    refine ops_end ?_
    refine then_n ⟨fun _ => (hh.less (.cons _ (List.Sublist.refl _))), ?_⟩
    refine mt_end ?_
    refine then_n ?_
    refine sy_sq ?_
    refine o_v hf hh (yv_fieldAddr Tryz.fo_24_0 rfl) ?_; clear hf a; intro a hf
    refine o_v hf hh (y_ld Tryz.sc_3 rfl) ?_; clear hf a; intro a hf
    refine o_v hf hh (yv_fieldAddr Tryz.fo_24_1 rfl) ?_; clear hf a; intro a hf
    refine o_v hf hh (y_ld Tryz.sc_3 rfl) ?_; clear hf a; intro a hf
    refine o_v hf hh (yv_bin rfl rfl rfl) ?_; clear hf a; intro a hf
    refine o_v hf hh (yv_assign rfl) ?_; clear hf a; intro a hf
    refine o_end ?_
    refine sy_ret ?_
    refine ret_r hf rfl rfl ?_
    exact ⟨rfl, hh.ext⟩
  ·refine mt_e rfl fun Q1 => ?_
   refine o_alloc hf hh Tryz.ze_24 ?_; clear hf hh a; intro B5 a w hf hh
   refine ops_end ?_
   refine then_n ⟨fun _ => (hh.less (.cons _ (List.Sublist.refl _))), ?_⟩
   refine mt_e rfl fun Q1 => ?_
   refine o_call hf Tryz.en_88 rfl rfl rfl (c81 x d sa sb ca cb bx _ (hh.old hx) hm h1 h2 h3) ?_; clear hf a; intro v a w hR hf
   obtain ⟨rfl, hx⟩ := hR; replace hh := hh.more hx; clear hx
   refine ops_end ?_
   refine then_n ⟨fun _ => (hh.less (.cons _ (List.Sublist.refl _))), ?_⟩
   refine mt_e rfl fun Q1 => ?_
   refine o_call hf Tryz.en_89 rfl rfl rfl (c82 y _) ?_; clear hf a; intro v a w hR hf
   obtain ⟨rfl, hx⟩ := hR; replace hh := hh.more hx; clear hx
   refine ops_end ?_
   refine then_n ⟨fun _ => (hh.less (.cons _ (List.Sublist.refl _))), ?_⟩
   refine mt_e rfl fun Q1 => ?_
   refine o_call hf Tryz.en_92 rfl rfl rfl (c85 _ _ _ _ _) ?_; clear hf a; intro v a w hR hf
   obtain ⟨rfl, hx⟩ := hR; replace hh := hh.more hx; clear hx
   refine ops_end ?_
   refine then_n ⟨fun _ => (hh.less (.cons _ (List.Sublist.refl _))), ?_⟩
   refine mt_e rfl fun Q1 => ?_
   refine o_store hf hh Tryz.sz_24 fun w hh => ?_
   refine ops_end ?_
   refine then_n ⟨fun _ => (hh.less (.cons _ (List.Sublist.refl _))), ?_⟩
   refine mt_end ?_
   refine then_n ?_
   refine sy_sq ?_
   refine o_v hf hh (yv_fieldAddr Tryz.fo_24_0 rfl) ?_; clear hf a; intro a hf
   refine o_v hf hh (y_ld Tryz.sc_3 rfl) ?_; clear hf a; intro a hf
   refine o_v hf hh (yv_fieldAddr Tryz.fo_24_1 rfl) ?_; clear hf a; intro a hf
   refine o_v hf hh (y_ld Tryz.sc_3 rfl) ?_; clear hf a; intro a hf
   refine o_v hf hh (yv_bin rfl rfl rfl) ?_; clear hf a; intro a hf
   refine o_v hf hh (yv_assign rfl) ?_; clear hf a; intro a hf
   refine o_end ?_
   refine sy_ret ?_
   refine ret_r hf rfl rfl ?_
   exact ⟨rfl, hh.ext⟩
end Go.Proofs.YtidieepndphodaaGreat
namespace Go.Proofs.YtidieepndphodaaGreat
open Go Go.Sy Go.MatM
abbrev rulesC (bx : Nat) : Array Value := #[fn0 87, fn0 87, .func (.func 88) #[] #[ptr bx 0], fn0 89]
def brk0 (x y : Mk) : Bool := decide (max x.tl y.tl > min x.th y.th)
def brk1 (d : RowsD) (x y : Mk) : Bool := decide (max (x.al - d.hi) y.al > min (x.ah - d.lo) y.ah)
def brkI (d : RowsD) (x y : Mk) : Int := if brk0 x y = true then 0 else if brk1 d x y = true then 1 else -1
theorem brk_fit {d : RowsD} {x y : Mk} (hx : okM x = true) (hy : okM y = true) (h2 : d.lo ≤ d.hi) : (!decide (brkI d x y ≥ 0)) = fitM d.lo d.hi x y := by
  have hx := okM_iff.1 hx; have hy := okM_iff.1 hy
  have e : decide (brkI d x y ≥ 0) = (brk0 x y || brk1 d x y) := by
    unfold brkI; cases brk0 x y <;> cases brk1 d x y <;> rfl
  rw [e, Bool.eq_iff_iff]
  simp only [brk0, brk1, fitM, Bool.not_eq_true', Bool.or_eq_false_iff, decide_eq_false_iff_not, Bool.and_eq_true, decide_eq_true_eq]
  omega
theorem rule_at (x y : Mk) (ba bb : Nat) (u : World) (ha : u.heap[ba]? = some (.cells (mkV x).cells 89 (0, 0))) (hb : u.heap[bb]? = some (.cells (mkV y).cells 89 (0, 0))) (d : RowsD) (sa sb : Option Addr) (ca cb bx bs : Nat) (hx : u.heap[bx]? = some (.cells (rowsV d sa sb ca cb).cells 26 (0, 0))) (h1 : -65536 ≤ d.lo) (h2 : d.lo ≤ d.hi) (h3 : d.hi ≤ 65536) (hm : okM x = true) (hs : u.heap[bs]? = some (.cells (rulesC bx) 141 (0, 0))) {j : Nat} (hj : j < 2) : ∃ vs p, cellsAt (rulesC bx) (0 + ((j : Nat) : Int).toNat * 2) 2 = some vs ∧ (p = if j = 0 then brk0 x y else brk1 d x y) ∧ ∀ w', Ext [] u w' → Calls Tryz.prog 91 #[.agg vs.toArray, ptr ba 0, ptr bb 0] w' (Ret fun v w'' => v = .bool p ∧ Ext [] w' w'') := by
  match j, hj with
  | 0, _ => exact ⟨_, _, rfl, rfl, fun w' e => c84a x y ba bb w' (e.get ha) (e.get hb)⟩
  | 1, _ => exact ⟨_, _, rfl, rfl, fun w' e => c84b x y ba bb w' (e.get ha) (e.get hb) d sa sb ca cb bx (e.get hx) h1 h2 h3 hm⟩
theorem c99 (x y : Mk) (ba bb : Nat) (u : World) (ha : u.heap[ba]? = some (.cells (mkV x).cells 89 (0, 0))) (hb : u.heap[bb]? = some (.cells (mkV y).cells 89 (0, 0))) (d : RowsD) (sa sb : Option Addr) (ca cb bx bs : Nat) (hx : u.heap[bx]? = some (.cells (rowsV d sa sb ca cb).cells 26 (0, 0))) (h1 : -65536 ≤ d.lo) (h2 : d.lo ≤ d.hi) (h3 : d.hi ≤ 65536) (hm : okM x = true) (hs : u.heap[bs]? = some (.cells (rulesC bx) 141 (0, 0))) : Calls Tryz.prog 101 #[.slice (some ⟨bs, 0, none⟩) 2 2, .func (.func 91) #[] #[ptr ba 0, ptr bb 0]] u (Ret fun v w' => v = .int .i64 (brkI d x y) ∧ Ext [] u w') := by
  refine calls_of Tryz.func101 rfl rfl (fun a hf => ?_)
  have hh := Hp.init u []
  refine sy_sq ?_
  refine o_v hf hh (yv_assign rfl) ?_; clear hf a; intro a hf
  refine o_end ?_
  refine sy_seq ?_
  refine sy_sq ?_
  refine o_v hf hh (yv_move rfl) ?_; clear hf a; intro a hf
  refine o_v hf hh (yv_len Tryz.se_142 rfl) ?_; clear hf a; intro a hf
  refine o_v hf hh (yv_move rfl) ?_; clear hf a; intro a hf
  refine o_end ?_
  refine sy_block ?_
  refine sy_loopF (σ := Nat) [4, 5, 8, 9, 10, 11, 12, 13, 14, 15, 16, 17, 18] (fun j => [(8, .int .i64 j)]) (fun j => j ≤ 2 ∧ (0 < j → brk0 x y = false) ∧ (1 < j → brk1 d x y = false)) (fun j => 2 - j) (0) hf hh ?_ ?_ ?_
  · repeat' (first | exact True.intro | refine And.intro rfl ?_)
  · exact ⟨by omega, fun h => absurd h (by omega), fun h => absurd h (by omega)⟩
  ·rintro j a w ⟨hj, hq1, hq2⟩ hf hh
   refine sy_sq ?_
   refine o_v hf hh (yv_bin rfl rfl rfl) ?_; clear hf a; intro a hf
   refine o_end ?_
   refine sy_seq ?_
   refine sy_cond hf rfl (fun hg2 => ?_) (fun hg2 => ?_)
   ·have hG2 := hg2; try simp only [gS] at hG2
    refine sy_skip ?_
    refine then_n ?_
    refine sy_seq ?_
    refine sy_block ?_
    refine sy_seq ?_
    obtain ⟨vs, p, hcx, hp, hcall⟩ := rule_at x y ba bb u ha hb d sa sb ca cb bx bs hx h1 h2 h3 hm hs (j := j) (by omega)
    subst hp
    refine sy_ops ?_
    refine o_v hf hh (yv_move rfl) ?_; clear hf a; intro a hf
    refine o_v hf hh (yv_assign rfl) ?_; clear hf a; intro a hf
    refine o_end ?_
    refine sy_sq ?_
    refine o_v hf hh (yv_move rfl) ?_; clear hf a; intro a hf
    refine o_v hf hh (yv_move rfl) ?_; clear hf a; intro a hf
    refine o_v hf hh (yv_move rfl) ?_; clear hf a; intro a hf
    refine o_v hf hh (y_ix Tryz.se_142 rfl rfl) ?_; clear hf a; intro a hf
    refine o_v hf hh (y_lds Tryz.ag_141 rfl) ?_; clear hf a; intro a hf
    refine o_call hf Tryz.en_91 rfl rfl rfl (hcall _ hh.ext) ?_; clear hf a; intro v a w hR hf
    obtain ⟨rfl, hx⟩ := hR; replace hh := hh.more hx; clear hx
    refine o_end ?_
    refine sy_cond hf rfl (fun hg4 => ?_) (fun hg4 => ?_)
    ·have hG4 := hg4; try simp only [gS] at hG4
     refine sy_sq ?_
     refine o_v hf hh (yv_move rfl) ?_; clear hf a; intro a hf
     refine o_v hf hh (yv_assign rfl) ?_; clear hf a; intro a hf
     refine o_end ?_
     refine sy_ret ?_
     refine blk_r ?_
     refine then_r ?_
     refine then_r ?_
     refine blk_r ?_
     refine then_r ?_
     refine ret_r hf rfl rfl ?_
     refine ⟨congrArg (Value.int .i64) ?_, hh.ext⟩
     by_cases hj0 : j = 0
     · subst hj0; simp_all [brkI]
     · have hj1 : j = 1 := by omega
       subst hj1; simp_all [brkI]
    ·have hG4 := hg4; try simp only [gS] at hG4
     refine sy_skip ?_
     refine blk_n ?_
     refine then_n ?_
     refine sy_ops ?_
     refine o_v hf hh (y_add rfl rfl) ?_; clear hf a; intro a hf
     refine o_v hf hh (yv_move rfl) ?_; clear hf a; intro a hf
     refine ops_end ?_
     refine then_n ?_
     refine ⟨j + 1, ⟨⟨by omega, fun _ => ?_, fun _ => ?_⟩, (hf.head (by repeat' (first | exact True.intro | refine And.intro rfl ?_)) (Keep.cons rfl (Keep.cons rfl (Keep.cons rfl (Keep.cons rfl (Keep.cons rfl (Keep.cons rfl (Keep.cons rfl (Keep.cons rfl (Keep.cons rfl (Keep.cons rfl (Keep.cons rfl (Keep.app rfl (Keep.rm rfl Keep.base)))))))))))))), hh⟩, by omega⟩
     · by_cases hj0 : j = 0
       · subst hj0; simpa using hG4
       · exact hq1 (by omega)
     · by_cases hj0 : j = 0
       · omega
       · rw [if_neg hj0] at hG4; exact hG4
   ·have hG2 := hg2; try simp only [gS] at hG2
    refine sy_exit ?_
    refine then_e ?_
    refine then_e ?_
    refine blk_e ?_
    refine then_n ?_
    refine sy_sq ?_
    refine o_v hf hh (yv_assign rfl) ?_; clear hf a; intro a hf
    refine o_end ?_
    refine sy_ret ?_
    refine ret_r hf rfl rfl ?_
    exact ⟨congrArg (Value.int .i64) (by simp [brkI, hq1 (by omega), hq2 (by omega)]), hh.ext⟩
theorem c83 (x y : Mk) (ba bb : Nat) (u : World) (ha : u.heap[ba]? = some (.cells (mkV x).cells 89 (0, 0))) (hb : u.heap[bb]? = some (.cells (mkV y).cells 89 (0, 0))) (d : RowsD) (sa sb : Option Addr) (ca cb bx bs : Nat) (hx : u.heap[bx]? = some (.cells (rowsV d sa sb ca cb).cells 26 (0, 0))) (h1 : -65536 ≤ d.lo) (h2 : d.lo ≤ d.hi) (h3 : d.hi ≤ 65536) (hm : okM x = true) (hs : u.heap[bs]? = some (.cells (rulesC bx) 141 (0, 0))) : Calls Tryz.prog 90 #[.slice (some ⟨bs, 0, none⟩) 2 2, .func (.func 91) #[] #[ptr ba 0, ptr bb 0]] u (Ret fun v w' => v = .bool (decide (brkI d x y ≥ 0)) ∧ Ext [] u w') := by
  refine calls_of Tryz.func90 rfl rfl (fun a hf => ?_)
  have hh := Hp.init u []
  refine sy_sq ?_
  refine o_v hf hh (yv_assign rfl) ?_; clear hf a; intro a hf
  refine o_end ?_
  refine sy_sq ?_
  refine o_v hf hh (yv_move rfl) ?_; clear hf a; intro a hf
  refine o_v hf hh (yv_move rfl) ?_; clear hf a; intro a hf
  refine o_call hf Tryz.en_101 rfl rfl rfl (c99 x y ba bb _ (hh.old ha) (hh.old hb) d sa sb ca cb bx bs (hh.old hx) h1 h2 h3 hm (hh.old hs)) ?_; clear hf a; intro v a w hR hf
  obtain ⟨rfl, hx⟩ := hR; replace hh := hh.more hx; clear hx
  refine o_v hf hh (yv_bin rfl rfl rfl) ?_; clear hf a; intro a hf
  refine o_v hf hh (yv_assign rfl) ?_; clear hf a; intro a hf
  refine o_end ?_
  refine sy_ret ?_
  refine ret_r hf rfl rfl ?_
  exact ⟨rfl, hh.ext⟩
end Go.Proofs.YtidieepndphodaaGreat
namespace Go.Proofs.YtidieepndphodaaGreat
open Go Go.Sy Go.MatM
def isF : Option Value → Bool
  | some (.bool false) => true
  | _ => false
theorem cells_false (cs : Array Value) (h : (List.range 100).all (fun j => isF cs[5 + j]?) = true) : ∀ i k, i < 10 → k < 10 → cs[5 + i * 10 + k]? = some (.bool false) := fun i k hi hk => by
  have h1 := List.all_eq_true.1 h (i * 10 + k) (List.mem_range.2 (by omega))
  rw [← Nat.add_assoc] at h1
  unfold isF at h1
  split at h1
  · assumption
  · cases h1
def procF (d : RowsD) (i k : Nat) : Nat → Nat → Bool := fun x y => fitD d x y && decide (x < i ∨ x = i ∧ y < k)
theorem need_bd {d : RowsD} (hV : Valid d) : -9223372036854775808 ≤ needI d ∧ needI d ≤ 9223372036854775807 := by
  have h1 := hV.nl; have h2 := hV.nr; have h3 := hV.h1; have h4 := hV.h2
  unfold needI
  have := Int.tdiv_eq_ediv (a := ((d.l.length + d.r.length : Nat) - d.hid + 1)) (b := 2)
  rw [this]
  rw [show Int.sign 2 = 1 from rfl]
  split <;> omega
theorem fitD_eq {d : RowsD} {i k : Nat} {x y : Mk} (hx : d.l[i]? = some x) (hy : d.r[k]? = some y) : fitD d i k = fitM d.lo d.hi x y := by simp [fitD, hx, hy]
theorem procF_next {d : RowsD} {i k : Nat} : updF (procF d i k) i k (fitD d i k) = procF d i (k + 1) := by
  funext x y
  unfold updF procF
  split
  · rename_i h; simp [h.1, h.2]
  · rename_i h
    congr 1
    rw [decide_eq_decide]
    omega
theorem procF_row {d : RowsD} {i : Nat} : procF d i d.r.length = procF d (i + 1) 0 := by
  funext x y
  unfold procF
  by_cases h : y < d.r.length
  · congr 1; rw [decide_eq_decide]; omega
  · have : fitD d x y = false := by
      unfold fitD; rw [List.getElem?_eq_none (l := d.r) (by omega)]; cases d.l[x]? <;> rfl
    rw [this]; rfl
theorem procF_all {d : RowsD} : procF d d.l.length 0 = fitD d := by
  funext x y
  unfold procF
  by_cases h : x < d.l.length
  · simp [h]
  · have : fitD d x y = false := by
      unfold fitD; rw [List.getElem?_eq_none (l := d.l) (by omega)]
    rw [this]; rfl
theorem RowA_spl {d : RowsD} {sa sb : Option Addr} {ca cb : Nat} {F : Nat → Nat → Bool} {cs : Array Value} (h : RowA d sa sb ca cb F cs) {i k off : Nat} {b b' : Bool} (hi : i < 10) (hk : k < 10) (ho : off = 5 + i * 10 + k) (hb : b' = b) : RowA d sa sb ca cb (updF F i k b) (spl cs off [.bool b']) := by
  subst ho; subst hb
  rw [spl_one _ _ (by rw [h.size]; omega)]
  exact h.set hi hk b'
theorem procF_zero {d : RowsD} : procF d 0 0 = fun _ _ => false := by
  funext x y; simp [procF]
theorem c44 (d : RowsD) (sa sb : Option Addr) (ca cb : Nat) (u : World) (hA : MkAt u sa d.l) (hB : MkAt u sb d.r) (hV : Valid d) : Calls Tryz.prog 75 #[rowsV d sa sb ca cb] u (Ret fun v w' => ∃ B cs, v = ptr B 0 ∧ RowA d sa sb ca cb (fitD d) cs ∧ Hp u [] [(B, .cells cs 122)] w') := by
  refine calls_of Tryz.func75 rfl rfl (fun a hf => ?_)
  have hh := Hp.init u []
  have hnb := need_bd hV; have hnl := hV.nl; have hnr := hV.nr; have hh1 := hV.h1; have hh2 := hV.h2
  refine sy_sq ?_
  refine o_box hf hh ?_; clear hf hh a; intro B1 a w hf hh
  refine o_v hf hh (yv_assign rfl) ?_; clear hf a; intro a hf
  refine o_end ?_
  refine sy_sq ?_
  refine o_v hf hh (y_lds Tryz.ag_26 rfl) ?_; clear hf a; intro a hf
  refine o_v hf hh (yv_fieldAddr Tryz.fo_26_0 rfl) ?_; clear hf a; intro a hf
  refine o_v hf hh (y_ld Tryz.sc_22 rfl) ?_; clear hf a; intro a hf
  refine o_v hf hh (yv_len Tryz.se_22 rfl) ?_; clear hf a; intro a hf
  refine o_v hf hh (yv_fieldAddr Tryz.fo_26_1 rfl) ?_; clear hf a; intro a hf
  refine o_v hf hh (y_ld Tryz.sc_22 rfl) ?_; clear hf a; intro a hf
  refine o_v hf hh (yv_len Tryz.se_22 rfl) ?_; clear hf a; intro a hf
  refine o_v hf hh (y_add rfl rfl) ?_; clear hf a; intro a hf
  refine o_v hf hh (yv_fieldAddr Tryz.fo_26_3 rfl) ?_; clear hf a; intro a hf
  refine o_v hf hh (y_ld Tryz.sc_3 rfl) ?_; clear hf a; intro a hf
  refine o_v hf hh (y_sub rfl rfl) ?_; clear hf a; intro a hf
  refine o_v hf hh (y_add rfl rfl) ?_; clear hf a; intro a hf
  refine o_v hf hh (yv_quoT rfl rfl (by omega) hnb.1 hnb.2) ?_; clear hf a; intro a hf
  refine o_v hf hh (yv_buildS Tryz.bs_122 rfl rfl) ?_; clear hf a; intro a hf
  refine o_box hf hh ?_; clear hf hh a; intro B25 a w hf hh
  refine o_v hf hh (yv_assign rfl) ?_; clear hf a; intro a hf
  refine o_end ?_
  refine sy_sq ?_
  refine o_v hf hh (yv_assign rfl) ?_; clear hf a; intro a hf
  refine o_end ?_
  refine sy_sq ?_
  refine o_v hf hh (yv_makeFunc rfl rfl) ?_; clear hf a; intro a hf
  refine o_v hf hh (yv_assign rfl) ?_; clear hf a; intro a hf
  refine o_end ?_
  refine sy_sq ?_
  refine o_v hf hh (yv_move rfl) ?_; clear hf a; intro a hf
  refine o_v hf hh (yv_move rfl) ?_; clear hf a; intro a hf
  refine o_v hf hh (yv_buildS Tryz.bs_141 rfl rfl) ?_; clear hf a; intro a hf
  refine o_v hf hh (yv_move rfl) ?_; clear hf a; intro a hf
  refine o_v hf hh (yv_buildS Tryz.bs_141 rfl rfl) ?_; clear hf a; intro a hf
  refine ops_buildSl hf hh Tryz.bl_142_2 rfl rfl (.inl rfl) rfl ?_; clear hf hh; clear a; intro B32 a w hf hh
  refine o_v hf hh (yv_assign rfl) ?_; clear hf a; intro a hf
  refine o_end ?_
  refine sy_seq ?_
  refine sy_seq ?_
  obtain ⟨cs0, hR0, hh⟩ : ∃ cs0, RowA d sa sb ca cb (procF d 0 0) cs0 ∧ Hp u [] [(B32, .cells (rulesC B1) 141), (B25, .cells cs0 122), (B1, .cells (rowsV d sa sb ca cb).cells 26)] w := by
    refine ⟨_, ?_, hh⟩
    rw [procF_zero]
    exact ⟨rfl, rfl, rfl, rfl, rfl, rfl, cells_false _ rfl, rfl⟩
  refine sy_ops ?_
  refine o_v hf hh (yv_fieldAddr Tryz.fo_26_0 rfl) ?_; clear hf a; intro a hf
  refine o_v hf hh (y_ld Tryz.sc_22 rfl) ?_; clear hf a; intro a hf
  refine o_v hf hh (yv_len Tryz.se_22 rfl) ?_; clear hf a; intro a hf
  refine o_v hf hh (yv_move rfl) ?_; clear hf a; intro a hf
  refine o_end ?_
  refine sy_block ?_
  refine sy_loopH (σ := Nat) [7, 8, 9, 10, 36, 37, 38, 39, 40, 41, 42, 43, 44, 45, 46, 47, 48, 49, 50, 51, 52, 53, 54, 55, 56, 57, 58, 59, 60, 61] (fun i => [(36, .int .i64 i)]) (fun i => fun w => i ≤ d.l.length ∧ ∃ cs, RowA d sa sb ca cb (procF d i 0) cs ∧ Hp u [] [(B32, .cells (rulesC B1) 141), (B25, .cells cs 122), (B1, .cells (rowsV d sa sb ca cb).cells 26)] w) (fun i => d.l.length - i) (0) hf ?_ ?_ ?_
  · repeat' (first | exact True.intro | refine And.intro rfl ?_)
  · exact ⟨Nat.zero_le _, _, hR0, hh⟩
  ·rintro i a w ⟨hi, cs, hR, hh⟩ hf
   refine sy_sq ?_
   refine o_v hf hh (yv_bin rfl rfl rfl) ?_; clear hf a; intro a hf
   refine o_end ?_
   refine sy_seq ?_
   refine sy_cond hf rfl (fun hg3 => ?_) (fun hg3 => ?_)
   ·have hG3 := hg3; try simp only [gS] at hG3
    refine sy_skip ?_
    refine then_n ?_
    refine sy_seq ?_
    refine sy_block ?_
    refine sy_seq ?_
    obtain ⟨x, hx⟩ := ex_of (l := d.l) (i := i) (by omega)
    obtain ⟨blk, off, cc, T, fr, e, hbx, hcx⟩ := hA i x hx
    refine sy_ops ?_
    refine o_v hf hh (yv_move rfl) ?_; clear hf a; intro a hf
    refine o_v hf hh (y_ix (b := blk) (off := off) Tryz.se_22 (congrArg (fun z => some (Value.slice z d.l.length ca)) e) rfl) ?_; clear hf a; intro a hf
    refine o_v hf hh (y_lds Tryz.ag_89 rfl) ?_; clear hf a; intro a hf
    refine o_alloc hf hh Tryz.ze_89 ?_; clear hf hh a; intro B8 a w hf hh
    refine o_v hf hh (yv_assign rfl) ?_; clear hf a; intro a hf
    refine o_store hf hh Tryz.sz_89 fun w hh => ?_
    refine o_end ?_
    refine sy_sq ?_
    refine o_v hf hh (yv_fieldAddr Tryz.fo_26_1 rfl) ?_; clear hf a; intro a hf
    refine o_v hf hh (y_ld Tryz.sc_22 rfl) ?_; clear hf a; intro a hf
    refine o_v hf hh (yv_len Tryz.se_22 rfl) ?_; clear hf a; intro a hf
    refine o_v hf hh (yv_move rfl) ?_; clear hf a; intro a hf
    refine o_end ?_
    refine sy_block ?_
    refine sy_loopH (σ := Nat) [9, 10, 44, 45, 46, 47, 48, 49, 50, 51, 52, 53, 54, 55, 56, 57, 58, 59, 60] (fun k => [(44, .int .i64 k)]) (fun k => fun w => k ≤ d.r.length ∧ ∃ cs, RowA d sa sb ca cb (procF d i k) cs ∧ Hp u [] [(B8, .cells (mkV x).cells 89), (B32, .cells (rulesC B1) 141), (B25, .cells cs 122), (B1, .cells (rowsV d sa sb ca cb).cells 26)] w) (fun k => d.r.length - k) (0) hf ?_ ?_ ?_
    · repeat' (first | exact True.intro | refine And.intro rfl ?_)
    · exact ⟨Nat.zero_le _, _, hR, hh⟩
    ·rintro k a w ⟨hk, cs2, hR2, hh⟩ hf
     refine sy_sq ?_
     refine o_v hf hh (yv_bin rfl rfl rfl) ?_; clear hf a; intro a hf
     refine o_end ?_
     refine sy_seq ?_
     refine sy_cond hf rfl (fun hg6 => ?_) (fun hg6 => ?_)
     ·have hG6 := hg6; try simp only [gS] at hG6
      refine sy_skip ?_
      refine then_n ?_
      refine sy_seq ?_
      refine sy_block ?_
      refine sy_seq ?_
      obtain ⟨y, hy⟩ := ex_of (l := d.r) (i := k) (by omega)
      obtain ⟨blk2, off2, cc2, T2, fr2, e2, hby, hcy⟩ := hB k y hy
      have hsz := hR2.size
      refine sy_ops ?_
      refine o_v hf hh (yv_move rfl) ?_; clear hf a; intro a hf
      refine o_v hf hh (y_ix (b := blk2) (off := off2) Tryz.se_22 (congrArg (fun z => some (Value.slice z d.r.length cb)) e2) rfl) ?_; clear hf a; intro a hf
      refine o_v hf hh (y_lds Tryz.ag_89 rfl) ?_; clear hf a; intro a hf
      refine o_alloc hf hh Tryz.ze_89 ?_; clear hf hh a; intro B10 a w hf hh
      refine o_v hf hh (yv_assign rfl) ?_; clear hf a; intro a hf
      refine o_store hf hh Tryz.sz_89 fun w hh => ?_
      refine o_end ?_
      refine sy_tail (C := Hp _ _ _) 11 Tryz.follows (by kernel_rfl) rfl rfl (hh.drawn _) ?_
      refine oq_v hf (yv_move rfl) ?_; clear hf a; intro a hf
      refine oq_v hf (yv_move rfl) ?_; clear hf a; intro a hf
      refine oq_v hf (yv_move rfl) ?_; clear hf a; intro a hf
      refine oq_v hf (yv_move rfl) ?_; clear hf a; intro a hf
      refine oq_v hf (yv_makeFunc rfl rfl) ?_; clear hf a; intro a hf
      refine oq_call hf Tryz.en_90 rfl rfl rfl (fun w hh => c83 x y B8 B10 _ (hh.at (i := 1) rfl) (hh.at (i := 0) rfl) d sa sb ca cb B1 B32 (hh.at (i := 4) rfl) hV.s1 hV.s2 hV.s3 (hV.ml x (List.mem_of_getElem? hx)) (hh.at (i := 2) rfl)) ?_; clear hf a; intro a hf
      refine oq_v hf (yv_not rfl) ?_; clear hf a; intro a hf
      refine oq_v hf (yv_nilCheck rfl) ?_; clear hf a; intro a hf
      refine oq_v hf (yv_fieldAddr Tryz.fo_122_1 rfl) ?_; clear hf a; intro a hf
      refine oq_v hf (y_ia Tryz.ae_120 rfl rfl) ?_; clear hf a; intro a hf
      refine oq_v hf (y_ia Tryz.ae_119 rfl rfl) ?_; clear hf a; intro a hf
      refine q_end fun w hh => ?_
      refine o_store hf hh Tryz.sz_4 fun w hh => ?_
      refine ops_end ?_
      refine blk_n ?_
      refine then_n ?_
      refine sy_ops ?_
      refine o_v hf hh (y_add rfl rfl) ?_; clear hf a; intro a hf
      refine o_v hf hh (yv_move rfl) ?_; clear hf a; intro a hf
      refine ops_end ?_
      refine then_n ?_
      refine ⟨k + 1, ⟨⟨by omega, _, ?_, hh.less (.cons _ (List.Sublist.refl _))⟩, (hf.head (by repeat' (first | exact True.intro | refine And.intro rfl ?_)) (Keep.cons rfl (Keep.cons rfl (Keep.cons rfl (Keep.cons rfl (Keep.cons rfl (Keep.cons rfl (Keep.cons rfl (Keep.cons rfl (Keep.cons rfl (Keep.cons rfl (Keep.cons rfl (Keep.cons rfl (Keep.cons rfl (Keep.cons rfl (Keep.cons rfl (Keep.cons rfl (Keep.cons rfl (Keep.cons rfl (Keep.cons rfl (Keep.app rfl (Keep.rm rfl Keep.base))))))))))))))))))))))⟩, by omega⟩
      rw [← procF_next]
      exact RowA_spl hR2 (by omega) (by omega) (by first | (simp; done) | (simp; omega)) (by rw [fitD_eq hx hy]; exact brk_fit (hV.ml x (List.mem_of_getElem? hx)) (hV.mr y (List.mem_of_getElem? hy)) hV.s2)
     ·have hG6 := hg6; try simp only [gS] at hG6
      refine sy_exit ?_
      refine then_e ?_
      refine then_e ?_
      refine blk_e ?_
      refine blk_n ?_
      refine then_n ?_
      refine sy_ops ?_
      refine o_v hf hh (y_add rfl rfl) ?_; clear hf a; intro a hf
      refine o_v hf hh (yv_move rfl) ?_; clear hf a; intro a hf
      refine ops_end ?_
      refine then_n ?_
      exact ⟨i + 1, ⟨⟨by omega, cs2, by rw [← procF_row, ← (show k = d.r.length by omega)]; exact hR2, hh.less (.cons _ (List.Sublist.refl _))⟩, (hf.head (by repeat' (first | exact True.intro | refine And.intro rfl ?_)) (Keep.cons rfl (Keep.cons rfl (Keep.cons rfl (Keep.app rfl (Keep.rm rfl (Keep.cons rfl (Keep.cons rfl (Keep.cons rfl (Keep.cons rfl (Keep.cons rfl (Keep.cons rfl (Keep.cons rfl (Keep.cons rfl (Keep.cons rfl (Keep.cons rfl (Keep.app rfl (Keep.rm rfl Keep.base))))))))))))))))))⟩, by omega⟩
   ·have hG3 := hg3; try simp only [gS] at hG3
    refine sy_exit ?_
    refine then_e ?_
    refine then_e ?_
    refine blk_e ?_
    refine then_n ?_
    refine sy_sq ?_
    refine o_v hf hh (yv_move rfl) ?_; clear hf a; intro a hf
    refine o_v hf hh (yv_assign rfl) ?_; clear hf a; intro a hf
    refine o_end ?_
    refine sy_ret ?_
    refine ret_r hf rfl rfl ?_
    have hie : i = d.l.length := by omega
    subst hie
    exact ⟨B25, cs, rfl, procF_all ▸ hR, hh.less (.cons _ (.cons_cons _ (.cons _ .slnil)))⟩
end Go.Proofs.YtidieepndphodaaGreat
namespace Go.Proofs.YtidieepndphodaaGreat
open Go Go.Sy Go.MatM
/-- Rows that are looked at lie in memory. -/
structure RowO (w : World) (rb : Nat) (d : RowsD) (sa sb : Option Addr) (ca cb : Nat) (F : Nat → Nat → Bool) : Prop where
  ex : ∃ cs, w.heap[rb]? = some (.cells cs 122 (0, 0)) ∧ RowA d sa sb ca cb F cs
  nl : d.l.length ≤ 10
  nr : d.r.length ≤ 10
theorem RowO.ext {w w' : World} {rb : Nat} {d : RowsD} {sa sb : Option Addr} {ca cb : Nat} {F : Nat → Nat → Bool} (h : RowO w rb d sa sb ca cb F) (e : Ext [] w w') : RowO w' rb d sa sb ca cb F :=
  ⟨let ⟨cs, h1, h2⟩ := h.ex; ⟨cs, e.get h1, h2⟩, h.nl, h.nr⟩
theorem RowO.extM {w w' : World} {M : List Nat} {rb : Nat} {d : RowsD} {sa sb : Option Addr} {ca cb : Nat} {F : Nat → Nat → Bool} (h : RowO w rb d sa sb ca cb F) (e : Ext M w w') (hm : rb ∉ M) : RowO w' rb d sa sb ca cb F :=
  ⟨let ⟨cs, h1, h2⟩ := h.ex; ⟨cs, e.getM h1 hm, h2⟩, h.nl, h.nr⟩
/-- One row of the pairs that fit, from a right mark on. -/
def rowP (F : Nat → Nat → Bool) (R x y : Nat) : List Pr := (List.range' y (R - y)).filterMap fun b => if F x b then some (x, b) else none
theorem prs_step {F : Nat → Nat → Bool} {L R x k : Nat} (h : x < L) : prs F L R x k = rowP F R x k ++ prs F L R (x + 1) k := by
  unfold prs rowP
  rw [show L - x = (L - (x + 1)) + 1 by omega, List.range'_succ, List.flatMap_cons]
theorem rowP_end {F : Nat → Nat → Bool} {R x y : Nat} (h : R ≤ y) : rowP F R x y = [] := by
  unfold rowP; rw [show R - y = 0 by omega]; rfl
theorem rowP_next {F : Nat → Nat → Bool} {R x y : Nat} (h : y < R) : rowP F R x y = (if F x y then [(x, y)] else []) ++ rowP F R x (y + 1) := by
  unfold rowP
  rw [show R - y = (R - (y + 1)) + 1 by omega, List.range'_succ, List.filterMap_cons]
  cases F x y <;> rfl
def tp (p : Pr) : Array Value := #[.agg #[.int .i64 p.1, .int .i64 p.2]]
theorem at_donep {L D R : List Pr} {x : Pr} (h : L = D ++ x :: R) : (L.map tp)[D.length]? = some (tp x) := by
  subst h; simp
/-- What the iterator of pairs looks at. -/
def MemP (d : RowsD) (sa sb : Option Addr) (ca cb : Nat) (F : Nat → Nat → Bool) (rb i k B3 B4 B5 : Nat) (w : World) : Prop :=
  w.heap[B3]? = some (.cells #[ptr rb 0] 123 (0, 0)) ∧ w.heap[B4]? = some (.cells #[.int .i64 i] 3 (0, 0)) ∧ w.heap[B5]? = some (.cells #[.int .i64 k] 3 (0, 0)) ∧ RowO w rb d sa sb ca cb F
theorem c51 (rb i k : Nat) (u : World) : Calls Tryz.prog 79 #[ptr rb 0, .int .i64 i, .int .i64 k] u
    (Ret fun v w' => ∃ B3 B4 B5, v = .func (.func 96) #[] #[ptr B4 0, ptr B3 0, ptr B5 0] ∧ Hp u [] [(B5, .cells #[.int .i64 k] 3), (B4, .cells #[.int .i64 i] 3), (B3, .cells #[ptr rb 0] 123)] w') := by
  refine calls_of Tryz.func79 rfl rfl (fun a hf => ?_)
  have hh := Hp.init u []
  refine sy_sq ?_
  refine o_box hf hh ?_; clear hf hh a; intro B3 a w hf hh
  refine o_box hf hh ?_; clear hf hh a; intro B4 a w hf hh
  refine o_box hf hh ?_; clear hf hh a; intro B5 a w hf hh
  refine o_v hf hh (yv_assign rfl) ?_; clear hf a; intro a hf
  refine o_end ?_
  refine sy_sq ?_
  refine o_v hf hh (yv_makeFunc rfl rfl) ?_; clear hf a; intro a hf
  refine o_v hf hh (yv_assign rfl) ?_; clear hf a; intro a hf
  refine o_end ?_
  refine sy_ret ?_
  refine ret_r hf rfl rfl ?_
  exact ⟨B3, B4, B5, rfl, hh⟩
theorem it89 (d : RowsD) (sa sb : Option Addr) (ca cb : Nat) (F : Nat → Nat → Bool) (rb i k B3 B4 B5 : Nat) : IterSpec Tryz.prog 96 #[] #[ptr B4 0, ptr B3 0, ptr B5 0] ((prs F d.l.length d.r.length i k).map tp) (MemP d sa sb ca cb F rb i k B3 B4 B5) := by
  intro l J K u hJM hJe hKe hy hJ0
  show Calls Tryz.prog 96 #[.func (.yield l) #[] #[], ptr B4 0, ptr B3 0, ptr B5 0] u _
  refine calls_of Tryz.func96 rfl rfl (fun a hf => ?_)
  have hh := Hp.init u []
  obtain ⟨m1, m2, m3, ⟨cs, hb, hcs⟩, hnl, hnr⟩ := hJM _ _ hJ0
  have c0 := hcs.l; have c1 := hcs.r
  have hh := Hp.init u []
  refine sy_sq ?_
  refine o_v hf hh (y_ld Tryz.sc_3 rfl) ?_; clear hf a; intro a hf
  refine o_v hf hh (yv_assign rfl) ?_; clear hf a; intro a hf
  refine o_end ?_
  refine sy_block ?_
  refine sy_loopH (σ := Nat) [5, 6, 8, 9, 10, 11, 12, 13, 14, 15, 16, 17, 18, 19, 20, 21, 22, 23, 24, 25, 26, 27, 28, 29, 30, 31, 32, 33, 34, 35, 36, 37, 38, 39, 40, 41, 42, 43, 44] (fun x => [(5, .int .i64 x)]) (fun x => fun w' => ∃ done, prs F d.l.length d.r.length i k = done ++ prs F d.l.length d.r.length x k ∧ J done.length w') (fun x => d.l.length - x) (i) hf ?_ ?_ ?_
  · repeat' (first | exact True.intro | refine And.intro rfl ?_)
  · exact ⟨[], rfl, hJe _ _ _ hJ0 hh.ext⟩
  ·rintro x a w ⟨done, hx, hJ⟩ hf
   obtain ⟨m1, m2, m3, ⟨cs, hb, hcs⟩, hnl, hnr⟩ := hJM _ _ hJ
   have c0 := hcs.l; have c1 := hcs.r
   have hh := Hp.init w []
   refine sy_seq ?_
   refine sy_sq ?_
   refine o_v hf hh (yv_move rfl) ?_; clear hf a; intro a hf
   refine o_v hf hh (y_ld Tryz.sc_123 rfl) ?_; clear hf a; intro a hf
   refine o_v hf hh (yv_nilCheck rfl) ?_; clear hf a; intro a hf
   refine o_v hf hh (yv_fieldAddr Tryz.fo_122_0 rfl) ?_; clear hf a; intro a hf
   refine o_v hf hh (yv_fieldAddr Tryz.fo_26_0 rfl) ?_; clear hf a; intro a hf
   refine o_v hf hh (y_ld Tryz.sc_22 rfl) ?_; clear hf a; intro a hf
   refine o_v hf hh (yv_len Tryz.se_22 rfl) ?_; clear hf a; intro a hf
   refine o_v hf hh (yv_bin rfl rfl rfl) ?_; clear hf a; intro a hf
   refine o_end ?_
   refine sy_cond hf rfl (fun hg2 => ?_) (fun hg2 => ?_)
   ·have hG2 := hg2; try simp only [gS] at hG2
    refine sy_skip ?_
    refine then_n ?_
    refine sy_seq ?_
    refine sy_block ?_
    refine sy_sq ?_
    refine o_v hf hh (y_ld Tryz.sc_3 rfl) ?_; clear hf a; intro a hf
    refine o_v hf hh (yv_assign rfl) ?_; clear hf a; intro a hf
    refine o_end ?_
    refine sy_block ?_
    refine sy_loopH (σ := Nat) [6, 19, 20, 21, 22, 23, 24, 25, 26, 27, 28, 29, 30, 31, 32, 33, 34, 35, 36, 37, 38, 39, 40, 41, 42, 43, 44] (fun y => [(6, .int .i64 y)]) (fun y => fun w' => ∃ done, prs F d.l.length d.r.length i k = done ++ (rowP F d.r.length x y ++ prs F d.l.length d.r.length (x + 1) k) ∧ J done.length w') (fun y => d.r.length - y) (k) hf ?_ ?_ ?_
    · repeat' (first | exact True.intro | refine And.intro rfl ?_)
    · exact ⟨done, by rw [hx, prs_step (by omega)], hJe _ _ _ hJ hh.ext⟩
    ·rintro y a w ⟨done2, hx2, hJ2⟩ hf
     obtain ⟨m1, m2, m3, ⟨cs, hb, hcs⟩, hnl, hnr⟩ := hJM _ _ hJ2
     have c0 := hcs.l; have c1 := hcs.r
     have hh := Hp.init w []
     refine sy_seq ?_
     refine sy_sq ?_
     refine o_v hf hh (yv_move rfl) ?_; clear hf a; intro a hf
     refine o_v hf hh (y_ld Tryz.sc_123 rfl) ?_; clear hf a; intro a hf
     refine o_v hf hh (yv_nilCheck rfl) ?_; clear hf a; intro a hf
     refine o_v hf hh (yv_fieldAddr Tryz.fo_122_0 rfl) ?_; clear hf a; intro a hf
     refine o_v hf hh (yv_fieldAddr Tryz.fo_26_1 rfl) ?_; clear hf a; intro a hf
     refine o_v hf hh (y_ld Tryz.sc_22 rfl) ?_; clear hf a; intro a hf
     refine o_v hf hh (yv_len Tryz.se_22 rfl) ?_; clear hf a; intro a hf
     refine o_v hf hh (yv_bin rfl rfl rfl) ?_; clear hf a; intro a hf
     refine o_end ?_
     refine sy_cond hf rfl (fun hg4 => ?_) (fun hg4 => ?_)
     ·have hG4 := hg4; try simp only [gS] at hG4
      refine sy_skip ?_
      refine then_n ?_
      refine sy_seq ?_
      refine sy_block ?_
      refine sy_seq ?_
      have hft := hcs.fitA (i := x) (k := y) (by omega) (by omega)
      refine sy_ops ?_
      refine o_v hf hh (y_ld Tryz.sc_123 rfl) ?_; clear hf a; intro a hf
      refine o_v hf hh (yv_move rfl) ?_; clear hf a; intro a hf
      refine o_v hf hh (yv_move rfl) ?_; clear hf a; intro a hf
      refine o_v hf hh (yv_nilCheck rfl) ?_; clear hf a; intro a hf
      refine o_v hf hh (yv_fieldAddr Tryz.fo_122_1 rfl) ?_; clear hf a; intro a hf
      refine o_v hf hh (y_ia Tryz.ae_120 rfl rfl) ?_; clear hf a; intro a hf
      refine o_v hf hh (y_ia Tryz.ae_119 rfl rfl) ?_; clear hf a; intro a hf
      refine o_v hf hh (y_ld Tryz.sc_4 rfl) ?_; clear hf a; intro a hf
      refine o_v hf hh (yv_move rfl) ?_; clear hf a; intro a hf
      refine guard_split hf (t := 37) rfl (fun hg6 => ?_) (fun hg6 => ?_)
      ·have hG6 := hg6; try simp only [gS] at hG6
       refine o_v hf hh (yv_move rfl) ?_; clear hf a; intro a hf
       refine o_v hf hh (yv_move rfl) ?_; clear hf a; intro a hf
       refine o_v hf hh (yv_move rfl) ?_; clear hf a; intro a hf
       refine o_v hf hh (yv_buildA Tryz.ba_100 rfl rfl) ?_; clear hf a; intro a hf
       have hxy : prs F d.l.length d.r.length i k = done2 ++ (x, y) :: (rowP F d.r.length x (y + 1) ++ prs F d.l.length d.r.length (x + 1) k) := by
         rw [hx2, rowP_next (by omega), if_pos (by assumption)]; rfl
       refine ops_yield hf rfl rfl (gon rfl rfl rfl (by first | assumption | rfl | (simp; done) | (simp; omega))) rfl (hy _ _ _ (at_donep hxy) (hJe _ _ _ hJ2 hh.ext)) ?_; clear hf; clear a; intro v a w hR hf
       have hR2 : ∃ o : Bool, v = .bool o ∧ (o = true → J (done2.length + 1) w) ∧ (o = false → K done2.length w) := by
         rcases hR with ⟨rfl, h⟩ | ⟨rfl, h⟩
         · exact ⟨true, rfl, fun _ => h, fun h => by cases h⟩
         · exact ⟨false, rfl, (fun h => by cases h), fun _ => h⟩
       clear hR
       obtain ⟨o, rfl, ho1, ho2⟩ := hR2
       clear hh; have hh := Hp.init w []
       refine o_v hf hh (yv_not rfl) ?_; clear hf a; intro a hf
       refine o_v hf hh (y_pt rfl rfl) ?_; clear hf a; intro a hf
       refine o_end ?_
       refine sy_cond hf rfl (fun hg8 => ?_) (fun hg8 => ?_)
       ·have hG8 := hg8; try simp only [gS] at hG8
        refine sy_ret ?_
        refine blk_r ?_
        refine then_r ?_
        refine then_r ?_
        refine blk_r ?_
        refine blk_r ?_
        refine then_r ?_
        refine then_r ?_
        refine blk_r ?_
        refine ret_r hf rfl rfl ?_
        first
          | exact .inr ⟨_, hKe _ _ _ (ho2 (by assumption)) hh.ext⟩
          | (refine .inl ?_
             have hle : prs F d.l.length d.r.length i k = done := by rw [hx, prs_nil (.inl (by omega)), List.append_nil]
             rw [hle, List.length_map]
             exact hJe _ _ _ hJ hh.ext)
       ·have hG8 := hg8; try simp only [gS] at hG8
        refine sy_skip ?_
        refine blk_n ?_
        refine then_n ?_
        refine sy_ops ?_
        refine o_v hf hh (yv_move rfl) ?_; clear hf a; intro a hf
        refine o_v hf hh (y_add rfl rfl) ?_; clear hf a; intro a hf
        refine o_v hf hh (yv_assign rfl) ?_; clear hf a; intro a hf
        refine ops_end ?_
        refine then_n ?_
        first
          | (refine ⟨y + 1, ⟨⟨done2 ++ [(x, y)], by rw [hxy, List.append_assoc]; rfl, ?_⟩, (hf.head (by repeat' (first | exact True.intro | refine And.intro rfl ?_)) (Keep.cons rfl (Keep.cons rfl (Keep.cons rfl (Keep.cons rfl (Keep.cons rfl (Keep.cons rfl (Keep.cons rfl (Keep.cons rfl (Keep.cons rfl (Keep.cons rfl (Keep.cons rfl (Keep.cons rfl (Keep.cons rfl (Keep.cons rfl (Keep.cons rfl (Keep.cons rfl (Keep.cons rfl (Keep.cons rfl (Keep.cons rfl (Keep.cons rfl (Keep.cons rfl (Keep.cons rfl (Keep.cons rfl (Keep.cons rfl (Keep.cons rfl (Keep.cons rfl (Keep.cons rfl (Keep.app rfl (Keep.rm rfl Keep.base))))))))))))))))))))))))))))))⟩, by omega⟩
             rw [List.length_append]
             exact hJe _ _ _ (ho1 (by assumption)) hh.ext)
          | exact ⟨y + 1, ⟨⟨done2, by rw [hx2, rowP_next (by omega), if_neg (by simp_all)]; rfl, hJe _ _ _ hJ2 hh.ext⟩, (hf.head (by repeat' (first | exact True.intro | refine And.intro rfl ?_)) (Keep.cons rfl (Keep.cons rfl (Keep.cons rfl (Keep.cons rfl (Keep.cons rfl (Keep.cons rfl (Keep.cons rfl (Keep.cons rfl (Keep.cons rfl (Keep.cons rfl (Keep.cons rfl (Keep.cons rfl (Keep.cons rfl (Keep.cons rfl (Keep.cons rfl (Keep.cons rfl (Keep.cons rfl (Keep.cons rfl (Keep.cons rfl (Keep.cons rfl (Keep.cons rfl (Keep.cons rfl (Keep.cons rfl (Keep.cons rfl (Keep.cons rfl (Keep.cons rfl (Keep.cons rfl (Keep.app rfl (Keep.rm rfl Keep.base))))))))))))))))))))))))))))))⟩, by omega⟩
      ·have hG6 := hg6; try simp only [gS] at hG6
       refine o_off hf ?_; clear hf a; intro a hf
       refine o_off hf ?_; clear hf a; intro a hf
       refine o_off hf ?_; clear hf a; intro a hf
       refine o_off hf ?_; clear hf a; intro a hf
       refine o_off hf ?_; clear hf a; intro a hf
       refine o_off hf ?_; clear hf a; intro a hf
       refine o_v hf hh (y_pf rfl rfl) ?_; clear hf a; intro a hf
       refine o_end ?_
       refine c_f hf ?_
       refine sy_skip ?_
       refine blk_n ?_
       refine then_n ?_
       refine sy_ops ?_
       refine o_v hf hh (yv_move rfl) ?_; clear hf a; intro a hf
       refine o_v hf hh (y_add rfl rfl) ?_; clear hf a; intro a hf
       refine o_v hf hh (yv_assign rfl) ?_; clear hf a; intro a hf
       refine ops_end ?_
       refine then_n ?_
       first
         | (refine ⟨y + 1, ⟨⟨done2 ++ [(x, y)], by rw [hxy, List.append_assoc]; rfl, ?_⟩, (hf.head (by repeat' (first | exact True.intro | refine And.intro rfl ?_)) (Keep.cons rfl (Keep.cons rfl (Keep.cons rfl (Keep.cons rfl (Keep.cons rfl (Keep.cons rfl (Keep.cons rfl (Keep.cons rfl (Keep.cons rfl (Keep.cons rfl (Keep.cons rfl (Keep.cons rfl (Keep.cons rfl (Keep.cons rfl (Keep.cons rfl (Keep.cons rfl (Keep.cons rfl (Keep.cons rfl (Keep.cons rfl (Keep.cons rfl (Keep.cons rfl (Keep.cons rfl (Keep.cons rfl (Keep.cons rfl (Keep.cons rfl (Keep.cons rfl (Keep.cons rfl (Keep.app rfl (Keep.rm rfl Keep.base))))))))))))))))))))))))))))))⟩, by omega⟩
            rw [List.length_append]
            exact hJe _ _ _ (ho1 (by assumption)) hh.ext)
         | exact ⟨y + 1, ⟨⟨done2, by rw [hx2, rowP_next (by omega), if_neg (by simp_all)]; rfl, hJe _ _ _ hJ2 hh.ext⟩, (hf.head (by repeat' (first | exact True.intro | refine And.intro rfl ?_)) (Keep.cons rfl (Keep.cons rfl (Keep.cons rfl (Keep.cons rfl (Keep.cons rfl (Keep.cons rfl (Keep.cons rfl (Keep.cons rfl (Keep.cons rfl (Keep.cons rfl (Keep.cons rfl (Keep.cons rfl (Keep.cons rfl (Keep.cons rfl (Keep.cons rfl (Keep.cons rfl (Keep.cons rfl (Keep.cons rfl (Keep.cons rfl (Keep.cons rfl (Keep.cons rfl (Keep.cons rfl (Keep.cons rfl (Keep.cons rfl (Keep.cons rfl (Keep.cons rfl (Keep.cons rfl (Keep.app rfl (Keep.rm rfl Keep.base))))))))))))))))))))))))))))))⟩, by omega⟩
     ·have hG4 := hg4; try simp only [gS] at hG4
      refine sy_exit ?_
      refine then_e ?_
      refine then_e ?_
      refine blk_e ?_
      refine blk_n ?_
      refine then_n ?_
      refine sy_ops ?_
      refine o_v hf hh (yv_move rfl) ?_; clear hf a; intro a hf
      refine o_v hf hh (y_add rfl rfl) ?_; clear hf a; intro a hf
      refine o_v hf hh (yv_assign rfl) ?_; clear hf a; intro a hf
      refine ops_end ?_
      refine then_n ?_
      refine ⟨x + 1, ⟨⟨done2, ?_, hJe _ _ _ hJ2 hh.ext⟩, (hf.head (by repeat' (first | exact True.intro | refine And.intro rfl ?_)) (Keep.cons rfl (Keep.cons rfl (Keep.cons rfl (Keep.cons rfl (Keep.cons rfl (Keep.cons rfl (Keep.cons rfl (Keep.cons rfl (Keep.cons rfl (Keep.cons rfl (Keep.cons rfl (Keep.app rfl (Keep.rm rfl (Keep.cons rfl (Keep.cons rfl (Keep.cons rfl (Keep.cons rfl (Keep.cons rfl (Keep.cons rfl (Keep.cons rfl (Keep.cons rfl (Keep.cons rfl (Keep.cons rfl (Keep.app rfl (Keep.rm rfl Keep.base))))))))))))))))))))))))))⟩, by omega⟩
      rw [hx2, rowP_end (by omega)]; rfl
   ·have hG2 := hg2; try simp only [gS] at hG2
    refine sy_exit ?_
    refine then_e ?_
    refine then_e ?_
    refine blk_e ?_
    refine ret_n hf rfl rfl ?_
    first
      | exact .inr ⟨_, hKe _ _ _ (ho2 (by assumption)) hh.ext⟩
      | (refine .inl ?_
         have hle : prs F d.l.length d.r.length i k = done := by rw [hx, prs_nil (.inl (by omega)), List.append_nil]
         rw [hle, List.length_map]
         exact hJe _ _ _ hJ hh.ext)
end Go.Proofs.YtidieepndphodaaGreat
namespace Go.Proofs.YtidieepndphodaaGreat
open Go Go.Sy Go.MatM
/-- A rule that forbids pairs. -/
def NoSpec (u : World) (f : Nat) (fcs : Array Value) (no : Nat → Nat → Bool) : Prop := ∀ (i k : Nat) (w' : World), i < 10 → k < 10 → Ext [] u w' →
  Calls Tryz.prog f (#[] ++ [Value.int .i64 i, Value.int .i64 k].toArray ++ fcs) w' (Ret fun v w'' => v = .bool (no i k) ∧ Ext [] w' w'')
theorem NoSpec.ext {u w : World} {f : Nat} {fcs : Array Value} {no : Nat → Nat → Bool} (h : NoSpec u f fcs no) (e : Ext [] u w) : NoSpec w f fcs no := fun i k w' hi hk e' => h i k w' hi hk (e.trans e')
def procN (F no : Nat → Nat → Bool) (i k : Nat) : Nat → Nat → Bool := fun x y => F x y && !(no x y && decide (x < i ∨ x = i ∧ y < k))
theorem procN_zero {F no : Nat → Nat → Bool} : procN F no 0 0 = F := by funext x y; simp [procN]
theorem procN_next {F no : Nat → Nat → Bool} {i k : Nat} : updF (procN F no i k) i k (F i k && !no i k) = procN F no i (k + 1) := by
  funext x y
  unfold updF procN
  split
  · rename_i h; simp [h.1, h.2]
  · rename_i h
    congr 3
    rw [decide_eq_decide]
    omega
theorem procN_row {F no : Nat → Nat → Bool} {R i : Nat} (h : ∀ x y, F x y = true → y < R) : procN F no i R = procN F no (i + 1) 0 := by
  funext x y
  unfold procN
  cases e : F x y
  · rfl
  · have := h x y e
    congr 3
    rw [decide_eq_decide]; omega
theorem procN_all {F no : Nat → Nat → Bool} {L : Nat} (h : ∀ x y, F x y = true → x < L) : procN F no L 0 = fun x y => F x y && !no x y := by
  funext x y
  unfold procN
  cases e : F x y
  · rfl
  · have := h x y e
    simp [this]
end Go.Proofs.YtidieepndphodaaGreat
namespace Go.Proofs.YtidieepndphodaaGreat
open Go Go.Sy Go.MatM
theorem ze3 : zeroOf Tryz.prog 3 = some (.int .i64 0) := by kernel_rfl
/-- What the memory of ways says of a state. -/
def memK (F : Nat → Nat → Bool) (L R : Nat) : Int × Int × Int → Int := fun p => ((cnt F L R p.1.toNat p.2.1.toNat p.2.2.toNat : Nat) : Int)
/-- How many ways the first pairs begin. -/
def sumK (F : Nat → Nat → Bool) (L R i k n j : Nat) : Nat := (if n = 0 then 1 else 0) + (((prs F L R i k).take j).map fun p => cnt F L R (p.1 + 1) (p.2 + 1) (n - 1)).sum
theorem sumK_zero {F : Nat → Nat → Bool} {L R i k n : Nat} : sumK F L R i k n 0 = if n = 0 then 1 else 0 := by simp [sumK]
theorem sumK_all {F : Nat → Nat → Bool} {L R i k n : Nat} : sumK F L R i k n (prs F L R i k).length = cnt F L R i k n := by rw [sumK, List.take_length, cnt_eq]
theorem sumK_step {F : Nat → Nat → Bool} {L R i k n j : Nat} {p : Pr} (h : (prs F L R i k)[j]? = some p) : sumK F L R i k n (j + 1) = sumK F L R i k n j + cnt F L R (p.1 + 1) (p.2 + 1) (n - 1) := by
  unfold sumK
  rw [List.take_add_one, h, Option.toList_some, List.map_append, List.sum_append]
  simp; omega
theorem sum_take {l : List Pr} {f : Pr → Nat} (j : Nat) : ((l.take j).map f).sum ≤ (l.map f).sum := by
  conv => rhs; rw [← List.take_append_drop j l]
  rw [List.map_append, List.sum_append]; omega
theorem sumK_le {F : Nat → Nat → Bool} {L R i k n j : Nat} (hL : L ≤ 10) (hR : R ≤ 10) : sumK F L R i k n j ≤ 1048576 := by
  refine Nat.le_trans ?_ (cnt_le (F := F) (i := i) (k := k) (n := n) hL hR)
  rw [cnt_eq]
  exact Nat.add_le_add_left (sum_take j) _
end Go.Proofs.YtidieepndphodaaGreat
namespace Go.Proofs.YtidieepndphodaaGreat
open Go Go.Sy Go.MatM
theorem c50 (d : RowsD) (sa sb : Option Addr) (ca cb : Nat) (F : Nat → Nat → Bool) (rb : Nat) (u : World) (hO : RowO u rb d sa sb ca cb F) : Calls Tryz.prog 78 #[ptr rb 0] u (Ret fun v w' => v = .agg (gridV 11 11 (mosG F d.l.length d.r.length)) ∧ Ext [] u w') := by
  refine calls_of Tryz.func78 rfl rfl (fun a hf => ?_)
  have hh := Hp.init u []
  obtain ⟨⟨rs, hb, hcs⟩, hnl, hnr⟩ := hO
  have c0 := hcs.l; have c1 := hcs.r
  refine sy_sq ?_
  refine o_alloc hf hh Tryz.ze_129 ?_; clear hf hh a; intro B2 a w hf hh
  refine o_end ?_
  refine sy_seq ?_
  refine sy_sq ?_
  refine o_v hf hh (yv_move rfl) ?_; clear hf a; intro a hf
  refine o_v hf hh (yv_nilCheck rfl) ?_; clear hf a; intro a hf
  refine o_v hf hh (yv_fieldAddr Tryz.fo_122_0 rfl) ?_; clear hf a; intro a hf
  refine o_v hf hh (yv_fieldAddr Tryz.fo_26_0 rfl) ?_; clear hf a; intro a hf
  refine o_v hf hh (y_ld Tryz.sc_22 rfl) ?_; clear hf a; intro a hf
  refine o_v hf hh (yv_len Tryz.se_22 rfl) ?_; clear hf a; intro a hf
  refine o_v hf hh (y_sub rfl rfl) ?_; clear hf a; intro a hf
  refine o_v hf hh (yv_assign rfl) ?_; clear hf a; intro a hf
  refine o_end ?_
  refine sy_block ?_
  refine sy_loopH (σ := Nat) [3, 4, 12, 13, 14, 15, 16, 17, 18, 19, 20, 21, 22, 23, 24, 25, 26, 27, 28, 29, 30, 31, 32, 33, 34, 35, 36, 37, 38, 39, 40, 41, 42, 43, 44, 45, 46, 47, 48, 49, 50, 51, 52, 53, 54, 55, 56, 57, 58, 59, 60, 61, 62, 63, 64, 65, 66, 67, 68, 69] (fun s => [(3, .int .i64 ((s : Nat) - 1))]) (fun s => fun w => s ≤ d.l.length ∧ ∃ cs, Grid 11 11 (procM F d.l.length d.r.length s d.r.length) cs ∧ Hp u [] [(B2, .cells cs 129)] w) (fun s => s) (d.l.length) hf ?_ ?_ ?_
  · repeat' (first | exact True.intro | refine And.intro rfl ?_)
  · refine ⟨Nat.le_refl _, _, ?_, hh⟩
    exact (grid_zero (m := 11) (c := 11) rfl rfl).congr fun x y _ _ => (procM_start x y).symm
  ·rintro s a w ⟨hs, cs, hG, hh⟩ hf
   refine sy_seq ?_
   refine sy_sq ?_
   refine o_v hf hh (yv_move rfl) ?_; clear hf a; intro a hf
   refine o_v hf hh (yv_bin rfl rfl rfl) ?_; clear hf a; intro a hf
   refine o_end ?_
   refine sy_cond hf rfl (fun hg2 => ?_) (fun hg2 => ?_)
   ·have hG2 := hg2; try simp only [gS] at hG2
    refine sy_skip ?_
    refine then_n ?_
    refine sy_seq ?_
    refine sy_block ?_
    refine sy_seq ?_
    obtain ⟨i, rfl⟩ : ∃ i, s = i + 1 := ⟨s - 1, by omega⟩
    rw [show (((i + 1 : Nat) : Int) - 1) = (i : Int) by omega] at hf
    refine sy_ops ?_
    refine o_v hf hh (yv_move rfl) ?_; clear hf a; intro a hf
    refine o_v hf hh (yv_nilCheck rfl) ?_; clear hf a; intro a hf
    refine o_v hf hh (yv_fieldAddr Tryz.fo_122_0 rfl) ?_; clear hf a; intro a hf
    refine o_v hf hh (yv_fieldAddr Tryz.fo_26_1 rfl) ?_; clear hf a; intro a hf
    refine o_v hf hh (y_ld Tryz.sc_22 rfl) ?_; clear hf a; intro a hf
    refine o_v hf hh (yv_len Tryz.se_22 rfl) ?_; clear hf a; intro a hf
    refine o_v hf hh (y_sub rfl rfl) ?_; clear hf a; intro a hf
    refine o_v hf hh (yv_assign rfl) ?_; clear hf a; intro a hf
    refine o_end ?_
    refine sy_block ?_
    refine sy_loopH (σ := Nat) [4, 23, 24, 25, 26, 27, 28, 29, 30, 31, 32, 33, 34, 35, 36, 37, 38, 39, 40, 41, 42, 43, 44, 45, 46, 47, 48, 49, 50, 51, 52, 53, 54, 55, 56, 57, 58, 59, 60, 61, 62, 63, 64, 65, 66, 67, 68, 69] (fun t => [(4, .int .i64 ((t : Nat) - 1))]) (fun t => fun w => t ≤ d.r.length ∧ ∃ cs, Grid 11 11 (procM F d.l.length d.r.length (i + 1) t) cs ∧ Hp u [] [(B2, .cells cs 129)] w) (fun t => t) (d.r.length) hf ?_ ?_ ?_
    · repeat' (first | exact True.intro | refine And.intro rfl ?_)
    · exact ⟨Nat.le_refl _, cs, hG, hh⟩
    ·rintro t a w ⟨ht, cs2, hG2, hh⟩ hf
     refine sy_seq ?_
     refine sy_sq ?_
     refine o_v hf hh (yv_move rfl) ?_; clear hf a; intro a hf
     refine o_v hf hh (yv_bin rfl rfl rfl) ?_; clear hf a; intro a hf
     refine o_end ?_
     refine sy_cond hf rfl (fun hg4 => ?_) (fun hg4 => ?_)
     ·have hG4 := hg4; try simp only [gS] at hG4
      refine sy_skip ?_
      refine then_n ?_
      refine sy_seq ?_
      refine sy_block ?_
      refine sy_seq ?_
      obtain ⟨k, rfl⟩ : ∃ k, t = k + 1 := ⟨t - 1, by omega⟩
      rw [show (((k + 1 : Nat) : Int) - 1) = (k : Int) by omega] at hf
      have hft := hcs.fitA (i := i) (k := k) (by omega) (by omega)
      have hms := mos_step (F := F) (L := d.l.length) (R := d.r.length) (i := i) (k := k) (by omega) (by omega)
      have hb1 := mos_le F d.l.length d.r.length (i + 1) (k + 1)
      have g1 := grid11 hG2 (i := i + 1) (k := k) (by omega) (by omega)
      have g2 := grid11 hG2 (i := i) (k := k + 1) (by omega) (by omega)
      rw [show procM F d.l.length d.r.length (i + 1) (k + 1) (i + 1) k = ((mos F d.l.length d.r.length (i + 1) k : Nat) : Int) by unfold procM; rw [if_pos (by omega)]] at g1
      rw [show procM F d.l.length d.r.length (i + 1) (k + 1) i (k + 1) = ((mos F d.l.length d.r.length i (k + 1) : Nat) : Int) by unfold procM; rw [if_pos (by omega)]] at g2
      have hz2 := hG2.size
      refine sy_tail (C := Hp _ _ _) 17 Tryz.follows (by kernel_rfl) rfl rfl (hh.drawn _) ?_
      refine oq_v hf (yv_move rfl) ?_; clear hf a; intro a hf
      refine oq_v hf (yv_move rfl) ?_; clear hf a; intro a hf
      refine oq_v hf (yv_move rfl) ?_; clear hf a; intro a hf
      refine q_v hf (yv_cast (yv_add rfl rfl (by omega) (by omega)) (intv (b := ((i + 1 : Nat) : Int)) (by omega))) (.inl rfl) rfl rfl ?_; clear hf a; intro a hf
      refine oq_v hf (yv_move rfl) ?_; clear hf a; intro a hf
      refine oq_v hf (y_ia Tryz.ae_129 rfl rfl) ?_; clear hf a; intro a hf
      refine oq_v hf (y_ia Tryz.ae_128 rfl rfl) ?_; clear hf a; intro a hf
      refine oq_v hf (y_ld Tryz.sc_3 rfl) ?_; clear hf a; intro a hf
      refine oq_v hf (yv_move rfl) ?_; clear hf a; intro a hf
      refine oq_v hf (yv_move rfl) ?_; clear hf a; intro a hf
      refine q_v hf (yv_cast (yv_add rfl rfl (by omega) (by omega)) (intv (b := ((k + 1 : Nat) : Int)) (by omega))) (.inl rfl) rfl rfl ?_; clear hf a; intro a hf
      refine oq_v hf (y_ia Tryz.ae_129 rfl rfl) ?_; clear hf a; intro a hf
      refine oq_v hf (y_ia Tryz.ae_128 rfl rfl) ?_; clear hf a; intro a hf
      refine oq_v hf (y_ld Tryz.sc_3 rfl) ?_; clear hf a; intro a hf
      refine oq_v hf (yv_max rfl rfl) ?_; clear hf a; intro a hf
      refine oq_v hf (y_ia Tryz.ae_129 rfl rfl) ?_; clear hf a; intro a hf
      refine oq_v hf (y_ia Tryz.ae_128 rfl rfl) ?_; clear hf a; intro a hf
      refine q_end fun w hh => ?_
      refine o_store hf hh Tryz.sz_3 fun w hh => ?_
      refine o_end ?_
      refine sy_seq ?_
      have hG4 := hG2.set (i := i) (k := k) (off := 0 + ((i : Nat) : Int).toNat * 11 + ((k : Nat) : Int).toNat * 1) (by omega) (by omega) (by first | (simp; done) | (simp; omega)) (max ((mos F d.l.length d.r.length (i + 1) k : Nat) : Int) ((mos F d.l.length d.r.length i (k + 1) : Nat) : Int))
      obtain ⟨cs4, hc4⟩ : ∃ z, z = spl cs2 (0 + ((i : Nat) : Int).toNat * 11 + ((k : Nat) : Int).toNat * 1) [.int .i64 (max ((mos F d.l.length d.r.length (i + 1) k : Nat) : Int) ((mos F d.l.length d.r.length i (k + 1) : Nat) : Int))] := ⟨_, rfl⟩
      rw [← hc4] at hG4
      replace hh : Hp u [] [(B2, .cells cs4 129)] w := hc4 ▸ hh
      have g3 := grid11 hG4 (i := i) (k := k) (by omega) (by omega)
      have g4 := grid11 hG4 (i := i + 1) (k := k + 1) (by omega) (by omega)
      rw [show updG (procM F d.l.length d.r.length (i + 1) (k + 1)) i k (max ((mos F d.l.length d.r.length (i + 1) k : Nat) : Int) ((mos F d.l.length d.r.length i (k + 1) : Nat) : Int)) i k = max ((mos F d.l.length d.r.length (i + 1) k : Nat) : Int) ((mos F d.l.length d.r.length i (k + 1) : Nat) : Int) by unfold updG; rw [if_pos ⟨rfl, rfl⟩]] at g3
      rw [show updG (procM F d.l.length d.r.length (i + 1) (k + 1)) i k (max ((mos F d.l.length d.r.length (i + 1) k : Nat) : Int) ((mos F d.l.length d.r.length i (k + 1) : Nat) : Int)) (i + 1) (k + 1) = ((mos F d.l.length d.r.length (i + 1) (k + 1) : Nat) : Int) by unfold updG procM; rw [if_neg (by omega), if_pos (by omega)]] at g4
      have hz4 := hG4.size
      refine sy_ops ?_
      refine o_v hf hh (yv_move rfl) ?_; clear hf a; intro a hf
      refine o_v hf hh (yv_move rfl) ?_; clear hf a; intro a hf
      refine o_v hf hh (yv_move rfl) ?_; clear hf a; intro a hf
      refine o_v hf hh (yv_nilCheck rfl) ?_; clear hf a; intro a hf
      refine o_v hf hh (yv_fieldAddr Tryz.fo_122_1 rfl) ?_; clear hf a; intro a hf
      refine o_v hf hh (y_ia Tryz.ae_120 rfl rfl) ?_; clear hf a; intro a hf
      refine o_v hf hh (y_ia Tryz.ae_119 rfl rfl) ?_; clear hf a; intro a hf
      refine o_v hf hh (y_ld Tryz.sc_4 rfl) ?_; clear hf a; intro a hf
      refine o_end ?_
      refine sy_cond hf rfl (fun hg8 => ?_) (fun hg8 => ?_)
      ·have hG8 := hg8; try simp only [gS] at hG8
       refine sy_tail (C := Hp _ _ _) 18 Tryz.follows (by kernel_rfl) rfl rfl (hh.drawn _) ?_
       refine oq_v hf (yv_move rfl) ?_; clear hf a; intro a hf
       refine oq_v hf (yv_move rfl) ?_; clear hf a; intro a hf
       refine oq_v hf (yv_move rfl) ?_; clear hf a; intro a hf
       refine oq_v hf (yv_move rfl) ?_; clear hf a; intro a hf
       refine oq_v hf (y_ia Tryz.ae_129 rfl rfl) ?_; clear hf a; intro a hf
       refine oq_v hf (y_ia Tryz.ae_128 rfl rfl) ?_; clear hf a; intro a hf
       refine oq_v hf (y_ld Tryz.sc_3 rfl) ?_; clear hf a; intro a hf
       refine oq_v hf (yv_move rfl) ?_; clear hf a; intro a hf
       refine q_v hf (yv_cast (yv_add rfl rfl (by omega) (by omega)) (intv (b := ((i + 1 : Nat) : Int)) (by omega))) (.inl rfl) rfl rfl ?_; clear hf a; intro a hf
       refine oq_v hf (yv_move rfl) ?_; clear hf a; intro a hf
       refine q_v hf (yv_cast (yv_add rfl rfl (by omega) (by omega)) (intv (b := ((k + 1 : Nat) : Int)) (by omega))) (.inl rfl) rfl rfl ?_; clear hf a; intro a hf
       refine oq_v hf (y_ia Tryz.ae_129 rfl rfl) ?_; clear hf a; intro a hf
       refine oq_v hf (y_ia Tryz.ae_128 rfl rfl) ?_; clear hf a; intro a hf
       refine oq_v hf (y_ld Tryz.sc_3 rfl) ?_; clear hf a; intro a hf
       refine oq_v hf (y_add rfl rfl) ?_; clear hf a; intro a hf
       refine oq_v hf (yv_max rfl rfl) ?_; clear hf a; intro a hf
       refine oq_v hf (y_ia Tryz.ae_129 rfl rfl) ?_; clear hf a; intro a hf
       refine oq_v hf (y_ia Tryz.ae_128 rfl rfl) ?_; clear hf a; intro a hf
       refine q_end fun w hh => ?_
       refine o_store hf hh Tryz.sz_3 fun w hh => ?_
       refine ops_end ?_
       refine blk_n ?_
       refine then_n ?_
       refine sy_ops ?_
       refine o_v hf hh (yv_move rfl) ?_; clear hf a; intro a hf
       refine o_v hf hh (y_sub rfl rfl) ?_; clear hf a; intro a hf
       refine o_v hf hh (yv_assign rfl) ?_; clear hf a; intro a hf
       refine ops_end ?_
       refine then_n ?_
       first
         | exact ⟨k, ⟨⟨by omega, _, (hG4.set (i := i) (k := k) (by omega) (by omega) (by first | (simp; done) | (simp; omega)) _).congr (fun x y _ _ => by rw [updG_updG]; exact procM_step (by have hq : F i k = true := (by assumption); rw [if_pos hq] at hms; omega) x y), hh⟩, (hf.head (by repeat' (first | exact True.intro | refine And.intro rfl ?_)) (Keep.cons rfl (Keep.cons rfl (Keep.cons rfl (Keep.cons rfl (Keep.cons rfl (Keep.cons rfl (Keep.cons rfl (Keep.cons rfl (Keep.cons rfl (Keep.cons rfl (Keep.cons rfl (Keep.cons rfl (Keep.cons rfl (Keep.cons rfl (Keep.cons rfl (Keep.cons rfl (Keep.cons rfl (Keep.cons rfl (Keep.cons rfl (Keep.cons rfl (Keep.cons rfl (Keep.cons rfl (Keep.cons rfl (Keep.cons rfl (Keep.cons rfl (Keep.cons rfl (Keep.cons rfl (Keep.cons rfl (Keep.cons rfl (Keep.cons rfl (Keep.cons rfl (Keep.cons rfl (Keep.cons rfl (Keep.cons rfl (Keep.cons rfl (Keep.cons rfl (Keep.cons rfl (Keep.cons rfl (Keep.cons rfl (Keep.cons rfl (Keep.cons rfl (Keep.cons rfl (Keep.cons rfl (Keep.cons rfl (Keep.cons rfl (Keep.cons rfl (Keep.cons rfl (Keep.cons rfl (Keep.app rfl (Keep.rm rfl Keep.base)))))))))))))))))))))))))))))))))))))))))))))))))))⟩, by omega⟩
         | exact ⟨k, ⟨⟨by omega, _, hG4.congr (fun x y _ _ => procM_step (by have hq : F i k = false := (by assumption); rw [if_neg (by simp [hq])] at hms; omega) x y), hh⟩, (hf.head (by repeat' (first | exact True.intro | refine And.intro rfl ?_)) (Keep.cons rfl (Keep.cons rfl (Keep.cons rfl (Keep.cons rfl (Keep.cons rfl (Keep.cons rfl (Keep.cons rfl (Keep.cons rfl (Keep.cons rfl (Keep.cons rfl (Keep.cons rfl (Keep.cons rfl (Keep.cons rfl (Keep.cons rfl (Keep.cons rfl (Keep.cons rfl (Keep.cons rfl (Keep.cons rfl (Keep.cons rfl (Keep.cons rfl (Keep.cons rfl (Keep.cons rfl (Keep.cons rfl (Keep.cons rfl (Keep.cons rfl (Keep.cons rfl (Keep.cons rfl (Keep.cons rfl (Keep.cons rfl (Keep.cons rfl (Keep.cons rfl (Keep.cons rfl (Keep.cons rfl (Keep.cons rfl (Keep.cons rfl (Keep.cons rfl (Keep.cons rfl (Keep.cons rfl (Keep.cons rfl (Keep.cons rfl (Keep.cons rfl (Keep.cons rfl (Keep.cons rfl (Keep.cons rfl (Keep.cons rfl (Keep.cons rfl (Keep.cons rfl (Keep.cons rfl (Keep.app rfl (Keep.rm rfl Keep.base)))))))))))))))))))))))))))))))))))))))))))))))))))⟩, by omega⟩
      ·have hG8 := hg8; try simp only [gS] at hG8
       refine sy_skip ?_
       refine blk_n ?_
       refine then_n ?_
       refine sy_ops ?_
       refine o_v hf hh (yv_move rfl) ?_; clear hf a; intro a hf
       refine o_v hf hh (y_sub rfl rfl) ?_; clear hf a; intro a hf
       refine o_v hf hh (yv_assign rfl) ?_; clear hf a; intro a hf
       refine ops_end ?_
       refine then_n ?_
       first
         | exact ⟨k, ⟨⟨by omega, _, (hG4.set (i := i) (k := k) (by omega) (by omega) (by first | (simp; done) | (simp; omega)) _).congr (fun x y _ _ => by rw [updG_updG]; exact procM_step (by have hq : F i k = true := (by assumption); rw [if_pos hq] at hms; omega) x y), hh⟩, (hf.head (by repeat' (first | exact True.intro | refine And.intro rfl ?_)) (Keep.cons rfl (Keep.cons rfl (Keep.cons rfl (Keep.cons rfl (Keep.cons rfl (Keep.cons rfl (Keep.cons rfl (Keep.cons rfl (Keep.cons rfl (Keep.cons rfl (Keep.cons rfl (Keep.cons rfl (Keep.cons rfl (Keep.cons rfl (Keep.cons rfl (Keep.cons rfl (Keep.cons rfl (Keep.cons rfl (Keep.cons rfl (Keep.cons rfl (Keep.cons rfl (Keep.cons rfl (Keep.cons rfl (Keep.cons rfl (Keep.cons rfl (Keep.cons rfl (Keep.cons rfl (Keep.cons rfl (Keep.cons rfl (Keep.cons rfl (Keep.app rfl (Keep.rm rfl Keep.base)))))))))))))))))))))))))))))))))⟩, by omega⟩
         | exact ⟨k, ⟨⟨by omega, _, hG4.congr (fun x y _ _ => procM_step (by have hq : F i k = false := (by assumption); rw [if_neg (by simp [hq])] at hms; omega) x y), hh⟩, (hf.head (by repeat' (first | exact True.intro | refine And.intro rfl ?_)) (Keep.cons rfl (Keep.cons rfl (Keep.cons rfl (Keep.cons rfl (Keep.cons rfl (Keep.cons rfl (Keep.cons rfl (Keep.cons rfl (Keep.cons rfl (Keep.cons rfl (Keep.cons rfl (Keep.cons rfl (Keep.cons rfl (Keep.cons rfl (Keep.cons rfl (Keep.cons rfl (Keep.cons rfl (Keep.cons rfl (Keep.cons rfl (Keep.cons rfl (Keep.cons rfl (Keep.cons rfl (Keep.cons rfl (Keep.cons rfl (Keep.cons rfl (Keep.cons rfl (Keep.cons rfl (Keep.cons rfl (Keep.cons rfl (Keep.cons rfl (Keep.app rfl (Keep.rm rfl Keep.base)))))))))))))))))))))))))))))))))⟩, by omega⟩
     ·have hG4 := hg4; try simp only [gS] at hG4
      refine sy_exit ?_
      refine then_e ?_
      refine then_e ?_
      refine blk_e ?_
      refine blk_n ?_
      refine then_n ?_
      refine sy_ops ?_
      refine o_v hf hh (yv_move rfl) ?_; clear hf a; intro a hf
      refine o_v hf hh (y_sub rfl rfl) ?_; clear hf a; intro a hf
      refine o_v hf hh (yv_assign rfl) ?_; clear hf a; intro a hf
      refine ops_end ?_
      refine then_n ?_
      have ht0 : t = 0 := by omega
      subst ht0
      exact ⟨i, ⟨⟨by omega, cs2, hG2.congr (fun x y _ _ => procM_row x y), hh⟩, (hf.head (by repeat' (first | exact True.intro | refine And.intro rfl ?_)) (Keep.cons rfl (Keep.cons rfl (Keep.cons rfl (Keep.cons rfl (Keep.cons rfl (Keep.app rfl (Keep.rm rfl (Keep.cons rfl (Keep.cons rfl (Keep.cons rfl (Keep.cons rfl (Keep.cons rfl (Keep.cons rfl (Keep.cons rfl (Keep.cons rfl (Keep.cons rfl (Keep.cons rfl (Keep.app rfl (Keep.rm rfl Keep.base))))))))))))))))))))⟩, by omega⟩
   ·have hG2 := hg2; try simp only [gS] at hG2
    refine sy_exit ?_
    refine then_e ?_
    refine then_e ?_
    refine blk_e ?_
    refine then_n ?_
    refine sy_seq ?_
    have hs0 : s = 0 := by omega
    subst hs0
    replace hG := hG.congr (fun x y _ _ => procM_end x y)
    refine sy_ops ?_
    refine o_v hf hh (yv_loads (vs := cs.toList) Tryz.ag_129 rfl (fun w h => h.at (i := 0) rfl) (by rw [show 121 = cs.size from hG.size.symm]; exact cellsAt_all)) ?_; clear hf a; intro a hf
    refine o_store hf hh Tryz.sz_129 (hx := rfl) (hi := atI (i := 0) rfl) (hy := rfl) (hv := hG.size) (h1 := hG.one) (hl := by rw [hG.size]; rfl) fun w hh => ?_
    replace hh : Hp u [] [(B2, .cells cs 129)] w := by have e := spl_all (z := cs) (cs := cs) rfl; exact e ▸ hh
    refine o_end ?_
    refine sy_ret ?_
    refine ret_c (vs := [.agg cs.toList.toArray]) hf ?_ ?_
    · exact ⟨⟨B2, 0, _, _, _, rfl, hh.at (i := 0) rfl, .inr ⟨121, _, Tryz.ag_129, by rw [show 121 = cs.size from hG.size.symm]; exact cellsAt_all, rfl⟩⟩, True.intro⟩
    · exact ⟨congrArg Value.agg hG.eq, hh.ext⟩
theorem c88 (d : RowsD) (sa sb : Option Addr) (ca cb : Nat) (F : Nat → Nat → Bool) (rb : Nat) (u : World) (hO : RowO u rb d sa sb ca cb F) (hV : Valid d) : Calls Tryz.prog 95 #[ptr rb 0] u (Ret fun v w' => v = .bool (decide (need d ≤ mos F d.l.length d.r.length 0 0)) ∧ Ext [] u w') := by
  refine calls_of Tryz.func95 rfl rfl (fun a hf => ?_)
  have hh := Hp.init u []
  obtain ⟨rs, hb, hcs⟩ := hO.ex
  have hnc := hcs.need
  refine sy_sq ?_
  refine o_v hf hh (yv_assign rfl) ?_; clear hf a; intro a hf
  refine o_end ?_
  refine sy_seq ?_
  refine sy_quiet (C := Hp _ _ _) Tryz.follows (by kernel_rfl) (hh.drawn _) ?_
  refine oq_v hf (yv_move rfl) ?_; clear hf a; intro a hf
  refine oq_call hf Tryz.en_78 rfl rfl rfl (fun w hh => c50 d sa sb ca cb F rb _ (hO.ext hh.ext)) ?_; clear hf a; intro a hf
  refine oq_v hf (yv_idxA Tryz.ae_129 Tryz.ag_128 rfl rfl) ?_; clear hf a; intro a hf
  refine oq_v hf (yv_idxS Tryz.ae_128 Tryz.sc_3 rfl rfl (v := .int .i64 (mosG F d.l.length d.r.length 0 0)) (by rw [Array.getElem?_extract]; exact (gridV_grid 11 11 (mosG F d.l.length d.r.length)).get 0 0 (by omega) (by omega))) ?_; clear hf a; intro a hf
  refine oq_v hf (yv_move rfl) ?_; clear hf a; intro a hf
  refine oq_v hf (yv_nilCheck rfl) ?_; clear hf a; intro a hf
  refine oq_v hf (yv_fieldAddr Tryz.fo_122_2 rfl) ?_; clear hf a; intro a hf
  refine oq_v hf (y_ld Tryz.sc_3 rfl) ?_; clear hf a; intro a hf
  refine oq_v hf (yv_bin rfl rfl rfl) ?_; clear hf a; intro a hf
  refine oq_v hf (yv_assign rfl) ?_; clear hf a; intro a hf
  refine q_end fun w hh => ?_
  refine then_n ?_
  refine sy_ret ?_
  refine ret_r hf rfl rfl ?_
  exact ⟨congrArg Value.bool (by rw [decide_eq_decide]; unfold need mosG; omega), hh.ext⟩
end Go.Proofs.YtidieepndphodaaGreat
namespace Go.Proofs.YtidieepndphodaaGreat
open Go Go.Sy Go.MatM
/-- Pairs that fit are pairs of marks. -/
def FB (d : RowsD) (F : Nat → Nat → Bool) : Prop := ∀ x y, F x y = true → x < d.l.length ∧ y < d.r.length
theorem fitD_FB (d : RowsD) : FB d (fitD d) := fun x y h => by
  unfold fitD at h
  split at h
  · rename_i a b h1 h2; exact ⟨len_of h1, len_of h2⟩
  · cases h
def un2 (x y j : Nat) : Nat := if j = 0 then 0 else if j = 1 then x else x ||| y
end Go.Proofs.YtidieepndphodaaGreat
namespace Go.Proofs.YtidieepndphodaaGreat
open Go Go.Sy Go.MatM
theorem c93 (x : Nat) (hx : x < 65536) (w : World) : Calls Tryz.prog 94 #[.int .u64 x] w (Ret fun v w' => v = .int .i64 (pc x) ∧ Ext [] w w') := by
  refine calls_of Tryz.func94 rfl rfl (fun a hf => ?_)
  have hh := Hp.init w []
  have k1 := sw1_le x hx; have k2 := sw2_le x hx; have k3 := sw3_le x hx; have k4 := sw4_le x hx; have k5 := sw5_le x hx; have k6 := sw6_le x hx
  have n0 := @Nat.and_le_left (x / 2) 6148914691236517205
  have n1 := @Nat.and_le_left (x) 6148914691236517205
  have n2 := @Nat.and_le_left (sw1 x / 4) 3689348814741910323
  have n3 := @Nat.and_le_left (sw1 x) 3689348814741910323
  refine sy_sq ?_
  refine o_v hf hh (yv_assign rfl) ?_; clear hf a; intro a hf
  refine o_end ?_
  refine sy_sq ?_
  refine o_v hf hh (yv_move rfl) ?_; clear hf a; intro a hf
  refine ops_v hf hh (yv_cast (yv_shrx (.inr rfl) rfl rfl (by omega) (by omega) (by omega)) (intv (b := (((x) / 2 : Nat) : Int)) (by simp [Nat.shiftRight_eq_div_pow]))) (.inl rfl) rfl rfl rfl ?_; clear hf; clear a; intro a hf
  refine ops_v hf hh (yv_cast (yv_and (.inr rfl) rfl rfl (by omega) (by simp only [IntKind.top]; omega) (by omega) (by simp only [IntKind.top]; omega)) (intv (b := ((x / 2 &&& 6148914691236517205 : Nat) : Int)) rfl)) (.inl rfl) rfl rfl rfl ?_; clear hf; clear a; intro a hf
  refine o_v hf hh (yv_move rfl) ?_; clear hf a; intro a hf
  refine ops_v hf hh (yv_cast (yv_and (.inr rfl) rfl rfl (by omega) (by simp only [IntKind.top]; omega) (by omega) (by simp only [IntKind.top]; omega)) (intv (b := ((x &&& 6148914691236517205 : Nat) : Int)) rfl)) (.inl rfl) rfl rfl rfl ?_; clear hf; clear a; intro a hf
  first | refine o_v hf hh (yv_addx (.inr rfl) rfl rfl (by omega) (by simp only [IntKind.top]; omega)) ?_; clear hf a; intro a hf | refine o_v hf hh (yv_bin rfl rfl rfl) ?_; clear hf a; intro a hf
  refine ops_v hf hh (yv_cast (yv_assign rfl) (intv (b := ((sw1 x : Nat) : Int)) rfl)) (.inl rfl) rfl rfl rfl ?_; clear hf; clear a; intro a hf
  refine o_end ?_
  refine sy_sq ?_
  refine o_v hf hh (yv_move rfl) ?_; clear hf a; intro a hf
  refine ops_v hf hh (yv_cast (yv_shrx (.inr rfl) rfl rfl (by omega) (by omega) (by omega)) (intv (b := ((((sw1 x)) / 4 : Nat) : Int)) (by simp [Nat.shiftRight_eq_div_pow]))) (.inl rfl) rfl rfl rfl ?_; clear hf; clear a; intro a hf
  refine ops_v hf hh (yv_cast (yv_and (.inr rfl) rfl rfl (by omega) (by simp only [IntKind.top]; omega) (by omega) (by simp only [IntKind.top]; omega)) (intv (b := ((sw1 x / 4 &&& 3689348814741910323 : Nat) : Int)) rfl)) (.inl rfl) rfl rfl rfl ?_; clear hf; clear a; intro a hf
  refine o_v hf hh (yv_move rfl) ?_; clear hf a; intro a hf
  refine ops_v hf hh (yv_cast (yv_and (.inr rfl) rfl rfl (by omega) (by simp only [IntKind.top]; omega) (by omega) (by simp only [IntKind.top]; omega)) (intv (b := ((sw1 x &&& 3689348814741910323 : Nat) : Int)) rfl)) (.inl rfl) rfl rfl rfl ?_; clear hf; clear a; intro a hf
  first | refine o_v hf hh (yv_addx (.inr rfl) rfl rfl (by omega) (by simp only [IntKind.top]; omega)) ?_; clear hf a; intro a hf | refine o_v hf hh (yv_bin rfl rfl rfl) ?_; clear hf a; intro a hf
  refine ops_v hf hh (yv_cast (yv_assign rfl) (intv (b := ((sw2 (sw1 x) : Nat) : Int)) rfl)) (.inl rfl) rfl rfl rfl ?_; clear hf; clear a; intro a hf
  refine o_end ?_
  refine sy_sq ?_
  refine o_v hf hh (yv_move rfl) ?_; clear hf a; intro a hf
  refine ops_v hf hh (yv_cast (yv_shrx (.inr rfl) rfl rfl (by omega) (by omega) (by omega)) (intv (b := ((((sw2 (sw1 x))) / 16 : Nat) : Int)) (by simp [Nat.shiftRight_eq_div_pow]))) (.inl rfl) rfl rfl rfl ?_; clear hf; clear a; intro a hf
  refine o_v hf hh (yv_move rfl) ?_; clear hf a; intro a hf
  first | refine o_v hf hh (yv_addx (.inr rfl) rfl rfl (by omega) (by simp only [IntKind.top]; omega)) ?_; clear hf a; intro a hf | refine o_v hf hh (yv_bin rfl rfl rfl) ?_; clear hf a; intro a hf
  first | refine o_v hf hh (yv_and (.inr rfl) rfl rfl (by omega) (by simp only [IntKind.top]; omega) (by omega) (by simp only [IntKind.top]; omega)) ?_; clear hf a; intro a hf | refine o_v hf hh (yv_bin rfl rfl rfl) ?_; clear hf a; intro a hf
  refine ops_v hf hh (yv_cast (yv_assign rfl) (intv (b := ((sw3 (sw2 (sw1 x)) : Nat) : Int)) rfl)) (.inl rfl) rfl rfl rfl ?_; clear hf; clear a; intro a hf
  refine o_end ?_
  refine sy_sq ?_
  refine o_v hf hh (yv_move rfl) ?_; clear hf a; intro a hf
  refine o_v hf hh (yv_move rfl) ?_; clear hf a; intro a hf
  refine ops_v hf hh (yv_cast (yv_shrx (.inr rfl) rfl rfl (by omega) (by omega) (by omega)) (intv (b := ((((sw3 (sw2 (sw1 x)))) / 256 : Nat) : Int)) (by simp [Nat.shiftRight_eq_div_pow]))) (.inl rfl) rfl rfl rfl ?_; clear hf; clear a; intro a hf
  first | refine o_v hf hh (yv_addx (.inr rfl) rfl rfl (by omega) (by simp only [IntKind.top]; omega)) ?_; clear hf a; intro a hf | refine o_v hf hh (yv_bin rfl rfl rfl) ?_; clear hf a; intro a hf
  refine ops_v hf hh (yv_cast (yv_assign rfl) (intv (b := ((sw4 (sw3 (sw2 (sw1 x))) : Nat) : Int)) rfl)) (.inl rfl) rfl rfl rfl ?_; clear hf; clear a; intro a hf
  refine o_end ?_
  refine sy_sq ?_
  refine o_v hf hh (yv_move rfl) ?_; clear hf a; intro a hf
  refine o_v hf hh (yv_move rfl) ?_; clear hf a; intro a hf
  refine ops_v hf hh (yv_cast (yv_shrx (.inr rfl) rfl rfl (by omega) (by omega) (by omega)) (intv (b := ((((sw4 (sw3 (sw2 (sw1 x))))) / 65536 : Nat) : Int)) (by simp [Nat.shiftRight_eq_div_pow]))) (.inl rfl) rfl rfl rfl ?_; clear hf; clear a; intro a hf
  first | refine o_v hf hh (yv_addx (.inr rfl) rfl rfl (by omega) (by simp only [IntKind.top]; omega)) ?_; clear hf a; intro a hf | refine o_v hf hh (yv_bin rfl rfl rfl) ?_; clear hf a; intro a hf
  refine ops_v hf hh (yv_cast (yv_assign rfl) (intv (b := ((sw5 (sw4 (sw3 (sw2 (sw1 x)))) : Nat) : Int)) rfl)) (.inl rfl) rfl rfl rfl ?_; clear hf; clear a; intro a hf
  refine o_end ?_
  refine sy_sq ?_
  refine o_v hf hh (yv_move rfl) ?_; clear hf a; intro a hf
  refine o_v hf hh (yv_move rfl) ?_; clear hf a; intro a hf
  refine ops_v hf hh (yv_cast (yv_shrx (.inr rfl) rfl rfl (by omega) (by omega) (by omega)) (intv (b := ((((sw5 (sw4 (sw3 (sw2 (sw1 x)))))) / 4294967296 : Nat) : Int)) (by simp [Nat.shiftRight_eq_div_pow]))) (.inl rfl) rfl rfl rfl ?_; clear hf; clear a; intro a hf
  first | refine o_v hf hh (yv_addx (.inr rfl) rfl rfl (by omega) (by simp only [IntKind.top]; omega)) ?_; clear hf a; intro a hf | refine o_v hf hh (yv_bin rfl rfl rfl) ?_; clear hf a; intro a hf
  refine ops_v hf hh (yv_cast (yv_assign rfl) (intv (b := ((sw6 (sw5 (sw4 (sw3 (sw2 (sw1 x))))) : Nat) : Int)) rfl)) (.inl rfl) rfl rfl rfl ?_; clear hf; clear a; intro a hf
  refine o_end ?_
  refine sy_sq ?_
  refine o_v hf hh (yv_move rfl) ?_; clear hf a; intro a hf
  first | refine o_v hf hh (yv_convx (.inl rfl) (by kernel_rfl) Tryz.un_3 rfl (by omega) (by simp only [IntKind.top]; omega)) ?_; clear hf a; intro a hf | refine o_v hf hh (yv_conv (by kernel_rfl) Tryz.un_3 rfl) ?_; clear hf a; intro a hf
  first | refine o_v hf hh (yv_and (.inl rfl) rfl rfl (by omega) (by simp only [IntKind.top]; omega) (by omega) (by simp only [IntKind.top]; omega)) ?_; clear hf a; intro a hf | refine o_v hf hh (yv_bin rfl rfl rfl) ?_; clear hf a; intro a hf
  refine o_v hf hh (yv_assign rfl) ?_; clear hf a; intro a hf
  refine o_end ?_
  refine sy_ret ?_
  refine ret_r hf rfl rfl ?_
  refine ⟨?_, hh.ext⟩
  rw [← sw_pc hx]
  exact intv (by unfold sw; rfl)
theorem c67 (x : Nat) (hx : x < 65536) (w : World) : Calls Tryz.prog 76 #[.int .u64 x] w (Ret fun v w' => v = .int .i64 (pc x) ∧ Ext [] w w') := by
  refine calls_of Tryz.func76 rfl rfl (fun a hf => ?_)
  have hh := Hp.init w []
  refine sy_sq ?_
  refine o_v hf hh (yv_assign rfl) ?_; clear hf a; intro a hf
  refine o_end ?_
  refine sy_seq ?_
  refine c_f hf ?_
  refine sy_skip ?_
  refine then_n ?_
  refine sy_sq ?_
  refine o_v hf hh (yv_move rfl) ?_; clear hf a; intro a hf
  refine o_call hf Tryz.en_94 rfl rfl rfl (c93 x hx _) ?_; clear hf a; intro v a w hR hf
  obtain ⟨rfl, hx⟩ := hR; replace hh := hh.more hx; clear hx
  refine o_v hf hh (yv_assign rfl) ?_; clear hf a; intro a hf
  refine o_end ?_
  refine sy_ret ?_
  refine ret_r hf rfl rfl ?_
  exact ⟨rfl, hh.ext⟩
/-- The library's table for lowest bits lies in its variable. -/
def GTab (w : World) : Prop := ∃ c T fr, w.heap[1]? = some (.cells c T fr) ∧ ∀ j, j < 64 → c[j]? = some (.int .u8 (Lib.deBruijn64tab.getD j 0))
theorem GTab.ext {w w' : World} {M : List Nat} (h : GTab w) (e : Ext M w w') (hm : 1 ∉ M) : GTab w' :=
  let ⟨c, T, fr, h1, h2⟩ := h
  ⟨c, T, fr, e.getM h1 hm, h2⟩
theorem tz_idx (x : Nat) (hx : x < 65536) (hx0 : x ≠ 0) : (IntKind.u64.wrap (IntKind.u64.wrap ((BitVec.ofInt IntKind.u64.bits (x : Int) &&& BitVec.ofInt IntKind.u64.bits (IntKind.u64.wrap (0 - (x : Int)))).toNat : Int) * 285870213051353865)).fdiv (2 ^ (58 : Int).toNat) =
    ((2 ^ Lib.ctz 64 x * 285870213051353865 % 18446744073709551616 / 288230376151711744 : Nat) : Int) := by
  obtain ⟨hlow, _⟩ := Lib.lowest_bit 64 x hx0 (by omega)
  have h := tz64_key x _ (by omega) hx0 hlow
  rw [Int.zero_sub, Int.fdiv_eq_ediv_of_nonneg _ (Int.pow_nonneg (by omega))]
  exact h
theorem tz_all (x : Nat) (hx : x < 65536) (hx0 : x ≠ 0) (w : World) (hT : GTab w) : ∃ (n1 n2 n3 : Int) (idx : Nat) (c : Array Value) (T : TypeId) (fr : Nat × Nat),
    IntKind.u64.wrap (0 - (x : Int)) = n1 ∧ IntKind.u64.wrap ((BitVec.ofInt IntKind.u64.bits (x : Int) &&& BitVec.ofInt IntKind.u64.bits n1).toNat : Int) = n2 ∧ IntKind.u64.wrap (n2 * 285870213051353865) = n3 ∧
    n3.fdiv (2 ^ (58 : Int).toNat) = (idx : Int) ∧ idx < 64 ∧ w.heap[1]? = some (.cells c T fr) ∧ c[0 + idx * 1]? = some (.int .u8 (Lib.ctz 64 x)) ∧ Lib.ctz 64 x < 64 := by
  obtain ⟨c, T, fr, hb, hc⟩ := hT
  obtain ⟨_, hk⟩ := Lib.lowest_bit 64 x hx0 (by omega)
  obtain ⟨hi, htab⟩ := Lib.deBruijn64_at _ hk
  have hcc := hc _ hi
  rw [htab] at hcc
  exact ⟨_, _, _, _, c, T, fr, rfl, rfl, rfl, tz_idx x hx hx0, hi, hb, by rw [Nat.zero_add, Nat.mul_one]; exact hcc, hk⟩
theorem c49 (d : RowsD) (sa sb : Option Addr) (ca cb : Nat) (u : World) (hA : MkAt u sa d.l) (hB : MkAt u sb d.r) (ok : Bool) : Calls Tryz.prog 77 #[rowsV d sa sb ca cb, .bool ok] u (Ret fun v w' => ∃ p e X, v = .tuple #[p, .int .i64 (e : Int)] ∧ ((e = 0 ∧ okRows d = true ∧ ok = true ∧ need d ≤ mos (fitD d) d.l.length d.r.length 0 0 ∧ ∃ B cs, p = ptr B 0 ∧ RowA d sa sb ca cb (fitD d) cs ∧ X = [(B, .cells cs 122)]) ∨ (e = 1 ∧ okRows d = false) ∨ (e = 2 ∧ okRows d = true ∧ ok = false) ∨ (e = 4 ∧ okRows d = true ∧ ok = true ∧ ¬ need d ≤ mos (fitD d) d.l.length d.r.length 0 0)) ∧ Hp u [] X w') := by
  refine calls_of Tryz.func77 rfl rfl (fun a hf => ?_)
  have hh := Hp.init u []
  refine sy_sq ?_
  refine o_box hf hh ?_; clear hf hh a; intro B2 a w hf hh
  refine o_v hf hh (yv_assign rfl) ?_; clear hf a; intro a hf
  refine o_v hf hh (yv_assign rfl) ?_; clear hf a; intro a hf
  refine o_end ?_
  refine sy_seq ?_
  refine sy_block ?_
  refine sy_sq ?_
  refine o_v hf hh (y_lds Tryz.ag_26 rfl) ?_; clear hf a; intro a hf
  refine o_call hf Tryz.en_73 rfl rfl rfl (c42 d sa sb ca cb _ (hA.ext hh.ext) (hB.ext hh.ext)) ?_; clear hf a; intro v a w hR hf
  obtain ⟨rfl, hx⟩ := hR; replace hh := hh.more hx; clear hx
  refine o_v hf hh (yv_not rfl) ?_; clear hf a; intro a hf
  refine o_v hf hh (yv_assign rfl) ?_; clear hf a; intro a hf
  refine o_end ?_
  refine sy_cond hf rfl (fun hg2 => ?_) (fun hg2 => ?_)
  ·have hG2 := hg2; try simp only [gS] at hG2
   refine sy_sq ?_
   refine o_v hf hh (yv_assign rfl) ?_; clear hf a; intro a hf
   refine o_v hf hh (yv_assign rfl) ?_; clear hf a; intro a hf
   refine o_end ?_
   refine sy_ret ?_
   refine blk_r ?_
   refine then_r ?_
   refine ret_r hf rfl rfl ?_
   exact ⟨_, 1, [], rfl, .inr (.inl ⟨rfl, by simp_all⟩), hh.less (List.nil_sublist _)⟩
  ·have hG2 := hg2; try simp only [gS] at hG2
   refine sy_sq ?_
   refine o_v hf hh (yv_move rfl) ?_; clear hf a; intro a hf
   refine o_v hf hh (yv_not rfl) ?_; clear hf a; intro a hf
   refine o_v hf hh (yv_assign rfl) ?_; clear hf a; intro a hf
   refine o_end ?_
   refine sy_cond hf rfl (fun hg4 => ?_) (fun hg4 => ?_)
   ·have hG4 := hg4; try simp only [gS] at hG4
    refine sy_sq ?_
    refine o_v hf hh (yv_assign rfl) ?_; clear hf a; intro a hf
    refine o_v hf hh (yv_assign rfl) ?_; clear hf a; intro a hf
    refine o_end ?_
    refine sy_ret ?_
    refine blk_r ?_
    refine then_r ?_
    refine ret_r hf rfl rfl ?_
    exact ⟨_, 2, [], rfl, .inr (.inr (.inl ⟨rfl, by simp_all, by simp_all⟩)), hh.less (List.nil_sublist _)⟩
   ·have hG4 := hg4; try simp only [gS] at hG4
    refine sy_skip ?_
    refine blk_n ?_
    refine then_n ?_
    refine sy_seq ?_
    have hV : Valid d := (okRows_iff d).1 (by simp_all)
    refine sy_ops ?_
    refine o_v hf hh (y_lds Tryz.ag_26 rfl) ?_; clear hf a; intro a hf
    refine o_call hf Tryz.en_75 rfl rfl rfl (c44 d sa sb ca cb _ (hA.ext hh.ext) (hB.ext hh.ext) hV) ?_; clear hf a; intro v a w hR hf
    obtain ⟨Bo, cso, rfl, hRo, hx⟩ := hR; replace hh := hh.join hx; clear hx
    refine o_v hf hh (yv_assign rfl) ?_; clear hf a; intro a hf
    refine o_end ?_
    refine sy_seq ?_
    refine sy_sq ?_
    refine o_v hf hh (yv_move rfl) ?_; clear hf a; intro a hf
    refine o_call hf Tryz.en_95 rfl rfl rfl (c88 d sa sb ca cb (fitD d) Bo _ ⟨⟨cso, hh.at (i := 0) rfl, hRo⟩, hV.nl, hV.nr⟩ hV) ?_; clear hf a; intro v a w hR hf
    obtain ⟨rfl, hx⟩ := hR; replace hh := hh.more hx; clear hx
    refine o_v hf hh (yv_not rfl) ?_; clear hf a; intro a hf
    refine o_end ?_
    refine sy_cond hf rfl (fun hg7 => ?_) (fun hg7 => ?_)
    ·have hG7 := hg7; try simp only [gS] at hG7
     refine sy_sq ?_
     refine o_v hf hh (yv_assign rfl) ?_; clear hf a; intro a hf
     refine o_v hf hh (yv_assign rfl) ?_; clear hf a; intro a hf
     refine o_end ?_
     refine sy_ret ?_
     refine then_r ?_
     refine ret_r hf rfl rfl ?_
     exact ⟨_, 4, [], rfl, .inr (.inr (.inr ⟨rfl, by simp_all, by simp_all, by simp_all⟩)), hh.less (List.nil_sublist _)⟩
    ·have hG7 := hg7; try simp only [gS] at hG7
     refine sy_skip ?_
     refine then_n ?_
     refine sy_sq ?_
     refine o_v hf hh (yv_move rfl) ?_; clear hf a; intro a hf
     refine o_v hf hh (yv_assign rfl) ?_; clear hf a; intro a hf
     refine o_v hf hh (yv_assign rfl) ?_; clear hf a; intro a hf
     refine o_end ?_
     refine sy_ret ?_
     refine ret_r hf rfl rfl ?_
     exact ⟨_, 0, _, rfl, .inl ⟨rfl, by simp_all, by simp_all, by simp_all, Bo, cso, rfl, hRo, rfl⟩, hh.less (.cons_cons _ (List.nil_sublist _))⟩
end Go.Proofs.YtidieepndphodaaGreat
namespace Go.Proofs.YtidieepndphodaaGreat
open Go Go.Sy Go.MatM
theorem c49e (d : RowsD) (sa sb : Option Addr) (ca cb : Nat) (u : World) (hA : MkAt u sa d.l) (hB : MkAt u sb d.r) (ok : Bool) : Calls Tryz.prog 77 #[rowsV d sa sb ca cb, .bool ok] u (Ret fun v w' => ∃ p X, v = .tuple #[p, .int .i64 (opE d ok)] ∧ (opE d ok = 0 → ∃ B cs, p = ptr B 0 ∧ RowA d sa sb ca cb (fitD d) cs ∧ X = [(B, .cells cs 122)]) ∧ Hp u [] X w') :=
  Calls.ret_mono (c49 d sa sb ca cb u hA hB ok) fun v w' ⟨p, e, X, h1, h2, h3⟩ => by
    refine ⟨p, X, ?_, ?_, h3⟩
    · rw [h1]
      rcases h2 with ⟨rfl, a, b, c, _⟩ | ⟨rfl, a⟩ | ⟨rfl, a, b⟩ | ⟨rfl, a, b, c⟩
      · simp [opE, isD, a, b, c]
      · simp [opE, a]
      · simp [opE, a, b]
      · simp [opE, isD, a, b, c]
    · intro h
      obtain ⟨a, b, c⟩ := opE_zero.1 h
      rcases h2 with ⟨rfl, _, _, _, h4⟩ | ⟨rfl, a'⟩ | ⟨rfl, a', b'⟩ | ⟨rfl, a', b', c'⟩
      · exact h4
      · rw [a] at a'; cases a'
      · rw [b] at b'; cases b'
      · exact absurd (of_decide_eq_true c) c' 
theorem c15 (d : RowsD) (sa sb : Option Addr) (ca cb : Nat) (u : World) (hA : MkAt u sa d.l) (hB : MkAt u sb d.r) (l r : Int) (hl : -9223372036854775808 ≤ l ∧ l ≤ 9223372036854775807) (hr : -9223372036854775808 ≤ r ∧ r ≤ 9223372036854775807) : Calls Tryz.prog 59 #[rowsV d sa sb ca cb, .int .i64 l, .int .i64 r] u (Ret fun v w' => v = .tuple #[.bool (fitsV d l r), .int .i64 (fitsE d l r)] ∧ Ext [] u w') := by
  refine calls_of Tryz.func59 rfl rfl (fun a hf => ?_)
  have hh := Hp.init u []
  refine sy_sq ?_
  refine o_box hf hh ?_; clear hf hh a; intro B3 a w hf hh
  refine o_v hf hh (yv_assign rfl) ?_; clear hf a; intro a hf
  refine o_v hf hh (yv_assign rfl) ?_; clear hf a; intro a hf
  refine o_end ?_
  refine sy_seq ?_
  refine sy_block ?_
  refine sy_sq ?_
  refine o_v hf hh (y_lds Tryz.ag_26 rfl) ?_; clear hf a; intro a hf
  refine o_call hf Tryz.en_73 rfl rfl rfl (c42 d sa sb ca cb _ (hA.ext hh.ext) (hB.ext hh.ext)) ?_; clear hf a; intro v a w hR hf
  obtain ⟨rfl, hx⟩ := hR; replace hh := hh.more hx; clear hx
  refine o_v hf hh (yv_not rfl) ?_; clear hf a; intro a hf
  refine o_v hf hh (yv_assign rfl) ?_; clear hf a; intro a hf
  refine o_end ?_
  refine sy_cond hf rfl (fun hg2 => ?_) (fun hg2 => ?_)
  ·have hG2 := hg2; try simp only [gS] at hG2
   refine sy_sq ?_
   refine o_v hf hh (yv_assign rfl) ?_; clear hf a; intro a hf
   refine o_v hf hh (yv_assign rfl) ?_; clear hf a; intro a hf
   refine o_end ?_
   refine sy_ret ?_
   refine blk_r ?_
   refine then_r ?_
   refine ret_r hf rfl rfl ?_
   have hE : fitsE d l r = 1 := by unfold fitsE; rw [if_pos (by simp_all)]
   exact ⟨by simp [fitsV, hE, tup], hh.ext⟩
  ·have hG2 := hg2; try simp only [gS] at hG2
   refine sy_seq ?_
   have hok : okRows d = true := by simp_all
   have hV := (okRows_iff d).1 hok
   have hnl := hV.nl; have hnr := hV.nr
   refine sy_ops ?_
   refine o_v hf hh (yv_move rfl) ?_; clear hf a; intro a hf
   refine o_v hf hh (yv_fieldAddr Tryz.fo_26_0 rfl) ?_; clear hf a; intro a hf
   refine o_v hf hh (y_ld Tryz.sc_22 rfl) ?_; clear hf a; intro a hf
   refine o_v hf hh (yv_len Tryz.se_22 rfl) ?_; clear hf a; intro a hf
   refine o_v hf hh (y_sub rfl rfl) ?_; clear hf a; intro a hf
   refine o_call hf Tryz.en_74 rfl rfl rfl (c43 _ _ _ _) ?_; clear hf a; intro v a w hR hf
   obtain ⟨rfl, hx⟩ := hR; replace hh := hh.more hx; clear hx
   refine o_v hf hh (yv_not rfl) ?_; clear hf a; intro a hf
   refine o_v hf hh (yv_move rfl) ?_; clear hf a; intro a hf
   refine guard_split hf (t := 20) rfl (fun hg4 => ?_) (fun hg4 => ?_)
   ·have hG4 := hg4; try simp only [gS] at hG4
    refine o_off hf ?_; clear hf a; intro a hf
    refine o_off hf ?_; clear hf a; intro a hf
    refine o_off hf ?_; clear hf a; intro a hf
    refine o_off hf ?_; clear hf a; intro a hf
    refine o_off hf ?_; clear hf a; intro a hf
    refine o_off hf ?_; clear hf a; intro a hf
    refine o_off hf ?_; clear hf a; intro a hf
    refine o_v hf hh (y_pt rfl rfl) ?_; clear hf a; intro a hf
    refine o_v hf hh (yv_assign rfl) ?_; clear hf a; intro a hf
    refine o_end ?_
    refine c_t hf ?_
    refine sy_sq ?_
    refine o_v hf hh (yv_assign rfl) ?_; clear hf a; intro a hf
    refine o_v hf hh (yv_assign rfl) ?_; clear hf a; intro a hf
    refine o_end ?_
    refine sy_ret ?_
    refine blk_r ?_
    refine then_r ?_
    refine ret_r hf rfl rfl ?_
    first
      | (have hE : fitsE d l r = 2 := by unfold fitsE inB; rw [if_neg (by simp_all), if_pos (by first | (simp_all; done) | (simp_all; omega))]
         exact ⟨by simp [fitsV, hE, tup], hh.ext⟩)
      | exact ⟨by simp [fitsV, hE, tup], hh.ext⟩
   ·have hG4 := hg4; try simp only [gS] at hG4
    refine o_v hf hh (yv_move rfl) ?_; clear hf a; intro a hf
    refine o_v hf hh (yv_fieldAddr Tryz.fo_26_1 rfl) ?_; clear hf a; intro a hf
    refine o_v hf hh (y_ld Tryz.sc_22 rfl) ?_; clear hf a; intro a hf
    refine o_v hf hh (yv_len Tryz.se_22 rfl) ?_; clear hf a; intro a hf
    refine o_v hf hh (y_sub rfl rfl) ?_; clear hf a; intro a hf
    refine o_call hf Tryz.en_74 rfl rfl rfl (c43 _ _ _ _) ?_; clear hf a; intro v a w hR hf
    obtain ⟨rfl, hx⟩ := hR; replace hh := hh.more hx; clear hx
    refine o_v hf hh (yv_not rfl) ?_; clear hf a; intro a hf
    refine o_v hf hh (y_pf rfl rfl) ?_; clear hf a; intro a hf
    refine o_v hf hh (yv_assign rfl) ?_; clear hf a; intro a hf
    refine o_end ?_
    refine sy_cond hf rfl (fun hg6 => ?_) (fun hg6 => ?_)
    ·have hG6 := hg6; try simp only [gS] at hG6
     refine sy_sq ?_
     refine o_v hf hh (yv_assign rfl) ?_; clear hf a; intro a hf
     refine o_v hf hh (yv_assign rfl) ?_; clear hf a; intro a hf
     refine o_end ?_
     refine sy_ret ?_
     refine blk_r ?_
     refine then_r ?_
     refine ret_r hf rfl rfl ?_
     first
       | (have hE : fitsE d l r = 2 := by unfold fitsE inB; rw [if_neg (by simp_all), if_pos (by first | (simp_all; done) | (simp_all; omega))]
          exact ⟨by simp [fitsV, hE, tup], hh.ext⟩)
       | exact ⟨by simp [fitsV, hE, tup], hh.ext⟩
    ·have hG6 := hg6; try simp only [gS] at hG6
     refine sy_skip ?_
     refine blk_n ?_
     refine then_n ?_
     refine sy_seq ?_
     have hin : (inB l d.l.length && inB r d.r.length) = true := by unfold inB; simp_all
     have hE : fitsE d l r = 0 := by simp [fitsE, hok, hin]
     obtain ⟨x, y, rfl, rfl, hx, hy⟩ : ∃ x y : Nat, l = (x : Int) ∧ r = (y : Int) ∧ x < d.l.length ∧ y < d.r.length := by
       unfold inB at hin
       simp only [Bool.and_eq_true, decide_eq_true_eq] at hin
       exact ⟨l.toNat, r.toNat, by omega, by omega, by omega, by omega⟩
     refine sy_ops ?_
     refine o_v hf hh (y_lds Tryz.ag_26 rfl) ?_; clear hf a; intro a hf
     refine o_call hf Tryz.en_75 rfl rfl rfl (c44 d sa sb ca cb _ (hA.ext hh.ext) (hB.ext hh.ext) hV) ?_; clear hf a; intro v a w hR hf
     obtain ⟨Bo, cso, rfl, hRo, hx2⟩ := hR; replace hh := hh.join hx2; clear hx2
     have hft := hRo.fitA (i := x) (k := y) (by omega) (by omega)
     refine o_v hf hh (yv_move rfl) ?_; clear hf a; intro a hf
     refine o_v hf hh (yv_move rfl) ?_; clear hf a; intro a hf
     refine o_v hf hh (yv_nilCheck rfl) ?_; clear hf a; intro a hf
     refine o_v hf hh (yv_fieldAddr Tryz.fo_122_1 rfl) ?_; clear hf a; intro a hf
     refine o_v hf hh (y_ia Tryz.ae_120 rfl rfl) ?_; clear hf a; intro a hf
     refine o_v hf hh (y_ia Tryz.ae_119 rfl rfl) ?_; clear hf a; intro a hf
     refine o_v hf hh (y_ld Tryz.sc_4 rfl) ?_; clear hf a; intro a hf
     refine o_v hf hh (yv_assign rfl) ?_; clear hf a; intro a hf
     refine o_v hf hh (yv_assign rfl) ?_; clear hf a; intro a hf
     refine o_end ?_
     refine sy_ret ?_
     refine ret_r hf rfl rfl ?_
     first
       | (have hE : fitsE d l r = 2 := by unfold fitsE inB; rw [if_neg (by simp_all), if_pos (by first | (simp_all; done) | (simp_all; omega))]
          exact ⟨by simp [fitsV, hE, tup], hh.ext⟩)
       | exact ⟨by simp [fitsV, hE, tup], hh.ext⟩
end Go.Proofs.YtidieepndphodaaGreat
namespace Go.Proofs.YtidieepndphodaaGreat
open Go Go.Sy Go.MatM
end Go.Proofs.YtidieepndphodaaGreat
namespace Go.Proofs.YtidieepndphodaaGreat
open Go Go.Sy Go.MatM
theorem OwnSl_val {e size m : Nat} {v : Value} {xs : List Value} {X : List (Nat × Obj)} (h : OwnSl e size v m xs X) : ∃ oa cap, v = .slice oa m cap := by
  rcases h.2 with ⟨h1, h2, _⟩ | ⟨B, cap, cur, h1, _⟩
  · exact ⟨none, 0, by rw [h1, h2]⟩
  · exact ⟨_, _, h1⟩
structure FewS where
  (n i k B8 B9 : Nat)
  done : List Pr
  v : Value
  X : List (Nat × Obj)
  Ds : List Nat
theorem grd_at {F : Nat → Nat → Bool} {L R i k n j : Nat} {p : Pr} (hp : (prs F L R i k)[j]? = some p) (h1 : 1 + mos F L R (p.1 + 1) (p.2 + 1) = n + 1) (hno : ∀ j2, j2 < j → ∀ q, (prs F L R i k)[j2]? = some q → ¬ 1 + mos F L R (q.1 + 1) (q.2 + 1) = n + 1) :
    grd F L R (n + 1) i k = p :: grd F L R n (p.1 + 1) (p.2 + 1) := by
  have e : (prs F L R i k).find? (fun p => decide (1 + mos F L R (p.1 + 1) (p.2 + 1) = n + 1)) = some p := by
    rw [List.find?_eq_some_iff_getElem]
    obtain ⟨hj, he⟩ := List.getElem?_eq_some_iff.1 hp
    refine ⟨decide_eq_true h1, j, hj, he, fun j2 hj2 => ?_⟩
    have := hno j2 hj2 _ (List.getElem?_eq_getElem (by omega))
    simp [this]
  simp only [grd, e]
theorem c19 (d : RowsD) (sa sb : Option Addr) (ca cb : Nat) (u : World) (hA : MkAt u sa d.l) (hB : MkAt u sb d.r) : Calls Tryz.prog 61 #[rowsV d sa sb ca cb] u (Ret fun v w' => ∃ sv X, v = .tuple #[sv, .int .i64 (fewH d), .int .i64 (opE d true)] ∧ OwnSl 100 2 sv (fewL d).length (encP (fewL d)) X ∧ Hp u [] X w') := by
  refine calls_ofM Tryz.func61 rfl rfl (fun a hf => ?_)
  have hh := Hp.init u []
  refine sy_sq ?_
  refine o_box hf hh ?_; clear hf hh a; intro B1 a w hf hh
  refine o_alloc hf hh Tryz.ze_103 ?_; clear hf hh a; intro B2 a w hf hh
  refine o_v hf hh (yv_assign rfl) ?_; clear hf a; intro a hf
  refine o_v hf hh (yv_assign rfl) ?_; clear hf a; intro a hf
  refine o_end ?_
  refine sy_sq ?_
  refine o_v hf hh (y_lds Tryz.ag_26 rfl) ?_; clear hf a; intro a hf
  refine o_call hf Tryz.en_77 rfl rfl rfl (c49e d sa sb ca cb _ (hA.ext hh.ext) (hB.ext hh.ext) true) ?_; clear hf a; intro v a w hR hf
  obtain ⟨p, Xp, rfl, hp0, hx⟩ := hR; replace hh := hh.join hx; clear hx
  refine o_v hf hh (yv_move rfl) ?_; clear hf a; intro a hf
  refine o_v hf hh (yv_extract rfl rfl) ?_; clear hf a; intro a hf
  refine o_v hf hh (yv_extract rfl rfl) ?_; clear hf a; intro a hf
  refine o_v hf hh (yv_assign rfl) ?_; clear hf a; intro a hf
  refine o_v hf hh (yv_assign rfl) ?_; clear hf a; intro a hf
  refine o_end ?_
  refine sy_seq ?_
  refine sy_sq ?_
  refine o_v hf hh (yv_move rfl) ?_; clear hf a; intro a hf
  refine o_v hf hh (yv_bin rfl rfl rfl) ?_; clear hf a; intro a hf
  refine o_end ?_
  refine sy_cond hf rfl (fun hg5 => ?_) (fun hg5 => ?_)
  ·have hG5 := hg5; try simp only [gS] at hG5
   refine sy_seq ?_
   replace hh := hh.less (List.sublist_append_right Xp _)
   refine sy_ops ?_
   refine o_v hf hh (yv_move rfl) ?_; clear hf a; intro a hf
   refine o_store hf hh Tryz.sz_103 fun w hh => ?_
   refine o_v hf hh (yv_assign rfl) ?_; clear hf a; intro a hf
   refine o_v hf hh (yv_assign rfl) ?_; clear hf a; intro a hf
   refine o_end ?_
   refine sy_ret ?_
   refine then_r ?_
   have hne : ¬ opE d true = 0 := by simp_all
   have eL : fewL d = [] := by unfold fewL; rw [if_neg hne]
   have eH : fewH d = 0 := by unfold fewH; rw [if_neg hne]
   rw [eL, eH]
   exact ret_m (Ds := []) hf hh fun w' hh => ⟨[.slice none 0 0, .int .i64 0, .int .i64 (opE d true)], ⟨⟨B2, 0, _, _, _, rfl, hh.at (i := 0) rfl, .inl ⟨Tryz.sc_103, rfl⟩⟩, rfl, rfl, True.intro⟩, _, [], rfl, OwnSl.nil _ _, hh.less (List.nil_sublist _)⟩
  ·have hG5 := hg5; try simp only [gS] at hG5
   refine sy_skip ?_
   refine then_n ?_
   refine sy_seq ?_
   have hop : opE d true = 0 := by simp_all
   obtain ⟨Bo, cso, rfl, hRo, rfl⟩ := hp0 hop
   obtain ⟨hok, _, his⟩ := opE_zero.1 hop
   have hV := (okRows_iff d).1 hok
   have hnl := hV.nl; have hnr := hV.nr
   clear hp0
   obtain ⟨cg, hcg⟩ : ∃ cg, cg = gridV 11 11 (mosG (fitD d) d.l.length d.r.length) := ⟨_, rfl⟩
   have hG : Grid 11 11 (mosG (fitD d) d.l.length d.r.length) cg := hcg ▸ gridV_grid 11 11 _
   have hml := mos_le (fitD d) d.l.length d.r.length 0 0
   have hz := hG.size
   refine sy_ops ?_
   refine o_v hf hh (yv_move rfl) ?_; clear hf a; intro a hf
   refine o_call hf Tryz.en_78 rfl rfl rfl (c50 d sa sb ca cb (fitD d) Bo _ ⟨⟨cso, hh.get (Bo, .cells cso 122) (by simp), hRo⟩, hnl, hnr⟩) ?_; clear hf a; intro v a w hR hf
   rw [← hcg] at hR
   obtain ⟨rfl, hx⟩ := hR; replace hh := hh.more hx; clear hx
   refine o_alloc hf hh Tryz.ze_129 ?_; clear hf hh a; intro B6 a w hf hh
   refine o_store hf hh Tryz.sz_129 (hx := rfl) (hi := atI (i := 0) rfl) (hy := rfl) (hv := hG.size) (h1 := hG.one) fun w hh => ?_
   replace hh : Hp u [] [(B6, .cells cg 129), (Bo, .cells cso 122), (B2, .cells #[.slice none 0 0] 103), (B1, .cells (rowsV d sa sb ca cb).cells 26)] w := by
    have e : ∀ z : Array Value, z.size = 121 → spl z 0 cg.toList = cg := fun z hz2 => spl_all (by rw [hz2, hz])
    have h2 := hh
    simp only [List.set_cons_zero] at h2
    rw [show (Value.agg cg).cells.toList = cg.toList from rfl, e _ rfl] at h2
    exact h2
   refine o_end ?_
   refine sy_seq ?_
   have g0 := grid11 hG (i := 0) (k := 0) (by omega) (by omega)
   have g00 : cg[0 + (0 : Int).toNat * 11 + (0 : Int).toNat * 1]? = some (.int .i64 (mosD d)) := g0
   refine sy_ops ?_
   refine o_v hf hh (y_ia Tryz.ae_129 rfl rfl) ?_; clear hf a; intro a hf
   refine o_v hf hh (y_ia Tryz.ae_128 rfl rfl) ?_; clear hf a; intro a hf
   refine o_v hf hh (y_ld Tryz.sc_3 rfl) ?_; clear hf a; intro a hf
   refine o_alloc hf hh Tryz.ze_3 ?_; clear hf hh a; intro B7 a w hf hh
   refine o_store hf hh Tryz.sz_3 fun w hh => ?_
   refine o_end ?_
   refine sy_seq ?_
   have hmd : mosD d ≤ d.l.length - 0 ∧ mosD d ≤ d.r.length - 0 := hml
   refine sy_ops ?_
   refine o_v hf hh (yv_fieldAddr Tryz.fo_26_0 rfl) ?_; clear hf a; intro a hf
   refine o_v hf hh (y_ld Tryz.sc_22 rfl) ?_; clear hf a; intro a hf
   refine o_v hf hh (yv_len Tryz.se_22 rfl) ?_; clear hf a; intro a hf
   refine o_v hf hh (yv_fieldAddr Tryz.fo_26_1 rfl) ?_; clear hf a; intro a hf
   refine o_v hf hh (y_ld Tryz.sc_22 rfl) ?_; clear hf a; intro a hf
   refine o_v hf hh (yv_len Tryz.se_22 rfl) ?_; clear hf a; intro a hf
   refine o_v hf hh (y_add rfl rfl) ?_; clear hf a; intro a hf
   refine o_v hf hh (y_ld Tryz.sc_3 rfl) ?_; clear hf a; intro a hf
   refine o_v hf hh (y_mul rfl rfl) ?_; clear hf a; intro a hf
   refine o_v hf hh (y_sub rfl rfl) ?_; clear hf a; intro a hf
   refine o_v hf hh (yv_assign rfl) ?_; clear hf a; intro a hf
   refine o_end ?_
   refine sy_seq ?_
   refine sy_sq ?_
   refine o_alloc hf hh Tryz.ze_3 ?_; clear hf hh a; intro B8 a w hf hh
   refine o_alloc hf hh Tryz.ze_3 ?_; clear hf hh a; intro B9 a w hf hh
   refine o_store hf hh Tryz.sz_3 fun w hh => ?_
   refine o_store hf hh Tryz.sz_3 fun w hh => ?_
   refine o_end ?_
   refine sy_block ?_
   refine sy_loopM (σ := FewS) [8, 9, 34, 35, 36, 37, 38, 39, 40, 41, 65, 66] (fun s => mkd (s.Ds)) (fun s => [(8, ptr s.B8 0), (9, ptr s.B9 0)]) (fun s => fun w => mos (fitD d) d.l.length d.r.length s.i s.k = s.n ∧ s.i ≤ 10 ∧ s.k ≤ 10 ∧ s.n ≤ 10 ∧ s.done.length ≤ 10 - s.n ∧ grd (fitD d) d.l.length d.r.length (mosD d) 0 0 = s.done ++ grd (fitD d) d.l.length d.r.length s.n s.i s.k ∧ OwnSl 100 2 s.v s.done.length (encP s.done) s.X ∧ Hp u [] ([(s.B9, .cells #[.int .i64 s.k] 3), (s.B8, .cells #[.int .i64 s.i] 3), (B7, .cells #[.int .i64 s.n] 3), (B6, .cells cg 129), (Bo, .cells cso 122), (B2, .cells #[s.v] 103), (B1, .cells (rowsV d sa sb ca cb).cells 26)] ++ (s.X ++ dls s.Ds)) w) (fun s => s.n) (⟨mosD d, 0, 0, B8, B9, [], .slice none 0 0, [], []⟩) hf rfl ?_ ?_ ?_
   · repeat' (first | exact True.intro | refine And.intro rfl ?_)
   · exact ⟨rfl, Nat.zero_le _, Nat.zero_le _, by simp only; omega, by simp, rfl, OwnSl.nil _ _, hh⟩
   ·rintro s a w ⟨hms, hi10, hk10, hn10, hdl, hgr, hown, hh⟩ hf
    refine sy_seq ?_
    refine sy_sq ?_
    refine o_v hf hh (y_ld Tryz.sc_3 rfl) ?_; clear hf a; intro a hf
    refine o_v hf hh (yv_bin rfl rfl rfl) ?_; clear hf a; intro a hf
    refine o_end ?_
    refine sy_cond hf rfl (fun hg8 => ?_) (fun hg8 => ?_)
    ·have hG8 := hg8; try simp only [gS] at hG8
     refine sy_skip ?_
     refine then_n ?_
     refine sy_seq ?_
     refine sy_block ?_
     refine sy_scope ?_
     refine sy_seq ?_
     refine sy_label ?_
     refine then_n ?_
     refine sy_seq ?_
     obtain ⟨n, hn⟩ : ∃ n, s.n = n + 1 := ⟨s.n - 1, by omega⟩
     refine sy_ops ?_
     refine o_v hf hh (yv_move rfl) ?_; clear hf a; intro a hf
     refine o_v hf hh (y_ld Tryz.sc_3 rfl) ?_; clear hf a; intro a hf
     refine o_v hf hh (y_ld Tryz.sc_3 rfl) ?_; clear hf a; intro a hf
     refine o_call hf Tryz.en_79 rfl rfl rfl (c51 Bo s.i s.k _) ?_; clear hf a; intro v a w hR hf
     obtain ⟨Ba, Bi, Bk, rfl, hx⟩ := hR; replace hh := hh.join hx; clear hx
     refine o_end ?_
     refine sy_block ?_
     refine sy_range (I := fun j H => (∀ j2, j2 < j → ∀ q, (prs (fitD d) d.l.length d.r.length s.i s.k)[j2]? = some q → ¬ 1 + mos (fitD d) d.l.length d.r.length (q.1 + 1) (q.2 + 1) = s.n) ∧ H = [(Bk, .cells #[.int .i64 s.k] 3), (Bi, .cells #[.int .i64 s.i] 3), (Ba, .cells #[ptr Bo 0] 123)] ++ ([(s.B9, .cells #[.int .i64 s.k] 3), (s.B8, .cells #[.int .i64 s.i] 3), (B7, .cells #[.int .i64 s.n] 3), (B6, .cells cg 129), (Bo, .cells cso 122), (B2, .cells #[s.v] 103), (B1, .cells (rowsV d sa sb ca cb).cells 26)] ++ (s.X ++ dls s.Ds))) (X := fun j c H => c = .exit 2 ∧ ∃ p v2 X2, (prs (fitD d) d.l.length d.r.length s.i s.k)[j]? = some p ∧ 1 + mos (fitD d) d.l.length d.r.length (p.1 + 1) (p.2 + 1) = s.n ∧ (∀ j2, j2 < j → ∀ q, (prs (fitD d) d.l.length d.r.length s.i s.k)[j2]? = some q → ¬ 1 + mos (fitD d) d.l.length d.r.length (q.1 + 1) (q.2 + 1) = s.n) ∧ OwnSl 100 2 v2 (s.done.length + 1) (encP s.done ++ [.int .i64 p.1, .int .i64 p.2]) X2 ∧ H = [(Bk, .cells #[.int .i64 s.k] 3), (Bi, .cells #[.int .i64 s.i] 3), (Ba, .cells #[ptr Bo 0] 123)] ++ ([(s.B9, .cells #[.int .i64 ((p.2 + 1 : Nat) : Int)] 3), (s.B8, .cells #[.int .i64 ((p.1 + 1 : Nat) : Int)] 3), (B7, .cells #[.int .i64 s.n] 3), (B6, .cells cg 129), (Bo, .cells cso 122), (B2, .cells #[v2] 103), (B1, .cells (rowsV d sa sb ca cb).cells 26)] ++ (X2 ++ dls s.Ds))) hf hh Tryz.en_96 rfl (it89 d sa sb ca cb (fitD d) Bo s.i s.k Ba Bi Bk) rfl (by intro x hx; obtain ⟨y, _, rfl⟩ := List.mem_map.1 hx; rfl) ?_ ?_ ?_ ?_ ?_
     · exact ⟨fun j2 h => absurd h (Nat.not_lt_zero _), rfl⟩
     · rintro _ _ l D o w ⟨_, rfl⟩ h
       exact ⟨h.at (i := 4) rfl, h.at (i := 3) rfl, h.at (i := 2) rfl, ⟨cso, h.at (i := 9) rfl, hRo⟩, hnl, hnr⟩
     ·rintro j x fn D l H w a tm hx ⟨hno, rfl⟩ hh hf
      obtain ⟨p, hp, rfl⟩ : ∃ p, (prs (fitD d) d.l.length d.r.length s.i s.k)[j]? = some p ∧ x = tp p := by
        rw [List.getElem?_map] at hx
        cases e : (prs (fitD d) d.l.length d.r.length s.i s.k)[j]? with
        | none => rw [e] at hx; cases hx
        | some p => rw [e] at hx; cases hx; exact ⟨p, rfl, rfl⟩
      refine sy_ops ?_
      refine o_alloc hf hh Tryz.ze_100 ?_; clear hf hh a; intro B10 a w hf hh
      refine o_store hf hh Tryz.sz_100 fun w hh => ?_
      refine ops_end ?_
      refine then_n (Go.Sy.begun (i := 1) hh rfl fun w hh => ?_)
      refine sy_block ?_
      refine sy_seq ?_
      have hpb := mem_prs.1 (List.mem_of_getElem? hp)
      have gp := grid11 hG (i := p.1 + 1) (k := p.2 + 1) (by omega) (by omega)
      have hpl := mos_le (fitD d) d.l.length d.r.length (p.1 + 1) (p.2 + 1)
      have gp2 : cg[0 + ((p.1 + 1 : Nat) : Int).toNat * 11 + ((p.2 + 1 : Nat) : Int).toNat * 1]? = some (.int .i64 ((mos (fitD d) d.l.length d.r.length (p.1 + 1) (p.2 + 1) : Nat) : Int)) := gp
      refine sy_quiet (C := Hp _ _ _) Tryz.follows (by kernel_rfl) (hh.drawn _) ?_
      refine oq_v hf (y_ia Tryz.ae_100 rfl rfl) ?_; clear hf a; intro a hf
      refine oq_v hf (y_ld Tryz.sc_3 rfl) ?_; clear hf a; intro a hf
      refine q_v hf (yv_cast (yv_add rfl rfl (by omega) (by omega)) (intv (b := ((p.1 + 1 : Nat) : Int)) (by omega))) (.inl rfl) rfl rfl ?_; clear hf a; intro a hf
      refine oq_v hf (y_ia Tryz.ae_100 rfl rfl) ?_; clear hf a; intro a hf
      refine oq_v hf (y_ld Tryz.sc_3 rfl) ?_; clear hf a; intro a hf
      refine q_v hf (yv_cast (yv_add rfl rfl (by omega) (by omega)) (intv (b := ((p.2 + 1 : Nat) : Int)) (by omega))) (.inl rfl) rfl rfl ?_; clear hf a; intro a hf
      refine oq_v hf (y_ia Tryz.ae_129 rfl rfl) ?_; clear hf a; intro a hf
      refine oq_v hf (y_ia Tryz.ae_128 rfl rfl) ?_; clear hf a; intro a hf
      refine oq_v hf (y_ld Tryz.sc_3 rfl) ?_; clear hf a; intro a hf
      refine oq_v hf (y_add rfl rfl) ?_; clear hf a; intro a hf
      refine oq_v hf (y_ld Tryz.sc_3 rfl) ?_; clear hf a; intro a hf
      refine oq_v hf (yv_bin rfl rfl rfl) ?_; clear hf a; intro a hf
      refine q_end fun w hh => ?_
      refine then_n ?_
      refine sy_cond hf rfl (fun hg14 => ?_) (fun hg14 => ?_)
      ·have hG14 := hg14; try simp only [gS] at hG14
       refine sy_seq ?_
       refine sy_treeC (.q 0 0 (.q 0 1 (.p 4 (.q 1 5 (.p 6 (.p 7 (.q 1 8 (.p 9 (.e1 2 (.e1 3 (.e1 10 (.e1 11 (.e1 12 (.fin)))))))))))))) [[10, 11, 12], []] [(AtE u [] [(B10, .cells #[.int .i64 p.1, .int .i64 p.2] 100), (B2, .cells #[s.v] 103)], [10, 11, 12]), (AtE u [] [(B10, .cells #[.int .i64 p.1, .int .i64 p.2] 100)], [])] Tryz.follows (by kernel_rfl) rfl hh (fun w hh => ?_)
       refine mc_q rfl rfl (by first | exact AtE.mk2 hh.ext (hh.at (i := 0) rfl) (hh.at (i := 11) rfl) | exact AtE.mk2 hh.ext (hh.at (i := 1) rfl) (hh.at (i := 12) rfl)) hf (y_ld Tryz.sc_103 rfl) (.inl rfl) rfl rfl ?_; clear hf a; intro a hf
       refine mc_q rfl rfl (by first | exact AtE.mk2 hh.ext (hh.at (i := 0) rfl) (hh.at (i := 11) rfl) | exact AtE.mk2 hh.ext (hh.at (i := 1) rfl) (hh.at (i := 12) rfl)) hf (y_lds Tryz.ag_100 rfl) (.inl rfl) rfl rfl ?_; clear hf a; intro a hf
       refine mc_p rfl   hf (y_ia Tryz.ae_100 rfl rfl) (.inl rfl) rfl rfl ?_; clear hf a; intro a hf
       refine mc_q rfl rfl (by first | exact AtE.mk1 hh.ext (hh.at (i := 0) rfl) | exact AtE.mk1 hh.ext (hh.at (i := 1) rfl)) hf (y_ld Tryz.sc_3 rfl) (.inl rfl) rfl rfl ?_; clear hf a; intro a hf
       refine mc_p rfl   hf (yv_cast (yv_add rfl rfl (by omega) (by omega)) (intv (b := ((p.1 + 1 : Nat) : Int)) (by omega))) (.inl rfl) rfl rfl ?_; clear hf a; intro a hf
       refine mc_p rfl   hf (y_ia Tryz.ae_100 rfl rfl) (.inl rfl) rfl rfl ?_; clear hf a; intro a hf
       refine mc_q rfl rfl (by first | exact AtE.mk1 hh.ext (hh.at (i := 0) rfl) | exact AtE.mk1 hh.ext (hh.at (i := 1) rfl)) hf (y_ld Tryz.sc_3 rfl) (.inl rfl) rfl rfl ?_; clear hf a; intro a hf
       refine mc_p rfl   hf (yv_cast (yv_add rfl rfl (by omega) (by omega)) (intv (b := ((p.2 + 1 : Nat) : Int)) (by omega))) (.inl rfl) rfl rfl ?_; clear hf a; intro a hf
       refine mc_e rfl fun Q1 => ?_
       refine ops_buildSl hf hh Tryz.bl_103_1 rfl rfl (.inl rfl) rfl ?_; clear hf hh; clear a; intro B57 a w hf hh
       refine ops_end ?_
       refine then_n ⟨⟨fun _ _ => (by first | exact AtE.mk2 hh.ext (hh.at (i := 0) rfl) (hh.at (i := 11) rfl) | exact AtE.mk2 hh.ext (hh.at (i := 1) rfl) (hh.at (i := 12) rfl)), fun _ _ => (by first | exact AtE.mk1 hh.ext (hh.at (i := 0) rfl) | exact AtE.mk1 hh.ext (hh.at (i := 1) rfl)), trivial⟩, ?_⟩
       refine mc_e rfl fun Q1 => ?_
       replace hh := hh.perm (List.Perm.cons _ (List.perm_append_comm_assoc [_, _, _, _, _, _, _, _, _, _, _, _, _] s.X (dls s.Ds)))
       refine ops_append (e := 100) (size := 2) (xs := encP s.done) hf hh Tryz.eb_103 rfl rfl hown rfl rfl rfl (by simp only [maxLen]; omega) (by omega) (.inl rfl) rfl ?_; clear hf hh a; intro v2 X2 a w hown2 hf hh
       replace hh := hh.perm (List.perm_append_comm_assoc X2 [_, _, _, _, _, _, _, _, _, _, _, _, _] (dls s.Ds))
       obtain ⟨oa2, cap2, rfl⟩ := OwnSl_val hown2
       refine ops_end ?_
       refine then_n ⟨⟨fun _ _ => (by first | exact AtE.mk2 hh.ext (hh.at (i := 0) rfl) (hh.at (i := 11) rfl) | exact AtE.mk2 hh.ext (hh.at (i := 1) rfl) (hh.at (i := 12) rfl)), fun _ _ => (by first | exact AtE.mk1 hh.ext (hh.at (i := 0) rfl) | exact AtE.mk1 hh.ext (hh.at (i := 1) rfl)), trivial⟩, ?_⟩
       refine mc_e rfl fun Q1 => ?_
       refine o_store hf hh Tryz.sz_103 fun w hh => ?_
       refine ops_end ?_
       refine then_n ⟨⟨fun h => Bool.noConfusion (show true = false from h), fun _ _ => (by first | exact AtE.mk1 hh.ext (hh.at (i := 0) rfl) | exact AtE.mk1 hh.ext (hh.at (i := 1) rfl)), trivial⟩, ?_⟩
       refine mc_e rfl fun Q1 => ?_
       refine o_store hf hh Tryz.sz_3 fun w hh => ?_
       refine ops_end ?_
       refine then_n ⟨⟨fun h => Bool.noConfusion (show true = false from h), fun _ _ => (by first | exact AtE.mk1 hh.ext (hh.at (i := 0) rfl) | exact AtE.mk1 hh.ext (hh.at (i := 1) rfl)), trivial⟩, ?_⟩
       refine mc_e rfl fun Q1 => ?_
       refine o_store hf hh Tryz.sz_3 fun w hh => ?_
       refine ops_end ?_
       refine then_n ⟨⟨fun h => Bool.noConfusion (show true = false from h), fun _ _ => (by first | exact AtE.mk1 hh.ext (hh.at (i := 0) rfl) | exact AtE.mk1 hh.ext (hh.at (i := 1) rfl)), trivial⟩, ?_⟩
       refine mc_end ?_
       refine then_n ?_
       refine sy_exit ?_
       refine blk_x rfl ?_
       exact ⟨_, ⟨rfl, p, _, X2, hp, by omega, hno, hown2, rfl⟩, (hh.less (.cons _ (List.Sublist.refl _)))⟩
      ·have hG14 := hg14; try simp only [gS] at hG14
       refine sy_skip ?_
       refine blk_n ?_
       exact ⟨_, ⟨fun j2 h2 q hq => by
         rcases Nat.lt_or_ge j2 j with h3 | h3
         · exact hno j2 h3 q hq
         · have h4 : j2 = j := by omega
           subst h4; rw [hp] at hq; cases hq; omega, rfl⟩, (hh.less (.cons _ (List.Sublist.refl _)))⟩
     ·rintro D H a w ⟨hno, rfl⟩ hf hh
      exfalso
      rw [List.length_map] at hno
      obtain ⟨p, h1, h2, h3, _⟩ := grd_find (hms.trans hn)
      obtain ⟨j2, hj2, hjp⟩ := List.getElem_of_mem h3
      exact hno j2 hj2 p (by rw [List.getElem?_eq_getElem hj2, hjp]) (by omega)
     ·rintro j c D H a w hX hf hh
      obtain ⟨rfl, p, v2, X2, hp, hpm, hno, hown2, rfl⟩ := hX
      have hpb := mem_prs.1 (List.mem_of_getElem? hp)
      refine sy_exit ?_
      refine blk_e ?_
      refine ng_n ?_
      refine blk_n ?_
      refine then_n ?_
      refine sy_seq ?_
      refine sy_sq ?_
      refine o_v hf hh (y_ld Tryz.sc_3 rfl) ?_; clear hf a; intro a hf
      refine o_v hf hh (y_ld Tryz.sc_3 rfl) ?_; clear hf a; intro a hf
      refine o_end ?_
      refine sy_ops ?_
      refine o_alloc hf hh Tryz.ze_3 ?_; clear hf hh a; intro B8 a w hf hh
      refine o_store hf hh Tryz.sz_3 fun w hh => ?_
      refine o_alloc hf hh Tryz.ze_3 ?_; clear hf hh a; intro B9 a w hf hh
      refine o_store hf hh Tryz.sz_3 fun w hh => ?_
      refine o_end ?_
      refine sy_ops ?_
      refine o_v hf hh (y_ld Tryz.sc_3 rfl) ?_; clear hf a; intro a hf
      refine ops_v hf hh (yv_cast (yv_sub rfl rfl (by omega) (by omega)) (intv (b := ((n : Nat) : Int)) (by omega))) (.inl rfl) rfl rfl rfl ?_; clear hf a; intro a hf
      refine o_store hf hh Tryz.sz_3 fun w hh => ?_
      refine ops_end ?_
      refine then_n ?_
      refine ⟨⟨n, p.1 + 1, p.2 + 1, B8, B9, s.done ++ [p], v2, X2, D :: s.Ds⟩, ⟨⟨by simp only; omega, by simp only; omega, by simp only; omega, by simp only; omega, by simp only [List.length_append, List.length_singleton]; omega, ?_, ?_, ?_⟩, hf.head ⟨rfl, rfl, True.intro⟩ (Keep.cons rfl (Keep.cons rfl (Keep.cons rfl (Keep.cons rfl (Keep.cons rfl (Keep.cons rfl (Keep.cons rfl (Keep.cons rfl (Keep.cons rfl (Keep.cons rfl (Keep.cons rfl (Keep.cons rfl (Keep.app rfl (Keep.rm rfl Keep.base))))))))))))))⟩, by simp only; omega⟩
      · rw [hgr, hn, grd_at hp (by omega) (fun j2 h2 q hq => by rw [← hn]; exact hno j2 h2 q hq)]; simp
      · simp only [List.length_append, List.length_singleton, encP_snoc]; exact hown2
      · have h1 := (hh.less (.cons_cons _ (.cons_cons _ (.cons_cons _ (.cons _ (.cons _ (.cons _ (.cons _ (.cons _ (.refl _))))))))))
        have h2 : Hp u [] ((D, .deferred (some [])) :: (([(B9, .cells #[.int .i64 ((p.2 + 1 : Nat) : Int)] 3), (B8, .cells #[.int .i64 ((p.1 + 1 : Nat) : Int)] 3), (B7, .cells #[.int .i64 n] 3), (B6, .cells cg 129), (Bo, .cells cso 122), (B2, .cells #[v2] 103), (B1, .cells (rowsV d sa sb ca cb).cells 26)] ++ X2) ++ dls s.Ds)) w := by rw [List.append_assoc]; exact h1.perm (List.perm_middle (l₁ := [_, _]))
        have h3 := Hp.mark h2
        rw [List.append_assoc] at h3
        exact h3
    ·have hG8 := hg8; try simp only [gS] at hG8
     refine sy_exit ?_
     refine then_e ?_
     refine then_e ?_
     refine blk_e ?_
     refine then_n ?_
     refine sy_seq ?_
     obtain ⟨oa, cp, hv⟩ := OwnSl_val hown
     rw [hv] at hh hown
     refine sy_ops ?_
     refine o_v hf hh (y_ld Tryz.sc_103 rfl) ?_; clear hf a; intro a hf
     refine o_v hf hh (yv_move rfl) ?_; clear hf a; intro a hf
     refine o_store hf hh Tryz.sz_103 fun w hh => ?_
     refine o_v hf hh (yv_assign rfl) ?_; clear hf a; intro a hf
     refine o_v hf hh (yv_assign rfl) ?_; clear hf a; intro a hf
     refine o_end ?_
     refine sy_ret ?_
     have hn0 : s.n = 0 := by omega
     have eL : fewL d = s.done := by
       unfold fewL; rw [if_pos hop, hgr, hn0]; unfold grd; rw [List.append_nil]
     have eH : fewH d = ((d.l.length + d.r.length : Nat) : Int) - 2 * (mosD d : Nat) := by unfold fewH; rw [if_pos hop]
     rw [eL, eH, hop]
     have hh2 : Hp u [] ([(s.B9, .cells #[.int .i64 s.k] 3), (s.B8, .cells #[.int .i64 s.i] 3), (B7, .cells #[.int .i64 s.n] 3), (B6, .cells cg 129), (Bo, .cells cso 122), (B2, .cells #[.slice oa s.done.length cp] 103), (B1, .cells (rowsV d sa sb ca cb).cells 26)] ++ (s.X ++ dls s.Ds)) w := hh
     rw [← List.append_assoc] at hh2
     exact ret_mb (Ds := s.Ds) hf hh2 fun w' hh => ⟨[.slice oa s.done.length cp, .int .i64 (((d.l.length + d.r.length : Nat) : Int) - 2 * (mosD d : Nat)), .int .i64 0], ⟨⟨B2, 0, _, _, _, rfl, hh.at (i := 5) rfl, .inl ⟨Tryz.sc_103, rfl⟩⟩, rfl, rfl, True.intro⟩, _, s.X, rfl, hown, hh.less (List.sublist_append_right _ _)⟩
end Go.Proofs.YtidieepndphodaaGreat
namespace Go.Proofs.YtidieepndphodaaGreat
open Go Go.Sy Go.MatM
theorem fl45 : flatB Tryz.prog 100 = some 2 := by kernel_rfl
theorem fl24 : flatB Tryz.prog 24 = some 2 := by kernel_rfl
theorem fl53 : flatB Tryz.prog 89 = some 4 := by kernel_rfl
end Go.Proofs.YtidieepndphodaaGreat
namespace Go.Proofs.YtidieepndphodaaGreat
open Go Go.Sy Go.MatM
theorem c58 (n l h : Int) (w : World) : Calls Tryz.prog 72 #[.int .i64 n, .int .i64 l, .int .i64 h] w (Ret fun v w' => v = .bool (decide (l ≤ n) && decide (n ≤ h)) ∧ Ext [] w w') := by
  refine calls_of Tryz.func72 rfl rfl (fun a hf => ?_)
  have hh := Hp.init w []
  refine sy_sq ?_
  refine o_v hf hh (yv_assign rfl) ?_; clear hf a; intro a hf
  refine o_end ?_
  refine sy_sq ?_
  refine o_v hf hh (yv_move rfl) ?_; clear hf a; intro a hf
  refine o_v hf hh (yv_move rfl) ?_; clear hf a; intro a hf
  refine o_v hf hh (yv_bin rfl rfl rfl) ?_; clear hf a; intro a hf
  refine o_v hf hh (yv_move rfl) ?_; clear hf a; intro a hf
  refine guard_split hf (t := 10) rfl (fun hg2 => ?_) (fun hg2 => ?_)
  ·have hG2 := hg2; try simp only [gS] at hG2
   refine o_v hf hh (yv_move rfl) ?_; clear hf a; intro a hf
   refine o_v hf hh (yv_move rfl) ?_; clear hf a; intro a hf
   refine o_v hf hh (yv_bin rfl rfl rfl) ?_; clear hf a; intro a hf
   refine o_v hf hh (y_pt rfl rfl) ?_; clear hf a; intro a hf
   refine o_v hf hh (yv_assign rfl) ?_; clear hf a; intro a hf
   refine o_end ?_
   refine sy_ret ?_
   refine ret_r hf rfl rfl ?_
   exact ⟨by simp [tup, *], hh.ext⟩
  ·have hG2 := hg2; try simp only [gS] at hG2
   refine o_off hf ?_; clear hf a; intro a hf
   refine o_off hf ?_; clear hf a; intro a hf
   refine o_off hf ?_; clear hf a; intro a hf
   refine o_v hf hh (y_pf rfl rfl) ?_; clear hf a; intro a hf
   refine o_v hf hh (yv_assign rfl) ?_; clear hf a; intro a hf
   refine o_end ?_
   refine sy_ret ?_
   refine ret_r hf rfl rfl ?_
   exact ⟨by simp [tup, *], hh.ext⟩
theorem c65 (x y l h : Int) (w : World) : Calls Tryz.prog 71 #[.agg #[.int .i64 x, .int .i64 y], .int .i64 l, .int .i64 h] w (Ret fun v w' => v = .bool (decide (l ≤ x) && decide (x ≤ y) && decide (y ≤ h)) ∧ Ext [] w w') := by
  refine calls_of Tryz.func71 rfl rfl (fun a hf => ?_)
  have hh := Hp.init w []
  refine sy_sq ?_
  refine o_box hf hh ?_; clear hf hh a; intro B3 a w hf hh
  refine o_v hf hh (yv_assign rfl) ?_; clear hf a; intro a hf
  refine o_end ?_
  refine sy_sq ?_
  refine o_v hf hh (yv_move rfl) ?_; clear hf a; intro a hf
  refine o_v hf hh (yv_fieldAddr Tryz.fo_24_0 rfl) ?_; clear hf a; intro a hf
  refine o_v hf hh (y_ld Tryz.sc_3 rfl) ?_; clear hf a; intro a hf
  refine o_v hf hh (yv_bin rfl rfl rfl) ?_; clear hf a; intro a hf
  refine o_v hf hh (yv_move rfl) ?_; clear hf a; intro a hf
  refine guard_split hf (t := 11) rfl (fun hg2 => ?_) (fun hg2 => ?_)
  ·have hG2 := hg2; try simp only [gS] at hG2
   refine o_v hf hh (yv_fieldAddr Tryz.fo_24_0 rfl) ?_; clear hf a; intro a hf
   refine o_v hf hh (y_ld Tryz.sc_3 rfl) ?_; clear hf a; intro a hf
   refine o_v hf hh (yv_fieldAddr Tryz.fo_24_1 rfl) ?_; clear hf a; intro a hf
   refine o_v hf hh (y_ld Tryz.sc_3 rfl) ?_; clear hf a; intro a hf
   refine o_v hf hh (yv_bin rfl rfl rfl) ?_; clear hf a; intro a hf
   refine o_v hf hh (y_pt rfl rfl) ?_; clear hf a; intro a hf
   refine o_v hf hh (yv_move rfl) ?_; clear hf a; intro a hf
   refine guard_split hf (t := 18) rfl (fun hg4 => ?_) (fun hg4 => ?_)
   ·have hG4 := hg4; try simp only [gS] at hG4
    refine o_v hf hh (yv_fieldAddr Tryz.fo_24_1 rfl) ?_; clear hf a; intro a hf
    refine o_v hf hh (y_ld Tryz.sc_3 rfl) ?_; clear hf a; intro a hf
    refine o_v hf hh (yv_move rfl) ?_; clear hf a; intro a hf
    refine o_v hf hh (yv_bin rfl rfl rfl) ?_; clear hf a; intro a hf
    refine o_v hf hh (y_pt rfl rfl) ?_; clear hf a; intro a hf
    refine o_v hf hh (yv_assign rfl) ?_; clear hf a; intro a hf
    refine o_end ?_
    refine sy_ret ?_
    refine ret_r hf rfl rfl ?_
    exact ⟨by simp [tup, *], hh.ext⟩
   ·have hG4 := hg4; try simp only [gS] at hG4
    refine o_off hf ?_; clear hf a; intro a hf
    refine o_off hf ?_; clear hf a; intro a hf
    refine o_off hf ?_; clear hf a; intro a hf
    refine o_off hf ?_; clear hf a; intro a hf
    refine o_v hf hh (y_pf rfl rfl) ?_; clear hf a; intro a hf
    refine o_v hf hh (yv_assign rfl) ?_; clear hf a; intro a hf
    refine o_end ?_
    refine sy_ret ?_
    refine ret_r hf rfl rfl ?_
    exact ⟨by simp [tup, *], hh.ext⟩
  ·have hG2 := hg2; try simp only [gS] at hG2
   refine o_off hf ?_; clear hf a; intro a hf
   refine o_off hf ?_; clear hf a; intro a hf
   refine o_off hf ?_; clear hf a; intro a hf
   refine o_off hf ?_; clear hf a; intro a hf
   refine o_off hf ?_; clear hf a; intro a hf
   refine o_v hf hh (y_pf rfl rfl) ?_; clear hf a; intro a hf
   refine o_v hf hh (yv_move rfl) ?_; clear hf a; intro a hf
   refine o_off hf ?_; clear hf a; intro a hf
   refine o_off hf ?_; clear hf a; intro a hf
   refine o_off hf ?_; clear hf a; intro a hf
   refine o_off hf ?_; clear hf a; intro a hf
   refine o_v hf hh (y_pf rfl rfl) ?_; clear hf a; intro a hf
   refine o_v hf hh (yv_assign rfl) ?_; clear hf a; intro a hf
   refine o_end ?_
   refine sy_ret ?_
   refine ret_r hf rfl rfl ?_
   exact ⟨by simp [tup, *], hh.ext⟩
theorem all_take {l : List Mk} {i : Nat} {x : Mk} (h : (l.take i).all okM = true) (hx : l[i]? = some x) (hk : okM x = true) : (l.take (i + 1)).all okM = true := by
  rw [List.take_add_one, hx, List.all_append, h]; simp [hk]
theorem all_not {l : List Mk} {i : Nat} {x : Mk} (hx : l[i]? = some x) (hk : okM x = false) : l.all okM = false := by
  rw [Bool.eq_false_iff]; intro h
  have := List.all_eq_true.1 h x (List.mem_of_getElem? hx)
  rw [hk] at this; cases this
theorem okM_and (x : Mk) : okM x = ((decide (0 ≤ x.al) && decide (x.al ≤ x.ah) && decide (x.ah ≤ 65536)) && (decide (0 ≤ x.tl) && decide (x.tl ≤ x.th) && decide (x.th ≤ 1000))) := by
  unfold okM; rw [Bool.eq_iff_iff]; simp only [decide_eq_true_eq, Bool.and_eq_true, and_assoc]
theorem c64 (l : List Mk) (sa : Option Addr) (ca : Nat) (u : World) (hA : MkAt u sa l) (hl : l.length ≤ 1000000) : Calls Tryz.prog 70 #[.slice sa l.length ca] u (Ret fun v w' => v = .bool (l.all okM && decide (l.length ≤ 10)) ∧ Ext [] u w') := by
  refine calls_of Tryz.func70 rfl rfl (fun a hf => ?_)
  have hh := Hp.init u []
  refine sy_sq ?_
  refine o_v hf hh (yv_assign rfl) ?_; clear hf a; intro a hf
  refine o_end ?_
  refine sy_seq ?_
  refine sy_sq ?_
  refine o_v hf hh (yv_assign rfl) ?_; clear hf a; intro a hf
  refine o_end ?_
  refine sy_block ?_
  refine sy_loopF (σ := Nat) [2, 3, 4, 5, 6, 7, 8, 9, 10, 11, 12, 13, 14, 15, 16, 17, 18, 19, 20, 21, 22, 23, 24, 25] (fun i => [(3, .int .i64 i)]) (fun i => i ≤ l.length ∧ (l.take i).all okM = true) (fun i => l.length - i) (0) hf hh ?_ ?_ ?_
  · repeat' (first | exact True.intro | refine And.intro rfl ?_)
  · exact ⟨Nat.zero_le _, rfl⟩
  ·rintro i a w ⟨hi, hq⟩ hf hh
   refine sy_seq ?_
   refine sy_sq ?_
   refine o_v hf hh (yv_move rfl) ?_; clear hf a; intro a hf
   refine o_v hf hh (yv_move rfl) ?_; clear hf a; intro a hf
   refine o_v hf hh (yv_len Tryz.se_22 rfl) ?_; clear hf a; intro a hf
   refine o_v hf hh (yv_bin rfl rfl rfl) ?_; clear hf a; intro a hf
   refine o_end ?_
   refine sy_cond hf rfl (fun hg2 => ?_) (fun hg2 => ?_)
   ·have hG2 := hg2; try simp only [gS] at hG2
    refine sy_skip ?_
    refine then_n ?_
    refine sy_seq ?_
    refine sy_block ?_
    refine sy_seq ?_
    obtain ⟨x, hx⟩ := ex_of (l := l) (i := i) (by omega)
    obtain ⟨blk, off, c, Tx, fr, e1, hbx, hcx⟩ := hA i x hx
    subst e1
    obtain ⟨_, hg⟩ := cellsAt_get _ _ _ hcx
    have a0 := hg 0 _ rfl; have a1 := hg 1 _ rfl; have a2 := hg 2 _ rfl; have a3 := hg 3 _ rfl
    have g1 : cellsAt c (off + ((i : Nat) : Int).toNat * 4 + 0) 2 = some [.int .i64 x.al, .int .i64 x.ah] := by
      simp only [Int.toNat_natCast, Nat.add_zero] at *; simp [cellsAt, a0, a1]
    have g2 : cellsAt c (off + ((i : Nat) : Int).toNat * 4 + 2) 2 = some [.int .i64 x.tl, .int .i64 x.th] := by
      simp only [Int.toNat_natCast] at *; simp [cellsAt, a2, a3]
    have hok := okM_and x
    refine sy_ops ?_
    refine o_v hf hh (yv_move rfl) ?_; clear hf a; intro a hf
    refine o_v hf hh (yv_move rfl) ?_; clear hf a; intro a hf
    refine o_v hf hh (y_ix Tryz.se_22 rfl rfl) ?_; clear hf a; intro a hf
    refine o_v hf hh (yv_fieldAddr Tryz.fo_89_0 rfl) ?_; clear hf a; intro a hf
    refine o_v hf hh (y_lds Tryz.ag_24 rfl) ?_; clear hf a; intro a hf
    refine o_call hf Tryz.en_71 rfl rfl rfl (c65 _ _ _ _ _) ?_; clear hf a; intro v a w hR hf
    obtain ⟨rfl, hx⟩ := hR; replace hh := hh.more hx; clear hx
    refine o_v hf hh (yv_not rfl) ?_; clear hf a; intro a hf
    refine o_v hf hh (yv_move rfl) ?_; clear hf a; intro a hf
    refine guard_split hf (t := 17) rfl (fun hg4 => ?_) (fun hg4 => ?_)
    ·have hG4 := hg4; try simp only [gS] at hG4
     refine o_off hf ?_; clear hf a; intro a hf
     refine o_off hf ?_; clear hf a; intro a hf
     refine o_off hf ?_; clear hf a; intro a hf
     refine o_off hf ?_; clear hf a; intro a hf
     refine o_off hf ?_; clear hf a; intro a hf
     refine o_off hf ?_; clear hf a; intro a hf
     refine o_off hf ?_; clear hf a; intro a hf
     refine o_v hf hh (y_pt rfl rfl) ?_; clear hf a; intro a hf
     refine o_end ?_
     refine c_t hf ?_
     refine sy_sq ?_
     refine o_v hf hh (yv_assign rfl) ?_; clear hf a; intro a hf
     refine o_end ?_
     refine sy_ret ?_
     refine blk_r ?_
     refine then_r ?_
     refine then_r ?_
     refine blk_r ?_
     refine then_r ?_
     refine ret_r hf rfl rfl ?_
     exact ⟨congrArg Value.bool (by rw [all_not hx (by rw [hok]; (simp only [*, Bool.and_true, Bool.true_and, Bool.and_false, Bool.false_and, Bool.and_self, Bool.or_true, Bool.or_false]))]; rfl), hh.ext⟩
    ·have hG4 := hg4; try simp only [gS] at hG4
     refine o_v hf hh (yv_move rfl) ?_; clear hf a; intro a hf
     refine o_v hf hh (yv_move rfl) ?_; clear hf a; intro a hf
     refine o_v hf hh (y_ix Tryz.se_22 rfl rfl) ?_; clear hf a; intro a hf
     refine o_v hf hh (yv_fieldAddr Tryz.fo_89_1 rfl) ?_; clear hf a; intro a hf
     refine o_v hf hh (y_lds Tryz.ag_24 rfl) ?_; clear hf a; intro a hf
     refine o_call hf Tryz.en_71 rfl rfl rfl (c65 _ _ _ _ _) ?_; clear hf a; intro v a w hR hf
     obtain ⟨rfl, hx⟩ := hR; replace hh := hh.more hx; clear hx
     refine o_v hf hh (yv_not rfl) ?_; clear hf a; intro a hf
     refine o_v hf hh (y_pf rfl rfl) ?_; clear hf a; intro a hf
     refine o_end ?_
     refine sy_cond hf rfl (fun hg6 => ?_) (fun hg6 => ?_)
     ·have hG6 := hg6; try simp only [gS] at hG6
      refine sy_sq ?_
      refine o_v hf hh (yv_assign rfl) ?_; clear hf a; intro a hf
      refine o_end ?_
      refine sy_ret ?_
      refine blk_r ?_
      refine then_r ?_
      refine then_r ?_
      refine blk_r ?_
      refine then_r ?_
      refine ret_r hf rfl rfl ?_
      exact ⟨congrArg Value.bool (by rw [all_not hx (by rw [hok]; (simp only [*, Bool.and_true, Bool.true_and, Bool.and_false, Bool.false_and, Bool.and_self, Bool.or_true, Bool.or_false]))]; rfl), hh.ext⟩
     ·have hG6 := hg6; try simp only [gS] at hG6
      refine sy_skip ?_
      refine blk_n ?_
      refine then_n ?_
      refine sy_ops ?_
      refine o_v hf hh (yv_move rfl) ?_; clear hf a; intro a hf
      refine o_v hf hh (y_add rfl rfl) ?_; clear hf a; intro a hf
      refine o_v hf hh (yv_assign rfl) ?_; clear hf a; intro a hf
      refine ops_end ?_
      refine then_n ?_
      refine ⟨i + 1, ⟨⟨by omega, all_take hq hx (by rw [hok]; (simp only [*, Bool.and_true, Bool.true_and, Bool.and_false, Bool.false_and, Bool.and_self, Bool.or_true, Bool.or_false]))⟩, (hf.head (by repeat' (first | exact True.intro | refine And.intro rfl ?_)) (Keep.cons rfl (Keep.cons rfl (Keep.cons rfl (Keep.cons rfl (Keep.cons rfl (Keep.cons rfl (Keep.cons rfl (Keep.cons rfl (Keep.cons rfl (Keep.cons rfl (Keep.cons rfl (Keep.cons rfl (Keep.cons rfl (Keep.cons rfl (Keep.cons rfl (Keep.cons rfl (Keep.cons rfl (Keep.cons rfl (Keep.cons rfl (Keep.cons rfl (Keep.cons rfl (Keep.cons rfl (Keep.cons rfl (Keep.app rfl (Keep.rm rfl Keep.base)))))))))))))))))))))))))), hh⟩, by omega⟩
   ·have hG2 := hg2; try simp only [gS] at hG2
    refine sy_exit ?_
    refine then_e ?_
    refine then_e ?_
    refine blk_e ?_
    refine then_n ?_
    refine sy_sq ?_
    refine o_v hf hh (yv_move rfl) ?_; clear hf a; intro a hf
    refine o_v hf hh (yv_len Tryz.se_22 rfl) ?_; clear hf a; intro a hf
    refine o_v hf hh (yv_bin rfl rfl rfl) ?_; clear hf a; intro a hf
    refine o_v hf hh (yv_assign rfl) ?_; clear hf a; intro a hf
    refine o_end ?_
    refine sy_ret ?_
    refine ret_r hf rfl rfl ?_
    have hie : i = l.length := by omega
    rw [hie, List.take_length] at hq
    exact ⟨congrArg Value.bool (by rw [hq, Bool.true_and, decide_eq_decide]; omega), hh.ext⟩
theorem okRows_eq (d : RowsD) : okRows d = ((d.l.all okM && decide (d.l.length ≤ 10)) && (d.r.all okM && decide (d.r.length ≤ 10)) && (decide (-65536 ≤ d.lo) && decide (d.lo ≤ d.hi) && decide (d.hi ≤ 65536)) && (decide (0 ≤ d.hid) && decide (d.hid ≤ 20))) := by
  unfold okRows
  rw [Bool.eq_iff_iff]
  simp only [Bool.and_eq_true, decide_eq_true_eq, List.all_append]
  constructor
  · rintro ⟨⟨⟨⟨h1, h2⟩, h3, h4⟩, h5, h6, h7⟩, h8, h9⟩; exact ⟨⟨⟨⟨h3, h1⟩, h4, h2⟩, ⟨h5, h6⟩, h7⟩, h8, h9⟩
  · rintro ⟨⟨⟨⟨h3, h1⟩, h4, h2⟩, ⟨h5, h6⟩, h7⟩, h8, h9⟩; exact ⟨⟨⟨⟨h1, h2⟩, h3, h4⟩, h5, h6, h7⟩, h8, h9⟩
theorem c26 (d : RowsD) (sa sb : Option Addr) (ca cb : Nat) (u : World) (hA : MkAt u sa d.l) (hB : MkAt u sb d.r) (hla : d.l.length ≤ 1000000) (hlb : d.r.length ≤ 1000000) : Calls Tryz.prog 55 #[rowsV d sa sb ca cb] u (Ret fun v w' => v = .bool (okRows d) ∧ Ext [] u w') := by
  refine calls_of Tryz.func55 rfl rfl (fun a hf => ?_)
  have hh := Hp.init u []
  refine sy_sq ?_
  refine o_box hf hh ?_; clear hf hh a; intro B1 a w hf hh
  refine o_v hf hh (yv_assign rfl) ?_; clear hf a; intro a hf
  refine o_end ?_
  refine sy_sq ?_
  refine o_v hf hh (yv_fieldAddr Tryz.fo_26_0 rfl) ?_; clear hf a; intro a hf
  refine o_v hf hh (y_ld Tryz.sc_22 rfl) ?_; clear hf a; intro a hf
  refine o_call hf Tryz.en_70 rfl rfl rfl (c64 d.l sa ca _ (hA.ext hh.ext) hla) ?_; clear hf a; intro v a w hR hf
  obtain ⟨rfl, hx⟩ := hR; replace hh := hh.more hx; clear hx
  refine o_v hf hh (yv_move rfl) ?_; clear hf a; intro a hf
  refine guard_split hf (t := 6) rfl (fun hg2 => ?_) (fun hg2 => ?_)
  ·have hG2 := hg2; try simp only [gS] at hG2
   refine o_v hf hh (yv_fieldAddr Tryz.fo_26_1 rfl) ?_; clear hf a; intro a hf
   refine o_v hf hh (y_ld Tryz.sc_22 rfl) ?_; clear hf a; intro a hf
   refine o_call hf Tryz.en_70 rfl rfl rfl (c64 d.r sb cb _ (hB.ext hh.ext) hlb) ?_; clear hf a; intro v a w hR hf
   obtain ⟨rfl, hx⟩ := hR; replace hh := hh.more hx; clear hx
   refine o_v hf hh (y_pt rfl rfl) ?_; clear hf a; intro a hf
   refine o_v hf hh (yv_move rfl) ?_; clear hf a; intro a hf
   refine guard_split hf (t := 11) rfl (fun hg4 => ?_) (fun hg4 => ?_)
   ·have hG4 := hg4; try simp only [gS] at hG4
    refine o_v hf hh (yv_fieldAddr Tryz.fo_26_2 rfl) ?_; clear hf a; intro a hf
    refine o_v hf hh (y_lds Tryz.ag_24 rfl) ?_; clear hf a; intro a hf
    refine o_call hf Tryz.en_71 rfl rfl rfl (c65 _ _ _ _ _) ?_; clear hf a; intro v a w hR hf
    obtain ⟨rfl, hx⟩ := hR; replace hh := hh.more hx; clear hx
    refine o_v hf hh (y_pt rfl rfl) ?_; clear hf a; intro a hf
    refine o_v hf hh (yv_move rfl) ?_; clear hf a; intro a hf
    refine guard_split hf (t := 16) rfl (fun hg6 => ?_) (fun hg6 => ?_)
    ·have hG6 := hg6; try simp only [gS] at hG6
     refine o_v hf hh (yv_fieldAddr Tryz.fo_26_3 rfl) ?_; clear hf a; intro a hf
     refine o_v hf hh (y_ld Tryz.sc_3 rfl) ?_; clear hf a; intro a hf
     refine o_call hf Tryz.en_72 rfl rfl rfl (c58 _ _ _ _) ?_; clear hf a; intro v a w hR hf
     obtain ⟨rfl, hx⟩ := hR; replace hh := hh.more hx; clear hx
     refine o_v hf hh (y_pt rfl rfl) ?_; clear hf a; intro a hf
     refine o_v hf hh (yv_assign rfl) ?_; clear hf a; intro a hf
     refine o_end ?_
     refine sy_ret ?_
     refine ret_r hf rfl rfl ?_
     exact ⟨congrArg Value.bool (by rw [okRows_eq]; (simp only [*, Bool.and_true, Bool.true_and, Bool.and_false, Bool.false_and, Bool.and_self, Bool.or_true, Bool.or_false])), hh.ext⟩
    ·have hG6 := hg6; try simp only [gS] at hG6
     refine o_off hf ?_; clear hf a; intro a hf
     refine o_off hf ?_; clear hf a; intro a hf
     refine o_off hf ?_; clear hf a; intro a hf
     refine o_v hf hh (y_pf rfl rfl) ?_; clear hf a; intro a hf
     refine o_v hf hh (yv_assign rfl) ?_; clear hf a; intro a hf
     refine o_end ?_
     refine sy_ret ?_
     refine ret_r hf rfl rfl ?_
     exact ⟨congrArg Value.bool (by rw [okRows_eq]; (simp only [*, Bool.and_true, Bool.true_and, Bool.and_false, Bool.false_and, Bool.and_self, Bool.or_true, Bool.or_false])), hh.ext⟩
   ·have hG4 := hg4; try simp only [gS] at hG4
    refine o_off hf ?_; clear hf a; intro a hf
    refine o_off hf ?_; clear hf a; intro a hf
    refine o_off hf ?_; clear hf a; intro a hf
    refine o_v hf hh (y_pf rfl rfl) ?_; clear hf a; intro a hf
    refine o_v hf hh (yv_move rfl) ?_; clear hf a; intro a hf
    refine o_off hf ?_; clear hf a; intro a hf
    refine o_off hf ?_; clear hf a; intro a hf
    refine o_off hf ?_; clear hf a; intro a hf
    refine o_v hf hh (y_pf rfl rfl) ?_; clear hf a; intro a hf
    refine o_v hf hh (yv_assign rfl) ?_; clear hf a; intro a hf
    refine o_end ?_
    refine sy_ret ?_
    refine ret_r hf rfl rfl ?_
    exact ⟨congrArg Value.bool (by rw [okRows_eq]; (simp only [*, Bool.and_true, Bool.true_and, Bool.and_false, Bool.false_and, Bool.and_self, Bool.or_true, Bool.or_false])), hh.ext⟩
  ·have hG2 := hg2; try simp only [gS] at hG2
   refine o_off hf ?_; clear hf a; intro a hf
   refine o_off hf ?_; clear hf a; intro a hf
   refine o_off hf ?_; clear hf a; intro a hf
   refine o_v hf hh (y_pf rfl rfl) ?_; clear hf a; intro a hf
   refine o_v hf hh (yv_move rfl) ?_; clear hf a; intro a hf
   refine o_off hf ?_; clear hf a; intro a hf
   refine o_off hf ?_; clear hf a; intro a hf
   refine o_off hf ?_; clear hf a; intro a hf
   refine o_v hf hh (y_pf rfl rfl) ?_; clear hf a; intro a hf
   refine o_v hf hh (yv_move rfl) ?_; clear hf a; intro a hf
   refine o_off hf ?_; clear hf a; intro a hf
   refine o_off hf ?_; clear hf a; intro a hf
   refine o_off hf ?_; clear hf a; intro a hf
   refine o_v hf hh (y_pf rfl rfl) ?_; clear hf a; intro a hf
   refine o_v hf hh (yv_assign rfl) ?_; clear hf a; intro a hf
   refine o_end ?_
   refine sy_ret ?_
   refine ret_r hf rfl rfl ?_
   exact ⟨congrArg Value.bool (by rw [okRows_eq]; (simp only [*, Bool.and_true, Bool.true_and, Bool.and_false, Bool.false_and, Bool.and_self, Bool.or_true, Bool.or_false])), hh.ext⟩
end Go.Proofs.YtidieepndphodaaGreat
namespace Go.Proofs.YtidieepndphodaaGreat
open Go Go.Sy Go.MatM
theorem c91 (n : Nat) (hn : n ≤ 60) (u : World) : Calls Tryz.prog 82 #[.int .i64 (n : Nat)] u (Ret fun v w' => v = .int .i64 ((2 ^ n : Nat) : Int) ∧ Ext [] u w') := by
  refine calls_of Tryz.func82 rfl rfl (fun a hf => ?_)
  have hh := Hp.init u []
  refine sy_sq ?_
  refine o_v hf hh (yv_assign rfl) ?_; clear hf a; intro a hf
  refine o_end ?_
  refine sy_sq ?_
  refine o_v hf hh (yv_assign rfl) ?_; clear hf a; intro a hf
  refine o_end ?_
  refine sy_seq ?_
  refine sy_sq ?_
  refine o_v hf hh (yv_assign rfl) ?_; clear hf a; intro a hf
  refine o_end ?_
  refine sy_block ?_
  refine sy_loopF (σ := Nat) [3, 4, 5, 6, 7, 8, 9, 10, 11] (fun i => [(4, .int .i64 (i : Nat)), (3, .int .i64 ((2 ^ i : Nat) : Int))]) (fun i => i ≤ n) (fun i => n - i) (0) hf hh ?_ ?_ ?_
  · repeat' (first | exact True.intro | refine And.intro rfl ?_)
  · exact Nat.zero_le _
  ·rintro i a w hi hf hh
   refine sy_seq ?_
   refine sy_sq ?_
   refine o_v hf hh (yv_move rfl) ?_; clear hf a; intro a hf
   refine o_v hf hh (yv_move rfl) ?_; clear hf a; intro a hf
   refine o_v hf hh (yv_bin rfl rfl rfl) ?_; clear hf a; intro a hf
   refine o_end ?_
   refine sy_cond hf rfl (fun hg2 => ?_) (fun hg2 => ?_)
   ·have hG2 := hg2; try simp only [gS] at hG2
    refine sy_skip ?_
    refine then_n ?_
    refine sy_seq ?_
    refine sy_block ?_
    have hz2 : 2 ^ (i + 1) = 2 * 2 ^ i := by rw [Nat.pow_succ]; omega
    have hzb : 2 ^ i ≤ 2 ^ 60 := Nat.pow_le_pow_right (by decide) (by omega)
    obtain ⟨z, hz⟩ : ∃ z : Nat, z = 2 ^ i := ⟨_, rfl⟩
    rw [← hz] at hf hz2 hzb
    refine sy_ops ?_
    refine o_v hf hh (yv_move rfl) ?_; clear hf a; intro a hf
    refine ops_v hf hh (yv_cast (yv_mul rfl rfl (by omega) (by omega)) (intv (b := ((2 ^ (i + 1) : Nat) : Int)) (by rw [hz2]; omega))) (.inl rfl) rfl rfl rfl ?_; clear hf a; intro a hf
    refine o_v hf hh (yv_assign rfl) ?_; clear hf a; intro a hf
    refine ops_end ?_
    refine blk_n ?_
    refine then_n ?_
    refine sy_ops ?_
    refine o_v hf hh (yv_move rfl) ?_; clear hf a; intro a hf
    refine o_v hf hh (y_add rfl rfl) ?_; clear hf a; intro a hf
    refine o_v hf hh (yv_assign rfl) ?_; clear hf a; intro a hf
    refine ops_end ?_
    refine then_n ?_
    exact ⟨i + 1, ⟨by omega, (hf.head (by repeat' (first | exact True.intro | refine And.intro rfl ?_)) (Keep.cons rfl (Keep.cons rfl (Keep.cons rfl (Keep.cons rfl (Keep.cons rfl (Keep.cons rfl (Keep.cons rfl (Keep.cons rfl (Keep.cons rfl (Keep.app rfl (Keep.rm rfl Keep.base)))))))))))), hh⟩, by omega⟩
   ·have hG2 := hg2; try simp only [gS] at hG2
    refine sy_exit ?_
    refine then_e ?_
    refine then_e ?_
    refine blk_e ?_
    refine then_n ?_
    refine sy_sq ?_
    refine o_v hf hh (yv_move rfl) ?_; clear hf a; intro a hf
    refine o_v hf hh (yv_assign rfl) ?_; clear hf a; intro a hf
    refine o_end ?_
    refine sy_ret ?_
    refine ret_r hf rfl rfl ?_
    rw [show n = i by omega]
    exact ⟨rfl, hh.ext⟩
theorem c71 (s n : Nat) (hs : s ≤ 2305843009213693952) (hn : n ≤ 60) (u : World) : Calls Tryz.prog 67 #[.int .i64 (s : Nat), .int .i64 (n : Nat)] u (Ret fun v w' => v = .bool (s.testBit n) ∧ Ext [] u w') := by
  refine calls_of Tryz.func67 rfl rfl (fun a hf => ?_)
  have hh := Hp.init u []
  have hz0 : 0 < 2 ^ n := Nat.two_pow_pos _
  have hy : ∀ y z : Nat, 0 < z → 0 ≤ (y : Int) ∧ 1 ≤ (z : Int) := fun y z h => ⟨Int.natCast_nonneg _, by omega⟩
  refine sy_sq ?_
  refine o_v hf hh (yv_assign rfl) ?_; clear hf a; intro a hf
  refine o_end ?_
  refine sy_sq ?_
  refine o_v hf hh (yv_move rfl) ?_; clear hf a; intro a hf
  refine o_v hf hh (yv_move rfl) ?_; clear hf a; intro a hf
  refine o_call hf Tryz.en_82 rfl rfl rfl (c91 n hn _) ?_; clear hf a; intro v a w hR hf
  obtain ⟨rfl, hx⟩ := hR; replace hh := hh.more hx; clear hx
  refine ops_v hf hh (yv_cast (yv_quo rfl rfl (hy s _ hz0).1 (hy s _ hz0).2 (by omega)) (intv (b := ((s / 2 ^ n : Nat) : Int)) rfl)) (.inl rfl) rfl rfl rfl ?_; clear hf a; intro a hf
  refine ops_v hf hh (yv_cast (yv_rem rfl rfl (Int.natCast_nonneg _) (by omega)) (intv (b := ((s / 2 ^ n % 2 : Nat) : Int)) rfl)) (.inl rfl) rfl rfl rfl ?_; clear hf a; intro a hf
  refine o_v hf hh (yv_cast (yv_bin rfl rfl rfl) (congrArg Value.bool (has_bit s n))) ?_; clear hf a; intro a hf
  refine o_v hf hh (yv_assign rfl) ?_; clear hf a; intro a hf
  refine o_end ?_
  refine sy_ret ?_
  refine ret_r hf rfl rfl ?_
  exact ⟨rfl, hh.ext⟩
end Go.Proofs.YtidieepndphodaaGreat
namespace Go.Proofs.YtidieepndphodaaGreat
open Go Go.Sy Go.MatM
theorem p52 (s n : Nat) (hs : s < 65536) (hn : n ≤ 60) (u : World) : Calls Tryz.prog 50 #[.int .u64 (s : Nat), .int .i64 (n : Nat)] u (Ret fun v w' => v = .bool (s.testBit n) ∧ Ext [] u w') := by
  refine calls_of Tryz.func50 rfl rfl (fun a hf => ?_)
  have hh := Hp.init u []
  have hz : ∀ k : Nat, ((s >>> k : Nat) : Int) ≤ 65535 := fun k => by have := Nat.shiftRight_le s k; omega
  have hz1 : ((((s : Nat) : Int).toNat >>> ((n : Nat) : Int).toNat : Nat) : Int) ≤ IntKind.top .u64 := by have := hz ((n : Nat) : Int).toNat; rw [Int.toNat_natCast s]; simp only [IntKind.top]; omega
  refine sy_sq ?_
  refine o_v hf hh (yv_assign rfl) ?_; clear hf a; intro a hf
  refine o_end ?_
  refine sy_sq ?_
  refine o_v hf hh (yv_move rfl) ?_; clear hf a; intro a hf
  refine o_v hf hh (yv_move rfl) ?_; clear hf a; intro a hf
  refine o_v hf hh (yv_shrx (.inr rfl) rfl rfl (by omega) (by omega) (by omega)) ?_; clear hf a; intro a hf
  refine o_v hf hh (yv_and (.inr rfl) rfl rfl (Int.natCast_nonneg _) hz1 (by omega) (by simp only [IntKind.top]; omega)) ?_; clear hf a; intro a hf
  refine o_v hf hh (yv_cast (yv_bin rfl rfl rfl) (congrArg Value.bool (has_u s n))) ?_; clear hf a; intro a hf
  refine o_v hf hh (yv_assign rfl) ?_; clear hf a; intro a hf
  refine o_end ?_
  refine sy_ret ?_
  refine ret_r hf rfl rfl ?_
  exact ⟨rfl, hh.ext⟩
theorem p68 (s : Nat) (hs : s < 65536) (u : World) : Calls Tryz.prog 60 #[.int .u64 (s : Nat)] u (Ret fun v w' => v = .int .i64 (pc s) ∧ Ext [] u w') := by
  refine calls_of Tryz.func60 rfl rfl (fun a hf => ?_)
  have hh := Hp.init u []
  refine sy_sq ?_
  refine o_v hf hh (yv_assign rfl) ?_; clear hf a; intro a hf
  refine o_end ?_
  refine sy_sq ?_
  refine o_v hf hh (yv_move rfl) ?_; clear hf a; intro a hf
  refine o_call hf Tryz.en_76 rfl rfl rfl (c67 s hs _) ?_; clear hf a; intro v a w hR hf
  obtain ⟨rfl, hx⟩ := hR; replace hh := hh.more hx; clear hx
  refine o_v hf hh (yv_assign rfl) ?_; clear hf a; intro a hf
  refine o_end ?_
  refine sy_ret ?_
  refine ret_r hf rfl rfl ?_
  exact ⟨rfl, hh.ext⟩
theorem p72 (l : List Mk) (sa : Option Addr) (ca : Nat) (s : Nat) (u : World) (hA : MkAt u sa l) (hl : l.length ≤ 10) (hs : s < 65536) : Calls Tryz.prog 68 #[.slice sa l.length ca, .int .u64 (s : Nat)] u (Ret fun v w' => ∃ X, OwnSl 89 4 v (keepL l s).length (encM (keepL l s)) X ∧ Hp u [] X w') := by
  refine calls_of Tryz.func68 rfl rfl (fun a hf => ?_)
  have hh := Hp.init u []
  refine sy_sq ?_
  refine o_v hf hh (yv_assign rfl) ?_; clear hf a; intro a hf
  refine o_end ?_
  refine sy_seq ?_
  refine sy_sq ?_
  refine o_v hf hh (yv_move rfl) ?_; clear hf a; intro a hf
  refine o_v hf hh (yv_len Tryz.se_22 rfl) ?_; clear hf a; intro a hf
  refine o_v hf hh (yv_move rfl) ?_; clear hf a; intro a hf
  refine o_end ?_
  refine sy_block ?_
  refine sy_loopH (σ := Nat × Value × List (Nat × Obj)) [4, 5, 6, 9, 10, 11, 12, 13, 14, 15, 16, 17, 18, 19, 20, 21, 22] (fun q => [(9, .int .i64 (q.1 : Nat)), (4, q.2.1)]) (fun q => fun w => q.1 ≤ l.length ∧ OwnSl 89 4 q.2.1 (keepL (l.take q.1) s).length (encM (keepL (l.take q.1) s)) q.2.2 ∧ Hp u [] q.2.2 w) (fun q => l.length - q.1) ((0, .slice none 0 0, [])) hf ?_ ?_ ?_
  · exact ⟨rfl, rfl, True.intro⟩
  · exact ⟨Nat.zero_le _, OwnSl.nil _ _, hh⟩
  ·rintro q a w ⟨hi, hO, hh⟩ hf
   obtain ⟨i, v0, X⟩ := q; simp only at hi hO hh hf ⊢
   refine sy_sq ?_
   refine o_v hf hh (yv_bin rfl rfl rfl) ?_; clear hf a; intro a hf
   refine o_end ?_
   refine sy_seq ?_
   refine sy_cond hf rfl (fun hg2 => ?_) (fun hg2 => ?_)
   ·have hG2 := hg2; try simp only [gS] at hG2
    refine sy_skip ?_
    refine then_n ?_
    refine sy_seq ?_
    refine sy_block ?_
    refine sy_seq ?_
    obtain ⟨m, hm⟩ := ex_of (l := l) (i := i) (by omega)
    obtain ⟨blk, off, c, Tx, fr, e1, hbx, hcx⟩ := hA i m hm
    subst e1
    replace hcx : cellsAt c (off + ((i : Nat) : Int).toNat * 4) 4 = some (mkC m) := by rw [Int.toNat_natCast]; exact hcx
    have hsn := keepL_snoc (s := s) hm
    have hkl := keepL_len (l.take i) s
    rw [List.length_take] at hkl
    refine sy_ops ?_
    refine o_v hf hh (yv_move rfl) ?_; clear hf a; intro a hf
    refine o_v hf hh (y_ix Tryz.se_22 rfl rfl) ?_; clear hf a; intro a hf
    refine o_v hf hh (y_lds Tryz.ag_89 rfl) ?_; clear hf a; intro a hf
    refine o_alloc hf hh Tryz.ze_89 ?_; clear hf hh a; intro B6 a w hf hh
    refine o_v hf hh (yv_assign rfl) ?_; clear hf a; intro a hf
    refine o_store hf hh Tryz.sz_89 fun w hh => ?_
    refine o_end ?_
    refine sy_sq ?_
    refine o_v hf hh (yv_move rfl) ?_; clear hf a; intro a hf
    refine o_v hf hh (yv_move rfl) ?_; clear hf a; intro a hf
    refine o_call hf Tryz.en_50 rfl rfl rfl (p52 s i hs (by omega) _) ?_; clear hf a; intro v a w hR hf
    obtain ⟨rfl, hx⟩ := hR; replace hh := hh.more hx; clear hx
    refine o_v hf hh (yv_not rfl) ?_; clear hf a; intro a hf
    refine o_end ?_
    refine sy_cond hf rfl (fun hg4 => ?_) (fun hg4 => ?_)
    ·have hG4 := hg4; try simp only [gS] at hG4
     refine sy_ops ?_
     refine o_v hf hh (yv_move rfl) ?_; clear hf a; intro a hf
     refine o_v hf hh (y_lds Tryz.ag_89 rfl) ?_; clear hf a; intro a hf
     refine ops_buildSl hf hh Tryz.bl_22_1 rfl rfl (.inl rfl) rfl ?_; clear hf hh; clear a; intro B20 a w hf hh
     refine ops_append (e := 89) (size := 4) (xs := encM (keepL (l.take i) s)) (X := X) (Z := [(B6, .cells (mkV m).cells 89)]) (m := (keepL (l.take i) s).length) (q := 1) hf (hh.perm (.cons _ (List.perm_append_comm (l₁ := [_]) (l₂ := X)))) Tryz.eb_22 rfl rfl hO rfl rfl rfl (by simp only [maxLen]; omega) (by omega) (.inl rfl) rfl ?_; clear hf hh a; intro v1 X1 a w hO1 hf hh
     replace hh := hh.less (List.sublist_append_left _ _)
     refine o_v hf hh (yv_assign rfl) ?_; clear hf a; intro a hf
     refine ops_end ?_
     refine blk_n ?_
     refine then_n ?_
     refine sy_ops ?_
     refine o_v hf hh (y_add rfl rfl) ?_; clear hf a; intro a hf
     refine o_v hf hh (yv_move rfl) ?_; clear hf a; intro a hf
     refine ops_end ?_
     refine then_n ?_
     first
       | (rw [if_pos (by assumption)] at hsn
          exact ⟨(i + 1, v0, X), ⟨⟨by simp only; omega, by simp only [hsn]; exact hO, hh.less (.cons _ (List.Sublist.refl _))⟩, hf.head ⟨rfl, rfl, True.intro⟩ (Keep.cons rfl (Keep.cons rfl (Keep.cons rfl (Keep.cons rfl (Keep.cons rfl (Keep.cons rfl (Keep.cons rfl (Keep.cons rfl (Keep.cons rfl (Keep.cons rfl (Keep.cons rfl (Keep.cons rfl (Keep.cons rfl (Keep.cons rfl (Keep.cons rfl (Keep.cons rfl (Keep.cons rfl (Keep.app rfl (Keep.rm rfl Keep.base)))))))))))))))))))⟩, by simp only; omega⟩)
       | (rw [if_neg (by simp_all)] at hsn
          exact ⟨(i + 1, v1, X1), ⟨⟨by simp only; omega, by simp only [hsn, List.length_append, encM_app]; exact hO1, hh⟩, hf.head ⟨rfl, rfl, True.intro⟩ (Keep.cons rfl (Keep.cons rfl (Keep.cons rfl (Keep.cons rfl (Keep.cons rfl (Keep.cons rfl (Keep.cons rfl (Keep.cons rfl (Keep.cons rfl (Keep.cons rfl (Keep.cons rfl (Keep.cons rfl (Keep.cons rfl (Keep.cons rfl (Keep.cons rfl (Keep.cons rfl (Keep.cons rfl (Keep.app rfl (Keep.rm rfl Keep.base)))))))))))))))))))⟩, by simp only; omega⟩)
    ·have hG4 := hg4; try simp only [gS] at hG4
     refine sy_skip ?_
     refine blk_n ?_
     refine then_n ?_
     refine sy_ops ?_
     refine o_v hf hh (y_add rfl rfl) ?_; clear hf a; intro a hf
     refine o_v hf hh (yv_move rfl) ?_; clear hf a; intro a hf
     refine ops_end ?_
     refine then_n ?_
     first
       | (rw [if_pos (by assumption)] at hsn
          exact ⟨(i + 1, v0, X), ⟨⟨by simp only; omega, by simp only [hsn]; exact hO, hh.less (.cons _ (List.Sublist.refl _))⟩, hf.head ⟨rfl, rfl, True.intro⟩ (Keep.cons rfl (Keep.cons rfl (Keep.cons rfl (Keep.cons rfl (Keep.cons rfl (Keep.cons rfl (Keep.cons rfl (Keep.cons rfl (Keep.cons rfl (Keep.cons rfl (Keep.cons rfl (Keep.cons rfl (Keep.app rfl (Keep.rm rfl Keep.base))))))))))))))⟩, by simp only; omega⟩)
       | (rw [if_neg (by simp_all)] at hsn
          exact ⟨(i + 1, v1, X1), ⟨⟨by simp only; omega, by simp only [hsn, List.length_append, encM_app]; exact hO1, hh⟩, hf.head ⟨rfl, rfl, True.intro⟩ (Keep.cons rfl (Keep.cons rfl (Keep.cons rfl (Keep.cons rfl (Keep.cons rfl (Keep.cons rfl (Keep.cons rfl (Keep.cons rfl (Keep.cons rfl (Keep.cons rfl (Keep.cons rfl (Keep.cons rfl (Keep.app rfl (Keep.rm rfl Keep.base))))))))))))))⟩, by simp only; omega⟩)
   ·have hG2 := hg2; try simp only [gS] at hG2
    refine sy_exit ?_
    refine then_e ?_
    refine then_e ?_
    refine blk_e ?_
    refine then_n ?_
    refine sy_sq ?_
    refine o_v hf hh (yv_move rfl) ?_; clear hf a; intro a hf
    refine o_v hf hh (yv_assign rfl) ?_; clear hf a; intro a hf
    refine o_end ?_
    refine sy_ret ?_
    refine ret_r hf rfl rfl ?_
    rw [List.take_of_length_le (by omega)] at hO
    exact ⟨X, hO, hh⟩
theorem p38l (d : RowsD) (p : Int) (sa sb : Option Addr) (ca cb bm Bc : Nat) (u : World) (hc : u.heap[Bc]? = some (.cells (canC d p sa sb ca cb bm) 99 (0, 0))) (hl : d.l.length ≤ 1000) (hr : d.r.length ≤ 1000) : Calls Tryz.prog 31 #[ptr Bc 0, .int .i64 0] u (Ret fun v w' => v = .int .i64 ((d.l.length : Nat) : Int) ∧ Ext [] u w') := by
  refine calls_of Tryz.func31 rfl rfl (fun a hf => ?_)
  have hh := Hp.init u []
  refine sy_sq ?_
  refine o_v hf hh (yv_assign rfl) ?_; clear hf a; intro a hf
  refine o_end ?_
  refine sy_seq ?_
  refine sy_quiet (C := Hp _ _ _) Tryz.follows (by kernel_rfl) (hh.drawn _) ?_
  refine oq_v hf (yv_move rfl) ?_; clear hf a; intro a hf
  refine oq_v hf (yv_nilCheck rfl) ?_; clear hf a; intro a hf
  refine oq_v hf (yv_fieldAddr Tryz.fo_99_0 rfl) ?_; clear hf a; intro a hf
  refine oq_v hf (yv_fieldAddr Tryz.fo_28_0 rfl) ?_; clear hf a; intro a hf
  refine oq_v hf (yv_fieldAddr Tryz.fo_26_0 rfl) ?_; clear hf a; intro a hf
  refine oq_v hf (y_ld Tryz.sc_22 rfl) ?_; clear hf a; intro a hf
  refine oq_v hf (yv_len Tryz.se_22 rfl) ?_; clear hf a; intro a hf
  refine oq_v hf (yv_move rfl) ?_; clear hf a; intro a hf
  refine oq_v hf (yv_nilCheck rfl) ?_; clear hf a; intro a hf
  refine oq_v hf (yv_fieldAddr Tryz.fo_99_0 rfl) ?_; clear hf a; intro a hf
  refine oq_v hf (yv_fieldAddr Tryz.fo_28_0 rfl) ?_; clear hf a; intro a hf
  refine oq_v hf (yv_fieldAddr Tryz.fo_26_1 rfl) ?_; clear hf a; intro a hf
  refine oq_v hf (y_ld Tryz.sc_22 rfl) ?_; clear hf a; intro a hf
  refine oq_v hf (yv_len Tryz.se_22 rfl) ?_; clear hf a; intro a hf
  refine oq_v hf (yv_buildA Tryz.ba_100 rfl rfl) ?_; clear hf a; intro a hf
  refine oq_v hf (yv_move rfl) ?_; clear hf a; intro a hf
  refine oq_v hf (yv_idxS Tryz.ae_100 Tryz.sc_3 rfl rfl (by first | rfl | assumption)) ?_; clear hf a; intro a hf
  refine oq_v hf (yv_assign rfl) ?_; clear hf a; intro a hf
  refine q_end fun w hh => ?_
  refine then_n ?_
  refine sy_ret ?_
  refine ret_r hf rfl rfl ?_
  exact ⟨rfl, hh.ext⟩
theorem p38r (d : RowsD) (p : Int) (sa sb : Option Addr) (ca cb bm Bc : Nat) (u : World) (hc : u.heap[Bc]? = some (.cells (canC d p sa sb ca cb bm) 99 (0, 0))) (hl : d.l.length ≤ 1000) (hr : d.r.length ≤ 1000) : Calls Tryz.prog 31 #[ptr Bc 0, .int .i64 1] u (Ret fun v w' => v = .int .i64 ((d.r.length : Nat) : Int) ∧ Ext [] u w') := by
  refine calls_of Tryz.func31 rfl rfl (fun a hf => ?_)
  have hh := Hp.init u []
  refine sy_sq ?_
  refine o_v hf hh (yv_assign rfl) ?_; clear hf a; intro a hf
  refine o_end ?_
  refine sy_seq ?_
  refine sy_quiet (C := Hp _ _ _) Tryz.follows (by kernel_rfl) (hh.drawn _) ?_
  refine oq_v hf (yv_move rfl) ?_; clear hf a; intro a hf
  refine oq_v hf (yv_nilCheck rfl) ?_; clear hf a; intro a hf
  refine oq_v hf (yv_fieldAddr Tryz.fo_99_0 rfl) ?_; clear hf a; intro a hf
  refine oq_v hf (yv_fieldAddr Tryz.fo_28_0 rfl) ?_; clear hf a; intro a hf
  refine oq_v hf (yv_fieldAddr Tryz.fo_26_0 rfl) ?_; clear hf a; intro a hf
  refine oq_v hf (y_ld Tryz.sc_22 rfl) ?_; clear hf a; intro a hf
  refine oq_v hf (yv_len Tryz.se_22 rfl) ?_; clear hf a; intro a hf
  refine oq_v hf (yv_move rfl) ?_; clear hf a; intro a hf
  refine oq_v hf (yv_nilCheck rfl) ?_; clear hf a; intro a hf
  refine oq_v hf (yv_fieldAddr Tryz.fo_99_0 rfl) ?_; clear hf a; intro a hf
  refine oq_v hf (yv_fieldAddr Tryz.fo_28_0 rfl) ?_; clear hf a; intro a hf
  refine oq_v hf (yv_fieldAddr Tryz.fo_26_1 rfl) ?_; clear hf a; intro a hf
  refine oq_v hf (y_ld Tryz.sc_22 rfl) ?_; clear hf a; intro a hf
  refine oq_v hf (yv_len Tryz.se_22 rfl) ?_; clear hf a; intro a hf
  refine oq_v hf (yv_buildA Tryz.ba_100 rfl rfl) ?_; clear hf a; intro a hf
  refine oq_v hf (yv_move rfl) ?_; clear hf a; intro a hf
  refine oq_v hf (yv_idxS Tryz.ae_100 Tryz.sc_3 rfl rfl (by first | rfl | assumption)) ?_; clear hf a; intro a hf
  refine oq_v hf (yv_assign rfl) ?_; clear hf a; intro a hf
  refine q_end fun w hh => ?_
  refine then_n ?_
  refine sy_ret ?_
  refine ret_r hf rfl rfl ?_
  exact ⟨rfl, hh.ext⟩
theorem p56 (d : RowsD) (p : Int) (sa sb : Option Addr) (ca cb bm Bc : Nat) (u : World) (hc : u.heap[Bc]? = some (.cells (canC d p sa sb ca cb bm) 99 (0, 0))) (hA : MkAt u sa d.l) (hB : MkAt u sb d.r) (hV : Valid d) (x : Nat × Nat) (hx1 : x.1 < 65536) (hx2 : x.2 < 65536) : Calls Tryz.prog 53 #[ptr Bc 0, enc2 x] u (Ret fun v w' => ∃ oa ob cpa cpb X1 X2, v = rowsV (woD d x) oa ob cpa cpb ∧ OwnSl 89 4 (.slice oa (woD d x).l.length cpa) (woD d x).l.length (encM (woD d x).l) X1 ∧ OwnSl 89 4 (.slice ob (woD d x).r.length cpb) (woD d x).r.length (encM (woD d x).r) X2 ∧ Hp u [] (X1 ++ X2) w') := by
  refine calls_of Tryz.func53 rfl rfl (fun a hf => ?_)
  have hh := Hp.init u []
  refine sy_sq ?_
  refine o_box hf hh ?_; clear hf hh a; intro B3 a w hf hh
  refine o_alloc hf hh Tryz.ze_26 ?_; clear hf hh a; intro B4 a w hf hh
  refine o_end ?_
  refine sy_sq ?_
  refine o_v hf hh (yv_move rfl) ?_; clear hf a; intro a hf
  refine o_v hf hh (yv_nilCheck rfl) ?_; clear hf a; intro a hf
  refine o_v hf hh (yv_fieldAddr Tryz.fo_99_0 rfl) ?_; clear hf a; intro a hf
  refine o_v hf hh (yv_fieldAddr Tryz.fo_28_0 rfl) ?_; clear hf a; intro a hf
  refine o_v hf hh (y_lds Tryz.ag_26 rfl) ?_; clear hf a; intro a hf
  refine o_alloc hf hh Tryz.ze_26 ?_; clear hf hh a; intro B5 a w hf hh
  refine o_store hf hh Tryz.sz_26 fun w hh => ?_
  refine o_end ?_
  refine sy_seq ?_
  replace hh : Hp u [] [(B5, .cells (rowsV d sa sb ca cb).cells 26), (B4, .cells #[.slice none 0 0, .slice none 0 0, .int .i64 0, .int .i64 0, .int .i64 0] 26), (B3, .cells (enc2 x).cells 57)] w := hh
  refine sy_treeC (.p 0 (.q 0 1 (.p 2 (.q 0 3 (.p 5 (.q 0 6 (.p 7 (.q 0 8 (.e1 4 (.p 10 (.e1 9 (.e1 11 (.p 12 (.e1 13 (.fin))))))))))))))) [[11, 13]] [(AtE u [] [(B5, .cells (rowsV d sa sb ca cb).cells 26), (B3, .cells (enc2 x).cells 57)], [11, 13])] Tryz.follows (by kernel_rfl) rfl hh (fun w hh => ?_)
  refine mc_p rfl   hf (yv_fieldAddr Tryz.fo_26_0 rfl) (.inl rfl) rfl rfl ?_; clear hf a; intro a hf
  refine mc_q rfl rfl (AtE.mk2 hh.ext (hh.at (i := 0) rfl) (hh.at (i := 2) rfl)) hf (y_ld Tryz.sc_22 rfl) (.inl rfl) rfl rfl ?_; clear hf a; intro a hf
  refine mc_p rfl   hf (y_ia Tryz.ae_57 rfl rfl) (.inl rfl) rfl rfl ?_; clear hf a; intro a hf
  refine mc_q rfl rfl (AtE.mk2 hh.ext (hh.at (i := 0) rfl) (hh.at (i := 2) rfl)) hf (y_ld Tryz.sc_55 rfl) (.inl rfl) rfl rfl ?_; clear hf a; intro a hf
  refine mc_p rfl   hf (yv_fieldAddr Tryz.fo_26_1 rfl) (.inl rfl) rfl rfl ?_; clear hf a; intro a hf
  refine mc_q rfl rfl (AtE.mk2 hh.ext (hh.at (i := 0) rfl) (hh.at (i := 2) rfl)) hf (y_ld Tryz.sc_22 rfl) (.inl rfl) rfl rfl ?_; clear hf a; intro a hf
  refine mc_p rfl   hf (y_ia Tryz.ae_57 rfl rfl) (.inl rfl) rfl rfl ?_; clear hf a; intro a hf
  refine mc_q rfl rfl (AtE.mk2 hh.ext (hh.at (i := 0) rfl) (hh.at (i := 2) rfl)) hf (y_ld Tryz.sc_55 rfl) (.inl rfl) rfl rfl ?_; clear hf a; intro a hf
  refine mc_e rfl fun Q1 => ?_
  refine o_call hf Tryz.en_68 rfl rfl rfl (p72 d.l sa ca x.1 _ (hA.ext hh.ext) hV.nl hx1) ?_; clear hf a; intro v a w hR hf
  obtain ⟨X1, hO1, hx⟩ := hR; replace hh := (hh.join hx).perm List.perm_append_comm; clear hx
  obtain ⟨oa1, cp1, rfl⟩ := OwnSl_val hO1
  refine ops_end ?_
  refine then_n ⟨⟨fun _ _ => (AtE.mk2 hh.ext (hh.at (i := 0) rfl) (hh.at (i := 2) rfl)), trivial⟩, ?_⟩
  refine mc_p rfl   hf (yv_fieldAddr Tryz.fo_26_0 rfl) (.inl rfl) rfl rfl ?_; clear hf a; intro a hf
  refine mc_e rfl fun Q1 => ?_
  refine o_call hf Tryz.en_68 rfl rfl rfl (p72 d.r sb cb x.2 _ (hB.ext hh.ext) hV.nr hx2) ?_; clear hf a; intro v a w hR hf
  obtain ⟨X2, hO2, hx⟩ := hR; replace hh := (hh.join hx).perm List.perm_append_comm; clear hx
  obtain ⟨oa2, cp2, rfl⟩ := OwnSl_val hO2
  refine ops_end ?_
  refine then_n ⟨⟨fun _ _ => (AtE.mk2 hh.ext (hh.at (i := 0) rfl) (hh.at (i := 2) rfl)), trivial⟩, ?_⟩
  refine mc_e rfl fun Q1 => ?_
  refine o_store hf hh Tryz.sz_22 fun w hh => ?_
  refine ops_end ?_
  refine then_n ⟨⟨fun h => Bool.noConfusion (show true = false from h), trivial⟩, ?_⟩
  refine mc_p rfl   hf (yv_fieldAddr Tryz.fo_26_1 rfl) (.inl rfl) rfl rfl ?_; clear hf a; intro a hf
  refine mc_e rfl fun Q1 => ?_
  refine o_store hf hh Tryz.sz_22 fun w hh => ?_
  refine ops_end ?_
  refine then_n ⟨⟨fun h => Bool.noConfusion (show true = false from h), trivial⟩, ?_⟩
  refine mc_end ?_
  refine then_n ?_
  refine sy_sq ?_
  refine o_v hf hh (y_lds Tryz.ag_26 rfl) ?_; clear hf a; intro a hf
  refine o_store hf hh Tryz.sz_26 fun w hh => ?_
  refine o_end ?_
  refine sy_ret ?_
  refine ret_c (vs := [rowsV (woD d x) oa1 oa2 cp1 cp2]) hf ?_ ?_
  · exact ⟨⟨B4, 0, _, 26, (0, 0), rfl, hh.at (i := 1) rfl, .inr ⟨5, _, Tryz.ag_26, rfl, rfl⟩⟩, trivial⟩
  exact ⟨oa1, oa2, cp1, cp2, X1, X2, rfl, hO1, hO2, hh.less (.cons _ (.cons _ (.cons _ (.refl _))))⟩
end Go.Proofs.YtidieepndphodaaGreat
