/- Lemmas, in order: Pairs in memory. Closed facts on the loaded program's types and functions, by program. Pairs are good: the reference's own. Package pair: what is a pair. Package pair: shifts, spans, narrowing. Package pair: what is shown. Package pair: what can stand still. Package pair: look.. -/
import Derived.Test.YtccpgpnekoncoaaQ3
import Derived.Test.YtccpgpnekoncoaaProg
namespace Go.PaiM
open Go Go.Sy
abbrev spV (s : Int × Int) : Value := .agg #[.int .i64 s.1, .int .i64 s.2]
abbrev plV (x y : Int × Int) : Value := .agg #[.int .i64 x.1, .int .i64 x.2, .int .i64 y.1, .int .i64 y.2]
abbrev thC (t : ThD) : List Value := [.int .i64 t.lx.1, .int .i64 t.lx.2, .int .i64 t.ly.1, .int .i64 t.ly.2, .int .i64 t.rx.1, .int .i64 t.rx.2, .int .i64 t.ry.1, .int .i64 t.ry.2, .int .i64 t.far]
abbrev thA (t : ThD) : Array Value := #[.int .i64 t.lx.1, .int .i64 t.lx.2, .int .i64 t.ly.1, .int .i64 t.ly.2, .int .i64 t.rx.1, .int .i64 t.rx.2, .int .i64 t.ry.1, .int .i64 t.ry.2, .int .i64 t.far]
abbrev prA (p : PrD) (sa : Option Addr) (cp : Nat) : Array Value := #[.int .i64 p.fo.1, .int .i64 p.fo.2, .int .i64 p.ba.1, .int .i64 p.ba.2, .int .i64 p.tilt, .int .i64 p.near, .int .i64 p.far, .slice sa p.th.length cp]
/-- Things lie in memory. -/
def ThAt (w : World) (sa : Option Addr) (l : List ThD) : Prop :=
  ∀ i t, l[i]? = some t → ∃ blk off c T fr, sa = some ⟨blk, off, none⟩ ∧ w.heap[blk]? = some (.cells c T fr) ∧ cellsAt c (off + ((i : Nat) : Int).toNat * 9) 9 = some (thC t)
theorem ThAt.ext {w w' : World} {sa : Option Addr} {l : List ThD} (h : ThAt w sa l) (e : Ext [] w w') : ThAt w' sa l := fun i s hi =>
  let ⟨blk, off, c, T, fr, h1, h2, h3⟩ := h i s hi
  ⟨blk, off, c, T, fr, h1, e.get h2, h3⟩
theorem ex_ofP {α : Type} {l : List α} {i : Nat} (h : i < l.length) : ∃ x, l[i]? = some x := ⟨l[i], List.getElem?_eq_getElem h⟩
theorem take_allP {α : Type} {f : α → Bool} {l : List α} {i : Nat} {x : α} (h : ∀ y ∈ l.take i, f y = true) (hx : l[i]? = some x) (hf : f x = true) : ∀ y ∈ l.take (i + 1), f y = true := fun y hy => by
  rw [List.take_add_one, hx, List.mem_append] at hy
  rcases hy with hy | hy
  · exact h y hy
  · have e : y = x := by simpa using hy
    rw [e]; exact hf
/-- What makes a pair good beside its things. -/
def prH (p : PrD) : Bool := decide ((p.th.length : Int) ≤ 12) && spP p.fo 1 50000 && spP p.ba 1 10000 && inP p.tilt 0 1000 && inP p.near 2000 1073741824 && inP p.far p.near 1073741824
theorem prB_bad {p : PrD} {i : Nat} {t : ThD} (h : p.th[i]? = some t) (hb : thB p t = false) : prB p = false := by
  have : p.th.all (thB p) = false := by
    rw [List.all_eq_false]
    exact ⟨t, List.mem_of_getElem? h, by rw [hb]; simp⟩
  unfold prB
  rw [this, Bool.and_false]
theorem prB_end {p : PrD} (h : ∀ t ∈ p.th, thB p t = true) : prB p = prH p := by
  have : p.th.all (thB p) = true := List.all_eq_true.2 h
  unfold prB prH
  rw [this, Bool.and_true, show decide ((p.th.length : Int) ≤ 12) = decide (p.th.length ≤ 12) from by rw [decide_eq_decide]; omega]
  cases decide (p.th.length ≤ 12) <;> simp
end Go.PaiM

namespace Go.Proofs.Ytccpgpnekoncoaa
open Go Go.Sy
theorem Try.follows : Try.prog.follows .mixedOrders = true := by kernel_rfl
theorem Try.ae_135 : arrayElem Try.prog 135 = some (2, 3, 1) := by kernel_rfl
theorem Try.ae_149 : arrayElem Try.prog 149 = some (4, 3, 1) := by kernel_rfl
theorem Try.ae_254 : arrayElem Try.prog 254 = some (5, 253, 1) := by kernel_rfl
theorem Try.ag_135 : aggB Try.prog 135 = some 2 := by kernel_rfl
theorem Try.ag_149 : aggB Try.prog 149 = some 4 := by kernel_rfl
theorem Try.ag_156 : aggB Try.prog 156 = some 5 := by kernel_rfl
theorem Try.ag_159 : aggB Try.prog 159 = some 2 := by kernel_rfl
theorem Try.ag_204 : aggB Try.prog 204 = some 5 := by kernel_rfl
theorem Try.ag_254 : aggB Try.prog 254 = some 5 := by kernel_rfl
theorem Try.ag_36 : aggB Try.prog 36 = some 2 := by kernel_rfl
theorem Try.ag_64 : aggB Try.prog 64 = some 8 := by kernel_rfl
theorem Try.ag_66 : aggB Try.prog 66 = some 17 := by kernel_rfl
theorem Try.ag_71 : aggB Try.prog 71 = some 4 := by kernel_rfl
theorem Try.ag_73 : aggB Try.prog 73 = some 9 := by kernel_rfl
theorem Try.ag_77 : aggB Try.prog 77 = some 4 := by kernel_rfl
theorem Try.ba_135 : arrayB Try.prog 135 = some ([(.int .i64 0), (.int .i64 0)], 1) := by kernel_rfl
theorem Try.ba_149 : arrayB Try.prog 149 = some ([(.int .i64 0), (.int .i64 0), (.int .i64 0), (.int .i64 0)], 1) := by kernel_rfl
theorem Try.ba_254 : arrayB Try.prog 254 = some ([.nilIface, .nilIface, .nilIface, .nilIface, .nilIface], 1) := by kernel_rfl
theorem Try.bl_198_1 : sliceB Try.prog 198 1 = some (135, 2, [(.int .i64 0), (.int .i64 0)]) := by kernel_rfl
theorem Try.bl_199_1 : sliceB Try.prog 199 1 = some (77, 4, [(.int .i64 0), (.int .i64 0), (.int .i64 0), (.int .i64 0)]) := by kernel_rfl
theorem Try.bl_211_1 : sliceB Try.prog 211 1 = some (159, 2, [(.int .i64 0), (.int .i64 0)]) := by kernel_rfl
theorem Try.bl_211_2 : sliceB Try.prog 211 2 = some (159, 2, [(.int .i64 0), (.int .i64 0), (.int .i64 0), (.int .i64 0)]) := by kernel_rfl
theorem Try.bl_239_4 : sliceB Try.prog 239 4 = some (241, 1, [.nilFunc, .nilFunc, .nilFunc, .nilFunc]) := by kernel_rfl
theorem Try.bl_25_1 : sliceB Try.prog 25 1 = some (3, 1, [(.int .i64 0)]) := by kernel_rfl
theorem Try.bl_25_4 : sliceB Try.prog 25 4 = some (3, 1, [(.int .i64 0), (.int .i64 0), (.int .i64 0), (.int .i64 0)]) := by kernel_rfl
theorem Try.bl_39_2 : sliceB Try.prog 39 2 = some (36, 2, [(.int .i64 0), (.int .i64 0), (.int .i64 0), (.int .i64 0)]) := by kernel_rfl
theorem Try.bl_62_0 : sliceB Try.prog 62 0 = some (73, 9, []) := by kernel_rfl
theorem Try.bl_62_2 : sliceB Try.prog 62 2 = some (73, 9, [(.int .i64 0), (.int .i64 0), (.int .i64 0), (.int .i64 0), (.int .i64 0), (.int .i64 0), (.int .i64 0), (.int .i64 0), (.int .i64 0), (.int .i64 0), (.int .i64 0), (.int .i64 0), (.int .i64 0), (.int .i64 0), (.int .i64 0), (.int .i64 0), (.int .i64 0), (.int .i64 0)]) := by kernel_rfl
theorem Try.bs_137 : structB Try.prog 137 = some ([(.int .i64 0), (.int .i64 0), (.int .i64 0), (.int .i64 0), (.int .i64 0), (.int .i64 0), (.int .i64 0), (.slice none 0 0), (.int .i64 0), (.int .i64 0)], [(0, 8), (8, 2)]) := by kernel_rfl
theorem Try.bs_148 : structB Try.prog 148 = some ([(.int .i64 0), (.int .i64 0), (.int .i64 0), (.int .i64 0), (.int .i64 0), (.int .i64 0), (.int .i64 0), (.slice none 0 0), (.int .i64 0), (.int .i64 0), (.int .i64 0), (.int .i64 0), (.int .i64 0), (.int .i64 0), (.int .i64 0), (.int .i64 0), (.int .i64 0), (.map none)], [(0, 17), (17, 1)]) := by kernel_rfl
theorem Try.bs_156 : structB Try.prog 156 = some ([(.pointer none), (.int .i64 0), (.int .i64 0), (.int .i64 0), (.int .i64 0)], [(0, 1), (1, 4)]) := by kernel_rfl
theorem Try.bs_159 : structB Try.prog 159 = some ([(.int .i64 0), (.int .i64 0)], [(0, 1), (1, 1)]) := by kernel_rfl
theorem Try.bs_190 : structB Try.prog 190 = some ([(.int .i64 0)], [(0, 1)]) := by kernel_rfl
theorem Try.bs_204 : structB Try.prog 204 = some ([(.int .i64 0), (.int .i64 0), (.int .i64 0), (.int .i64 0), (.int .i64 0)], [(0, 1), (1, 4)]) := by kernel_rfl
theorem Try.bs_235 : structB Try.prog 235 = some ([(.int .i64 0)], [(0, 1)]) := by kernel_rfl
theorem Try.bs_237 : structB Try.prog 237 = some ([(.int .i64 0), (.int .i64 0)], [(0, 1), (1, 1)]) := by kernel_rfl
theorem Try.bs_247 : structB Try.prog 247 = some ([], []) := by kernel_rfl
theorem Try.bs_248 : structB Try.prog 248 = some ([], []) := by kernel_rfl
theorem Try.bs_249 : structB Try.prog 249 = some ([], []) := by kernel_rfl
theorem Try.bs_250 : structB Try.prog 250 = some ([], []) := by kernel_rfl
theorem Try.bs_251 : structB Try.prog 251 = some ([], []) := by kernel_rfl
theorem Try.bs_36 : structB Try.prog 36 = some ([(.int .i64 0), (.int .i64 0)], [(0, 1), (1, 1)]) := by kernel_rfl
theorem Try.bs_64 : structB Try.prog 64 = some ([(.int .i64 0), (.int .i64 0), (.int .i64 0), (.int .i64 0), (.int .i64 0), (.int .i64 0), (.int .i64 0), (.slice none 0 0)], [(0, 2), (2, 2), (4, 1), (5, 1), (6, 1), (7, 1)]) := by kernel_rfl
theorem Try.bs_66 : structB Try.prog 66 = some ([(.int .i64 0), (.int .i64 0), (.int .i64 0), (.int .i64 0), (.int .i64 0), (.int .i64 0), (.int .i64 0), (.slice none 0 0), (.int .i64 0), (.int .i64 0), (.int .i64 0), (.int .i64 0), (.int .i64 0), (.int .i64 0), (.int .i64 0), (.int .i64 0), (.int .i64 0)], [(0, 8), (8, 1), (9, 1), (10, 1), (11, 2), (13, 1), (14, 1), (15, 1), (16, 1)]) := by kernel_rfl
theorem Try.bs_71 : structB Try.prog 71 = some ([(.int .i64 0), (.int .i64 0), (.int .i64 0), (.int .i64 0)], [(0, 2), (2, 2)]) := by kernel_rfl
theorem Try.bs_73 : structB Try.prog 73 = some ([(.int .i64 0), (.int .i64 0), (.int .i64 0), (.int .i64 0), (.int .i64 0), (.int .i64 0), (.int .i64 0), (.int .i64 0), (.int .i64 0)], [(0, 4), (4, 4), (8, 1)]) := by kernel_rfl
theorem Try.bs_77 : structB Try.prog 77 = some ([(.int .i64 0), (.int .i64 0), (.int .i64 0), (.int .i64 0)], [(0, 1), (1, 1), (2, 1), (3, 1)]) := by kernel_rfl
theorem Try.eb_25 : elemB Try.prog 25 = some (3, 1, 8, (.int .i64 0)) := by kernel_rfl
theorem Try.eb_62 : elemB Try.prog 62 = some (73, 9, 72, (.agg #[(.int .i64 0), (.int .i64 0), (.int .i64 0), (.int .i64 0), (.int .i64 0), (.int .i64 0), (.int .i64 0), (.int .i64 0), (.int .i64 0)])) := by kernel_rfl
theorem Try.en_100 : Enters Try.prog 100 := enters_of Try.func100 (by kernel_rfl) rfl
theorem Try.en_101 : Enters Try.prog 101 := enters_of Try.func101 (by kernel_rfl) rfl
theorem Try.en_102 : Enters Try.prog 102 := enters_of Try.func102 (by kernel_rfl) rfl
theorem Try.en_103 : Enters Try.prog 103 := enters_of Try.func103 (by kernel_rfl) rfl
theorem Try.en_104 : Enters Try.prog 104 := enters_of Try.func104 (by kernel_rfl) rfl
theorem Try.en_105 : Enters Try.prog 105 := enters_of Try.func105 (by kernel_rfl) rfl
theorem Try.en_106 : Enters Try.prog 106 := enters_of Try.func106 (by kernel_rfl) rfl
theorem Try.en_107 : Enters Try.prog 107 := enters_of Try.func107 (by kernel_rfl) rfl
theorem Try.en_108 : Enters Try.prog 108 := enters_of Try.func108 (by kernel_rfl) rfl
theorem Try.en_109 : Enters Try.prog 109 := enters_of Try.func109 (by kernel_rfl) rfl
theorem Try.en_110 : Enters Try.prog 110 := enters_of Try.func110 (by kernel_rfl) rfl
theorem Try.en_111 : Enters Try.prog 111 := enters_of Try.func111 (by kernel_rfl) rfl
theorem Try.en_112 : Enters Try.prog 112 := enters_of Try.func112 (by kernel_rfl) rfl
theorem Try.en_113 : Enters Try.prog 113 := enters_of Try.func113 (by kernel_rfl) rfl
theorem Try.en_114 : Enters Try.prog 114 := enters_of Try.func114 (by kernel_rfl) rfl
theorem Try.en_115 : Enters Try.prog 115 := enters_of Try.func115 (by kernel_rfl) rfl
theorem Try.en_116 : Enters Try.prog 116 := enters_of Try.func116 (by kernel_rfl) rfl
theorem Try.en_117 : Enters Try.prog 117 := enters_of Try.func117 (by kernel_rfl) rfl
theorem Try.en_118 : Enters Try.prog 118 := enters_of Try.func118 (by kernel_rfl) rfl
theorem Try.en_138 : Enters Try.prog 138 := enters_of Try.func138 (by kernel_rfl) rfl
theorem Try.en_139 : Enters Try.prog 139 := enters_of Try.func139 (by kernel_rfl) rfl
theorem Try.en_141 : Enters Try.prog 141 := enters_of Try.func141 (by kernel_rfl) rfl
theorem Try.en_142 : Enters Try.prog 142 := enters_of Try.func142 (by kernel_rfl) rfl
theorem Try.en_143 : Enters Try.prog 143 := enters_of Try.func143 (by kernel_rfl) rfl
theorem Try.en_144 : Enters Try.prog 144 := enters_of Try.func144 (by kernel_rfl) rfl
theorem Try.en_145 : Enters Try.prog 145 := enters_of Try.func145 (by kernel_rfl) rfl
theorem Try.en_146 : Enters Try.prog 146 := enters_of Try.func146 (by kernel_rfl) rfl
theorem Try.en_147 : Enters Try.prog 147 := enters_of Try.func147 (by kernel_rfl) rfl
theorem Try.en_148 : Enters Try.prog 148 := enters_of Try.func148 (by kernel_rfl) rfl
theorem Try.en_149 : Enters Try.prog 149 := enters_of Try.func149 (by kernel_rfl) rfl
theorem Try.en_150 : Enters Try.prog 150 := enters_of Try.func150 (by kernel_rfl) rfl
theorem Try.en_151 : Enters Try.prog 151 := enters_of Try.func151 (by kernel_rfl) rfl
theorem Try.en_16 : Enters Try.prog 16 := enters_of Try.func16 (by kernel_rfl) rfl
theorem Try.en_164 : Enters Try.prog 164 := enters_of Try.func164 (by kernel_rfl) rfl
theorem Try.en_165 : Enters Try.prog 165 := enters_of Try.func165 (by kernel_rfl) rfl
theorem Try.en_166 : Enters Try.prog 166 := enters_of Try.func166 (by kernel_rfl) rfl
theorem Try.en_167 : Enters Try.prog 167 := enters_of Try.func167 (by kernel_rfl) rfl
theorem Try.en_169 : Enters Try.prog 169 := enters_of Try.func169 (by kernel_rfl) rfl
theorem Try.en_17 : Enters Try.prog 17 := enters_of Try.func17 (by kernel_rfl) rfl
theorem Try.en_18 : Enters Try.prog 18 := enters_of Try.func18 (by kernel_rfl) rfl
theorem Try.en_19 : Enters Try.prog 19 := enters_of Try.func19 (by kernel_rfl) rfl
theorem Try.en_190 : Enters Try.prog 190 := enters_of Try.func190 (by kernel_rfl) rfl
theorem Try.en_191 : Enters Try.prog 191 := enters_of Try.func191 (by kernel_rfl) rfl
theorem Try.en_192 : Enters Try.prog 192 := enters_of Try.func192 (by kernel_rfl) rfl
theorem Try.en_193 : Enters Try.prog 193 := enters_of Try.func193 (by kernel_rfl) rfl
theorem Try.en_194 : Enters Try.prog 194 := enters_of Try.func194 (by kernel_rfl) rfl
theorem Try.en_195 : Enters Try.prog 195 := enters_of Try.func195 (by kernel_rfl) rfl
theorem Try.en_196 : Enters Try.prog 196 := enters_of Try.func196 (by kernel_rfl) rfl
theorem Try.en_20 : Enters Try.prog 20 := enters_of Try.func20 (by kernel_rfl) rfl
theorem Try.en_21 : Enters Try.prog 21 := enters_of Try.func21 (by kernel_rfl) rfl
theorem Try.en_22 : Enters Try.prog 22 := enters_of Try.func22 (by kernel_rfl) rfl
theorem Try.en_23 : Enters Try.prog 23 := enters_of Try.func23 (by kernel_rfl) rfl
theorem Try.en_24 : Enters Try.prog 24 := enters_of Try.func24 (by kernel_rfl) rfl
theorem Try.en_25 : Enters Try.prog 25 := enters_of Try.func25 (by kernel_rfl) rfl
theorem Try.en_26 : Enters Try.prog 26 := enters_of Try.func26 (by kernel_rfl) rfl
theorem Try.en_27 : Enters Try.prog 27 := enters_of Try.func27 (by kernel_rfl) rfl
theorem Try.en_59 : Enters Try.prog 59 := enters_of Try.func59 (by kernel_rfl) rfl
theorem Try.en_60 : Enters Try.prog 60 := enters_of Try.func60 (by kernel_rfl) rfl
theorem Try.en_61 : Enters Try.prog 61 := enters_of Try.func61 (by kernel_rfl) rfl
theorem Try.en_62 : Enters Try.prog 62 := enters_of Try.func62 (by kernel_rfl) rfl
theorem Try.en_63 : Enters Try.prog 63 := enters_of Try.func63 (by kernel_rfl) rfl
theorem Try.en_64 : Enters Try.prog 64 := enters_of Try.func64 (by kernel_rfl) rfl
theorem Try.en_65 : Enters Try.prog 65 := enters_of Try.func65 (by kernel_rfl) rfl
theorem Try.en_66 : Enters Try.prog 66 := enters_of Try.func66 (by kernel_rfl) rfl
theorem Try.en_67 : Enters Try.prog 67 := enters_of Try.func67 (by kernel_rfl) rfl
theorem Try.en_68 : Enters Try.prog 68 := enters_of Try.func68 (by kernel_rfl) rfl
theorem Try.en_69 : Enters Try.prog 69 := enters_of Try.func69 (by kernel_rfl) rfl
theorem Try.en_70 : Enters Try.prog 70 := enters_of Try.func70 (by kernel_rfl) rfl
theorem Try.en_71 : Enters Try.prog 71 := enters_of Try.func71 (by kernel_rfl) rfl
theorem Try.en_72 : Enters Try.prog 72 := enters_of Try.func72 (by kernel_rfl) rfl
theorem Try.en_73 : Enters Try.prog 73 := enters_of Try.func73 (by kernel_rfl) rfl
theorem Try.en_74 : Enters Try.prog 74 := enters_of Try.func74 (by kernel_rfl) rfl
theorem Try.en_75 : Enters Try.prog 75 := enters_of Try.func75 (by kernel_rfl) rfl
theorem Try.en_76 : Enters Try.prog 76 := enters_of Try.func76 (by kernel_rfl) rfl
theorem Try.en_77 : Enters Try.prog 77 := enters_of Try.func77 (by kernel_rfl) rfl
theorem Try.en_78 : Enters Try.prog 78 := enters_of Try.func78 (by kernel_rfl) rfl
theorem Try.en_79 : Enters Try.prog 79 := enters_of Try.func79 (by kernel_rfl) rfl
theorem Try.en_80 : Enters Try.prog 80 := enters_of Try.func80 (by kernel_rfl) rfl
theorem Try.en_81 : Enters Try.prog 81 := enters_of Try.func81 (by kernel_rfl) rfl
theorem Try.en_82 : Enters Try.prog 82 := enters_of Try.func82 (by kernel_rfl) rfl
theorem Try.en_83 : Enters Try.prog 83 := enters_of Try.func83 (by kernel_rfl) rfl
theorem Try.en_84 : Enters Try.prog 84 := enters_of Try.func84 (by kernel_rfl) rfl
theorem Try.en_85 : Enters Try.prog 85 := enters_of Try.func85 (by kernel_rfl) rfl
theorem Try.en_95 : Enters Try.prog 95 := enters_of Try.func95 (by kernel_rfl) rfl
theorem Try.en_97 : Enters Try.prog 97 := enters_of Try.func97 (by kernel_rfl) rfl
theorem Try.en_99 : Enters Try.prog 99 := enters_of Try.func99 (by kernel_rfl) rfl
theorem Try.fg_66_0 : fieldG Try.prog 66 0 = some (0, 8) := by kernel_rfl
theorem Try.fo_137_0 : fieldOff Try.prog 137 0 = some 0 := by kernel_rfl
theorem Try.fo_137_1 : fieldOff Try.prog 137 1 = some 8 := by kernel_rfl
theorem Try.fo_148_0 : fieldOff Try.prog 148 0 = some 0 := by kernel_rfl
theorem Try.fo_148_1 : fieldOff Try.prog 148 1 = some 17 := by kernel_rfl
theorem Try.fo_156_0 : fieldOff Try.prog 156 0 = some 0 := by kernel_rfl
theorem Try.fo_156_1 : fieldOff Try.prog 156 1 = some 1 := by kernel_rfl
theorem Try.fo_159_0 : fieldOff Try.prog 159 0 = some 0 := by kernel_rfl
theorem Try.fo_159_1 : fieldOff Try.prog 159 1 = some 1 := by kernel_rfl
theorem Try.fo_190_0 : fieldOff Try.prog 190 0 = some 0 := by kernel_rfl
theorem Try.fo_204_0 : fieldOff Try.prog 204 0 = some 0 := by kernel_rfl
theorem Try.fo_204_1 : fieldOff Try.prog 204 1 = some 1 := by kernel_rfl
theorem Try.fo_235_0 : fieldOff Try.prog 235 0 = some 0 := by kernel_rfl
theorem Try.fo_237_0 : fieldOff Try.prog 237 0 = some 0 := by kernel_rfl
theorem Try.fo_237_1 : fieldOff Try.prog 237 1 = some 1 := by kernel_rfl
theorem Try.fo_36_0 : fieldOff Try.prog 36 0 = some 0 := by kernel_rfl
theorem Try.fo_36_1 : fieldOff Try.prog 36 1 = some 1 := by kernel_rfl
theorem Try.fo_64_0 : fieldOff Try.prog 64 0 = some 0 := by kernel_rfl
theorem Try.fo_64_1 : fieldOff Try.prog 64 1 = some 2 := by kernel_rfl
theorem Try.fo_64_2 : fieldOff Try.prog 64 2 = some 4 := by kernel_rfl
theorem Try.fo_64_3 : fieldOff Try.prog 64 3 = some 5 := by kernel_rfl
theorem Try.fo_64_4 : fieldOff Try.prog 64 4 = some 6 := by kernel_rfl
theorem Try.fo_64_5 : fieldOff Try.prog 64 5 = some 7 := by kernel_rfl
theorem Try.fo_66_0 : fieldOff Try.prog 66 0 = some 0 := by kernel_rfl
theorem Try.fo_66_1 : fieldOff Try.prog 66 1 = some 8 := by kernel_rfl
theorem Try.fo_66_2 : fieldOff Try.prog 66 2 = some 9 := by kernel_rfl
theorem Try.fo_66_3 : fieldOff Try.prog 66 3 = some 10 := by kernel_rfl
theorem Try.fo_66_4 : fieldOff Try.prog 66 4 = some 11 := by kernel_rfl
theorem Try.fo_66_5 : fieldOff Try.prog 66 5 = some 13 := by kernel_rfl
theorem Try.fo_66_6 : fieldOff Try.prog 66 6 = some 14 := by kernel_rfl
theorem Try.fo_66_7 : fieldOff Try.prog 66 7 = some 15 := by kernel_rfl
theorem Try.fo_66_8 : fieldOff Try.prog 66 8 = some 16 := by kernel_rfl
theorem Try.fo_71_0 : fieldOff Try.prog 71 0 = some 0 := by kernel_rfl
theorem Try.fo_71_1 : fieldOff Try.prog 71 1 = some 2 := by kernel_rfl
theorem Try.fo_73_0 : fieldOff Try.prog 73 0 = some 0 := by kernel_rfl
theorem Try.fo_73_1 : fieldOff Try.prog 73 1 = some 4 := by kernel_rfl
theorem Try.fo_73_2 : fieldOff Try.prog 73 2 = some 8 := by kernel_rfl
theorem Try.fo_77_0 : fieldOff Try.prog 77 0 = some 0 := by kernel_rfl
theorem Try.fo_77_1 : fieldOff Try.prog 77 1 = some 1 := by kernel_rfl
theorem Try.fo_77_2 : fieldOff Try.prog 77 2 = some 2 := by kernel_rfl
theorem Try.fo_77_3 : fieldOff Try.prog 77 3 = some 3 := by kernel_rfl
theorem Try.fs_36_0 : fieldS Try.prog 36 0 = some 0 := by kernel_rfl
theorem Try.fs_36_1 : fieldS Try.prog 36 1 = some 1 := by kernel_rfl
theorem Try.mt_146 : mapTypes Try.prog 146 = some (3, 159, .i64) := by kernel_rfl
theorem Try.sc_133 : scalB Try.prog 133 = true := by kernel_rfl
theorem Try.sc_143 : scalB Try.prog 143 = true := by kernel_rfl
theorem Try.sc_146 : scalB Try.prog 146 = true := by kernel_rfl
theorem Try.sc_163 : scalB Try.prog 163 = true := by kernel_rfl
theorem Try.sc_186 : scalB Try.prog 186 = true := by kernel_rfl
theorem Try.sc_241 : scalB Try.prog 241 = true := by kernel_rfl
theorem Try.sc_253 : scalB Try.prog 253 = true := by kernel_rfl
theorem Try.sc_3 : scalB Try.prog 3 = true := by kernel_rfl
theorem Try.sc_4 : scalB Try.prog 4 = true := by kernel_rfl
theorem Try.sc_42 : scalB Try.prog 42 = true := by kernel_rfl
theorem Try.sc_62 : scalB Try.prog 62 = true := by kernel_rfl
theorem Try.se_198 : sliceElem Try.prog 198 = some (135, 2) := by kernel_rfl
theorem Try.se_199 : sliceElem Try.prog 199 = some (77, 4) := by kernel_rfl
theorem Try.se_211 : sliceElem Try.prog 211 = some (159, 2) := by kernel_rfl
theorem Try.se_239 : sliceElem Try.prog 239 = some (241, 1) := by kernel_rfl
theorem Try.se_25 : sliceElem Try.prog 25 = some (3, 1) := by kernel_rfl
theorem Try.se_39 : sliceElem Try.prog 39 = some (36, 2) := by kernel_rfl
theorem Try.se_62 : sliceElem Try.prog 62 = some (73, 9) := by kernel_rfl
theorem Try.sz_133 : (Try.prog.info? 133).map (·.size) = some 1 := by kernel_rfl
theorem Try.sz_135 : (Try.prog.info? 135).map (·.size) = some 2 := by kernel_rfl
theorem Try.sz_149 : (Try.prog.info? 149).map (·.size) = some 4 := by kernel_rfl
theorem Try.sz_156 : (Try.prog.info? 156).map (·.size) = some 5 := by kernel_rfl
theorem Try.sz_159 : (Try.prog.info? 159).map (·.size) = some 2 := by kernel_rfl
theorem Try.sz_186 : (Try.prog.info? 186).map (·.size) = some 1 := by kernel_rfl
theorem Try.sz_190 : (Try.prog.info? 190).map (·.size) = some 1 := by kernel_rfl
theorem Try.sz_204 : (Try.prog.info? 204).map (·.size) = some 5 := by kernel_rfl
theorem Try.sz_254 : (Try.prog.info? 254).map (·.size) = some 5 := by kernel_rfl
theorem Try.sz_3 : (Try.prog.info? 3).map (·.size) = some 1 := by kernel_rfl
theorem Try.sz_36 : (Try.prog.info? 36).map (·.size) = some 2 := by kernel_rfl
theorem Try.sz_4 : (Try.prog.info? 4).map (·.size) = some 1 := by kernel_rfl
theorem Try.sz_42 : (Try.prog.info? 42).map (·.size) = some 1 := by kernel_rfl
theorem Try.sz_62 : (Try.prog.info? 62).map (·.size) = some 1 := by kernel_rfl
theorem Try.sz_64 : (Try.prog.info? 64).map (·.size) = some 8 := by kernel_rfl
theorem Try.sz_66 : (Try.prog.info? 66).map (·.size) = some 17 := by kernel_rfl
theorem Try.sz_73 : (Try.prog.info? 73).map (·.size) = some 9 := by kernel_rfl
theorem Try.sz_77 : (Try.prog.info? 77).map (·.size) = some 4 := by kernel_rfl
theorem Try.un_110 : Try.prog.underlying 110 = some (.int .u64) := by kernel_rfl
theorem Try.un_3 : Try.prog.underlying 3 = some (.int .i64) := by kernel_rfl
theorem Try.ze_133 : zeroOf Try.prog 133 = some (.pointer none) := by kernel_rfl
theorem Try.ze_135 : zeroOf Try.prog 135 = some (.agg #[(.int .i64 0), (.int .i64 0)]) := by kernel_rfl
theorem Try.ze_149 : zeroOf Try.prog 149 = some (.agg #[(.int .i64 0), (.int .i64 0), (.int .i64 0), (.int .i64 0)]) := by kernel_rfl
theorem Try.ze_156 : zeroOf Try.prog 156 = some (.agg #[(.pointer none), (.int .i64 0), (.int .i64 0), (.int .i64 0), (.int .i64 0)]) := by kernel_rfl
theorem Try.ze_159 : zeroOf Try.prog 159 = some (.agg #[(.int .i64 0), (.int .i64 0)]) := by kernel_rfl
theorem Try.ze_186 : zeroOf Try.prog 186 = some .nilFunc := by kernel_rfl
theorem Try.ze_190 : zeroOf Try.prog 190 = some (.agg #[(.int .i64 0)]) := by kernel_rfl
theorem Try.ze_204 : zeroOf Try.prog 204 = some (.agg #[(.int .i64 0), (.int .i64 0), (.int .i64 0), (.int .i64 0), (.int .i64 0)]) := by kernel_rfl
theorem Try.ze_254 : zeroOf Try.prog 254 = some (.agg #[.nilIface, .nilIface, .nilIface, .nilIface, .nilIface]) := by kernel_rfl
theorem Try.ze_36 : zeroOf Try.prog 36 = some (.agg #[(.int .i64 0), (.int .i64 0)]) := by kernel_rfl
theorem Try.ze_4 : zeroOf Try.prog 4 = some (.bool false) := by kernel_rfl
theorem Try.ze_42 : zeroOf Try.prog 42 = some (.int .i64 0) := by kernel_rfl
theorem Try.ze_64 : zeroOf Try.prog 64 = some (.agg #[(.int .i64 0), (.int .i64 0), (.int .i64 0), (.int .i64 0), (.int .i64 0), (.int .i64 0), (.int .i64 0), (.slice none 0 0)]) := by kernel_rfl
theorem Try.ze_66 : zeroOf Try.prog 66 = some (.agg #[(.int .i64 0), (.int .i64 0), (.int .i64 0), (.int .i64 0), (.int .i64 0), (.int .i64 0), (.int .i64 0), (.slice none 0 0), (.int .i64 0), (.int .i64 0), (.int .i64 0), (.int .i64 0), (.int .i64 0), (.int .i64 0), (.int .i64 0), (.int .i64 0), (.int .i64 0)]) := by kernel_rfl
theorem Try.ze_73 : zeroOf Try.prog 73 = some (.agg #[(.int .i64 0), (.int .i64 0), (.int .i64 0), (.int .i64 0), (.int .i64 0), (.int .i64 0), (.int .i64 0), (.int .i64 0), (.int .i64 0)]) := by kernel_rfl
theorem Try.ze_77 : zeroOf Try.prog 77 = some (.agg #[(.int .i64 0), (.int .i64 0), (.int .i64 0), (.int .i64 0)]) := by kernel_rfl
end Go.Proofs.Ytccpgpnekoncoaa

namespace Go.Proofs.Ytccpgpnekoncoaa
open Go Go.Sy Go.PaiM
theorem c_in1 (n l h : Int) (w : World) : Calls Try.prog 100 #[.int .i64 n, .int .i64 l, .int .i64 h] w (Ret fun v w' => v = .bool (inP n l h) ∧ Ext [] w w') := by
  refine calls_of Try.func100 rfl rfl (fun a hf => ?_)
  have hh := Hp.init w []
  unfold inP
  refine sy_sq ?_
  refine o_v hf hh (yv_assign rfl) ?_; clear hf a; intro a hf
  refine o_end ?_
  refine sy_sq ?_
  refine o_v hf hh (yv_move rfl) ?_; clear hf a; intro a hf
  refine o_v hf hh (yv_move rfl) ?_; clear hf a; intro a hf
  refine o_v hf hh (yv_bin rfl rfl rfl) ?_; clear hf a; intro a hf
  refine o_v hf hh (yv_move rfl) ?_; clear hf a; intro a hf
  refine guard_split hf (t := 10) rfl (fun hg2 => ?_) (fun hg2 => ?_)
  ·have hG2 := hg2; try simp only [gS] at hG2
   refine o_v hf hh (yv_move rfl) ?_; clear hf a; intro a hf
   refine o_v hf hh (yv_move rfl) ?_; clear hf a; intro a hf
   refine o_v hf hh (yv_bin rfl rfl rfl) ?_; clear hf a; intro a hf
   refine o_v hf hh (y_pt rfl rfl) ?_; clear hf a; intro a hf
   refine o_v hf hh (yv_assign rfl) ?_; clear hf a; intro a hf
   refine o_end ?_
   refine sy_ret ?_
   refine ret_r hf rfl rfl ?_
   exact ⟨by simp [tup, *], hh.ext⟩
  ·have hG2 := hg2; try simp only [gS] at hG2
   refine o_off hf ?_; clear hf a; intro a hf
   refine o_off hf ?_; clear hf a; intro a hf
   refine o_off hf ?_; clear hf a; intro a hf
   refine o_v hf hh (y_pf rfl rfl) ?_; clear hf a; intro a hf
   refine o_v hf hh (yv_assign rfl) ?_; clear hf a; intro a hf
   refine o_end ?_
   refine sy_ret ?_
   refine ret_r hf rfl rfl ?_
   exact ⟨by simp [tup, *], hh.ext⟩
theorem c_in3 (n l h : Int) (w : World) : Calls Try.prog 59 #[.int .i64 n, .int .i64 l, .int .i64 h] w (Ret fun v w' => v = .bool (inP n l h) ∧ Ext [] w w') := by
  refine calls_of Try.func59 rfl rfl (fun a hf => ?_)
  have hh := Hp.init w []
  unfold inP
  refine sy_sq ?_
  refine o_v hf hh (yv_assign rfl) ?_; clear hf a; intro a hf
  refine o_end ?_
  refine sy_sq ?_
  refine o_v hf hh (yv_move rfl) ?_; clear hf a; intro a hf
  refine o_v hf hh (yv_move rfl) ?_; clear hf a; intro a hf
  refine o_v hf hh (yv_bin rfl rfl rfl) ?_; clear hf a; intro a hf
  refine o_v hf hh (yv_move rfl) ?_; clear hf a; intro a hf
  refine guard_split hf (t := 10) rfl (fun hg2 => ?_) (fun hg2 => ?_)
  ·have hG2 := hg2; try simp only [gS] at hG2
   refine o_v hf hh (yv_move rfl) ?_; clear hf a; intro a hf
   refine o_v hf hh (yv_move rfl) ?_; clear hf a; intro a hf
   refine o_v hf hh (yv_bin rfl rfl rfl) ?_; clear hf a; intro a hf
   refine o_v hf hh (y_pt rfl rfl) ?_; clear hf a; intro a hf
   refine o_v hf hh (yv_assign rfl) ?_; clear hf a; intro a hf
   refine o_end ?_
   refine sy_ret ?_
   refine ret_r hf rfl rfl ?_
   exact ⟨by simp [tup, *], hh.ext⟩
  ·have hG2 := hg2; try simp only [gS] at hG2
   refine o_off hf ?_; clear hf a; intro a hf
   refine o_off hf ?_; clear hf a; intro a hf
   refine o_off hf ?_; clear hf a; intro a hf
   refine o_v hf hh (y_pf rfl rfl) ?_; clear hf a; intro a hf
   refine o_v hf hh (yv_assign rfl) ?_; clear hf a; intro a hf
   refine o_end ?_
   refine sy_ret ?_
   refine ret_r hf rfl rfl ?_
   exact ⟨by simp [tup, *], hh.ext⟩
theorem c_wthn (n l h : Int) (w : World) : Calls Try.prog 118 #[.int .i64 n, .int .i64 l, .int .i64 h] w (Ret fun v w' => v = .bool (inP n l h) ∧ Ext [] w w') := by
  refine calls_of Try.func118 rfl rfl (fun a hf => ?_)
  have hh := Hp.init w []
  unfold inP
  refine sy_sq ?_
  refine o_v hf hh (yv_assign rfl) ?_; clear hf a; intro a hf
  refine o_end ?_
  refine sy_sq ?_
  refine o_v hf hh (yv_move rfl) ?_; clear hf a; intro a hf
  refine o_v hf hh (yv_move rfl) ?_; clear hf a; intro a hf
  refine o_v hf hh (yv_bin rfl rfl rfl) ?_; clear hf a; intro a hf
  refine o_v hf hh (yv_move rfl) ?_; clear hf a; intro a hf
  refine guard_split hf (t := 10) rfl (fun hg2 => ?_) (fun hg2 => ?_)
  ·have hG2 := hg2; try simp only [gS] at hG2
   refine o_v hf hh (yv_move rfl) ?_; clear hf a; intro a hf
   refine o_v hf hh (yv_move rfl) ?_; clear hf a; intro a hf
   refine o_v hf hh (yv_bin rfl rfl rfl) ?_; clear hf a; intro a hf
   refine o_v hf hh (y_pt rfl rfl) ?_; clear hf a; intro a hf
   refine o_v hf hh (yv_assign rfl) ?_; clear hf a; intro a hf
   refine o_end ?_
   refine sy_ret ?_
   refine ret_r hf rfl rfl ?_
   exact ⟨by simp [tup, *], hh.ext⟩
  ·have hG2 := hg2; try simp only [gS] at hG2
   refine o_off hf ?_; clear hf a; intro a hf
   refine o_off hf ?_; clear hf a; intro a hf
   refine o_off hf ?_; clear hf a; intro a hf
   refine o_v hf hh (y_pf rfl rfl) ?_; clear hf a; intro a hf
   refine o_v hf hh (yv_assign rfl) ?_; clear hf a; intro a hf
   refine o_end ?_
   refine sy_ret ?_
   refine ret_r hf rfl rfl ?_
   exact ⟨by simp [tup, *], hh.ext⟩
theorem c_span1 (s : Int × Int) (l h : Int) (w : World) : Calls Try.prog 101 #[spV s, .int .i64 l, .int .i64 h] w (Ret fun v w' => v = .bool (spP s l h) ∧ Ext [] w w') := by
  refine calls_of Try.func101 rfl rfl (fun a hf => ?_)
  have hh := Hp.init w []
  unfold spP
  refine sy_sq ?_
  refine o_box hf hh ?_; clear hf hh a; intro B3 a w hf hh
  refine o_v hf hh (yv_assign rfl) ?_; clear hf a; intro a hf
  refine o_end ?_
  refine sy_sq ?_
  refine o_v hf hh (yv_move rfl) ?_; clear hf a; intro a hf
  refine o_v hf hh (yv_fieldAddr Try.fo_36_0 rfl) ?_; clear hf a; intro a hf
  refine o_v hf hh (y_ld Try.sc_3 rfl) ?_; clear hf a; intro a hf
  refine o_v hf hh (yv_bin rfl rfl rfl) ?_; clear hf a; intro a hf
  refine o_v hf hh (yv_move rfl) ?_; clear hf a; intro a hf
  refine guard_split hf (t := 11) rfl (fun hg2 => ?_) (fun hg2 => ?_)
  ·have hG2 := hg2; try simp only [gS] at hG2
   refine o_v hf hh (yv_fieldAddr Try.fo_36_0 rfl) ?_; clear hf a; intro a hf
   refine o_v hf hh (y_ld Try.sc_3 rfl) ?_; clear hf a; intro a hf
   refine o_v hf hh (yv_fieldAddr Try.fo_36_1 rfl) ?_; clear hf a; intro a hf
   refine o_v hf hh (y_ld Try.sc_3 rfl) ?_; clear hf a; intro a hf
   refine o_v hf hh (yv_bin rfl rfl rfl) ?_; clear hf a; intro a hf
   refine o_v hf hh (y_pt rfl rfl) ?_; clear hf a; intro a hf
   refine o_v hf hh (yv_move rfl) ?_; clear hf a; intro a hf
   refine guard_split hf (t := 18) rfl (fun hg4 => ?_) (fun hg4 => ?_)
   ·have hG4 := hg4; try simp only [gS] at hG4
    refine o_v hf hh (yv_fieldAddr Try.fo_36_1 rfl) ?_; clear hf a; intro a hf
    refine o_v hf hh (y_ld Try.sc_3 rfl) ?_; clear hf a; intro a hf
    refine o_v hf hh (yv_move rfl) ?_; clear hf a; intro a hf
    refine o_v hf hh (yv_bin rfl rfl rfl) ?_; clear hf a; intro a hf
    refine o_v hf hh (y_pt rfl rfl) ?_; clear hf a; intro a hf
    refine o_v hf hh (yv_assign rfl) ?_; clear hf a; intro a hf
    refine o_end ?_
    refine sy_ret ?_
    refine ret_r hf rfl rfl ?_
    refine ⟨congrArg Value.bool ?_, hh.ext⟩
    clear hf hh
    first
      | (simp_all; done)
      | (simp only [*, Bool.false_and, Bool.and_false, Bool.true_and, Bool.and_true, Bool.not_true, Bool.not_false]; done)
      | (rw [Bool.eq_iff_iff]; simp_all <;> omega)
   ·have hG4 := hg4; try simp only [gS] at hG4
    refine o_off hf ?_; clear hf a; intro a hf
    refine o_off hf ?_; clear hf a; intro a hf
    refine o_off hf ?_; clear hf a; intro a hf
    refine o_off hf ?_; clear hf a; intro a hf
    refine o_v hf hh (y_pf rfl rfl) ?_; clear hf a; intro a hf
    refine o_v hf hh (yv_assign rfl) ?_; clear hf a; intro a hf
    refine o_end ?_
    refine sy_ret ?_
    refine ret_r hf rfl rfl ?_
    refine ⟨congrArg Value.bool ?_, hh.ext⟩
    clear hf hh
    first
      | (simp_all; done)
      | (simp only [*, Bool.false_and, Bool.and_false, Bool.true_and, Bool.and_true, Bool.not_true, Bool.not_false]; done)
      | (rw [Bool.eq_iff_iff]; simp_all <;> omega)
  ·have hG2 := hg2; try simp only [gS] at hG2
   refine o_off hf ?_; clear hf a; intro a hf
   refine o_off hf ?_; clear hf a; intro a hf
   refine o_off hf ?_; clear hf a; intro a hf
   refine o_off hf ?_; clear hf a; intro a hf
   refine o_off hf ?_; clear hf a; intro a hf
   refine o_v hf hh (y_pf rfl rfl) ?_; clear hf a; intro a hf
   refine o_v hf hh (yv_move rfl) ?_; clear hf a; intro a hf
   refine o_off hf ?_; clear hf a; intro a hf
   refine o_off hf ?_; clear hf a; intro a hf
   refine o_off hf ?_; clear hf a; intro a hf
   refine o_off hf ?_; clear hf a; intro a hf
   refine o_v hf hh (y_pf rfl rfl) ?_; clear hf a; intro a hf
   refine o_v hf hh (yv_assign rfl) ?_; clear hf a; intro a hf
   refine o_end ?_
   refine sy_ret ?_
   refine ret_r hf rfl rfl ?_
   refine ⟨congrArg Value.bool ?_, hh.ext⟩
   clear hf hh
   first
     | (simp_all; done)
     | (simp only [*, Bool.false_and, Bool.and_false, Bool.true_and, Bool.and_true, Bool.not_true, Bool.not_false]; done)
     | (rw [Bool.eq_iff_iff]; simp_all <;> omega)
theorem c_place (x y : Int × Int) (w : World) : Calls Try.prog 99 #[plV x y] w (Ret fun v w' => v = .bool (plP x y) ∧ Ext [] w w') := by
  refine calls_of Try.func99 rfl rfl (fun a hf => ?_)
  have hh := Hp.init w []
  unfold plP
  refine sy_sq ?_
  refine o_box hf hh ?_; clear hf hh a; intro B1 a w hf hh
  refine o_v hf hh (yv_assign rfl) ?_; clear hf a; intro a hf
  refine o_end ?_
  refine sy_sq ?_
  refine o_v hf hh (yv_fieldAddr Try.fo_71_0 rfl) ?_; clear hf a; intro a hf
  refine o_v hf hh (y_lds Try.ag_36 rfl) ?_; clear hf a; intro a hf
  refine o_call hf Try.en_101 rfl rfl rfl (c_span1 x (-4000) 4000 _) ?_; clear hf a; intro v a w hR hf
  obtain ⟨rfl, hx⟩ := hR; replace hh := hh.more hx; clear hx
  refine o_v hf hh (yv_move rfl) ?_; clear hf a; intro a hf
  refine guard_split hf (t := 6) rfl (fun hg2 => ?_) (fun hg2 => ?_)
  ·have hG2 := hg2; try simp only [gS] at hG2
   refine o_v hf hh (yv_fieldAddr Try.fo_71_1 rfl) ?_; clear hf a; intro a hf
   refine o_v hf hh (y_lds Try.ag_36 rfl) ?_; clear hf a; intro a hf
   refine o_call hf Try.en_101 rfl rfl rfl (c_span1 y (-4000) 4000 _) ?_; clear hf a; intro v a w hR hf
   obtain ⟨rfl, hx⟩ := hR; replace hh := hh.more hx; clear hx
   refine o_v hf hh (y_pt rfl rfl) ?_; clear hf a; intro a hf
   refine o_v hf hh (yv_assign rfl) ?_; clear hf a; intro a hf
   refine o_end ?_
   refine sy_ret ?_
   refine ret_r hf rfl rfl ?_
   refine ⟨congrArg Value.bool ?_, hh.ext⟩
   clear hf hh
   first
     | (simp_all; done)
     | (simp only [*, Bool.false_and, Bool.and_false, Bool.true_and, Bool.and_true, Bool.not_true, Bool.not_false]; done)
     | (rw [Bool.eq_iff_iff]; simp_all <;> omega)
  ·have hG2 := hg2; try simp only [gS] at hG2
   refine o_off hf ?_; clear hf a; intro a hf
   refine o_off hf ?_; clear hf a; intro a hf
   refine o_off hf ?_; clear hf a; intro a hf
   refine o_v hf hh (y_pf rfl rfl) ?_; clear hf a; intro a hf
   refine o_v hf hh (yv_assign rfl) ?_; clear hf a; intro a hf
   refine o_end ?_
   refine sy_ret ?_
   refine ret_r hf rfl rfl ?_
   refine ⟨congrArg Value.bool ?_, hh.ext⟩
   clear hf hh
   first
     | (simp_all; done)
     | (simp only [*, Bool.false_and, Bool.and_false, Bool.true_and, Bool.and_true, Bool.not_true, Bool.not_false]; done)
     | (rw [Bool.eq_iff_iff]; simp_all <;> omega)
set_option maxRecDepth 100000 in
theorem c_pair (p : PrD) (sa : Option Addr) (cp : Nat) (u : World) (hA : ThAt u sa p.th) (hl : p.th.length ≤ 9223372036854775807) : Calls Try.prog 60 #[.agg (prA p sa cp)] u (Ret fun v w' => v = .bool (prB p) ∧ Ext [] u w') := by
  refine calls_of Try.func60 rfl rfl (fun a hf => ?_)
  have hh := Hp.init u []
  refine sy_sq ?_
  refine o_box hf hh ?_; clear hf hh a; intro B1 a w hf hh
  refine o_v hf hh (yv_assign rfl) ?_; clear hf a; intro a hf
  refine o_end ?_
  refine sy_seq ?_
  refine sy_sq ?_
  refine o_v hf hh (yv_assign rfl) ?_; clear hf a; intro a hf
  refine o_end ?_
  refine sy_block ?_
  refine sy_loopH (σ := Nat) [2, 3, 4, 5, 6, 7, 8, 9, 10, 11, 12, 13, 14, 15, 16, 17, 18, 19, 20, 21, 22, 23, 24, 25, 26, 27, 28, 29, 30, 31, 32, 33, 34, 35, 36, 37, 38, 39, 40, 41] (fun i => [(3, .int .i64 (i : Nat))]) (fun i => fun w' => i ≤ p.th.length ∧ (∀ t ∈ p.th.take i, thB p t = true) ∧ Hp u [] [(B1, .cells (prA p sa cp) 64)] w') (fun i => p.th.length - i) (0) hf ?_ ?_ ?_
  · repeat' (first | exact True.intro | refine And.intro rfl ?_)
  · exact ⟨Nat.zero_le _, (fun x hx => by simp at hx), hh⟩
  ·rintro i a w ⟨hi, hq, hh⟩ hf
   refine sy_seq ?_
   refine sy_sq ?_
   refine o_v hf hh (yv_move rfl) ?_; clear hf a; intro a hf
   refine o_v hf hh (yv_fieldAddr Try.fo_64_5 rfl) ?_; clear hf a; intro a hf
   refine o_v hf hh (y_ld Try.sc_62 rfl) ?_; clear hf a; intro a hf
   refine o_v hf hh (yv_len Try.se_62 rfl) ?_; clear hf a; intro a hf
   refine o_v hf hh (yv_bin rfl rfl rfl) ?_; clear hf a; intro a hf
   refine o_end ?_
   refine sy_cond hf rfl (fun hg2 => ?_) (fun hg2 => ?_)
   ·have hG2 := hg2; try simp only [gS] at hG2
    refine sy_skip ?_
    refine then_n ?_
    refine sy_seq ?_
    refine sy_block ?_
    refine sy_seq ?_
    obtain ⟨t, ht⟩ := ex_ofP (l := p.th) (i := i) (by omega)
    obtain ⟨blk, off, cc, TT, fr, esa, hb2, hc⟩ := hA i t ht
    refine sy_ops ?_
    refine o_v hf hh (yv_fieldAddr Try.fo_64_5 rfl) ?_; clear hf a; intro a hf
    refine o_v hf hh (y_ld Try.sc_62 rfl) ?_; clear hf a; intro a hf
    refine o_v hf hh (yv_move rfl) ?_; clear hf a; intro a hf
    refine o_v hf hh (y_ix Try.se_62 (congrArg (fun z => some (Value.slice z p.th.length cp)) esa) rfl) ?_; clear hf a; intro a hf
    refine o_v hf hh (y_lds Try.ag_73 rfl) ?_; clear hf a; intro a hf
    refine o_alloc hf hh Try.ze_73 ?_; clear hf hh a; intro B4 a w hf hh
    refine o_store hf hh Try.sz_73 fun w hh => ?_
    refine o_end ?_
    refine sy_sq ?_
    refine o_v hf hh (yv_fieldAddr Try.fo_73_0 rfl) ?_; clear hf a; intro a hf
    refine o_v hf hh (y_lds Try.ag_71 rfl) ?_; clear hf a; intro a hf
    refine o_call hf Try.en_99 rfl rfl rfl (c_place t.lx t.ly _) ?_; clear hf a; intro v a w hR hf
    obtain ⟨rfl, hx⟩ := hR; replace hh := hh.more hx; clear hx
    refine o_v hf hh (yv_not rfl) ?_; clear hf a; intro a hf
    refine o_v hf hh (yv_move rfl) ?_; clear hf a; intro a hf
    refine guard_split hf (t := 21) rfl (fun hg5 => ?_) (fun hg5 => ?_)
    ·have hG5 := hg5; try simp only [gS] at hG5
     refine o_off hf ?_; clear hf a; intro a hf
     refine o_off hf ?_; clear hf a; intro a hf
     refine o_off hf ?_; clear hf a; intro a hf
     refine o_off hf ?_; clear hf a; intro a hf
     refine o_v hf hh (y_pt rfl rfl) ?_; clear hf a; intro a hf
     refine o_v hf hh (yv_move rfl) ?_; clear hf a; intro a hf
     refine o_off hf ?_; clear hf a; intro a hf
     refine o_off hf ?_; clear hf a; intro a hf
     refine o_off hf ?_; clear hf a; intro a hf
     refine o_off hf ?_; clear hf a; intro a hf
     refine o_off hf ?_; clear hf a; intro a hf
     refine o_off hf ?_; clear hf a; intro a hf
     refine o_off hf ?_; clear hf a; intro a hf
     refine o_off hf ?_; clear hf a; intro a hf
     refine o_off hf ?_; clear hf a; intro a hf
     refine o_off hf ?_; clear hf a; intro a hf
     refine o_off hf ?_; clear hf a; intro a hf
     refine o_off hf ?_; clear hf a; intro a hf
     refine o_off hf ?_; clear hf a; intro a hf
     refine o_v hf hh (y_pt rfl rfl) ?_; clear hf a; intro a hf
     refine o_end ?_
     refine c_t hf ?_
     refine sy_sq ?_
     refine o_v hf hh (yv_assign rfl) ?_; clear hf a; intro a hf
     refine o_end ?_
     refine sy_ret ?_
     refine blk_r ?_
     refine then_r ?_
     refine then_r ?_
     refine blk_r ?_
     refine then_r ?_
     refine ret_r hf rfl rfl ?_
     first
       | (have hy : thB p t = false := by clear hf hh; unfold thB; simp_all
          exact ⟨congrArg Value.bool (prB_bad ht hy).symm, hh.ext⟩)
       | (have ev := prB_end (p := p) (fun s hs => hq s (by rw [List.take_of_length_le (by omega)]; exact hs))
          refine ⟨congrArg Value.bool ?_, hh.ext⟩
          rw [ev]
          clear hf hh ev
          unfold prH
          first
            | (simp_all; done)
            | (rw [Bool.eq_iff_iff]; simp_all <;> omega))
    ·have hG5 := hg5; try simp only [gS] at hG5
     refine o_v hf hh (yv_fieldAddr Try.fo_73_1 rfl) ?_; clear hf a; intro a hf
     refine o_v hf hh (y_lds Try.ag_71 rfl) ?_; clear hf a; intro a hf
     refine o_call hf Try.en_99 rfl rfl rfl (c_place t.rx t.ry _) ?_; clear hf a; intro v a w hR hf
     obtain ⟨rfl, hx⟩ := hR; replace hh := hh.more hx; clear hx
     refine o_v hf hh (yv_not rfl) ?_; clear hf a; intro a hf
     refine o_v hf hh (y_pf rfl rfl) ?_; clear hf a; intro a hf
     refine o_v hf hh (yv_move rfl) ?_; clear hf a; intro a hf
     refine guard_split hf (t := 27) rfl (fun hg7 => ?_) (fun hg7 => ?_)
     ·have hG7 := hg7; try simp only [gS] at hG7
      refine o_off hf ?_; clear hf a; intro a hf
      refine o_off hf ?_; clear hf a; intro a hf
      refine o_off hf ?_; clear hf a; intro a hf
      refine o_off hf ?_; clear hf a; intro a hf
      refine o_off hf ?_; clear hf a; intro a hf
      refine o_off hf ?_; clear hf a; intro a hf
      refine o_off hf ?_; clear hf a; intro a hf
      refine o_off hf ?_; clear hf a; intro a hf
      refine o_off hf ?_; clear hf a; intro a hf
      refine o_off hf ?_; clear hf a; intro a hf
      refine o_off hf ?_; clear hf a; intro a hf
      refine o_off hf ?_; clear hf a; intro a hf
      refine o_off hf ?_; clear hf a; intro a hf
      refine o_v hf hh (y_pt rfl rfl) ?_; clear hf a; intro a hf
      refine o_end ?_
      refine c_t hf ?_
      refine sy_sq ?_
      refine o_v hf hh (yv_assign rfl) ?_; clear hf a; intro a hf
      refine o_end ?_
      refine sy_ret ?_
      refine blk_r ?_
      refine then_r ?_
      refine then_r ?_
      refine blk_r ?_
      refine then_r ?_
      refine ret_r hf rfl rfl ?_
      first
        | (have hy : thB p t = false := by clear hf hh; unfold thB; simp_all
           exact ⟨congrArg Value.bool (prB_bad ht hy).symm, hh.ext⟩)
        | (have ev := prB_end (p := p) (fun s hs => hq s (by rw [List.take_of_length_le (by omega)]; exact hs))
           refine ⟨congrArg Value.bool ?_, hh.ext⟩
           rw [ev]
           clear hf hh ev
           unfold prH
           first
             | (simp_all; done)
             | (rw [Bool.eq_iff_iff]; simp_all <;> omega))
     ·have hG7 := hg7; try simp only [gS] at hG7
      refine o_v hf hh (yv_fieldAddr Try.fo_73_2 rfl) ?_; clear hf a; intro a hf
      refine o_v hf hh (y_ld Try.sc_3 rfl) ?_; clear hf a; intro a hf
      refine o_v hf hh (yv_bin rfl rfl rfl) ?_; clear hf a; intro a hf
      refine o_v hf hh (yv_move rfl) ?_; clear hf a; intro a hf
      refine guard_split hf (t := 31) rfl (fun hg9 => ?_) (fun hg9 => ?_)
      ·have hG9 := hg9; try simp only [gS] at hG9
       refine o_v hf hh (yv_fieldAddr Try.fo_73_2 rfl) ?_; clear hf a; intro a hf
       refine o_v hf hh (y_ld Try.sc_3 rfl) ?_; clear hf a; intro a hf
       refine o_v hf hh (yv_fieldAddr Try.fo_64_3 rfl) ?_; clear hf a; intro a hf
       refine o_v hf hh (y_ld Try.sc_3 rfl) ?_; clear hf a; intro a hf
       refine o_v hf hh (yv_fieldAddr Try.fo_64_4 rfl) ?_; clear hf a; intro a hf
       refine o_v hf hh (y_ld Try.sc_3 rfl) ?_; clear hf a; intro a hf
       refine o_call hf Try.en_100 rfl rfl rfl (c_in1 t.far p.near p.far _) ?_; clear hf a; intro v a w hR hf
       obtain ⟨rfl, hx⟩ := hR; replace hh := hh.more hx; clear hx
       refine o_v hf hh (yv_not rfl) ?_; clear hf a; intro a hf
       refine o_v hf hh (y_pt rfl rfl) ?_; clear hf a; intro a hf
       refine o_v hf hh (y_pf rfl rfl) ?_; clear hf a; intro a hf
       refine o_end ?_
       refine sy_cond hf rfl (fun hg11 => ?_) (fun hg11 => ?_)
       ·have hG11 := hg11; try simp only [gS] at hG11
        refine sy_sq ?_
        refine o_v hf hh (yv_assign rfl) ?_; clear hf a; intro a hf
        refine o_end ?_
        refine sy_ret ?_
        refine blk_r ?_
        refine then_r ?_
        refine then_r ?_
        refine blk_r ?_
        refine then_r ?_
        refine ret_r hf rfl rfl ?_
        first
          | (have hy : thB p t = false := by clear hf hh; unfold thB; simp_all
             exact ⟨congrArg Value.bool (prB_bad ht hy).symm, hh.ext⟩)
          | (have ev := prB_end (p := p) (fun s hs => hq s (by rw [List.take_of_length_le (by omega)]; exact hs))
             refine ⟨congrArg Value.bool ?_, hh.ext⟩
             rw [ev]
             clear hf hh ev
             unfold prH
             first
               | (simp_all; done)
               | (rw [Bool.eq_iff_iff]; simp_all <;> omega))
       ·have hG11 := hg11; try simp only [gS] at hG11
        refine sy_skip ?_
        refine blk_n ?_
        refine then_n ?_
        refine sy_ops ?_
        refine o_v hf hh (yv_move rfl) ?_; clear hf a; intro a hf
        refine o_v hf hh (y_add rfl rfl) ?_; clear hf a; intro a hf
        refine o_v hf hh (yv_assign rfl) ?_; clear hf a; intro a hf
        refine ops_end ?_
        refine then_n ?_
        have hy : thB p t = true := by clear hf hh; unfold thB; simp_all
        exact ⟨i + 1, ⟨⟨by omega, take_allP hq ht hy, hh.less (.cons _ (.refl _))⟩, (hf.head (by repeat' (first | exact True.intro | refine And.intro rfl ?_)) (Keep.cons rfl (Keep.cons rfl (Keep.cons rfl (Keep.cons rfl (Keep.cons rfl (Keep.cons rfl (Keep.cons rfl (Keep.cons rfl (Keep.cons rfl (Keep.cons rfl (Keep.cons rfl (Keep.cons rfl (Keep.cons rfl (Keep.cons rfl (Keep.cons rfl (Keep.cons rfl (Keep.cons rfl (Keep.cons rfl (Keep.cons rfl (Keep.cons rfl (Keep.cons rfl (Keep.cons rfl (Keep.cons rfl (Keep.cons rfl (Keep.cons rfl (Keep.cons rfl (Keep.cons rfl (Keep.cons rfl (Keep.cons rfl (Keep.cons rfl (Keep.cons rfl (Keep.cons rfl (Keep.cons rfl (Keep.cons rfl (Keep.cons rfl (Keep.cons rfl (Keep.cons rfl (Keep.cons rfl (Keep.cons rfl (Keep.app rfl (Keep.rm rfl Keep.base))))))))))))))))))))))))))))))))))))))))))⟩, by omega⟩
      ·have hG9 := hg9; try simp only [gS] at hG9
       refine o_off hf ?_; clear hf a; intro a hf
       refine o_off hf ?_; clear hf a; intro a hf
       refine o_off hf ?_; clear hf a; intro a hf
       refine o_off hf ?_; clear hf a; intro a hf
       refine o_off hf ?_; clear hf a; intro a hf
       refine o_off hf ?_; clear hf a; intro a hf
       refine o_off hf ?_; clear hf a; intro a hf
       refine o_off hf ?_; clear hf a; intro a hf
       refine o_v hf hh (y_pf rfl rfl) ?_; clear hf a; intro a hf
       refine o_v hf hh (y_pf rfl rfl) ?_; clear hf a; intro a hf
       refine o_end ?_
       refine c_f hf ?_
       refine sy_skip ?_
       refine blk_n ?_
       refine then_n ?_
       refine sy_ops ?_
       refine o_v hf hh (yv_move rfl) ?_; clear hf a; intro a hf
       refine o_v hf hh (y_add rfl rfl) ?_; clear hf a; intro a hf
       refine o_v hf hh (yv_assign rfl) ?_; clear hf a; intro a hf
       refine ops_end ?_
       refine then_n ?_
       have hy : thB p t = true := by clear hf hh; unfold thB; simp_all
       exact ⟨i + 1, ⟨⟨by omega, take_allP hq ht hy, hh.less (.cons _ (.refl _))⟩, (hf.head (by repeat' (first | exact True.intro | refine And.intro rfl ?_)) (Keep.cons rfl (Keep.cons rfl (Keep.cons rfl (Keep.cons rfl (Keep.cons rfl (Keep.cons rfl (Keep.cons rfl (Keep.cons rfl (Keep.cons rfl (Keep.cons rfl (Keep.cons rfl (Keep.cons rfl (Keep.cons rfl (Keep.cons rfl (Keep.cons rfl (Keep.cons rfl (Keep.cons rfl (Keep.cons rfl (Keep.cons rfl (Keep.cons rfl (Keep.cons rfl (Keep.cons rfl (Keep.cons rfl (Keep.cons rfl (Keep.cons rfl (Keep.cons rfl (Keep.cons rfl (Keep.cons rfl (Keep.cons rfl (Keep.cons rfl (Keep.cons rfl (Keep.cons rfl (Keep.cons rfl (Keep.cons rfl (Keep.cons rfl (Keep.cons rfl (Keep.cons rfl (Keep.cons rfl (Keep.cons rfl (Keep.app rfl (Keep.rm rfl Keep.base))))))))))))))))))))))))))))))))))))))))))⟩, by omega⟩
   ·have hG2 := hg2; try simp only [gS] at hG2
    refine sy_exit ?_
    refine then_e ?_
    refine then_e ?_
    refine blk_e ?_
    refine then_n ?_
    refine sy_sq ?_
    refine o_v hf hh (yv_fieldAddr Try.fo_64_5 rfl) ?_; clear hf a; intro a hf
    refine o_v hf hh (y_ld Try.sc_62 rfl) ?_; clear hf a; intro a hf
    refine o_v hf hh (yv_len Try.se_62 rfl) ?_; clear hf a; intro a hf
    refine o_v hf hh (yv_bin rfl rfl rfl) ?_; clear hf a; intro a hf
    refine o_v hf hh (yv_move rfl) ?_; clear hf a; intro a hf
    refine guard_split hf (t := 46) rfl (fun hg13 => ?_) (fun hg13 => ?_)
    ·have hG13 := hg13; try simp only [gS] at hG13
     refine o_v hf hh (yv_fieldAddr Try.fo_64_0 rfl) ?_; clear hf a; intro a hf
     refine o_v hf hh (y_lds Try.ag_36 rfl) ?_; clear hf a; intro a hf
     refine o_call hf Try.en_101 rfl rfl rfl (c_span1 p.fo 1 50000 _) ?_; clear hf a; intro v a w hR hf
     obtain ⟨rfl, hx⟩ := hR; replace hh := hh.more hx; clear hx
     refine o_v hf hh (y_pt rfl rfl) ?_; clear hf a; intro a hf
     refine o_v hf hh (yv_move rfl) ?_; clear hf a; intro a hf
     refine guard_split hf (t := 51) rfl (fun hg15 => ?_) (fun hg15 => ?_)
     ·have hG15 := hg15; try simp only [gS] at hG15
      refine o_v hf hh (yv_fieldAddr Try.fo_64_1 rfl) ?_; clear hf a; intro a hf
      refine o_v hf hh (y_lds Try.ag_36 rfl) ?_; clear hf a; intro a hf
      refine o_call hf Try.en_101 rfl rfl rfl (c_span1 p.ba 1 10000 _) ?_; clear hf a; intro v a w hR hf
      obtain ⟨rfl, hx⟩ := hR; replace hh := hh.more hx; clear hx
      refine o_v hf hh (y_pt rfl rfl) ?_; clear hf a; intro a hf
      refine o_v hf hh (yv_move rfl) ?_; clear hf a; intro a hf
      refine guard_split hf (t := 56) rfl (fun hg17 => ?_) (fun hg17 => ?_)
      ·have hG17 := hg17; try simp only [gS] at hG17
       refine o_v hf hh (yv_fieldAddr Try.fo_64_2 rfl) ?_; clear hf a; intro a hf
       refine o_v hf hh (y_ld Try.sc_3 rfl) ?_; clear hf a; intro a hf
       refine o_call hf Try.en_100 rfl rfl rfl (c_in1 p.tilt 0 1000 _) ?_; clear hf a; intro v a w hR hf
       obtain ⟨rfl, hx⟩ := hR; replace hh := hh.more hx; clear hx
       refine o_v hf hh (y_pt rfl rfl) ?_; clear hf a; intro a hf
       refine o_v hf hh (yv_move rfl) ?_; clear hf a; intro a hf
       refine guard_split hf (t := 61) rfl (fun hg19 => ?_) (fun hg19 => ?_)
       ·have hG19 := hg19; try simp only [gS] at hG19
        refine o_v hf hh (yv_fieldAddr Try.fo_64_3 rfl) ?_; clear hf a; intro a hf
        refine o_v hf hh (y_ld Try.sc_3 rfl) ?_; clear hf a; intro a hf
        refine o_call hf Try.en_100 rfl rfl rfl (c_in1 p.near 2000 1073741824 _) ?_; clear hf a; intro v a w hR hf
        obtain ⟨rfl, hx⟩ := hR; replace hh := hh.more hx; clear hx
        refine o_v hf hh (y_pt rfl rfl) ?_; clear hf a; intro a hf
        refine o_v hf hh (yv_move rfl) ?_; clear hf a; intro a hf
        refine guard_split hf (t := 66) rfl (fun hg21 => ?_) (fun hg21 => ?_)
        ·have hG21 := hg21; try simp only [gS] at hG21
         refine o_v hf hh (yv_fieldAddr Try.fo_64_4 rfl) ?_; clear hf a; intro a hf
         refine o_v hf hh (y_ld Try.sc_3 rfl) ?_; clear hf a; intro a hf
         refine o_v hf hh (yv_fieldAddr Try.fo_64_3 rfl) ?_; clear hf a; intro a hf
         refine o_v hf hh (y_ld Try.sc_3 rfl) ?_; clear hf a; intro a hf
         refine o_call hf Try.en_100 rfl rfl rfl (c_in1 p.far p.near 1073741824 _) ?_; clear hf a; intro v a w hR hf
         obtain ⟨rfl, hx⟩ := hR; replace hh := hh.more hx; clear hx
         refine o_v hf hh (y_pt rfl rfl) ?_; clear hf a; intro a hf
         refine o_v hf hh (yv_assign rfl) ?_; clear hf a; intro a hf
         refine o_end ?_
         refine sy_ret ?_
         refine ret_r hf rfl rfl ?_
         first
           | (have hy : thB p t = false := by clear hf hh; unfold thB; simp_all
              exact ⟨congrArg Value.bool (prB_bad ht hy).symm, hh.ext⟩)
           | (have ev := prB_end (p := p) (fun s hs => hq s (by rw [List.take_of_length_le (by omega)]; exact hs))
              refine ⟨congrArg Value.bool ?_, hh.ext⟩
              rw [ev]
              clear hf hh ev
              unfold prH
              first
                | (simp_all; done)
                | (rw [Bool.eq_iff_iff]; simp_all <;> omega))
        ·have hG21 := hg21; try simp only [gS] at hG21
         refine o_off hf ?_; clear hf a; intro a hf
         refine o_off hf ?_; clear hf a; intro a hf
         refine o_off hf ?_; clear hf a; intro a hf
         refine o_off hf ?_; clear hf a; intro a hf
         refine o_off hf ?_; clear hf a; intro a hf
         refine o_v hf hh (y_pf rfl rfl) ?_; clear hf a; intro a hf
         refine o_v hf hh (yv_assign rfl) ?_; clear hf a; intro a hf
         refine o_end ?_
         refine sy_ret ?_
         refine ret_r hf rfl rfl ?_
         first
           | (have hy : thB p t = false := by clear hf hh; unfold thB; simp_all
              exact ⟨congrArg Value.bool (prB_bad ht hy).symm, hh.ext⟩)
           | (have ev := prB_end (p := p) (fun s hs => hq s (by rw [List.take_of_length_le (by omega)]; exact hs))
              refine ⟨congrArg Value.bool ?_, hh.ext⟩
              rw [ev]
              clear hf hh ev
              unfold prH
              first
                | (simp_all; done)
                | (rw [Bool.eq_iff_iff]; simp_all <;> omega))
       ·have hG19 := hg19; try simp only [gS] at hG19
        refine o_off hf ?_; clear hf a; intro a hf
        refine o_off hf ?_; clear hf a; intro a hf
        refine o_off hf ?_; clear hf a; intro a hf
        refine o_v hf hh (y_pf rfl rfl) ?_; clear hf a; intro a hf
        refine o_v hf hh (yv_move rfl) ?_; clear hf a; intro a hf
        refine o_off hf ?_; clear hf a; intro a hf
        refine o_off hf ?_; clear hf a; intro a hf
        refine o_off hf ?_; clear hf a; intro a hf
        refine o_off hf ?_; clear hf a; intro a hf
        refine o_off hf ?_; clear hf a; intro a hf
        refine o_v hf hh (y_pf rfl rfl) ?_; clear hf a; intro a hf
        refine o_v hf hh (yv_assign rfl) ?_; clear hf a; intro a hf
        refine o_end ?_
        refine sy_ret ?_
        refine ret_r hf rfl rfl ?_
        first
          | (have hy : thB p t = false := by clear hf hh; unfold thB; simp_all
             exact ⟨congrArg Value.bool (prB_bad ht hy).symm, hh.ext⟩)
          | (have ev := prB_end (p := p) (fun s hs => hq s (by rw [List.take_of_length_le (by omega)]; exact hs))
             refine ⟨congrArg Value.bool ?_, hh.ext⟩
             rw [ev]
             clear hf hh ev
             unfold prH
             first
               | (simp_all; done)
               | (rw [Bool.eq_iff_iff]; simp_all <;> omega))
      ·have hG17 := hg17; try simp only [gS] at hG17
       refine o_off hf ?_; clear hf a; intro a hf
       refine o_off hf ?_; clear hf a; intro a hf
       refine o_off hf ?_; clear hf a; intro a hf
       refine o_v hf hh (y_pf rfl rfl) ?_; clear hf a; intro a hf
       refine o_v hf hh (yv_move rfl) ?_; clear hf a; intro a hf
       refine o_off hf ?_; clear hf a; intro a hf
       refine o_off hf ?_; clear hf a; intro a hf
       refine o_off hf ?_; clear hf a; intro a hf
       refine o_v hf hh (y_pf rfl rfl) ?_; clear hf a; intro a hf
       refine o_v hf hh (yv_move rfl) ?_; clear hf a; intro a hf
       refine o_off hf ?_; clear hf a; intro a hf
       refine o_off hf ?_; clear hf a; intro a hf
       refine o_off hf ?_; clear hf a; intro a hf
       refine o_off hf ?_; clear hf a; intro a hf
       refine o_off hf ?_; clear hf a; intro a hf
       refine o_v hf hh (y_pf rfl rfl) ?_; clear hf a; intro a hf
       refine o_v hf hh (yv_assign rfl) ?_; clear hf a; intro a hf
       refine o_end ?_
       refine sy_ret ?_
       refine ret_r hf rfl rfl ?_
       first
         | (have hy : thB p t = false := by clear hf hh; unfold thB; simp_all
            exact ⟨congrArg Value.bool (prB_bad ht hy).symm, hh.ext⟩)
         | (have ev := prB_end (p := p) (fun s hs => hq s (by rw [List.take_of_length_le (by omega)]; exact hs))
            refine ⟨congrArg Value.bool ?_, hh.ext⟩
            rw [ev]
            clear hf hh ev
            unfold prH
            first
              | (simp_all; done)
              | (rw [Bool.eq_iff_iff]; simp_all <;> omega))
     ·have hG15 := hg15; try simp only [gS] at hG15
      refine o_off hf ?_; clear hf a; intro a hf
      refine o_off hf ?_; clear hf a; intro a hf
      refine o_off hf ?_; clear hf a; intro a hf
      refine o_v hf hh (y_pf rfl rfl) ?_; clear hf a; intro a hf
      refine o_v hf hh (yv_move rfl) ?_; clear hf a; intro a hf
      refine o_off hf ?_; clear hf a; intro a hf
      refine o_off hf ?_; clear hf a; intro a hf
      refine o_off hf ?_; clear hf a; intro a hf
      refine o_v hf hh (y_pf rfl rfl) ?_; clear hf a; intro a hf
      refine o_v hf hh (yv_move rfl) ?_; clear hf a; intro a hf
      refine o_off hf ?_; clear hf a; intro a hf
      refine o_off hf ?_; clear hf a; intro a hf
      refine o_off hf ?_; clear hf a; intro a hf
      refine o_v hf hh (y_pf rfl rfl) ?_; clear hf a; intro a hf
      refine o_v hf hh (yv_move rfl) ?_; clear hf a; intro a hf
      refine o_off hf ?_; clear hf a; intro a hf
      refine o_off hf ?_; clear hf a; intro a hf
      refine o_off hf ?_; clear hf a; intro a hf
      refine o_off hf ?_; clear hf a; intro a hf
      refine o_off hf ?_; clear hf a; intro a hf
      refine o_v hf hh (y_pf rfl rfl) ?_; clear hf a; intro a hf
      refine o_v hf hh (yv_assign rfl) ?_; clear hf a; intro a hf
      refine o_end ?_
      refine sy_ret ?_
      refine ret_r hf rfl rfl ?_
      first
        | (have hy : thB p t = false := by clear hf hh; unfold thB; simp_all
           exact ⟨congrArg Value.bool (prB_bad ht hy).symm, hh.ext⟩)
        | (have ev := prB_end (p := p) (fun s hs => hq s (by rw [List.take_of_length_le (by omega)]; exact hs))
           refine ⟨congrArg Value.bool ?_, hh.ext⟩
           rw [ev]
           clear hf hh ev
           unfold prH
           first
             | (simp_all; done)
             | (rw [Bool.eq_iff_iff]; simp_all <;> omega))
    ·have hG13 := hg13; try simp only [gS] at hG13
     refine o_off hf ?_; clear hf a; intro a hf
     refine o_off hf ?_; clear hf a; intro a hf
     refine o_off hf ?_; clear hf a; intro a hf
     refine o_v hf hh (y_pf rfl rfl) ?_; clear hf a; intro a hf
     refine o_v hf hh (yv_move rfl) ?_; clear hf a; intro a hf
     refine o_off hf ?_; clear hf a; intro a hf
     refine o_off hf ?_; clear hf a; intro a hf
     refine o_off hf ?_; clear hf a; intro a hf
     refine o_v hf hh (y_pf rfl rfl) ?_; clear hf a; intro a hf
     refine o_v hf hh (yv_move rfl) ?_; clear hf a; intro a hf
     refine o_off hf ?_; clear hf a; intro a hf
     refine o_off hf ?_; clear hf a; intro a hf
     refine o_off hf ?_; clear hf a; intro a hf
     refine o_v hf hh (y_pf rfl rfl) ?_; clear hf a; intro a hf
     refine o_v hf hh (yv_move rfl) ?_; clear hf a; intro a hf
     refine o_off hf ?_; clear hf a; intro a hf
     refine o_off hf ?_; clear hf a; intro a hf
     refine o_off hf ?_; clear hf a; intro a hf
     refine o_v hf hh (y_pf rfl rfl) ?_; clear hf a; intro a hf
     refine o_v hf hh (yv_move rfl) ?_; clear hf a; intro a hf
     refine o_off hf ?_; clear hf a; intro a hf
     refine o_off hf ?_; clear hf a; intro a hf
     refine o_off hf ?_; clear hf a; intro a hf
     refine o_off hf ?_; clear hf a; intro a hf
     refine o_off hf ?_; clear hf a; intro a hf
     refine o_v hf hh (y_pf rfl rfl) ?_; clear hf a; intro a hf
     refine o_v hf hh (yv_assign rfl) ?_; clear hf a; intro a hf
     refine o_end ?_
     refine sy_ret ?_
     refine ret_r hf rfl rfl ?_
     first
       | (have hy : thB p t = false := by clear hf hh; unfold thB; simp_all
          exact ⟨congrArg Value.bool (prB_bad ht hy).symm, hh.ext⟩)
       | (have ev := prB_end (p := p) (fun s hs => hq s (by rw [List.take_of_length_le (by omega)]; exact hs))
          refine ⟨congrArg Value.bool ?_, hh.ext⟩
          rw [ev]
          clear hf hh ev
          unfold prH
          first
            | (simp_all; done)
            | (rw [Bool.eq_iff_iff]; simp_all <;> omega))
end Go.Proofs.Ytccpgpnekoncoaa

namespace Go.Proofs.Ytccpgpnekoncoaa
open Go Go.Sy Go.PaiM
/-- The panic of what cannot be told. -/
abbrev misP (e : Int) : List PanicEntry := [{ v := .iface 190 (.agg #[.int .i64 e]), recovered := false }]
theorem c_need (b : Bool) (e : Int) (u : World) : Calls Try.prog 66 #[.bool b, .int .i64 e] u (RetX (fun v w' => b = true ∧ Ext [] u w') (fun ch w' => b = false ∧ ch = misP e ∧ Ext [] u w')) := by
  refine calls_ofX Try.func66 rfl rfl (fun a hf => ?_)
  have hh := Hp.init u []
  refine sy_sq ?_
  refine o_v hf hh (yv_move rfl) ?_; clear hf a; intro a hf
  refine o_v hf hh (yv_not rfl) ?_; clear hf a; intro a hf
  refine o_end ?_
  refine sy_cond hf rfl (fun hg2 => ?_) (fun hg2 => ?_)
  ·have hG2 := hg2; try simp only [gS] at hG2
   refine sy_ops ?_
   refine o_v hf hh (yv_move rfl) ?_; clear hf a; intro a hf
   refine o_v hf hh (yv_buildS Try.bs_190 rfl rfl) ?_; clear hf a; intro a hf
   refine o_v hf hh (yv_makeIface (by kernel_rfl) rfl) ?_; clear hf a; intro a hf
   refine o_panic hf fun hf => ?_
   refine pan_x hf ?_
   exact ⟨by simp_all, rfl, hh.ext⟩
  ·have hG2 := hg2; try simp only [gS] at hG2
   refine sy_skip ?_
   refine ret_xn ?_
   refine ret_n hf rfl rfl ?_
   exact ⟨by simp_all, hh.ext⟩
theorem c_spanP (s : Int × Int) (l h : Int) (w : World) : Calls Try.prog 165 #[spV s, .int .i64 l, .int .i64 h] w (Ret fun v w' => v = .bool (spP s l h) ∧ Ext [] w w') := by
  refine calls_of Try.func165 rfl rfl (fun a hf => ?_)
  have hh := Hp.init w []
  unfold spP
  refine sy_sq ?_
  refine o_box hf hh ?_; clear hf hh a; intro B3 a w hf hh
  refine o_v hf hh (yv_assign rfl) ?_; clear hf a; intro a hf
  refine o_end ?_
  refine sy_sq ?_
  refine o_v hf hh (yv_move rfl) ?_; clear hf a; intro a hf
  refine o_v hf hh (yv_fieldAddr Try.fo_36_0 rfl) ?_; clear hf a; intro a hf
  refine o_v hf hh (y_ld Try.sc_3 rfl) ?_; clear hf a; intro a hf
  refine o_v hf hh (yv_bin rfl rfl rfl) ?_; clear hf a; intro a hf
  refine o_v hf hh (yv_move rfl) ?_; clear hf a; intro a hf
  refine guard_split hf (t := 11) rfl (fun hg2 => ?_) (fun hg2 => ?_)
  ·have hG2 := hg2; try simp only [gS] at hG2
   refine o_v hf hh (yv_fieldAddr Try.fo_36_0 rfl) ?_; clear hf a; intro a hf
   refine o_v hf hh (y_ld Try.sc_3 rfl) ?_; clear hf a; intro a hf
   refine o_v hf hh (yv_fieldAddr Try.fo_36_1 rfl) ?_; clear hf a; intro a hf
   refine o_v hf hh (y_ld Try.sc_3 rfl) ?_; clear hf a; intro a hf
   refine o_v hf hh (yv_bin rfl rfl rfl) ?_; clear hf a; intro a hf
   refine o_v hf hh (y_pt rfl rfl) ?_; clear hf a; intro a hf
   refine o_v hf hh (yv_move rfl) ?_; clear hf a; intro a hf
   refine guard_split hf (t := 18) rfl (fun hg4 => ?_) (fun hg4 => ?_)
   ·have hG4 := hg4; try simp only [gS] at hG4
    refine o_v hf hh (yv_fieldAddr Try.fo_36_1 rfl) ?_; clear hf a; intro a hf
    refine o_v hf hh (y_ld Try.sc_3 rfl) ?_; clear hf a; intro a hf
    refine o_v hf hh (yv_move rfl) ?_; clear hf a; intro a hf
    refine o_v hf hh (yv_bin rfl rfl rfl) ?_; clear hf a; intro a hf
    refine o_v hf hh (y_pt rfl rfl) ?_; clear hf a; intro a hf
    refine o_v hf hh (yv_assign rfl) ?_; clear hf a; intro a hf
    refine o_end ?_
    refine sy_ret ?_
    refine ret_r hf rfl rfl ?_
    refine ⟨congrArg Value.bool ?_, hh.ext⟩
    clear hf hh
    first
      | (simp_all; done)
      | (simp only [*, Bool.false_and, Bool.and_false, Bool.true_and, Bool.and_true, Bool.not_true, Bool.not_false]; done)
      | (rw [Bool.eq_iff_iff]; simp_all <;> omega)
   ·have hG4 := hg4; try simp only [gS] at hG4
    refine o_off hf ?_; clear hf a; intro a hf
    refine o_off hf ?_; clear hf a; intro a hf
    refine o_off hf ?_; clear hf a; intro a hf
    refine o_off hf ?_; clear hf a; intro a hf
    refine o_v hf hh (y_pf rfl rfl) ?_; clear hf a; intro a hf
    refine o_v hf hh (yv_assign rfl) ?_; clear hf a; intro a hf
    refine o_end ?_
    refine sy_ret ?_
    refine ret_r hf rfl rfl ?_
    refine ⟨congrArg Value.bool ?_, hh.ext⟩
    clear hf hh
    first
      | (simp_all; done)
      | (simp only [*, Bool.false_and, Bool.and_false, Bool.true_and, Bool.and_true, Bool.not_true, Bool.not_false]; done)
      | (rw [Bool.eq_iff_iff]; simp_all <;> omega)
  ·have hG2 := hg2; try simp only [gS] at hG2
   refine o_off hf ?_; clear hf a; intro a hf
   refine o_off hf ?_; clear hf a; intro a hf
   refine o_off hf ?_; clear hf a; intro a hf
   refine o_off hf ?_; clear hf a; intro a hf
   refine o_off hf ?_; clear hf a; intro a hf
   refine o_v hf hh (y_pf rfl rfl) ?_; clear hf a; intro a hf
   refine o_v hf hh (yv_move rfl) ?_; clear hf a; intro a hf
   refine o_off hf ?_; clear hf a; intro a hf
   refine o_off hf ?_; clear hf a; intro a hf
   refine o_off hf ?_; clear hf a; intro a hf
   refine o_off hf ?_; clear hf a; intro a hf
   refine o_v hf hh (y_pf rfl rfl) ?_; clear hf a; intro a hf
   refine o_v hf hh (yv_assign rfl) ?_; clear hf a; intro a hf
   refine o_end ?_
   refine sy_ret ?_
   refine ret_r hf rfl rfl ?_
   refine ⟨congrArg Value.bool ?_, hh.ext⟩
   clear hf hh
   first
     | (simp_all; done)
     | (simp only [*, Bool.false_and, Bool.and_false, Bool.true_and, Bool.and_true, Bool.not_true, Bool.not_false]; done)
     | (rw [Bool.eq_iff_iff]; simp_all <;> omega)
theorem c_placeP (x y : Int × Int) (w : World) : Calls Try.prog 164 #[plV x y] w (Ret fun v w' => v = .bool (plP x y) ∧ Ext [] w w') := by
  refine calls_of Try.func164 rfl rfl (fun a hf => ?_)
  have hh := Hp.init w []
  unfold plP
  refine sy_sq ?_
  refine o_box hf hh ?_; clear hf hh a; intro B1 a w hf hh
  refine o_v hf hh (yv_assign rfl) ?_; clear hf a; intro a hf
  refine o_end ?_
  refine sy_sq ?_
  refine o_v hf hh (yv_fieldAddr Try.fo_71_0 rfl) ?_; clear hf a; intro a hf
  refine o_v hf hh (y_lds Try.ag_36 rfl) ?_; clear hf a; intro a hf
  refine o_call hf Try.en_165 rfl rfl rfl (c_spanP x (-4000) 4000 _) ?_; clear hf a; intro v a w hR hf
  obtain ⟨rfl, hx⟩ := hR; replace hh := hh.more hx; clear hx
  refine o_v hf hh (yv_move rfl) ?_; clear hf a; intro a hf
  refine guard_split hf (t := 6) rfl (fun hg2 => ?_) (fun hg2 => ?_)
  ·have hG2 := hg2; try simp only [gS] at hG2
   refine o_v hf hh (yv_fieldAddr Try.fo_71_1 rfl) ?_; clear hf a; intro a hf
   refine o_v hf hh (y_lds Try.ag_36 rfl) ?_; clear hf a; intro a hf
   refine o_call hf Try.en_165 rfl rfl rfl (c_spanP y (-4000) 4000 _) ?_; clear hf a; intro v a w hR hf
   obtain ⟨rfl, hx⟩ := hR; replace hh := hh.more hx; clear hx
   refine o_v hf hh (y_pt rfl rfl) ?_; clear hf a; intro a hf
   refine o_v hf hh (yv_assign rfl) ?_; clear hf a; intro a hf
   refine o_end ?_
   refine sy_ret ?_
   refine ret_r hf rfl rfl ?_
   refine ⟨congrArg Value.bool ?_, hh.ext⟩
   clear hf hh
   first
     | (simp_all; done)
     | (simp only [*, Bool.false_and, Bool.and_false, Bool.true_and, Bool.and_true, Bool.not_true, Bool.not_false]; done)
     | (rw [Bool.eq_iff_iff]; simp_all <;> omega)
  ·have hG2 := hg2; try simp only [gS] at hG2
   refine o_off hf ?_; clear hf a; intro a hf
   refine o_off hf ?_; clear hf a; intro a hf
   refine o_off hf ?_; clear hf a; intro a hf
   refine o_v hf hh (y_pf rfl rfl) ?_; clear hf a; intro a hf
   refine o_v hf hh (yv_assign rfl) ?_; clear hf a; intro a hf
   refine o_end ?_
   refine sy_ret ?_
   refine ret_r hf rfl rfl ?_
   refine ⟨congrArg Value.bool ?_, hh.ext⟩
   clear hf hh
   first
     | (simp_all; done)
     | (simp only [*, Bool.false_and, Bool.and_false, Bool.true_and, Bool.and_true, Bool.not_true, Bool.not_false]; done)
     | (rw [Bool.eq_iff_iff]; simp_all <;> omega)
theorem c_badT (p : PrD) (sa : Option Addr) (cp : Nat) (t : ThD) (Bf Bp : Nat) (u : World) (hf0 : u.heap[Bf]? = some (.cells #[.func (.func 164) #[] #[]] 186 (0, 0))) (hb0 : u.heap[Bp]? = some (.cells (prA p sa cp) 64 (0, 0))) : Calls Try.prog 166 #[.agg (thA t), ptr Bf 0, ptr Bp 0] u (Ret fun v w' => v = .bool (!thB p t) ∧ Ext [] u w') := by
  refine calls_of Try.func166 rfl rfl (fun a hf => ?_)
  have hh := Hp.init u []
  unfold thB
  refine sy_sq ?_
  refine o_box hf hh ?_; clear hf hh a; intro B3 a w hf hh
  refine o_v hf hh (yv_assign rfl) ?_; clear hf a; intro a hf
  refine o_end ?_
  refine sy_sq ?_
  refine o_v hf hh (y_ld Try.sc_186 rfl) ?_; clear hf a; intro a hf
  refine o_v hf hh (yv_fieldAddr Try.fo_73_0 rfl) ?_; clear hf a; intro a hf
  refine o_v hf hh (y_lds Try.ag_71 rfl) ?_; clear hf a; intro a hf
  refine o_call hf Try.en_164 rfl rfl rfl (c_placeP t.lx t.ly _) ?_; clear hf a; intro v a w hR hf
  obtain ⟨rfl, hx⟩ := hR; replace hh := hh.more hx; clear hx
  refine o_v hf hh (yv_not rfl) ?_; clear hf a; intro a hf
  refine o_v hf hh (yv_move rfl) ?_; clear hf a; intro a hf
  refine guard_split hf (t := 10) rfl (fun hg2 => ?_) (fun hg2 => ?_)
  ·have hG2 := hg2; try simp only [gS] at hG2
   refine o_off hf ?_; clear hf a; intro a hf
   refine o_off hf ?_; clear hf a; intro a hf
   refine o_off hf ?_; clear hf a; intro a hf
   refine o_off hf ?_; clear hf a; intro a hf
   refine o_off hf ?_; clear hf a; intro a hf
   refine o_v hf hh (y_pt rfl rfl) ?_; clear hf a; intro a hf
   refine o_v hf hh (yv_move rfl) ?_; clear hf a; intro a hf
   refine o_off hf ?_; clear hf a; intro a hf
   refine o_off hf ?_; clear hf a; intro a hf
   refine o_off hf ?_; clear hf a; intro a hf
   refine o_off hf ?_; clear hf a; intro a hf
   refine o_off hf ?_; clear hf a; intro a hf
   refine o_off hf ?_; clear hf a; intro a hf
   refine o_off hf ?_; clear hf a; intro a hf
   refine o_off hf ?_; clear hf a; intro a hf
   refine o_off hf ?_; clear hf a; intro a hf
   refine o_off hf ?_; clear hf a; intro a hf
   refine o_off hf ?_; clear hf a; intro a hf
   refine o_off hf ?_; clear hf a; intro a hf
   refine o_off hf ?_; clear hf a; intro a hf
   refine o_v hf hh (y_pt rfl rfl) ?_; clear hf a; intro a hf
   refine o_v hf hh (yv_assign rfl) ?_; clear hf a; intro a hf
   refine o_end ?_
   refine sy_ret ?_
   refine ret_r hf rfl rfl ?_
   refine ⟨congrArg Value.bool ?_, hh.ext⟩
   clear hf hh
   first
     | (simp_all; done)
     | (simp only [*, Bool.false_and, Bool.and_false, Bool.true_and, Bool.and_true, Bool.not_true, Bool.not_false]; done)
     | (rw [Bool.eq_iff_iff]; simp_all <;> omega)
  ·have hG2 := hg2; try simp only [gS] at hG2
   refine o_v hf hh (y_ld Try.sc_186 rfl) ?_; clear hf a; intro a hf
   refine o_v hf hh (yv_fieldAddr Try.fo_73_1 rfl) ?_; clear hf a; intro a hf
   refine o_v hf hh (y_lds Try.ag_71 rfl) ?_; clear hf a; intro a hf
   refine o_call hf Try.en_164 rfl rfl rfl (c_placeP t.rx t.ry _) ?_; clear hf a; intro v a w hR hf
   obtain ⟨rfl, hx⟩ := hR; replace hh := hh.more hx; clear hx
   refine o_v hf hh (yv_not rfl) ?_; clear hf a; intro a hf
   refine o_v hf hh (y_pf rfl rfl) ?_; clear hf a; intro a hf
   refine o_v hf hh (yv_move rfl) ?_; clear hf a; intro a hf
   refine guard_split hf (t := 17) rfl (fun hg4 => ?_) (fun hg4 => ?_)
   ·have hG4 := hg4; try simp only [gS] at hG4
    refine o_off hf ?_; clear hf a; intro a hf
    refine o_off hf ?_; clear hf a; intro a hf
    refine o_off hf ?_; clear hf a; intro a hf
    refine o_off hf ?_; clear hf a; intro a hf
    refine o_off hf ?_; clear hf a; intro a hf
    refine o_off hf ?_; clear hf a; intro a hf
    refine o_off hf ?_; clear hf a; intro a hf
    refine o_off hf ?_; clear hf a; intro a hf
    refine o_off hf ?_; clear hf a; intro a hf
    refine o_off hf ?_; clear hf a; intro a hf
    refine o_off hf ?_; clear hf a; intro a hf
    refine o_off hf ?_; clear hf a; intro a hf
    refine o_off hf ?_; clear hf a; intro a hf
    refine o_v hf hh (y_pt rfl rfl) ?_; clear hf a; intro a hf
    refine o_v hf hh (yv_assign rfl) ?_; clear hf a; intro a hf
    refine o_end ?_
    refine sy_ret ?_
    refine ret_r hf rfl rfl ?_
    refine ⟨congrArg Value.bool ?_, hh.ext⟩
    clear hf hh
    first
      | (simp_all; done)
      | (simp only [*, Bool.false_and, Bool.and_false, Bool.true_and, Bool.and_true, Bool.not_true, Bool.not_false]; done)
      | (rw [Bool.eq_iff_iff]; simp_all <;> omega)
   ·have hG4 := hg4; try simp only [gS] at hG4
    refine o_v hf hh (yv_fieldAddr Try.fo_73_2 rfl) ?_; clear hf a; intro a hf
    refine o_v hf hh (y_ld Try.sc_3 rfl) ?_; clear hf a; intro a hf
    refine o_v hf hh (yv_bin rfl rfl rfl) ?_; clear hf a; intro a hf
    refine o_v hf hh (yv_move rfl) ?_; clear hf a; intro a hf
    refine guard_split hf (t := 21) rfl (fun hg6 => ?_) (fun hg6 => ?_)
    ·have hG6 := hg6; try simp only [gS] at hG6
     refine o_v hf hh (yv_fieldAddr Try.fo_73_2 rfl) ?_; clear hf a; intro a hf
     refine o_v hf hh (y_ld Try.sc_3 rfl) ?_; clear hf a; intro a hf
     refine o_v hf hh (yv_fieldAddr Try.fo_64_3 rfl) ?_; clear hf a; intro a hf
     refine o_v hf hh (y_ld Try.sc_3 rfl) ?_; clear hf a; intro a hf
     refine o_v hf hh (yv_fieldAddr Try.fo_64_4 rfl) ?_; clear hf a; intro a hf
     refine o_v hf hh (y_ld Try.sc_3 rfl) ?_; clear hf a; intro a hf
     refine o_call hf Try.en_118 rfl rfl rfl (c_wthn t.far p.near p.far _) ?_; clear hf a; intro v a w hR hf
     obtain ⟨rfl, hx⟩ := hR; replace hh := hh.more hx; clear hx
     refine o_v hf hh (yv_not rfl) ?_; clear hf a; intro a hf
     refine o_v hf hh (y_pt rfl rfl) ?_; clear hf a; intro a hf
     refine o_v hf hh (y_pf rfl rfl) ?_; clear hf a; intro a hf
     refine o_v hf hh (yv_assign rfl) ?_; clear hf a; intro a hf
     refine o_end ?_
     refine sy_ret ?_
     refine ret_r hf rfl rfl ?_
     refine ⟨congrArg Value.bool ?_, hh.ext⟩
     clear hf hh
     first
       | (simp_all; done)
       | (simp only [*, Bool.false_and, Bool.and_false, Bool.true_and, Bool.and_true, Bool.not_true, Bool.not_false]; done)
       | (rw [Bool.eq_iff_iff]; simp_all <;> omega)
    ·have hG6 := hg6; try simp only [gS] at hG6
     refine o_off hf ?_; clear hf a; intro a hf
     refine o_off hf ?_; clear hf a; intro a hf
     refine o_off hf ?_; clear hf a; intro a hf
     refine o_off hf ?_; clear hf a; intro a hf
     refine o_off hf ?_; clear hf a; intro a hf
     refine o_off hf ?_; clear hf a; intro a hf
     refine o_off hf ?_; clear hf a; intro a hf
     refine o_off hf ?_; clear hf a; intro a hf
     refine o_v hf hh (y_pf rfl rfl) ?_; clear hf a; intro a hf
     refine o_v hf hh (y_pf rfl rfl) ?_; clear hf a; intro a hf
     refine o_v hf hh (yv_assign rfl) ?_; clear hf a; intro a hf
     refine o_end ?_
     refine sy_ret ?_
     refine ret_r hf rfl rfl ?_
     refine ⟨congrArg Value.bool ?_, hh.ext⟩
     clear hf hh
     first
       | (simp_all; done)
       | (simp only [*, Bool.false_and, Bool.and_false, Bool.true_and, Bool.and_true, Bool.not_true, Bool.not_false]; done)
       | (rw [Bool.eq_iff_iff]; simp_all <;> omega)
theorem any_take {f : ThD → Bool} {l : List ThD} (h : ∀ t ∈ l, f t = false) : l.any f = false := by
  rw [List.any_eq_false]; intro t ht; rw [h t ht]; simp
theorem any_hit {f : ThD → Bool} {l : List ThD} {i : Nat} {t : ThD} (h : l[i]? = some t) (hf : f t = true) : l.any f = true := List.any_eq_true.2 ⟨t, List.mem_of_getElem? h, hf⟩
theorem c_index (f : ThD → Bool) (l : List ThD) (sa : Option Addr) (cp F : Nat) (cs : Array Value) (u : World) (hA : ThAt u sa l) (hl : l.length ≤ 9223372036854775807) (hE : Enters Try.prog F) (hc : ∀ t ∈ l, ∀ w1 : World, Ext [] u w1 → Calls Try.prog F (#[.agg (thA t)] ++ cs) w1 (Ret fun v w2 => v = .bool (f t) ∧ Ext [] w1 w2)) : Calls Try.prog 169 #[.slice sa l.length cp, .func (.func F) #[] cs] u (Ret fun v w' => ∃ n : Int, v = .int .i64 n ∧ decide (0 ≤ n) = l.any f ∧ Ext [] u w') := by
  refine calls_of Try.func169 rfl rfl (fun a hf => ?_)
  have hh := Hp.init u []
  refine sy_sq ?_
  refine o_v hf hh (yv_assign rfl) ?_; clear hf a; intro a hf
  refine o_end ?_
  refine sy_seq ?_
  refine sy_sq ?_
  refine o_v hf hh (yv_move rfl) ?_; clear hf a; intro a hf
  refine o_v hf hh (yv_len Try.se_62 rfl) ?_; clear hf a; intro a hf
  refine o_v hf hh (yv_move rfl) ?_; clear hf a; intro a hf
  refine o_end ?_
  refine sy_block ?_
  refine sy_loopH (σ := Nat) [4, 5, 8, 9, 10, 11, 12, 13, 14, 15, 16, 17, 18] (fun i => [(8, .int .i64 (i : Nat))]) (fun i => fun w' => i ≤ l.length ∧ (∀ t ∈ l.take i, (!f t) = true) ∧ Hp u [] [] w') (fun i => l.length - i) (0) hf ?_ ?_ ?_
  · repeat' (first | exact True.intro | refine And.intro rfl ?_)
  · exact ⟨Nat.zero_le _, (fun x hx => by simp at hx), hh⟩
  ·rintro i a w ⟨hi, hq, hh⟩ hf
   refine sy_sq ?_
   refine o_v hf hh (yv_bin rfl rfl rfl) ?_; clear hf a; intro a hf
   refine o_end ?_
   refine sy_seq ?_
   refine sy_cond hf rfl (fun hg2 => ?_) (fun hg2 => ?_)
   ·have hG2 := hg2; try simp only [gS] at hG2
    refine sy_skip ?_
    refine then_n ?_
    refine sy_seq ?_
    refine sy_block ?_
    refine sy_sq ?_
    refine o_v hf hh (yv_move rfl) ?_; clear hf a; intro a hf
    refine o_v hf hh (yv_assign rfl) ?_; clear hf a; intro a hf
    refine o_end ?_
    refine sy_seq ?_
    obtain ⟨t, ht⟩ := ex_ofP (l := l) (i := i) (by omega)
    obtain ⟨blk, off, cc, TT, fr, esa, hb2, hcc⟩ := hA i t ht
    refine sy_ops ?_
    refine o_v hf hh (yv_move rfl) ?_; clear hf a; intro a hf
    refine o_v hf hh (yv_move rfl) ?_; clear hf a; intro a hf
    refine o_v hf hh (yv_move rfl) ?_; clear hf a; intro a hf
    refine o_v hf hh (y_ix Try.se_62 (congrArg (fun z => some (Value.slice z l.length cp)) esa) rfl) ?_; clear hf a; intro a hf
    refine o_v hf hh (y_lds Try.ag_73 rfl) ?_; clear hf a; intro a hf
    refine o_call hf hE rfl rfl rfl (hc t (List.mem_of_getElem? ht) w hh.ext) ?_; clear hf a; intro v a w hR hf
    obtain ⟨rfl, hx⟩ := hR; replace hh := hh.more hx; clear hx
    refine o_end ?_
    refine sy_cond hf rfl (fun hg5 => ?_) (fun hg5 => ?_)
    ·have hG5 := hg5; try simp only [gS] at hG5
     refine sy_sq ?_
     refine o_v hf hh (yv_move rfl) ?_; clear hf a; intro a hf
     refine o_v hf hh (yv_assign rfl) ?_; clear hf a; intro a hf
     refine o_end ?_
     refine sy_ret ?_
     refine blk_r ?_
     refine then_r ?_
     refine then_r ?_
     refine blk_r ?_
     refine then_r ?_
     refine ret_r hf rfl rfl ?_
     first
       | exact ⟨_, rfl, by rw [any_hit ht (by assumption)]; exact decide_eq_true (by omega), hh.ext⟩
       | exact ⟨-1, rfl, by rw [any_take (fun s hs => by have := hq s (by rw [List.take_of_length_le (by omega)]; exact hs); simpa using this)]; rfl, hh.ext⟩
    ·have hG5 := hg5; try simp only [gS] at hG5
     refine sy_skip ?_
     refine blk_n ?_
     refine then_n ?_
     refine sy_ops ?_
     refine o_v hf hh (y_add rfl rfl) ?_; clear hf a; intro a hf
     refine o_v hf hh (yv_move rfl) ?_; clear hf a; intro a hf
     refine ops_end ?_
     refine then_n ?_
     exact ⟨i + 1, ⟨⟨by omega, take_allP hq ht (by simp_all), hh⟩, (hf.head (by repeat' (first | exact True.intro | refine And.intro rfl ?_)) (Keep.cons rfl (Keep.cons rfl (Keep.cons rfl (Keep.cons rfl (Keep.cons rfl (Keep.cons rfl (Keep.cons rfl (Keep.cons rfl (Keep.cons rfl (Keep.cons rfl (Keep.cons rfl (Keep.app rfl (Keep.rm rfl Keep.base))))))))))))))⟩, by omega⟩
   ·have hG2 := hg2; try simp only [gS] at hG2
    refine sy_exit ?_
    refine then_e ?_
    refine then_e ?_
    refine blk_e ?_
    refine then_n ?_
    refine sy_sq ?_
    refine o_v hf hh (yv_assign rfl) ?_; clear hf a; intro a hf
    refine o_end ?_
    refine sy_ret ?_
    refine ret_r hf rfl rfl ?_
    first
      | exact ⟨_, rfl, by rw [any_hit ht (by assumption)]; exact decide_eq_true (by omega), hh.ext⟩
      | exact ⟨-1, rfl, by rw [any_take (fun s hs => by have := hq s (by rw [List.take_of_length_le (by omega)]; exact hs); simpa using this)]; rfl, hh.ext⟩
theorem c_contains (f : ThD → Bool) (l : List ThD) (sa : Option Addr) (cp F : Nat) (cs : Array Value) (u : World) (hA : ThAt u sa l) (hl : l.length ≤ 9223372036854775807) (hE : Enters Try.prog F) (hc : ∀ t ∈ l, ∀ w1 : World, Ext [] u w1 → Calls Try.prog F (#[.agg (thA t)] ++ cs) w1 (Ret fun v w2 => v = .bool (f t) ∧ Ext [] w1 w2)) : Calls Try.prog 167 #[.slice sa l.length cp, .func (.func F) #[] cs] u (Ret fun v w' => v = .bool (l.any f) ∧ Ext [] u w') := by
  refine calls_of Try.func167 rfl rfl (fun a hf => ?_)
  have hh := Hp.init u []
  refine sy_sq ?_
  refine o_v hf hh (yv_assign rfl) ?_; clear hf a; intro a hf
  refine o_end ?_
  refine sy_sq ?_
  refine o_v hf hh (yv_move rfl) ?_; clear hf a; intro a hf
  refine o_v hf hh (yv_move rfl) ?_; clear hf a; intro a hf
  refine o_call hf Try.en_169 rfl rfl rfl (c_index f l sa cp F cs u hA hl hE hc) ?_; clear hf a; intro v a w hR hf
  obtain ⟨n, rfl, hn, hx⟩ := hR; replace hh := hh.more hx; clear hx
  refine o_v hf hh (yv_bin rfl rfl rfl) ?_; clear hf a; intro a hf
  refine o_v hf hh (yv_assign rfl) ?_; clear hf a; intro a hf
  refine o_end ?_
  refine sy_ret ?_
  refine ret_r hf rfl rfl ?_
  exact ⟨congrArg Value.bool (by rw [← hn]), hh.ext⟩
set_option maxRecDepth 100000 in
theorem c_isPair (p : PrD) (sa : Option Addr) (cp : Nat) (u : World) (hA : ThAt u sa p.th) (hl : p.th.length ≤ 9223372036854775807) : Calls Try.prog 141 #[.agg (prA p sa cp)] u (Ret fun v w' => v = .bool (prB p) ∧ Ext [] u w') := by
  refine calls_of Try.func141 rfl rfl (fun a hf => ?_)
  have hh := Hp.init u []
  have e0 : prB p = (spP p.fo 1 50000 && spP p.ba 1 10000 && inP p.tilt 0 1000 && inP p.near 2000 1073741824 && inP p.far p.near 1073741824 && decide ((p.th.length : Int) ≤ 12) && !p.th.any fun t => !thB p t) := by
    unfold prB
    rw [show decide ((p.th.length : Int) ≤ 12) = decide (p.th.length ≤ 12) from by rw [decide_eq_decide]; omega, List.not_any_eq_all_not]
    simp only [Bool.not_not]
  rw [e0]; clear e0
  refine sy_sq ?_
  refine o_box hf hh ?_; clear hf hh a; intro B1 a w hf hh
  refine o_v hf hh (yv_assign rfl) ?_; clear hf a; intro a hf
  refine o_end ?_
  refine sy_sq ?_
  refine o_alloc hf hh Try.ze_186 ?_; clear hf hh a; intro B3 a w hf hh
  refine o_store hf hh Try.sz_186 fun w hh => ?_
  refine o_end ?_
  refine sy_sq ?_
  refine o_v hf hh (yv_makeFunc rfl rfl) ?_; clear hf a; intro a hf
  refine o_v hf hh (yv_assign rfl) ?_; clear hf a; intro a hf
  refine o_end ?_
  refine sy_sq ?_
  refine o_v hf hh (yv_fieldAddr Try.fo_64_0 rfl) ?_; clear hf a; intro a hf
  refine o_v hf hh (y_lds Try.ag_36 rfl) ?_; clear hf a; intro a hf
  refine o_call hf Try.en_165 rfl rfl rfl (c_spanP p.fo 1 50000 _) ?_; clear hf a; intro v a w hR hf
  obtain ⟨rfl, hx⟩ := hR; replace hh := hh.more hx; clear hx
  refine o_v hf hh (yv_move rfl) ?_; clear hf a; intro a hf
  refine guard_split hf (t := 10) rfl (fun hg2 => ?_) (fun hg2 => ?_)
  ·have hG2 := hg2; try simp only [gS] at hG2
   refine o_v hf hh (yv_fieldAddr Try.fo_64_1 rfl) ?_; clear hf a; intro a hf
   refine o_v hf hh (y_lds Try.ag_36 rfl) ?_; clear hf a; intro a hf
   refine o_call hf Try.en_165 rfl rfl rfl (c_spanP p.ba 1 10000 _) ?_; clear hf a; intro v a w hR hf
   obtain ⟨rfl, hx⟩ := hR; replace hh := hh.more hx; clear hx
   refine o_v hf hh (y_pt rfl rfl) ?_; clear hf a; intro a hf
   refine o_v hf hh (yv_move rfl) ?_; clear hf a; intro a hf
   refine guard_split hf (t := 15) rfl (fun hg4 => ?_) (fun hg4 => ?_)
   ·have hG4 := hg4; try simp only [gS] at hG4
    refine o_v hf hh (yv_fieldAddr Try.fo_64_2 rfl) ?_; clear hf a; intro a hf
    refine o_v hf hh (y_ld Try.sc_3 rfl) ?_; clear hf a; intro a hf
    refine o_call hf Try.en_118 rfl rfl rfl (c_wthn p.tilt 0 1000 _) ?_; clear hf a; intro v a w hR hf
    obtain ⟨rfl, hx⟩ := hR; replace hh := hh.more hx; clear hx
    refine o_v hf hh (y_pt rfl rfl) ?_; clear hf a; intro a hf
    refine o_v hf hh (yv_assign rfl) ?_; clear hf a; intro a hf
    refine o_end ?_
    refine sy_sq ?_
    refine o_v hf hh (yv_move rfl) ?_; clear hf a; intro a hf
    refine o_v hf hh (yv_move rfl) ?_; clear hf a; intro a hf
    refine guard_split hf (t := 21) rfl (fun hg6 => ?_) (fun hg6 => ?_)
    ·have hG6 := hg6; try simp only [gS] at hG6
     refine o_v hf hh (yv_fieldAddr Try.fo_64_3 rfl) ?_; clear hf a; intro a hf
     refine o_v hf hh (y_ld Try.sc_3 rfl) ?_; clear hf a; intro a hf
     refine o_call hf Try.en_118 rfl rfl rfl (c_wthn p.near 2000 1073741824 _) ?_; clear hf a; intro v a w hR hf
     obtain ⟨rfl, hx⟩ := hR; replace hh := hh.more hx; clear hx
     refine o_v hf hh (y_pt rfl rfl) ?_; clear hf a; intro a hf
     refine o_v hf hh (yv_move rfl) ?_; clear hf a; intro a hf
     refine guard_split hf (t := 26) rfl (fun hg8 => ?_) (fun hg8 => ?_)
     ·have hG8 := hg8; try simp only [gS] at hG8
      refine o_v hf hh (yv_fieldAddr Try.fo_64_4 rfl) ?_; clear hf a; intro a hf
      refine o_v hf hh (y_ld Try.sc_3 rfl) ?_; clear hf a; intro a hf
      refine o_v hf hh (yv_fieldAddr Try.fo_64_3 rfl) ?_; clear hf a; intro a hf
      refine o_v hf hh (y_ld Try.sc_3 rfl) ?_; clear hf a; intro a hf
      refine o_call hf Try.en_118 rfl rfl rfl (c_wthn p.far p.near 1073741824 _) ?_; clear hf a; intro v a w hR hf
      obtain ⟨rfl, hx⟩ := hR; replace hh := hh.more hx; clear hx
      refine o_v hf hh (y_pt rfl rfl) ?_; clear hf a; intro a hf
      refine o_v hf hh (yv_move rfl) ?_; clear hf a; intro a hf
      refine guard_split hf (t := 33) rfl (fun hg10 => ?_) (fun hg10 => ?_)
      ·have hG10 := hg10; try simp only [gS] at hG10
       refine o_v hf hh (yv_fieldAddr Try.fo_64_5 rfl) ?_; clear hf a; intro a hf
       refine o_v hf hh (y_ld Try.sc_62 rfl) ?_; clear hf a; intro a hf
       refine o_v hf hh (yv_len Try.se_62 rfl) ?_; clear hf a; intro a hf
       refine o_v hf hh (yv_bin rfl rfl rfl) ?_; clear hf a; intro a hf
       refine o_v hf hh (y_pt rfl rfl) ?_; clear hf a; intro a hf
       refine o_v hf hh (yv_move rfl) ?_; clear hf a; intro a hf
       refine guard_split hf (t := 39) rfl (fun hg12 => ?_) (fun hg12 => ?_)
       ·have hG12 := hg12; try simp only [gS] at hG12
        refine o_v hf hh (yv_fieldAddr Try.fo_64_5 rfl) ?_; clear hf a; intro a hf
        refine o_v hf hh (y_ld Try.sc_62 rfl) ?_; clear hf a; intro a hf
        refine o_v hf hh (yv_move rfl) ?_; clear hf a; intro a hf
        refine o_call hf Try.en_167 rfl rfl rfl (c_contains (fun t => !thB p t) p.th sa cp 166 #[ptr B3 0, ptr B1 0] _ (hA.ext hh.ext) hl Try.en_166 (fun t _ w1 e => c_badT p sa cp t B3 B1 w1 (e.get (hh.at (i := 0) rfl)) (e.get (hh.at (i := 1) rfl)))) ?_; clear hf a; intro v a w hR hf
        obtain ⟨rfl, hx⟩ := hR; replace hh := hh.more hx; clear hx
        refine o_v hf hh (yv_not rfl) ?_; clear hf a; intro a hf
        refine o_v hf hh (y_pt rfl rfl) ?_; clear hf a; intro a hf
        refine o_v hf hh (yv_assign rfl) ?_; clear hf a; intro a hf
        refine o_end ?_
        refine sy_ret ?_
        refine ret_r hf rfl rfl ?_
        refine ⟨congrArg Value.bool ?_, hh.ext⟩
        clear hf hh
        first
          | (simp_all; done)
          | (simp only [*, Bool.false_and, Bool.and_false, Bool.true_and, Bool.and_true, Bool.not_true, Bool.not_false]; done)
          | (rw [Bool.eq_iff_iff]; simp_all <;> omega)
       ·have hG12 := hg12; try simp only [gS] at hG12
        refine o_off hf ?_; clear hf a; intro a hf
        refine o_off hf ?_; clear hf a; intro a hf
        refine o_off hf ?_; clear hf a; intro a hf
        refine o_off hf ?_; clear hf a; intro a hf
        refine o_off hf ?_; clear hf a; intro a hf
        refine o_v hf hh (y_pf rfl rfl) ?_; clear hf a; intro a hf
        refine o_v hf hh (yv_assign rfl) ?_; clear hf a; intro a hf
        refine o_end ?_
        refine sy_ret ?_
        refine ret_r hf rfl rfl ?_
        refine ⟨congrArg Value.bool ?_, hh.ext⟩
        clear hf hh
        first
          | (simp_all; done)
          | (simp only [*, Bool.false_and, Bool.and_false, Bool.true_and, Bool.and_true, Bool.not_true, Bool.not_false]; done)
          | (rw [Bool.eq_iff_iff]; simp_all <;> omega)
      ·have hG10 := hg10; try simp only [gS] at hG10
       refine o_off hf ?_; clear hf a; intro a hf
       refine o_off hf ?_; clear hf a; intro a hf
       refine o_off hf ?_; clear hf a; intro a hf
       refine o_off hf ?_; clear hf a; intro a hf
       refine o_v hf hh (y_pf rfl rfl) ?_; clear hf a; intro a hf
       refine o_v hf hh (yv_move rfl) ?_; clear hf a; intro a hf
       refine o_off hf ?_; clear hf a; intro a hf
       refine o_off hf ?_; clear hf a; intro a hf
       refine o_off hf ?_; clear hf a; intro a hf
       refine o_off hf ?_; clear hf a; intro a hf
       refine o_off hf ?_; clear hf a; intro a hf
       refine o_v hf hh (y_pf rfl rfl) ?_; clear hf a; intro a hf
       refine o_v hf hh (yv_assign rfl) ?_; clear hf a; intro a hf
       refine o_end ?_
       refine sy_ret ?_
       refine ret_r hf rfl rfl ?_
       refine ⟨congrArg Value.bool ?_, hh.ext⟩
       clear hf hh
       first
         | (simp_all; done)
         | (simp only [*, Bool.false_and, Bool.and_false, Bool.true_and, Bool.and_true, Bool.not_true, Bool.not_false]; done)
         | (rw [Bool.eq_iff_iff]; simp_all <;> omega)
     ·have hG8 := hg8; try simp only [gS] at hG8
      refine o_off hf ?_; clear hf a; intro a hf
      refine o_off hf ?_; clear hf a; intro a hf
      refine o_off hf ?_; clear hf a; intro a hf
      refine o_off hf ?_; clear hf a; intro a hf
      refine o_off hf ?_; clear hf a; intro a hf
      refine o_v hf hh (y_pf rfl rfl) ?_; clear hf a; intro a hf
      refine o_v hf hh (yv_move rfl) ?_; clear hf a; intro a hf
      refine o_off hf ?_; clear hf a; intro a hf
      refine o_off hf ?_; clear hf a; intro a hf
      refine o_off hf ?_; clear hf a; intro a hf
      refine o_off hf ?_; clear hf a; intro a hf
      refine o_v hf hh (y_pf rfl rfl) ?_; clear hf a; intro a hf
      refine o_v hf hh (yv_move rfl) ?_; clear hf a; intro a hf
      refine o_off hf ?_; clear hf a; intro a hf
      refine o_off hf ?_; clear hf a; intro a hf
      refine o_off hf ?_; clear hf a; intro a hf
      refine o_off hf ?_; clear hf a; intro a hf
      refine o_off hf ?_; clear hf a; intro a hf
      refine o_v hf hh (y_pf rfl rfl) ?_; clear hf a; intro a hf
      refine o_v hf hh (yv_assign rfl) ?_; clear hf a; intro a hf
      refine o_end ?_
      refine sy_ret ?_
      refine ret_r hf rfl rfl ?_
      refine ⟨congrArg Value.bool ?_, hh.ext⟩
      clear hf hh
      first
        | (simp_all; done)
        | (simp only [*, Bool.false_and, Bool.and_false, Bool.true_and, Bool.and_true, Bool.not_true, Bool.not_false]; done)
        | (rw [Bool.eq_iff_iff]; simp_all <;> omega)
    ·have hG6 := hg6; try simp only [gS] at hG6
     refine o_off hf ?_; clear hf a; intro a hf
     refine o_off hf ?_; clear hf a; intro a hf
     refine o_off hf ?_; clear hf a; intro a hf
     refine o_v hf hh (y_pf rfl rfl) ?_; clear hf a; intro a hf
     refine o_v hf hh (yv_move rfl) ?_; clear hf a; intro a hf
     refine o_off hf ?_; clear hf a; intro a hf
     refine o_off hf ?_; clear hf a; intro a hf
     refine o_off hf ?_; clear hf a; intro a hf
     refine o_off hf ?_; clear hf a; intro a hf
     refine o_off hf ?_; clear hf a; intro a hf
     refine o_v hf hh (y_pf rfl rfl) ?_; clear hf a; intro a hf
     refine o_v hf hh (yv_move rfl) ?_; clear hf a; intro a hf
     refine o_off hf ?_; clear hf a; intro a hf
     refine o_off hf ?_; clear hf a; intro a hf
     refine o_off hf ?_; clear hf a; intro a hf
     refine o_off hf ?_; clear hf a; intro a hf
     refine o_v hf hh (y_pf rfl rfl) ?_; clear hf a; intro a hf
     refine o_v hf hh (yv_move rfl) ?_; clear hf a; intro a hf
     refine o_off hf ?_; clear hf a; intro a hf
     refine o_off hf ?_; clear hf a; intro a hf
     refine o_off hf ?_; clear hf a; intro a hf
     refine o_off hf ?_; clear hf a; intro a hf
     refine o_off hf ?_; clear hf a; intro a hf
     refine o_v hf hh (y_pf rfl rfl) ?_; clear hf a; intro a hf
     refine o_v hf hh (yv_assign rfl) ?_; clear hf a; intro a hf
     refine o_end ?_
     refine sy_ret ?_
     refine ret_r hf rfl rfl ?_
     refine ⟨congrArg Value.bool ?_, hh.ext⟩
     clear hf hh
     first
       | (simp_all; done)
       | (simp only [*, Bool.false_and, Bool.and_false, Bool.true_and, Bool.and_true, Bool.not_true, Bool.not_false]; done)
       | (rw [Bool.eq_iff_iff]; simp_all <;> omega)
   ·have hG4 := hg4; try simp only [gS] at hG4
    refine o_off hf ?_; clear hf a; intro a hf
    refine o_off hf ?_; clear hf a; intro a hf
    refine o_off hf ?_; clear hf a; intro a hf
    refine o_v hf hh (y_pf rfl rfl) ?_; clear hf a; intro a hf
    refine o_v hf hh (yv_assign rfl) ?_; clear hf a; intro a hf
    refine o_end ?_
    refine sy_sq ?_
    refine o_v hf hh (yv_move rfl) ?_; clear hf a; intro a hf
    refine o_v hf hh (yv_move rfl) ?_; clear hf a; intro a hf
    refine o_off hf ?_; clear hf a; intro a hf
    refine o_off hf ?_; clear hf a; intro a hf
    refine o_off hf ?_; clear hf a; intro a hf
    refine o_v hf hh (y_pf rfl rfl) ?_; clear hf a; intro a hf
    refine o_v hf hh (yv_move rfl) ?_; clear hf a; intro a hf
    refine o_off hf ?_; clear hf a; intro a hf
    refine o_off hf ?_; clear hf a; intro a hf
    refine o_off hf ?_; clear hf a; intro a hf
    refine o_off hf ?_; clear hf a; intro a hf
    refine o_off hf ?_; clear hf a; intro a hf
    refine o_v hf hh (y_pf rfl rfl) ?_; clear hf a; intro a hf
    refine o_v hf hh (yv_move rfl) ?_; clear hf a; intro a hf
    refine o_off hf ?_; clear hf a; intro a hf
    refine o_off hf ?_; clear hf a; intro a hf
    refine o_off hf ?_; clear hf a; intro a hf
    refine o_off hf ?_; clear hf a; intro a hf
    refine o_v hf hh (y_pf rfl rfl) ?_; clear hf a; intro a hf
    refine o_v hf hh (yv_move rfl) ?_; clear hf a; intro a hf
    refine o_off hf ?_; clear hf a; intro a hf
    refine o_off hf ?_; clear hf a; intro a hf
    refine o_off hf ?_; clear hf a; intro a hf
    refine o_off hf ?_; clear hf a; intro a hf
    refine o_off hf ?_; clear hf a; intro a hf
    refine o_v hf hh (y_pf rfl rfl) ?_; clear hf a; intro a hf
    refine o_v hf hh (yv_assign rfl) ?_; clear hf a; intro a hf
    refine o_end ?_
    refine sy_ret ?_
    refine ret_r hf rfl rfl ?_
    refine ⟨congrArg Value.bool ?_, hh.ext⟩
    clear hf hh
    first
      | (simp_all; done)
      | (simp only [*, Bool.false_and, Bool.and_false, Bool.true_and, Bool.and_true, Bool.not_true, Bool.not_false]; done)
      | (rw [Bool.eq_iff_iff]; simp_all <;> omega)
  ·have hG2 := hg2; try simp only [gS] at hG2
   refine o_off hf ?_; clear hf a; intro a hf
   refine o_off hf ?_; clear hf a; intro a hf
   refine o_off hf ?_; clear hf a; intro a hf
   refine o_v hf hh (y_pf rfl rfl) ?_; clear hf a; intro a hf
   refine o_v hf hh (yv_move rfl) ?_; clear hf a; intro a hf
   refine o_off hf ?_; clear hf a; intro a hf
   refine o_off hf ?_; clear hf a; intro a hf
   refine o_off hf ?_; clear hf a; intro a hf
   refine o_v hf hh (y_pf rfl rfl) ?_; clear hf a; intro a hf
   refine o_v hf hh (yv_assign rfl) ?_; clear hf a; intro a hf
   refine o_end ?_
   refine sy_sq ?_
   refine o_v hf hh (yv_move rfl) ?_; clear hf a; intro a hf
   refine o_v hf hh (yv_move rfl) ?_; clear hf a; intro a hf
   refine o_off hf ?_; clear hf a; intro a hf
   refine o_off hf ?_; clear hf a; intro a hf
   refine o_off hf ?_; clear hf a; intro a hf
   refine o_v hf hh (y_pf rfl rfl) ?_; clear hf a; intro a hf
   refine o_v hf hh (yv_move rfl) ?_; clear hf a; intro a hf
   refine o_off hf ?_; clear hf a; intro a hf
   refine o_off hf ?_; clear hf a; intro a hf
   refine o_off hf ?_; clear hf a; intro a hf
   refine o_off hf ?_; clear hf a; intro a hf
   refine o_off hf ?_; clear hf a; intro a hf
   refine o_v hf hh (y_pf rfl rfl) ?_; clear hf a; intro a hf
   refine o_v hf hh (yv_move rfl) ?_; clear hf a; intro a hf
   refine o_off hf ?_; clear hf a; intro a hf
   refine o_off hf ?_; clear hf a; intro a hf
   refine o_off hf ?_; clear hf a; intro a hf
   refine o_off hf ?_; clear hf a; intro a hf
   refine o_v hf hh (y_pf rfl rfl) ?_; clear hf a; intro a hf
   refine o_v hf hh (yv_move rfl) ?_; clear hf a; intro a hf
   refine o_off hf ?_; clear hf a; intro a hf
   refine o_off hf ?_; clear hf a; intro a hf
   refine o_off hf ?_; clear hf a; intro a hf
   refine o_off hf ?_; clear hf a; intro a hf
   refine o_off hf ?_; clear hf a; intro a hf
   refine o_v hf hh (y_pf rfl rfl) ?_; clear hf a; intro a hf
   refine o_v hf hh (yv_assign rfl) ?_; clear hf a; intro a hf
   refine o_end ?_
   refine sy_ret ?_
   refine ret_r hf rfl rfl ?_
   refine ⟨congrArg Value.bool ?_, hh.ext⟩
   clear hf hh
   first
     | (simp_all; done)
     | (simp only [*, Bool.false_and, Bool.and_false, Bool.true_and, Bool.and_true, Bool.not_true, Bool.not_false]; done)
     | (rw [Bool.eq_iff_iff]; simp_all <;> omega)
end Go.Proofs.Ytccpgpnekoncoaa

namespace Go.Proofs.Ytccpgpnekoncoaa
open Go Go.Sy Go.PaiM
def narI (x y : Int × Int) (i : Nat) : Int × Int := if i = 0 then x else nar x y
theorem narI_hi (x y : Int × Int) : narI x y 1 = nar x y := rfl
theorem c_shift (t : ThD) (u : World) (h1 : -4000 ≤ t.lx.1 ∧ t.lx.1 ≤ 4000) (h2 : -4000 ≤ t.lx.2 ∧ t.lx.2 ≤ 4000) (h3 : -4000 ≤ t.rx.1 ∧ t.rx.1 ≤ 4000) (h4 : -4000 ≤ t.rx.2 ∧ t.rx.2 ≤ 4000) : Calls Try.prog 107 #[.agg (thA t)] u (Ret fun v w' => v = spV (shf t) ∧ Ext [] u w') := by
  refine calls_of Try.func107 rfl rfl (fun a hf => ?_)
  have hh := Hp.init u []
  refine sy_sq ?_
  refine o_box hf hh ?_; clear hf hh a; intro B1 a w hf hh
  refine o_alloc hf hh Try.ze_36 ?_; clear hf hh a; intro B2 a w hf hh
  refine o_end ?_
  refine sy_sq ?_
  refine o_v hf hh (yv_fieldAddr Try.fo_73_0 rfl) ?_; clear hf a; intro a hf
  refine o_v hf hh (yv_fieldAddr Try.fo_71_0 rfl) ?_; clear hf a; intro a hf
  refine o_v hf hh (yv_fieldAddr Try.fo_36_0 rfl) ?_; clear hf a; intro a hf
  refine o_v hf hh (y_ld Try.sc_3 rfl) ?_; clear hf a; intro a hf
  refine o_v hf hh (yv_fieldAddr Try.fo_73_1 rfl) ?_; clear hf a; intro a hf
  refine o_v hf hh (yv_fieldAddr Try.fo_71_0 rfl) ?_; clear hf a; intro a hf
  refine o_v hf hh (yv_fieldAddr Try.fo_36_1 rfl) ?_; clear hf a; intro a hf
  refine o_v hf hh (y_ld Try.sc_3 rfl) ?_; clear hf a; intro a hf
  refine o_v hf hh (y_sub rfl rfl) ?_; clear hf a; intro a hf
  refine o_v hf hh (yv_fieldAddr Try.fo_73_0 rfl) ?_; clear hf a; intro a hf
  refine o_v hf hh (yv_fieldAddr Try.fo_71_0 rfl) ?_; clear hf a; intro a hf
  refine o_v hf hh (yv_fieldAddr Try.fo_36_1 rfl) ?_; clear hf a; intro a hf
  refine o_v hf hh (y_ld Try.sc_3 rfl) ?_; clear hf a; intro a hf
  refine o_v hf hh (yv_fieldAddr Try.fo_73_1 rfl) ?_; clear hf a; intro a hf
  refine o_v hf hh (yv_fieldAddr Try.fo_71_0 rfl) ?_; clear hf a; intro a hf
  refine o_v hf hh (yv_fieldAddr Try.fo_36_0 rfl) ?_; clear hf a; intro a hf
  refine o_v hf hh (y_ld Try.sc_3 rfl) ?_; clear hf a; intro a hf
  refine o_v hf hh (y_sub rfl rfl) ?_; clear hf a; intro a hf
  refine o_v hf hh (yv_buildS Try.bs_36 rfl rfl) ?_; clear hf a; intro a hf
  refine o_store hf hh Try.sz_36 fun w hh => ?_
  refine o_end ?_
  refine sy_ret ?_
  refine ret_c (vs := [spV (shf t)]) hf ?_ ?_
  · exact ⟨⟨B2, 0, _, _, _, rfl, hh.at (i := 0) rfl, .inr ⟨2, _, Try.ag_36, rfl, rfl⟩⟩, True.intro⟩
  · exact ⟨rfl, hh.ext⟩
theorem c_spanOf (s : Int × Int) (u : World) : Calls Try.prog 69 #[spV s] u (Ret fun v w' => v = spV s ∧ Ext [] u w') := by
  refine calls_of Try.func69 rfl rfl (fun a hf => ?_)
  have hh := Hp.init u []
  refine sy_sq ?_
  refine o_box hf hh ?_; clear hf hh a; intro B1 a w hf hh
  refine o_alloc hf hh Try.ze_36 ?_; clear hf hh a; intro B2 a w hf hh
  refine o_end ?_
  refine sy_sq ?_
  refine o_v hf hh (y_ia Try.ae_135 rfl rfl) ?_; clear hf a; intro a hf
  refine o_v hf hh (y_ld Try.sc_3 rfl) ?_; clear hf a; intro a hf
  refine o_v hf hh (y_ia Try.ae_135 rfl rfl) ?_; clear hf a; intro a hf
  refine o_v hf hh (y_ld Try.sc_3 rfl) ?_; clear hf a; intro a hf
  refine o_v hf hh (yv_buildS Try.bs_36 rfl rfl) ?_; clear hf a; intro a hf
  refine o_store hf hh Try.sz_36 fun w hh => ?_
  refine o_end ?_
  refine sy_ret ?_
  refine ret_c (vs := [spV s]) hf ?_ ?_
  · exact ⟨⟨B2, 0, _, _, _, rfl, hh.at (i := 0) rfl, .inr ⟨2, _, Try.ag_36, rfl, rfl⟩⟩, True.intro⟩
  · exact ⟨rfl, hh.ext⟩
theorem c_nar (x y : Int × Int) (B : Nat) (T : TypeId) (fr : Nat × Nat) (u : World) (hb : u.heap[B]? = some (.cells #[.int .i64 y.1, .int .i64 y.2] T fr)) : Calls Try.prog 68 #[spV x, .slice (some ⟨B, 0, none⟩) 1 1] u (Ret fun v w' => v = .tuple #[spV (nar x y), .bool (neB (nar x y))] ∧ Ext [] u w') := by
  refine calls_of Try.func68 rfl rfl (fun a hf => ?_)
  have hh := Hp.init u []
  refine sy_sq ?_
  refine o_box hf hh ?_; clear hf hh a; intro B2 a w hf hh
  refine o_alloc hf hh Try.ze_135 ?_; clear hf hh a; intro B4 a w hf hh
  refine o_v hf hh (yv_assign rfl) ?_; clear hf a; intro a hf
  refine o_end ?_
  refine sy_seq ?_
  refine sy_sq ?_
  refine o_v hf hh (yv_move rfl) ?_; clear hf a; intro a hf
  refine o_v hf hh (yv_len Try.se_198 rfl) ?_; clear hf a; intro a hf
  refine o_v hf hh (yv_move rfl) ?_; clear hf a; intro a hf
  refine o_end ?_
  refine sy_block ?_
  refine sy_loopH (σ := Nat) [7, 10, 11, 12, 13, 14, 15, 16, 17, 18, 19, 20, 21, 22, 23, 24, 25] (fun i => [(10, .int .i64 (i : Nat))]) (fun i => fun w' => i ≤ 1 ∧ Hp u [] [(B4, .cells #[.int .i64 0, .int .i64 0] 135), (B2, .cells #[.int .i64 (narI x y i).1, .int .i64 (narI x y i).2] 135)] w') (fun i => 1 - i) (0) hf ?_ ?_ ?_
  · repeat' (first | exact True.intro | refine And.intro rfl ?_)
  · exact ⟨Nat.zero_le _, hh⟩
  ·rintro i a w ⟨hi, hh⟩ hf
   refine sy_sq ?_
   refine o_v hf hh (yv_bin rfl rfl rfl) ?_; clear hf a; intro a hf
   refine o_end ?_
   refine sy_seq ?_
   refine sy_cond hf rfl (fun hg2 => ?_) (fun hg2 => ?_)
   ·have hG2 := hg2; try simp only [gS] at hG2
    refine sy_skip ?_
    refine then_n ?_
    refine sy_seq ?_
    refine sy_block ?_
    refine sy_seq ?_
    obtain rfl : i = 0 := by omega
    refine sy_ops ?_
    refine o_v hf hh (y_ix Try.se_198 rfl rfl) ?_; clear hf a; intro a hf
    refine o_v hf hh (y_lds Try.ag_135 rfl) ?_; clear hf a; intro a hf
    refine o_alloc hf hh Try.ze_135 ?_; clear hf hh a; intro B7 a w hf hh
    refine o_store hf hh Try.sz_135 fun w hh => ?_
    refine o_end ?_
    refine sy_ops ?_
    refine o_v hf hh (y_ia Try.ae_135 rfl rfl) ?_; clear hf a; intro a hf
    refine o_v hf hh (y_ld Try.sc_3 rfl) ?_; clear hf a; intro a hf
    refine o_v hf hh (y_ia Try.ae_135 rfl rfl) ?_; clear hf a; intro a hf
    refine o_v hf hh (y_ld Try.sc_3 rfl) ?_; clear hf a; intro a hf
    refine o_v hf hh (yv_max rfl rfl) ?_; clear hf a; intro a hf
    refine o_v hf hh (y_ia Try.ae_135 rfl rfl) ?_; clear hf a; intro a hf
    refine o_v hf hh (y_ld Try.sc_3 rfl) ?_; clear hf a; intro a hf
    refine o_v hf hh (y_ia Try.ae_135 rfl rfl) ?_; clear hf a; intro a hf
    refine o_v hf hh (y_ld Try.sc_3 rfl) ?_; clear hf a; intro a hf
    refine o_v hf hh (yv_min rfl rfl) ?_; clear hf a; intro a hf
    refine o_v hf hh (yv_buildA Try.ba_135 rfl rfl) ?_; clear hf a; intro a hf
    refine o_store hf hh Try.sz_135 fun w hh => ?_
    refine ops_end ?_
    refine blk_n ?_
    refine then_n ?_
    refine sy_ops ?_
    refine o_v hf hh (y_add rfl rfl) ?_; clear hf a; intro a hf
    refine o_v hf hh (yv_move rfl) ?_; clear hf a; intro a hf
    refine ops_end ?_
    refine then_n ?_
    exact ⟨1, ⟨⟨Nat.le_refl _, hh.less (.cons _ (.refl _))⟩, (hf.head (by repeat' (first | exact True.intro | refine And.intro rfl ?_)) (Keep.cons rfl (Keep.cons rfl (Keep.cons rfl (Keep.cons rfl (Keep.cons rfl (Keep.cons rfl (Keep.cons rfl (Keep.cons rfl (Keep.cons rfl (Keep.cons rfl (Keep.cons rfl (Keep.cons rfl (Keep.cons rfl (Keep.cons rfl (Keep.cons rfl (Keep.cons rfl (Keep.cons rfl (Keep.app rfl (Keep.rm rfl Keep.base))))))))))))))))))))⟩, by omega⟩
   ·have hG2 := hg2; try simp only [gS] at hG2
    refine sy_exit ?_
    refine then_e ?_
    refine then_e ?_
    refine blk_e ?_
    refine then_n ?_
    refine sy_seq ?_
    obtain rfl : i = 1 := by omega
    rw [narI_hi] at hh
    replace hh : Hp u [] [(B4, .cells #[.int .i64 0, .int .i64 0] 135), (B2, .cells #[.int .i64 (nar x y).1, .int .i64 (nar x y).2] 135)] w := hh
    refine sy_treeC (.q 0 0 (.p 1 (.q 0 2 (.p 3 (.q 0 4 (.p 5 (.e1 6 (.p 7 (.fin))))))))) [[]] [(AtE u [] [(B2, .cells #[.int .i64 (nar x y).1, .int .i64 (nar x y).2] 135)], [])] Try.follows (by kernel_rfl) rfl hh (fun w hh => ?_)
    refine mc_q rfl rfl (AtE.of hh (by intro z hz; simp only [List.mem_cons, List.not_mem_nil, or_false] at hz ⊢; simp [hz])) hf (y_lds Try.ag_135 rfl) (.inl rfl) rfl rfl ?_; clear hf a; intro a hf
    refine mc_p rfl   hf (y_ia Try.ae_135 rfl rfl) (.inl rfl) rfl rfl ?_; clear hf a; intro a hf
    refine mc_q rfl rfl (AtE.of hh (by intro z hz; simp only [List.mem_cons, List.not_mem_nil, or_false] at hz ⊢; simp [hz])) hf (y_ld Try.sc_3 rfl) (.inl rfl) rfl rfl ?_; clear hf a; intro a hf
    refine mc_p rfl   hf (y_ia Try.ae_135 rfl rfl) (.inl rfl) rfl rfl ?_; clear hf a; intro a hf
    refine mc_q rfl rfl (AtE.of hh (by intro z hz; simp only [List.mem_cons, List.not_mem_nil, or_false] at hz ⊢; simp [hz])) hf (y_ld Try.sc_3 rfl) (.inl rfl) rfl rfl ?_; clear hf a; intro a hf
    refine mc_p rfl   hf (yv_bin rfl rfl rfl) (.inl rfl) rfl rfl ?_; clear hf a; intro a hf
    refine mc_e rfl fun Q1 => ?_
    refine o_store hf hh Try.sz_135 fun w hh => ?_
    refine ops_end ?_
    refine then_n ⟨⟨fun _ _ => (AtE.of hh (by intro z hz; simp only [List.mem_cons, List.not_mem_nil, or_false] at hz ⊢; simp [hz])), trivial⟩, ?_⟩
    refine mc_p rfl   hf (yv_assign rfl) (.inl rfl) rfl rfl ?_; clear hf a; intro a hf
    refine mc_end ?_
    refine then_n ?_
    refine sy_ret ?_
    refine ret_c (vs := [spV (nar x y), .bool (neB (nar x y))]) hf ?_ ?_
    · exact ⟨⟨B4, 0, _, _, _, rfl, hh.at (i := 0) rfl, .inr ⟨2, _, Try.ag_135, rfl, rfl⟩⟩, rfl, True.intro⟩
    · exact ⟨rfl, hh.ext⟩
end Go.Proofs.Ytccpgpnekoncoaa

namespace Go.Proofs.Ytccpgpnekoncoaa
open Go Go.Sy Go.PaiM
abbrev viA (p : PrD) (sa : Option Addr) (cp : Nat) (w : Int × Int) : Array Value := #[.int .i64 p.fo.1, .int .i64 p.fo.2, .int .i64 p.ba.1, .int .i64 p.ba.2, .int .i64 p.tilt, .int .i64 p.near, .int .i64 p.far, .slice sa p.th.length cp, .int .i64 w.1, .int .i64 w.2]
abbrev viT : TypeId := 137
theorem c_shown (p : PrD) (t : ThD) (hO : ThOk p t) (u : World) : Calls Try.prog 67 #[.agg (thA t)] u (Ret fun v w' => v = .tuple #[spV (shn t), .bool (neB (shn t))] ∧ Ext [] u w') := by
  refine calls_of Try.func67 rfl rfl (fun a hf => ?_)
  have hh := Hp.init u []
  obtain ⟨⟨a1, a2, a3⟩, ⟨b1, b2, b3⟩, ⟨c1, c2, c3⟩, ⟨d1, d2, d3⟩, -⟩ := hO
  refine sy_sq ?_
  refine o_box hf hh ?_; clear hf hh a; intro B1 a w hf hh
  refine o_alloc hf hh Try.ze_135 ?_; clear hf hh a; intro B2 a w hf hh
  refine o_v hf hh (yv_assign rfl) ?_; clear hf a; intro a hf
  refine o_end ?_
  refine sy_sq ?_
  refine o_v hf hh (y_lds Try.ag_73 rfl) ?_; clear hf a; intro a hf
  refine o_call hf Try.en_107 rfl rfl rfl (c_shift t _ ⟨by omega, by omega⟩ ⟨by omega, by omega⟩ ⟨by omega, by omega⟩ ⟨by omega, by omega⟩) ?_; clear hf a; intro v a w hR hf
  obtain ⟨rfl, hx⟩ := hR; replace hh := hh.more hx; clear hx
  refine o_alloc hf hh Try.ze_36 ?_; clear hf hh a; intro B4 a w hf hh
  refine o_store hf hh Try.sz_36 fun w hh => ?_
  refine o_end ?_
  refine sy_sq ?_
  refine o_v hf hh (yv_fieldAddr Try.fo_36_0 rfl) ?_; clear hf a; intro a hf
  refine o_v hf hh (y_ld Try.sc_3 rfl) ?_; clear hf a; intro a hf
  refine o_v hf hh (yv_fieldAddr Try.fo_36_1 rfl) ?_; clear hf a; intro a hf
  refine o_v hf hh (y_ld Try.sc_3 rfl) ?_; clear hf a; intro a hf
  refine o_v hf hh (yv_buildA Try.ba_135 rfl rfl) ?_; clear hf a; intro a hf
  refine o_v hf hh (yv_buildA Try.ba_135 rfl rfl) ?_; clear hf a; intro a hf
  refine ops_buildSl hf hh Try.bl_198_1 rfl rfl (.inl rfl) rfl ?_; clear hf hh; clear a; intro B13 a w hf hh
  refine o_call hf Try.en_68 rfl rfl rfl (c_nar (shf t) (0, 2000) B13 _ _ _ (hh.at (i := 0) rfl)) ?_; clear hf a; intro v a w hR hf
  obtain ⟨rfl, hx⟩ := hR; replace hh := hh.more hx; clear hx
  refine o_v hf hh (yv_extract rfl rfl) ?_; clear hf a; intro a hf
  refine o_v hf hh (yv_extract rfl rfl) ?_; clear hf a; intro a hf
  refine o_store hf hh Try.sz_135 fun w hh => ?_
  refine o_v hf hh (yv_assign rfl) ?_; clear hf a; intro a hf
  refine o_end ?_
  refine sy_ret ?_
  refine ret_c (vs := [spV (shn t), .bool (neB (shn t))]) hf ?_ ?_
  · exact ⟨⟨B2, 0, _, _, _, rfl, hh.at (i := 2) rfl, .inr ⟨2, _, Try.ag_135, rfl, rfl⟩⟩, rfl, True.intro⟩
  · exact ⟨rfl, hh.ext⟩
theorem mul_bdP {a b : Int} (ha : 0 ≤ a ∧ a ≤ 2001) (hb : 0 ≤ b ∧ b ≤ 1073741824) : 0 ≤ a * b ∧ a * b ≤ 2148557389824 := by
  refine ⟨Int.mul_nonneg ha.1 hb.1, ?_⟩
  have h1 := Int.mul_le_mul ha.2 hb.2 hb.1 (by decide : (0 : Int) ≤ 2001)
  omega
theorem c_mark (y : Int) (s : Int × Int) (u : World) (hs : 0 ≤ s.1 ∧ s.1 ≤ s.2 ∧ s.2 ≤ 2000) (hy : 0 ≤ y ∧ y ≤ 1073741824) : Calls Try.prog 190 #[.agg #[.int .i64 y], spV s] u (Ret fun v w' => v = spV (s.1 * y, (s.2 + 1) * y - 1) ∧ Ext [] u w') := by
  refine calls_of Try.func190 rfl rfl (fun a hf => ?_)
  have hh := Hp.init u []
  have m1 := mul_bdP (a := s.1) (b := y) ⟨by omega, by omega⟩ hy
  have m2 := mul_bdP (a := s.2 + 1) (b := y) ⟨by omega, by omega⟩ hy
  refine sy_sq ?_
  refine o_box hf hh ?_; clear hf hh a; intro B2 a w hf hh
  refine o_box hf hh ?_; clear hf hh a; intro B3 a w hf hh
  refine o_alloc hf hh Try.ze_135 ?_; clear hf hh a; intro B4 a w hf hh
  refine o_end ?_
  refine sy_sq ?_
  refine o_v hf hh (y_ia Try.ae_135 rfl rfl) ?_; clear hf a; intro a hf
  refine o_v hf hh (y_ld Try.sc_3 rfl) ?_; clear hf a; intro a hf
  refine o_v hf hh (yv_fieldAddr Try.fo_235_0 rfl) ?_; clear hf a; intro a hf
  refine o_v hf hh (y_ld Try.sc_3 rfl) ?_; clear hf a; intro a hf
  refine o_v hf hh (y_mul rfl rfl (Int.le_trans (by decide) m1.1) (Int.le_trans m1.2 (by decide))) ?_; clear hf a; intro a hf
  refine o_v hf hh (y_ia Try.ae_135 rfl rfl) ?_; clear hf a; intro a hf
  refine o_v hf hh (y_ld Try.sc_3 rfl) ?_; clear hf a; intro a hf
  refine o_v hf hh (y_add rfl rfl) ?_; clear hf a; intro a hf
  refine o_v hf hh (yv_fieldAddr Try.fo_235_0 rfl) ?_; clear hf a; intro a hf
  refine o_v hf hh (y_ld Try.sc_3 rfl) ?_; clear hf a; intro a hf
  refine o_v hf hh (y_mul rfl rfl (Int.le_trans (by decide) m2.1) (Int.le_trans m2.2 (by decide))) ?_; clear hf a; intro a hf
  refine o_v hf hh (y_sub rfl rfl (by omega) (by omega)) ?_; clear hf a; intro a hf
  refine o_v hf hh (yv_buildA Try.ba_135 rfl rfl) ?_; clear hf a; intro a hf
  refine o_store hf hh Try.sz_135 fun w hh => ?_
  refine o_end ?_
  refine sy_ret ?_
  refine ret_c (vs := [spV (s.1 * y, (s.2 + 1) * y - 1)]) hf ?_ ?_
  · exact ⟨⟨B4, 0, _, _, _, rfl, hh.at (i := 0) rfl, .inr ⟨2, _, Try.ag_135, rfl, rfl⟩⟩, True.intro⟩
  · exact ⟨rfl, hh.ext⟩
theorem c_other (y z : Int) (s : Int × Int) (u : World) (hs : 0 ≤ s.1 ∧ s.1 ≤ s.2 ∧ s.2 ≤ 2000) (hy : 0 ≤ y ∧ y ≤ 1073741824) (hz : 0 ≤ z ∧ z ≤ 1073741824) : Calls Try.prog 191 #[.agg #[.int .i64 y, .int .i64 z], spV s] u (Ret fun v w' => v = spV (s.1 * y, (s.2 + 1) * z - 1) ∧ Ext [] u w') := by
  refine calls_of Try.func191 rfl rfl (fun a hf => ?_)
  have hh := Hp.init u []
  have m1 := mul_bdP (a := s.1) (b := y) ⟨by omega, by omega⟩ hy
  have m2 := mul_bdP (a := s.2 + 1) (b := z) ⟨by omega, by omega⟩ hz
  refine sy_sq ?_
  refine o_box hf hh ?_; clear hf hh a; intro B2 a w hf hh
  refine o_box hf hh ?_; clear hf hh a; intro B3 a w hf hh
  refine o_alloc hf hh Try.ze_135 ?_; clear hf hh a; intro B4 a w hf hh
  refine o_end ?_
  refine sy_sq ?_
  refine o_v hf hh (y_ia Try.ae_135 rfl rfl) ?_; clear hf a; intro a hf
  refine o_v hf hh (y_ld Try.sc_3 rfl) ?_; clear hf a; intro a hf
  refine o_v hf hh (yv_fieldAddr Try.fo_237_0 rfl) ?_; clear hf a; intro a hf
  refine o_v hf hh (y_ld Try.sc_3 rfl) ?_; clear hf a; intro a hf
  refine o_v hf hh (y_mul rfl rfl (Int.le_trans (by decide) m1.1) (Int.le_trans m1.2 (by decide))) ?_; clear hf a; intro a hf
  refine o_v hf hh (y_ia Try.ae_135 rfl rfl) ?_; clear hf a; intro a hf
  refine o_v hf hh (y_ld Try.sc_3 rfl) ?_; clear hf a; intro a hf
  refine o_v hf hh (y_add rfl rfl) ?_; clear hf a; intro a hf
  refine o_v hf hh (yv_fieldAddr Try.fo_237_1 rfl) ?_; clear hf a; intro a hf
  refine o_v hf hh (y_ld Try.sc_3 rfl) ?_; clear hf a; intro a hf
  refine o_v hf hh (y_mul rfl rfl (Int.le_trans (by decide) m2.1) (Int.le_trans m2.2 (by decide))) ?_; clear hf a; intro a hf
  refine o_v hf hh (y_sub rfl rfl (by omega) (by omega)) ?_; clear hf a; intro a hf
  refine o_v hf hh (yv_buildA Try.ba_135 rfl rfl) ?_; clear hf a; intro a hf
  refine o_store hf hh Try.sz_135 fun w hh => ?_
  refine o_end ?_
  refine sy_ret ?_
  refine ret_c (vs := [spV (s.1 * y, (s.2 + 1) * z - 1)]) hf ?_ ?_
  · exact ⟨⟨B4, 0, _, _, _, rfl, hh.at (i := 0) rfl, .inr ⟨2, _, Try.ag_135, rfl, rfl⟩⟩, True.intro⟩
  · exact ⟨rfl, hh.ext⟩
theorem c_level (p : PrD) (sa : Option Addr) (cp : Nat) (pw : Int × Int) (t : ThD) (hp : PrOk p) (hO : ThOk p t) (Bv : Nat) (u : World) (hv : u.heap[Bv]? = some (.cells (viA p sa cp pw) viT (0, 0))) : Calls Try.prog 105 #[ptr Bv 0, .agg (thA t)] u (Ret fun v w' => v = .bool (lvl p t) ∧ Ext [] u w') := by
  refine calls_of Try.func105 rfl rfl (fun a hf => ?_)
  have hh := Hp.init u []
  obtain ⟨⟨a1, a2, a3⟩, ⟨b1, b2, b3⟩, ⟨c1, c2, c3⟩, ⟨d1, d2, d3⟩, -⟩ := hO
  obtain ⟨e1, e2⟩ := hp.ti
  refine sy_sq ?_
  refine o_box hf hh ?_; clear hf hh a; intro B3 a w hf hh
  refine o_v hf hh (yv_assign rfl) ?_; clear hf a; intro a hf
  refine o_end ?_
  refine sy_sq ?_
  refine o_v hf hh (yv_fieldAddr Try.fo_73_0 rfl) ?_; clear hf a; intro a hf
  refine o_v hf hh (yv_fieldAddr Try.fo_71_1 rfl) ?_; clear hf a; intro a hf
  refine o_v hf hh (yv_fieldAddr Try.fo_36_0 rfl) ?_; clear hf a; intro a hf
  refine o_v hf hh (y_ld Try.sc_3 rfl) ?_; clear hf a; intro a hf
  refine o_v hf hh (yv_fieldAddr Try.fo_73_1 rfl) ?_; clear hf a; intro a hf
  refine o_v hf hh (yv_fieldAddr Try.fo_71_1 rfl) ?_; clear hf a; intro a hf
  refine o_v hf hh (yv_fieldAddr Try.fo_36_1 rfl) ?_; clear hf a; intro a hf
  refine o_v hf hh (y_ld Try.sc_3 rfl) ?_; clear hf a; intro a hf
  refine o_v hf hh (y_sub rfl rfl) ?_; clear hf a; intro a hf
  refine o_v hf hh (yv_fieldAddr Try.fo_73_0 rfl) ?_; clear hf a; intro a hf
  refine o_v hf hh (yv_fieldAddr Try.fo_71_1 rfl) ?_; clear hf a; intro a hf
  refine o_v hf hh (yv_fieldAddr Try.fo_36_1 rfl) ?_; clear hf a; intro a hf
  refine o_v hf hh (y_ld Try.sc_3 rfl) ?_; clear hf a; intro a hf
  refine o_v hf hh (yv_fieldAddr Try.fo_73_1 rfl) ?_; clear hf a; intro a hf
  refine o_v hf hh (yv_fieldAddr Try.fo_71_1 rfl) ?_; clear hf a; intro a hf
  refine o_v hf hh (yv_fieldAddr Try.fo_36_0 rfl) ?_; clear hf a; intro a hf
  refine o_v hf hh (y_ld Try.sc_3 rfl) ?_; clear hf a; intro a hf
  refine o_v hf hh (y_sub rfl rfl) ?_; clear hf a; intro a hf
  refine o_v hf hh (yv_buildA Try.ba_135 rfl rfl) ?_; clear hf a; intro a hf
  refine o_alloc hf hh Try.ze_135 ?_; clear hf hh a; intro B5 a w hf hh
  refine o_store hf hh Try.sz_135 fun w hh => ?_
  refine o_end ?_
  refine sy_seq ?_
  replace hh : Hp u [] [(B5, .cells #[.int .i64 (upv t).1, .int .i64 (upv t).2] 135), (B3, .cells (thA t) 73)] w := hh
  refine sy_treeC (.q 0 0 (.p 1 (.p 2 (.p 3 (.p 4 (.q 0 5 (.p 6 (.p 7 (.p 8 (.p 9 (.p 10 (.q 0 11 (.p 12 (.e2 13 (.e2 14 (.p 15 (.p 16 (.p 17 (.e1 18 (.e1 19 (.p 20 (.fin))))))) 18 (.e1 14 (.p 15 (.p 16 (.p 17 (.e1 19 (.p 20 (.fin)))))))) 18 (.e1 13 (.e1 14 (.p 15 (.p 16 (.p 17 (.e1 19 (.p 20 (.fin)))))))))))))))))))))) [[19]] [(AtE u [] [(B5, .cells #[.int .i64 (upv t).1, .int .i64 (upv t).2] 135)], [19])] Try.follows (by kernel_rfl) rfl hh (fun w hh => ?_)
  refine mc_q rfl rfl (AtE.of hh (by intro z hz; simp only [List.mem_cons, List.not_mem_nil, or_false] at hz ⊢; simp [hz])) hf (y_lds Try.ag_135 rfl) (.inl rfl) rfl rfl ?_; clear hf a; intro a hf
  refine mc_p rfl   hf (yv_move rfl) (.inl rfl) rfl rfl ?_; clear hf a; intro a hf
  refine mc_p rfl   hf (yv_nilCheck rfl) (.inl rfl) rfl rfl ?_; clear hf a; intro a hf
  refine mc_p rfl   hf (yv_fieldAddr Try.fo_137_0 rfl) (.inl rfl) rfl rfl ?_; clear hf a; intro a hf
  refine mc_p rfl   hf (yv_fieldAddr Try.fo_64_2 rfl) (.inl rfl) rfl rfl ?_; clear hf a; intro a hf
  refine mc_q rfl rfl (AtE.of hh (by intro z hz; simp only [List.mem_cons, List.not_mem_nil, or_false] at hz ⊢; simp [hz])) hf (y_ld Try.sc_3 rfl) (.inl rfl) rfl rfl ?_; clear hf a; intro a hf
  refine mc_p rfl   hf (yv_neg rfl (by omega) (by omega)) (.inl rfl) rfl rfl ?_; clear hf a; intro a hf
  refine mc_p rfl   hf (yv_move rfl) (.inl rfl) rfl rfl ?_; clear hf a; intro a hf
  refine mc_p rfl   hf (yv_nilCheck rfl) (.inl rfl) rfl rfl ?_; clear hf a; intro a hf
  refine mc_p rfl   hf (yv_fieldAddr Try.fo_137_0 rfl) (.inl rfl) rfl rfl ?_; clear hf a; intro a hf
  refine mc_p rfl   hf (yv_fieldAddr Try.fo_64_2 rfl) (.inl rfl) rfl rfl ?_; clear hf a; intro a hf
  refine mc_q rfl rfl (AtE.of hh (by intro z hz; simp only [List.mem_cons, List.not_mem_nil, or_false] at hz ⊢; simp [hz])) hf (y_ld Try.sc_3 rfl) (.inl rfl) rfl rfl ?_; clear hf a; intro a hf
  refine mc_p rfl   hf (yv_buildA Try.ba_135 rfl rfl) (.inl rfl) rfl rfl ?_; clear hf a; intro a hf
  refine ⟨?_, ?_⟩
  ·refine mc_e rfl fun Q1 => ?_
   refine ops_buildSl hf hh Try.bl_198_1 rfl rfl (.inl rfl) rfl ?_; clear hf hh a; intro B41 a w hf hh
   replace hh : Hp u [] ((B41, .cells #[.int .i64 (-p.tilt), .int .i64 p.tilt] 135) :: _) w := hh
   refine ops_end ?_
   refine then_n ⟨⟨fun _ _ => (AtE.of hh (by intro z hz; simp only [List.mem_cons, List.not_mem_nil, or_false] at hz ⊢; simp [hz])), trivial⟩, ?_⟩
   refine ⟨?_, ?_⟩
   ·refine mc_e rfl fun Q1 => ?_
    refine o_call hf Try.en_68 rfl rfl rfl (c_nar (upv t) (-p.tilt, p.tilt) B41 _ _ _ (hh.get (B41, .cells #[.int .i64 (-p.tilt), .int .i64 p.tilt] 135) (by simp))) ?_; clear hf a; intro v a w hR hf
    obtain ⟨rfl, hx⟩ := hR; replace hh := hh.more hx; clear hx
    refine ops_end ?_
    refine then_n ⟨⟨fun _ _ => (AtE.of hh (by intro z hz; simp only [List.mem_cons, List.not_mem_nil, or_false] at hz ⊢; simp [hz])), trivial⟩, ?_⟩
    refine mc_p rfl   hf (yv_move rfl) (.inl rfl) rfl rfl ?_; clear hf a; intro a hf
    refine mc_p rfl   hf (yv_extract rfl rfl) (.inl rfl) rfl rfl ?_; clear hf a; intro a hf
    refine mc_p rfl   hf (yv_extract rfl rfl) (.inl rfl) rfl rfl ?_; clear hf a; intro a hf
    refine mc_e rfl fun Q1 => ?_
    refine o_alloc hf hh Try.ze_135 ?_; clear hf hh a; intro B6 a w hf hh
    refine ops_end ?_
    refine then_n ⟨⟨fun _ _ => (AtE.of hh (by intro z hz; simp only [List.mem_cons, List.not_mem_nil, or_false] at hz ⊢; simp [hz])), trivial⟩, ?_⟩
    refine mc_e rfl fun Q1 => ?_
    refine o_store hf hh Try.sz_135 fun w hh => ?_
    refine ops_end ?_
    refine then_n ⟨⟨fun h => Bool.noConfusion (show true = false from h), trivial⟩, ?_⟩
    refine mc_p rfl   hf (yv_assign rfl) (.inl rfl) rfl rfl ?_; clear hf a; intro a hf
    refine mc_end ?_
    refine then_n ?_
    refine sy_sq ?_
    refine o_v hf hh (yv_move rfl) ?_; clear hf a; intro a hf
    refine o_v hf hh (yv_assign rfl) ?_; clear hf a; intro a hf
    refine o_end ?_
    refine sy_ret ?_
    refine ret_r hf rfl rfl ?_
    exact ⟨rfl, hh.ext⟩
   ·refine mc_e rfl fun Q1 => ?_
    refine o_alloc hf hh Try.ze_135 ?_; clear hf hh a; intro B6 a w hf hh
    refine ops_end ?_
    refine then_n ⟨⟨fun _ _ => (AtE.of hh (by intro z hz; simp only [List.mem_cons, List.not_mem_nil, or_false] at hz ⊢; simp [hz])), trivial⟩, ?_⟩
    refine mc_e rfl fun Q1 => ?_
    refine o_call hf Try.en_68 rfl rfl rfl (c_nar (upv t) (-p.tilt, p.tilt) B41 _ _ _ (hh.get (B41, .cells #[.int .i64 (-p.tilt), .int .i64 p.tilt] 135) (by simp))) ?_; clear hf a; intro v a w hR hf
    obtain ⟨rfl, hx⟩ := hR; replace hh := hh.more hx; clear hx
    refine ops_end ?_
    refine then_n ⟨⟨fun _ _ => (AtE.of hh (by intro z hz; simp only [List.mem_cons, List.not_mem_nil, or_false] at hz ⊢; simp [hz])), trivial⟩, ?_⟩
    refine mc_p rfl   hf (yv_move rfl) (.inl rfl) rfl rfl ?_; clear hf a; intro a hf
    refine mc_p rfl   hf (yv_extract rfl rfl) (.inl rfl) rfl rfl ?_; clear hf a; intro a hf
    refine mc_p rfl   hf (yv_extract rfl rfl) (.inl rfl) rfl rfl ?_; clear hf a; intro a hf
    refine mc_e rfl fun Q1 => ?_
    refine o_store hf hh Try.sz_135 fun w hh => ?_
    refine ops_end ?_
    refine then_n ⟨⟨fun h => Bool.noConfusion (show true = false from h), trivial⟩, ?_⟩
    refine mc_p rfl   hf (yv_assign rfl) (.inl rfl) rfl rfl ?_; clear hf a; intro a hf
    refine mc_end ?_
    refine then_n ?_
    refine sy_sq ?_
    refine o_v hf hh (yv_move rfl) ?_; clear hf a; intro a hf
    refine o_v hf hh (yv_assign rfl) ?_; clear hf a; intro a hf
    refine o_end ?_
    refine sy_ret ?_
    refine ret_r hf rfl rfl ?_
    exact ⟨rfl, hh.ext⟩
  ·refine mc_e rfl fun Q1 => ?_
   refine o_alloc hf hh Try.ze_135 ?_; clear hf hh a; intro B6 a w hf hh
   refine ops_end ?_
   refine then_n ⟨⟨fun _ _ => (AtE.of hh (by intro z hz; simp only [List.mem_cons, List.not_mem_nil, or_false] at hz ⊢; simp [hz])), trivial⟩, ?_⟩
   refine mc_e rfl fun Q1 => ?_
   refine ops_buildSl hf hh Try.bl_198_1 rfl rfl (.inl rfl) rfl ?_; clear hf hh a; intro B41 a w hf hh
   replace hh : Hp u [] ((B41, .cells #[.int .i64 (-p.tilt), .int .i64 p.tilt] 135) :: _) w := hh
   refine ops_end ?_
   refine then_n ⟨⟨fun _ _ => (AtE.of hh (by intro z hz; simp only [List.mem_cons, List.not_mem_nil, or_false] at hz ⊢; simp [hz])), trivial⟩, ?_⟩
   refine mc_e rfl fun Q1 => ?_
   refine o_call hf Try.en_68 rfl rfl rfl (c_nar (upv t) (-p.tilt, p.tilt) B41 _ _ _ (hh.get (B41, .cells #[.int .i64 (-p.tilt), .int .i64 p.tilt] 135) (by simp))) ?_; clear hf a; intro v a w hR hf
   obtain ⟨rfl, hx⟩ := hR; replace hh := hh.more hx; clear hx
   refine ops_end ?_
   refine then_n ⟨⟨fun _ _ => (AtE.of hh (by intro z hz; simp only [List.mem_cons, List.not_mem_nil, or_false] at hz ⊢; simp [hz])), trivial⟩, ?_⟩
   refine mc_p rfl   hf (yv_move rfl) (.inl rfl) rfl rfl ?_; clear hf a; intro a hf
   refine mc_p rfl   hf (yv_extract rfl rfl) (.inl rfl) rfl rfl ?_; clear hf a; intro a hf
   refine mc_p rfl   hf (yv_extract rfl rfl) (.inl rfl) rfl rfl ?_; clear hf a; intro a hf
   refine mc_e rfl fun Q1 => ?_
   refine o_store hf hh Try.sz_135 fun w hh => ?_
   refine ops_end ?_
   refine then_n ⟨⟨fun h => Bool.noConfusion (show true = false from h), trivial⟩, ?_⟩
   refine mc_p rfl   hf (yv_assign rfl) (.inl rfl) rfl rfl ?_; clear hf a; intro a hf
   refine mc_end ?_
   refine then_n ?_
   refine sy_sq ?_
   refine o_v hf hh (yv_move rfl) ?_; clear hf a; intro a hf
   refine o_v hf hh (yv_assign rfl) ?_; clear hf a; intro a hf
   refine o_end ?_
   refine sy_ret ?_
   refine ret_r hf rfl rfl ?_
   exact ⟨rfl, hh.ext⟩
end Go.Proofs.Ytccpgpnekoncoaa

namespace Go.Proofs.Ytccpgpnekoncoaa
open Go Go.Sy Go.PaiM
def ofV (p : PrD) (t : ThD) : Value := if t.far = 0 then .iface 237 (.agg #[.int .i64 p.near, .int .i64 p.far]) else .iface 235 (.agg #[.int .i64 t.far])
theorem of_pow (p : PrD) (t : ThD) (hp : PrOk p) (hO : ThOk p t) : ∃ tt vv ff, ofV p t = .iface tt vv ∧ methS Try.prog tt "pairworks/pair.powers" = some ff ∧ Enters Try.prog ff ∧ ∀ (s : Int × Int) (u : World), 0 ≤ s.1 ∧ s.1 ≤ s.2 ∧ s.2 ≤ 2000 → Calls Try.prog ff #[vv, spV s] u (Ret fun v w' => v = spV (pws p t s) ∧ Ext [] u w') := by
  have hn := hp.ne
  have hf := hp.fa
  by_cases h : t.far = 0
  · refine ⟨237, .agg #[.int .i64 p.near, .int .i64 p.far], 191, if_pos h, by kernel_rfl, Try.en_191, fun s u hs => ?_⟩
    have := c_other p.near p.far s u hs ⟨by omega, by omega⟩ ⟨by omega, by omega⟩
    unfold pws
    rw [if_pos h]
    exact this
  · have h2 : p.near ≤ t.far ∧ t.far ≤ p.far := by
      rcases hO.f with h3 | h3
      · exact absurd h3 h
      · exact h3
    refine ⟨235, .agg #[.int .i64 t.far], 190, if_neg h, by kernel_rfl, Try.en_190, fun s u hs => ?_⟩
    have := c_mark t.far s u hs ⟨by omega, by omega⟩
    unfold pws
    rw [if_neg h]
    exact this
theorem c_of (p : PrD) (sa : Option Addr) (cp : Nat) (pw : Int × Int) (t : ThD) (Bv : Nat) (u : World) (hv : u.heap[Bv]? = some (.cells (viA p sa cp pw) viT (0, 0))) : Calls Try.prog 106 #[ptr Bv 0, .agg (thA t)] u (Ret fun v w' => v = ofV p t ∧ Ext [] u w') := by
  refine calls_of Try.func106 rfl rfl (fun a hf => ?_)
  have hh := Hp.init u []
  refine sy_sq ?_
  refine o_box hf hh ?_; clear hf hh a; intro B3 a w hf hh
  refine o_v hf hh (yv_assign rfl) ?_; clear hf a; intro a hf
  refine o_end ?_
  refine sy_seq ?_
  refine sy_sq ?_
  refine o_v hf hh (yv_fieldAddr Try.fo_73_2 rfl) ?_; clear hf a; intro a hf
  refine o_v hf hh (y_ld Try.sc_3 rfl) ?_; clear hf a; intro a hf
  refine o_v hf hh (yv_bin rfl rfl rfl) ?_; clear hf a; intro a hf
  refine o_end ?_
  refine sy_cond hf rfl (fun hg2 => ?_) (fun hg2 => ?_)
  ·have hG2 := hg2; try simp only [gS] at hG2
   refine sy_sq ?_
   refine o_v hf hh (yv_fieldAddr Try.fo_73_2 rfl) ?_; clear hf a; intro a hf
   refine o_v hf hh (y_ld Try.sc_3 rfl) ?_; clear hf a; intro a hf
   refine o_v hf hh (yv_buildS Try.bs_235 rfl rfl) ?_; clear hf a; intro a hf
   refine o_v hf hh (yv_makeIface (by kernel_rfl) rfl) ?_; clear hf a; intro a hf
   refine o_v hf hh (yv_assign rfl) ?_; clear hf a; intro a hf
   refine o_end ?_
   refine sy_ret ?_
   refine then_r ?_
   refine ret_r hf rfl rfl ?_
   unfold ofV
   first
     | exact ⟨(if_pos (by simp_all)).symm, hh.ext⟩
     | exact ⟨(if_neg (by simp_all)).symm, hh.ext⟩
  ·have hG2 := hg2; try simp only [gS] at hG2
   refine sy_skip ?_
   refine then_n ?_
   refine sy_seq ?_
   refine sy_quiet (C := Hp _ _ _) Try.follows (by kernel_rfl) (hh.drawn _) ?_
   refine oq_v hf (yv_move rfl) ?_; clear hf a; intro a hf
   refine oq_v hf (yv_nilCheck rfl) ?_; clear hf a; intro a hf
   refine oq_v hf (yv_fieldAddr Try.fo_137_0 rfl) ?_; clear hf a; intro a hf
   refine oq_v hf (yv_fieldAddr Try.fo_64_3 rfl) ?_; clear hf a; intro a hf
   refine oq_v hf (y_ld Try.sc_3 rfl) ?_; clear hf a; intro a hf
   refine oq_v hf (yv_move rfl) ?_; clear hf a; intro a hf
   refine oq_v hf (yv_nilCheck rfl) ?_; clear hf a; intro a hf
   refine oq_v hf (yv_fieldAddr Try.fo_137_0 rfl) ?_; clear hf a; intro a hf
   refine oq_v hf (yv_fieldAddr Try.fo_64_4 rfl) ?_; clear hf a; intro a hf
   refine oq_v hf (y_ld Try.sc_3 rfl) ?_; clear hf a; intro a hf
   refine oq_v hf (yv_buildS Try.bs_237 rfl rfl) ?_; clear hf a; intro a hf
   refine oq_v hf (yv_makeIface (by kernel_rfl) rfl) ?_; clear hf a; intro a hf
   refine oq_v hf (yv_assign rfl) ?_; clear hf a; intro a hf
   refine q_end fun w hh => ?_
   refine then_n ?_
   refine sy_ret ?_
   refine ret_r hf rfl rfl ?_
   unfold ofV
   first
     | exact ⟨(if_pos (by simp_all)).symm, hh.ext⟩
     | exact ⟨(if_neg (by simp_all)).symm, hh.ext⟩
set_option maxRecDepth 100000 in
theorem c_still (p : PrD) (sa : Option Addr) (cp : Nat) (pw y : Int × Int) (t : ThD) (hp : PrOk p) (hO : ThOk p t) (Bv : Nat) (u : World) (hv : u.heap[Bv]? = some (.cells (viA p sa cp pw) viT (0, 0))) : Calls Try.prog 65 #[ptr Bv 0, .agg (thA t), spV y] u (Ret fun v w' => v = .tuple #[spV (stV p t y), .bool (stB p t y)] ∧ Ext [] u w') := by
  refine calls_of Try.func65 rfl rfl (fun a hf => ?_)
  have hh := Hp.init u []
  obtain ⟨tt, vv, ff, eof, hmt, hE, hcall⟩ := of_pow p t hp hO
  refine sy_sq ?_
  refine o_box hf hh ?_; clear hf hh a; intro B4 a w hf hh
  refine o_box hf hh ?_; clear hf hh a; intro B5 a w hf hh
  refine o_alloc hf hh Try.ze_135 ?_; clear hf hh a; intro B6 a w hf hh
  refine o_v hf hh (yv_assign rfl) ?_; clear hf a; intro a hf
  refine o_end ?_
  refine sy_sq ?_
  refine o_v hf hh (y_lds Try.ag_73 rfl) ?_; clear hf a; intro a hf
  refine o_call hf Try.en_67 rfl rfl rfl (c_shown p t hO _) ?_; clear hf a; intro v a w hR hf
  obtain ⟨rfl, hx⟩ := hR; replace hh := hh.more hx; clear hx
  refine o_v hf hh (yv_move rfl) ?_; clear hf a; intro a hf
  refine o_v hf hh (yv_extract rfl rfl) ?_; clear hf a; intro a hf
  refine o_v hf hh (yv_extract rfl rfl) ?_; clear hf a; intro a hf
  refine o_alloc hf hh Try.ze_135 ?_; clear hf hh a; intro B8 a w hf hh
  refine o_store hf hh Try.sz_135 fun w hh => ?_
  refine o_v hf hh (yv_assign rfl) ?_; clear hf a; intro a hf
  refine o_end ?_
  refine sy_seq ?_
  refine sy_sq ?_
  refine o_v hf hh (yv_move rfl) ?_; clear hf a; intro a hf
  refine o_v hf hh (yv_not rfl) ?_; clear hf a; intro a hf
  refine o_v hf hh (yv_move rfl) ?_; clear hf a; intro a hf
  refine guard_split hf (t := 17) rfl (fun hg4 => ?_) (fun hg4 => ?_)
  ·have hG4 := hg4; try simp only [gS] at hG4
   refine o_off hf ?_; clear hf a; intro a hf
   refine o_off hf ?_; clear hf a; intro a hf
   refine o_off hf ?_; clear hf a; intro a hf
   refine o_off hf ?_; clear hf a; intro a hf
   refine o_v hf hh (y_pt rfl rfl) ?_; clear hf a; intro a hf
   refine o_end ?_
   refine c_t hf ?_
   refine sy_sq ?_
   refine o_v hf hh (y_lds Try.ag_135 rfl) ?_; clear hf a; intro a hf
   refine o_store hf hh Try.sz_135 fun w hh => ?_
   refine o_v hf hh (yv_assign rfl) ?_; clear hf a; intro a hf
   refine o_end ?_
   refine sy_ret ?_
   refine then_r ?_
   refine ret_c (vs := [spV y, .bool false]) hf ?_ ?_
   · first
       | exact ⟨⟨B6, 0, _, _, _, rfl, hh.at (i := 1) rfl, .inr ⟨2, _, Try.ag_135, rfl, rfl⟩⟩, rfl, True.intro⟩
       | exact ⟨⟨B6, 0, _, _, _, rfl, hh.at (i := 2) rfl, .inr ⟨2, _, Try.ag_135, rfl, rfl⟩⟩, rfl, True.intro⟩
   · first
       | (have e1 : stV p t y = nar y (pws p t (shn t)) := by unfold stV; rw [hok]; rfl
          have e2 : stB p t y = neB (nar y (pws p t (shn t))) := by unfold stB; rw [hok]; rfl
          exact ⟨by first | (rw [e1, e2]; done) | (rw [e1, e2]; rfl), hh.ext⟩)
       | (have hno : okT p t = false := by clear hf hh; unfold okT; simp_all
          have e1 : stV p t y = y := by unfold stV; rw [hno]; rfl
          have e2 : stB p t y = false := by unfold stB; rw [hno]; rfl
          exact ⟨by first | (rw [e1, e2]; done) | (rw [e1, e2]; rfl), hh.ext⟩)
  ·have hG4 := hg4; try simp only [gS] at hG4
   refine o_v hf hh (yv_move rfl) ?_; clear hf a; intro a hf
   refine o_v hf hh (y_lds Try.ag_73 rfl) ?_; clear hf a; intro a hf
   refine o_call hf Try.en_105 rfl rfl rfl (c_level p sa cp pw t hp hO Bv _ (hh.old hv)) ?_; clear hf a; intro v a w hR hf
   obtain ⟨rfl, hx⟩ := hR; replace hh := hh.more hx; clear hx
   refine o_v hf hh (yv_not rfl) ?_; clear hf a; intro a hf
   refine o_v hf hh (y_pf rfl rfl) ?_; clear hf a; intro a hf
   refine o_end ?_
   refine sy_cond hf rfl (fun hg6 => ?_) (fun hg6 => ?_)
   ·have hG6 := hg6; try simp only [gS] at hG6
    refine sy_sq ?_
    refine o_v hf hh (y_lds Try.ag_135 rfl) ?_; clear hf a; intro a hf
    refine o_store hf hh Try.sz_135 fun w hh => ?_
    refine o_v hf hh (yv_assign rfl) ?_; clear hf a; intro a hf
    refine o_end ?_
    refine sy_ret ?_
    refine then_r ?_
    refine ret_c (vs := [spV y, .bool false]) hf ?_ ?_
    · first
        | exact ⟨⟨B6, 0, _, _, _, rfl, hh.at (i := 1) rfl, .inr ⟨2, _, Try.ag_135, rfl, rfl⟩⟩, rfl, True.intro⟩
        | exact ⟨⟨B6, 0, _, _, _, rfl, hh.at (i := 2) rfl, .inr ⟨2, _, Try.ag_135, rfl, rfl⟩⟩, rfl, True.intro⟩
    · first
        | (have e1 : stV p t y = nar y (pws p t (shn t)) := by unfold stV; rw [hok]; rfl
           have e2 : stB p t y = neB (nar y (pws p t (shn t))) := by unfold stB; rw [hok]; rfl
           exact ⟨by first | (rw [e1, e2]; done) | (rw [e1, e2]; rfl), hh.ext⟩)
        | (have hno : okT p t = false := by clear hf hh; unfold okT; simp_all
           have e1 : stV p t y = y := by unfold stV; rw [hno]; rfl
           have e2 : stB p t y = false := by unfold stB; rw [hno]; rfl
           exact ⟨by first | (rw [e1, e2]; done) | (rw [e1, e2]; rfl), hh.ext⟩)
   ·have hG6 := hg6; try simp only [gS] at hG6
    refine sy_skip ?_
    refine then_n ?_
    refine sy_seq ?_
    replace hh : Hp u [] [(B8, .cells #[.int .i64 (shn t).1, .int .i64 (shn t).2] 135), (B6, .cells #[.int .i64 0, .int .i64 0] 135), (B5, .cells #[.int .i64 y.1, .int .i64 y.2] 135), (B4, .cells (thA t) 73)] w := hh
    have hok : okT p t = true := by unfold okT; simp_all
    have hsn : 0 ≤ (shn t).1 ∧ (shn t).1 ≤ (shn t).2 ∧ (shn t).2 ≤ 2000 := shn_bd (by unfold okT at hok; rw [Bool.and_eq_true] at hok; exact hok.1)
    refine sy_treeC (.q 0 0 (.p 1 (.q 0 2 (.q 0 4 (.e1 3 (.e1 5 (.e1 6 (.e1 7 (.p 8 (.p 9 (.e1 10 (.p 11 (.fin))))))))))))) [[10]] [(AtE u [] [(B8, .cells #[.int .i64 (shn t).1, .int .i64 (shn t).2] 135), (B5, .cells #[.int .i64 y.1, .int .i64 y.2] 135), (B4, .cells (thA t) 73)], [10])] Try.follows (by kernel_rfl) rfl hh (fun w hh => ?_)
    refine mc_q rfl rfl (AtE.of hh (by intro z hz; simp only [List.mem_cons, List.not_mem_nil, or_false] at hz ⊢; rcases hz with h | h | h <;> simp [h])) hf (y_lds Try.ag_135 rfl) (.inl rfl) rfl rfl ?_; clear hf a; intro a hf
    refine mc_p rfl   hf (yv_move rfl) (.inl rfl) rfl rfl ?_; clear hf a; intro a hf
    refine mc_q rfl rfl (AtE.of hh (by intro z hz; simp only [List.mem_cons, List.not_mem_nil, or_false] at hz ⊢; rcases hz with h | h | h <;> simp [h])) hf (y_lds Try.ag_73 rfl) (.inl rfl) rfl rfl ?_; clear hf a; intro a hf
    refine mc_q rfl rfl (AtE.of hh (by intro z hz; simp only [List.mem_cons, List.not_mem_nil, or_false] at hz ⊢; rcases hz with h | h | h <;> simp [h])) hf (y_lds Try.ag_135 rfl) (.inl rfl) rfl rfl ?_; clear hf a; intro a hf
    refine mc_e rfl fun Q1 => ?_
    refine o_call hf Try.en_106 rfl rfl rfl (c_of p sa cp pw t Bv _ (hh.old hv)) ?_; clear hf a; intro v a w hR hf
    rw [eof] at hR
    obtain ⟨rfl, hx⟩ := hR; replace hh := hh.more hx; clear hx
    refine ops_end ?_
    refine then_n ⟨⟨fun _ _ => (AtE.of hh (by intro z hz; simp only [List.mem_cons, List.not_mem_nil, or_false] at hz ⊢; rcases hz with h | h | h <;> simp [h])), trivial⟩, ?_⟩
    refine mc_e rfl fun Q1 => ?_
    refine o_invokeS hf hmt hE rfl rfl rfl (hcall (shn t) w hsn) ?_; clear hf a; intro v a w hR hf
    obtain ⟨rfl, hx⟩ := hR; replace hh := hh.more hx; clear hx
    refine ops_end ?_
    refine then_n ⟨⟨fun _ _ => (AtE.of hh (by intro z hz; simp only [List.mem_cons, List.not_mem_nil, or_false] at hz ⊢; rcases hz with h | h | h <;> simp [h])), trivial⟩, ?_⟩
    refine mc_e rfl fun Q1 => ?_
    refine ops_buildSl hf hh Try.bl_198_1 rfl rfl (.inl rfl) rfl ?_; clear hf hh a; intro B30 a w hf hh
    replace hh : Hp u [] ((B30, .cells #[.int .i64 (pws p t (shn t)).1, .int .i64 (pws p t (shn t)).2] 135) :: _) w := hh
    refine ops_end ?_
    refine then_n ⟨⟨fun _ _ => (AtE.of hh (by intro z hz; simp only [List.mem_cons, List.not_mem_nil, or_false] at hz ⊢; rcases hz with h | h | h <;> simp [h])), trivial⟩, ?_⟩
    refine mc_e rfl fun Q1 => ?_
    refine o_call hf Try.en_68 rfl rfl rfl (c_nar y (pws p t (shn t)) B30 _ _ _ (hh.at (i := 0) rfl)) ?_; clear hf a; intro v a w hR hf
    obtain ⟨rfl, hx⟩ := hR; replace hh := hh.more hx; clear hx
    refine ops_end ?_
    refine then_n ⟨⟨fun _ _ => (AtE.of hh (by intro z hz; simp only [List.mem_cons, List.not_mem_nil, or_false] at hz ⊢; rcases hz with h | h | h <;> simp [h])), trivial⟩, ?_⟩
    refine mc_p rfl   hf (yv_extract rfl rfl) (.inl rfl) rfl rfl ?_; clear hf a; intro a hf
    refine mc_p rfl   hf (yv_extract rfl rfl) (.inl rfl) rfl rfl ?_; clear hf a; intro a hf
    refine mc_e rfl fun Q1 => ?_
    refine o_store hf hh Try.sz_135 fun w hh => ?_
    refine ops_end ?_
    refine then_n ⟨⟨fun h => Bool.noConfusion (show true = false from h), trivial⟩, ?_⟩
    refine mc_p rfl   hf (yv_assign rfl) (.inl rfl) rfl rfl ?_; clear hf a; intro a hf
    refine mc_end ?_
    refine then_n ?_
    refine sy_ret ?_
    refine ret_c (vs := [spV (nar y (pws p t (shn t))), .bool (neB (nar y (pws p t (shn t))))]) hf ?_ ?_
    · first
        | exact ⟨⟨B6, 0, _, _, _, rfl, hh.at (i := 1) rfl, .inr ⟨2, _, Try.ag_135, rfl, rfl⟩⟩, rfl, True.intro⟩
        | exact ⟨⟨B6, 0, _, _, _, rfl, hh.at (i := 2) rfl, .inr ⟨2, _, Try.ag_135, rfl, rfl⟩⟩, rfl, True.intro⟩
    · first
        | (have e1 : stV p t y = nar y (pws p t (shn t)) := by unfold stV; rw [hok]; rfl
           have e2 : stB p t y = neB (nar y (pws p t (shn t))) := by unfold stB; rw [hok]; rfl
           exact ⟨by first | (rw [e1, e2]; done) | (rw [e1, e2]; rfl), hh.ext⟩)
        | (have hno : okT p t = false := by clear hf hh; unfold okT; simp_all
           have e1 : stV p t y = y := by unfold stV; rw [hno]; rfl
           have e2 : stB p t y = false := by unfold stB; rw [hno]; rfl
           exact ⟨by first | (rw [e1, e2]; done) | (rw [e1, e2]; rfl), hh.ext⟩)
end Go.Proofs.Ytccpgpnekoncoaa

namespace Go.Proofs.Ytccpgpnekoncoaa
open Go Go.Sy Go.PaiM
theorem mul_bdF {a b : Int} (ha : 0 ≤ a ∧ a ≤ 50000) (hb : 0 ≤ b ∧ b ≤ 10000) : 0 ≤ a * b ∧ a * b ≤ 500000000 := by
  refine ⟨Int.mul_nonneg ha.1 hb.1, ?_⟩
  have h1 := Int.mul_le_mul ha.2 hb.2 hb.1 (by decide : (0 : Int) ≤ 50000)
  omega
theorem drop_atP {α : Type} {l : List α} {i : Nat} {x : α} (h : l[i]? = some x) : l.drop i = x :: l.drop (i + 1) := by
  have hi : i < l.length := (List.getElem?_eq_some_iff.1 h).1
  rw [List.drop_eq_getElem_cons hi, (List.getElem?_eq_some_iff.1 h).2]
theorem init1P {b : Nat} {o : Obj} {w : World} (h : w.heap[b]? = some o) : Hp w [b] [(b, o)] w := Hp.init1 h
theorem lk_skip {p : PrD} {y : Int × Int} {t : ThD} {l : List ThD} (h : t.far = 0) : lkF p y (t :: l) = lkF p y l := by rw [lkF, if_pos h]
theorem lk_step {p : PrD} {y : Int × Int} {t : ThD} {l : List ThD} (h : t.far ≠ 0) (hs : stB p t y = true) : lkF p y (t :: l) = lkF p (stV p t y) l := by rw [lkF, if_neg h, if_pos hs]
theorem lk_stop {p : PrD} {y : Int × Int} {t : ThD} {l : List ThD} (h : t.far ≠ 0) (hs : stB p t y = false) : lkF p y (t :: l) = none := by rw [lkF, if_neg h, if_neg (by rw [hs]; decide)]
set_option maxRecDepth 100000 in
theorem c_look (p : PrD) (sa : Option Addr) (cp : Nat) (z : Int × Int) (hp : PrOk p) (Bv : Nat) (u0 u : World) (hA : ThAt u0 sa p.th) (he0 : Ext [] u0 u) (hs0 : u0.heap.size ≤ Bv) (hv : u.heap[Bv]? = some (.cells (viA p sa cp z) viT (0, 0))) : Calls Try.prog 104 #[ptr Bv 0] u (RetX (fun v w' => ∃ y, powO p = some y ∧ Hp u [Bv] [(Bv, .cells (viA p sa cp y) viT)] w') (fun ch w' => powO p = none ∧ ch = misP 4 ∧ Ext [Bv] u w')) := by
  refine calls_ofX Try.func104 rfl rfl (fun a hf => ?_)
  have hh := init1P hv
  obtain ⟨f1, f2, f3⟩ := hp.fo
  obtain ⟨g1, g2, g3⟩ := hp.ba
  have hl := hp.nt
  have m1 := mul_bdF (a := p.fo.1) (b := p.ba.1) ⟨by omega, by omega⟩ ⟨by omega, by omega⟩
  have m2 := mul_bdF (a := p.fo.2) (b := p.ba.2) ⟨by omega, by omega⟩ ⟨by omega, by omega⟩
  refine sy_scope ?_
  refine sy_seq ?_
  refine sy_tail (C := Hp _ _ _) 28 Try.follows (by kernel_rfl) rfl rfl (hh.drawn _) ?_
  refine oq_v hf (yv_move rfl) ?_; clear hf a; intro a hf
  refine oq_v hf (yv_move rfl) ?_; clear hf a; intro a hf
  refine oq_v hf (yv_nilCheck rfl) ?_; clear hf a; intro a hf
  refine oq_v hf (yv_fieldAddr Try.fo_137_0 rfl) ?_; clear hf a; intro a hf
  refine oq_v hf (yv_fieldAddr Try.fo_64_0 rfl) ?_; clear hf a; intro a hf
  refine oq_v hf (yv_fieldAddr Try.fo_36_0 rfl) ?_; clear hf a; intro a hf
  refine oq_v hf (y_ld Try.sc_3 rfl) ?_; clear hf a; intro a hf
  refine oq_v hf (yv_move rfl) ?_; clear hf a; intro a hf
  refine oq_v hf (yv_nilCheck rfl) ?_; clear hf a; intro a hf
  refine oq_v hf (yv_fieldAddr Try.fo_137_0 rfl) ?_; clear hf a; intro a hf
  refine oq_v hf (yv_fieldAddr Try.fo_64_1 rfl) ?_; clear hf a; intro a hf
  refine oq_v hf (yv_fieldAddr Try.fo_36_0 rfl) ?_; clear hf a; intro a hf
  refine oq_v hf (y_ld Try.sc_3 rfl) ?_; clear hf a; intro a hf
  refine oq_v hf (y_mul rfl rfl (Int.le_trans (by decide) m1.1) (Int.le_trans m1.2 (by decide))) ?_; clear hf a; intro a hf
  refine oq_v hf (yv_move rfl) ?_; clear hf a; intro a hf
  refine oq_v hf (yv_nilCheck rfl) ?_; clear hf a; intro a hf
  refine oq_v hf (yv_fieldAddr Try.fo_137_0 rfl) ?_; clear hf a; intro a hf
  refine oq_v hf (yv_fieldAddr Try.fo_64_0 rfl) ?_; clear hf a; intro a hf
  refine oq_v hf (yv_fieldAddr Try.fo_36_1 rfl) ?_; clear hf a; intro a hf
  refine oq_v hf (y_ld Try.sc_3 rfl) ?_; clear hf a; intro a hf
  refine oq_v hf (yv_move rfl) ?_; clear hf a; intro a hf
  refine oq_v hf (yv_nilCheck rfl) ?_; clear hf a; intro a hf
  refine oq_v hf (yv_fieldAddr Try.fo_137_0 rfl) ?_; clear hf a; intro a hf
  refine oq_v hf (yv_fieldAddr Try.fo_64_1 rfl) ?_; clear hf a; intro a hf
  refine oq_v hf (yv_fieldAddr Try.fo_36_1 rfl) ?_; clear hf a; intro a hf
  refine oq_v hf (y_ld Try.sc_3 rfl) ?_; clear hf a; intro a hf
  refine oq_v hf (y_mul rfl rfl (Int.le_trans (by decide) m2.1) (Int.le_trans m2.2 (by decide))) ?_; clear hf a; intro a hf
  refine oq_v hf (yv_buildA Try.ba_135 rfl rfl) ?_; clear hf a; intro a hf
  refine q_end fun w hh => ?_
  refine o_v hf hh (yv_nilCheck rfl) ?_; clear hf a; intro a hf
  refine o_v hf hh (yv_fieldAddr Try.fo_137_1 rfl) ?_; clear hf a; intro a hf
  refine o_store hf hh Try.sz_135 fun w hh => ?_
  refine o_end ?_
  refine sy_seq ?_
  refine sy_label ?_
  refine then_n ?_
  refine sy_seq ?_
  replace hh : Hp u [Bv] [(Bv, .cells (viA p sa cp (pow0 p)) viT)] w := hh
  refine sy_ops ?_
  refine o_v hf hh (yv_move rfl) ?_; clear hf a; intro a hf
  refine o_v hf hh (yv_nilCheck rfl) ?_; clear hf a; intro a hf
  refine o_v hf hh (yv_fieldAddr Try.fo_137_0 rfl) ?_; clear hf a; intro a hf
  refine o_v hf hh (yv_fieldAddr Try.fo_64_5 rfl) ?_; clear hf a; intro a hf
  refine o_v hf hh (y_ld Try.sc_62 rfl) ?_; clear hf a; intro a hf
  refine o_v hf hh (yv_len Try.se_62 rfl) ?_; clear hf a; intro a hf
  refine o_v hf hh (yv_move rfl) ?_; clear hf a; intro a hf
  refine o_end ?_
  refine sy_block ?_
  refine sy_loopH (σ := Nat × (Int × Int)) [3, 4, 5, 42, 43, 44, 45, 46, 47, 48, 49, 50, 51, 52, 53, 54, 55, 56, 57, 58, 59, 60, 61, 62, 63, 64, 65] (fun s => [(42, .int .i64 (s.1 : Nat))]) (fun s => fun w' => s.1 ≤ p.th.length ∧ lkF p (pow0 p) p.th = lkF p s.2 (p.th.drop s.1) ∧ Hp u [Bv] [(Bv, .cells (viA p sa cp s.2) viT)] w') (fun s => p.th.length - s.1) ((0, pow0 p)) hf ?_ ?_ ?_
  · repeat' (first | exact True.intro | refine And.intro rfl ?_)
  · exact ⟨Nat.zero_le _, rfl, hh⟩
  ·rintro s a w ⟨hi, hlk, hh⟩ hf
   obtain ⟨i, y⟩ := s; simp only at hi hlk hh hf ⊢
   refine sy_sq ?_
   refine o_v hf hh (yv_bin rfl rfl rfl) ?_; clear hf a; intro a hf
   refine o_end ?_
   refine sy_seq ?_
   refine sy_cond hf rfl (fun hg4 => ?_) (fun hg4 => ?_)
   ·have hG4 := hg4; try simp only [gS] at hG4
    refine sy_skip ?_
    refine then_n ?_
    refine sy_seq ?_
    refine sy_block ?_
    refine sy_seq ?_
    obtain ⟨t, ht⟩ := ex_ofP (l := p.th) (i := i) (by omega)
    obtain ⟨blk, off, cc, TT, fr, esa, hb0, hc⟩ := hA i t ht
    have hb2 := he0.get hb0
    have hn2 : blk ∉ [Bv] := fun h => by
      have := (Array.getElem?_eq_some_iff.1 hb0).1
      have := List.mem_singleton.1 h
      omega
    have hO := hp.th t (List.mem_of_getElem? ht)
    rw [drop_atP ht] at hlk
    refine sy_ops ?_
    refine o_v hf hh (y_ix Try.se_62 (congrArg (fun z => some (Value.slice z p.th.length cp)) esa) rfl) ?_; clear hf a; intro a hf
    refine o_v hf hh (y_lds Try.ag_73 rfl) ?_; clear hf a; intro a hf
    refine o_alloc hf hh Try.ze_73 ?_; clear hf hh a; intro B3 a w hf hh
    refine o_store hf hh Try.sz_73 fun w hh => ?_
    refine o_end ?_
    refine sy_seq ?_
    refine sy_sq ?_
    refine o_v hf hh (yv_fieldAddr Try.fo_73_2 rfl) ?_; clear hf a; intro a hf
    refine o_v hf hh (y_ld Try.sc_3 rfl) ?_; clear hf a; intro a hf
    refine o_v hf hh (yv_bin rfl rfl rfl) ?_; clear hf a; intro a hf
    refine o_end ?_
    refine sy_cond hf rfl (fun hg7 => ?_) (fun hg7 => ?_)
    ·have hG7 := hg7; try simp only [gS] at hG7
     refine sy_exit ?_
     refine then_e ?_
     refine blk_e ?_
     refine then_n ?_
     obtain ⟨y', hlk', hh⟩ : ∃ y', lkF p (pow0 p) p.th = lkF p y' (p.th.drop (i + 1)) ∧ Hp u [Bv] [(Bv, .cells (viA p sa cp y') viT)] w := by
       first
       | exact ⟨y, hlk.trans (lk_skip (by assumption)), hh.less (.cons _ (.refl _))⟩
       | exact ⟨stV p t y, hlk.trans (lk_step (by assumption) hst), hh.less (.cons _ (.cons _ (.refl _)))⟩
     refine sy_ops ?_
     refine o_v hf hh (y_add rfl rfl) ?_; clear hf a; intro a hf
     refine o_v hf hh (yv_move rfl) ?_; clear hf a; intro a hf
     refine ops_end ?_
     refine then_n ?_
     exact ⟨(i + 1, y'), ⟨⟨by show i + 1 ≤ _; omega, hlk', hh⟩, (hf.head (by repeat' (first | exact True.intro | refine And.intro rfl ?_)) (Keep.cons rfl (Keep.cons rfl (Keep.cons rfl (Keep.cons rfl (Keep.cons rfl (Keep.cons rfl (Keep.cons rfl (Keep.cons rfl (Keep.cons rfl (Keep.app rfl (Keep.rm rfl Keep.base))))))))))))⟩, by show _ - (i + 1) < _; omega⟩
    ·have hG7 := hg7; try simp only [gS] at hG7
     refine sy_skip ?_
     refine then_n ?_
     refine sy_seq ?_
     replace hh : Hp u [Bv] [(B3, .cells (thA t) 73), (Bv, .cells (viA p sa cp y) viT)] w := hh
     refine sy_treeC (.p 0 (.q 0 1 (.p 2 (.p 3 (.p 4 (.q 0 5 (.e2 6 (.p 7 (.p 8 (.p 9 (.e1 10 (.e1 11 (.p 12 (.fin))))))) 10 (.e1 6 (.p 7 (.p 8 (.p 9 (.e1 11 (.p 12 (.fin)))))))))))))) [[]] [(AtE u [Bv] [(B3, .cells (thA t) 73), (Bv, .cells (viA p sa cp y) viT)], [])] Try.follows (by kernel_rfl) rfl hh (fun w hh => ?_)
     refine mc_p rfl   hf (yv_move rfl) (.inl rfl) rfl rfl ?_; clear hf a; intro a hf
     refine mc_q rfl rfl (AtE.of hh (by intro z hz; simp only [List.mem_cons, List.not_mem_nil, or_false] at hz ⊢; rcases hz with h | h <;> simp [h])) hf (y_lds Try.ag_73 rfl) (.inl rfl) rfl rfl ?_; clear hf a; intro a hf
     refine mc_p rfl   hf (yv_move rfl) (.inl rfl) rfl rfl ?_; clear hf a; intro a hf
     refine mc_p rfl   hf (yv_nilCheck rfl) (.inl rfl) rfl rfl ?_; clear hf a; intro a hf
     refine mc_p rfl   hf (yv_fieldAddr Try.fo_137_1 rfl) (.inl rfl) rfl rfl ?_; clear hf a; intro a hf
     refine mc_q rfl rfl (AtE.of hh (by intro z hz; simp only [List.mem_cons, List.not_mem_nil, or_false] at hz ⊢; rcases hz with h | h <;> simp [h])) hf (y_lds Try.ag_135 rfl) (.inl rfl) rfl rfl ?_; clear hf a; intro a hf
     refine ⟨?_, ?_⟩
     ·refine mc_e rfl fun Q1 => ?_
      refine o_call hf Try.en_65 rfl rfl rfl (c_still p sa cp y y t hp hO Bv _ (hh.get (Bv, .cells (viA p sa cp y) viT) (by simp))) ?_; clear hf a; intro v a w hR hf
      obtain ⟨rfl, hx⟩ := hR; replace hh := hh.more hx; clear hx
      refine ops_end ?_
      refine then_n ⟨⟨fun _ _ => (AtE.of hh (by intro z hz; simp only [List.mem_cons, List.not_mem_nil, or_false] at hz ⊢; rcases hz with h | h <;> simp [h])), trivial⟩, ?_⟩
      refine mc_p rfl   hf (yv_move rfl) (.inl rfl) rfl rfl ?_; clear hf a; intro a hf
      refine mc_p rfl   hf (yv_extract rfl rfl) (.inl rfl) rfl rfl ?_; clear hf a; intro a hf
      refine mc_p rfl   hf (yv_extract rfl rfl) (.inl rfl) rfl rfl ?_; clear hf a; intro a hf
      refine mc_e rfl fun Q1 => ?_
      refine o_alloc hf hh Try.ze_135 ?_; clear hf hh a; intro B4 a w hf hh
      refine ops_end ?_
      refine then_n ⟨⟨fun _ _ => (AtE.of hh (by intro z hz; simp only [List.mem_cons, List.not_mem_nil, or_false] at hz ⊢; rcases hz with h | h <;> simp [h])), trivial⟩, ?_⟩
      refine mc_e rfl fun Q1 => ?_
      refine o_store hf hh Try.sz_135 fun w hh => ?_
      refine ops_end ?_
      refine then_n ⟨⟨fun _ _ => (AtE.of hh (by intro z hz; simp only [List.mem_cons, List.not_mem_nil, or_false] at hz ⊢; rcases hz with h | h <;> simp [h])), trivial⟩, ?_⟩
      refine mc_p rfl   hf (yv_assign rfl) (.inl rfl) rfl rfl ?_; clear hf a; intro a hf
      refine mc_end ?_
      refine then_n ?_
      refine sy_seq ?_
      replace hh : Hp u [Bv] [(B4, .cells #[.int .i64 (stV p t y).1, .int .i64 (stV p t y).2] 135), (B3, .cells (thA t) 73), (Bv, .cells (viA p sa cp y) viT)] w := hh
      refine sy_ops ?_
      refine o_v hf hh (yv_move rfl) ?_; clear hf a; intro a hf
      refine o_callX hf Try.en_66 rfl rfl rfl (c_need (stB p t y) 4 _) ?_ ?_
      ·clear hf a; intro v a w hR hf
       obtain ⟨hst, hx⟩ := hR; replace hh := hh.more hx; clear hx
       refine o_end ?_
       refine sy_ops ?_
       refine o_v hf hh (yv_move rfl) ?_; clear hf a; intro a hf
       refine o_v hf hh (y_lds Try.ag_135 rfl) ?_; clear hf a; intro a hf
       refine o_v hf hh (yv_nilCheck rfl) ?_; clear hf a; intro a hf
       refine o_v hf hh (yv_fieldAddr Try.fo_137_1 rfl) ?_; clear hf a; intro a hf
       refine o_store hf hh Try.sz_135 fun w hh => ?_
       refine ops_end ?_
       refine blk_n ?_
       refine then_n ?_
       obtain ⟨y', hlk', hh⟩ : ∃ y', lkF p (pow0 p) p.th = lkF p y' (p.th.drop (i + 1)) ∧ Hp u [Bv] [(Bv, .cells (viA p sa cp y') viT)] w := by
         first
         | exact ⟨y, hlk.trans (lk_skip (by assumption)), hh.less (.cons _ (.refl _))⟩
         | exact ⟨stV p t y, hlk.trans (lk_step (by assumption) hst), hh.less (.cons _ (.cons _ (.refl _)))⟩
       refine sy_ops ?_
       refine o_v hf hh (y_add rfl rfl) ?_; clear hf a; intro a hf
       refine o_v hf hh (yv_move rfl) ?_; clear hf a; intro a hf
       refine ops_end ?_
       refine then_n ?_
       exact ⟨(i + 1, y'), ⟨⟨by show i + 1 ≤ _; omega, hlk', hh⟩, (hf.head (by repeat' (first | exact True.intro | refine And.intro rfl ?_)) (Keep.cons rfl (Keep.cons rfl (Keep.cons rfl (Keep.cons rfl (Keep.cons rfl (Keep.cons rfl (Keep.cons rfl (Keep.cons rfl (Keep.cons rfl (Keep.cons rfl (Keep.cons rfl (Keep.cons rfl (Keep.cons rfl (Keep.cons rfl (Keep.cons rfl (Keep.cons rfl (Keep.cons rfl (Keep.cons rfl (Keep.cons rfl (Keep.cons rfl (Keep.cons rfl (Keep.cons rfl (Keep.cons rfl (Keep.cons rfl (Keep.cons rfl (Keep.cons rfl (Keep.cons rfl (Keep.app rfl (Keep.rm rfl Keep.base))))))))))))))))))))))))))))))⟩, by show _ - (i + 1) < _; omega⟩
      ·intro ch w hX hf
       obtain ⟨hst, rfl, hx⟩ := hX; replace hh := hh.more hx; clear hx
       refine then_p ?_
       refine blk_p ?_
       refine then_p ?_
       refine then_p ?_
       refine blk_p ?_
       refine ng_p ?_
       refine pan_x hf ?_
       exact ⟨hlk.trans (lk_stop (by assumption) hst), rfl, hh.ext⟩
     ·refine mc_e rfl fun Q1 => ?_
      refine o_alloc hf hh Try.ze_135 ?_; clear hf hh a; intro B4 a w hf hh
      refine ops_end ?_
      refine then_n ⟨⟨fun _ _ => (AtE.of hh (by intro z hz; simp only [List.mem_cons, List.not_mem_nil, or_false] at hz ⊢; rcases hz with h | h <;> simp [h])), trivial⟩, ?_⟩
      refine mc_e rfl fun Q1 => ?_
      refine o_call hf Try.en_65 rfl rfl rfl (c_still p sa cp y y t hp hO Bv _ (hh.get (Bv, .cells (viA p sa cp y) viT) (by simp))) ?_; clear hf a; intro v a w hR hf
      obtain ⟨rfl, hx⟩ := hR; replace hh := hh.more hx; clear hx
      refine ops_end ?_
      refine then_n ⟨⟨fun _ _ => (AtE.of hh (by intro z hz; simp only [List.mem_cons, List.not_mem_nil, or_false] at hz ⊢; rcases hz with h | h <;> simp [h])), trivial⟩, ?_⟩
      refine mc_p rfl   hf (yv_move rfl) (.inl rfl) rfl rfl ?_; clear hf a; intro a hf
      refine mc_p rfl   hf (yv_extract rfl rfl) (.inl rfl) rfl rfl ?_; clear hf a; intro a hf
      refine mc_p rfl   hf (yv_extract rfl rfl) (.inl rfl) rfl rfl ?_; clear hf a; intro a hf
      refine mc_e rfl fun Q1 => ?_
      refine o_store hf hh Try.sz_135 fun w hh => ?_
      refine ops_end ?_
      refine then_n ⟨⟨fun _ _ => (AtE.of hh (by intro z hz; simp only [List.mem_cons, List.not_mem_nil, or_false] at hz ⊢; rcases hz with h | h <;> simp [h])), trivial⟩, ?_⟩
      refine mc_p rfl   hf (yv_assign rfl) (.inl rfl) rfl rfl ?_; clear hf a; intro a hf
      refine mc_end ?_
      refine then_n ?_
      refine sy_seq ?_
      replace hh : Hp u [Bv] [(B4, .cells #[.int .i64 (stV p t y).1, .int .i64 (stV p t y).2] 135), (B3, .cells (thA t) 73), (Bv, .cells (viA p sa cp y) viT)] w := hh
      refine sy_ops ?_
      refine o_v hf hh (yv_move rfl) ?_; clear hf a; intro a hf
      refine o_callX hf Try.en_66 rfl rfl rfl (c_need (stB p t y) 4 _) ?_ ?_
      ·clear hf a; intro v a w hR hf
       obtain ⟨hst, hx⟩ := hR; replace hh := hh.more hx; clear hx
       refine o_end ?_
       refine sy_ops ?_
       refine o_v hf hh (yv_move rfl) ?_; clear hf a; intro a hf
       refine o_v hf hh (y_lds Try.ag_135 rfl) ?_; clear hf a; intro a hf
       refine o_v hf hh (yv_nilCheck rfl) ?_; clear hf a; intro a hf
       refine o_v hf hh (yv_fieldAddr Try.fo_137_1 rfl) ?_; clear hf a; intro a hf
       refine o_store hf hh Try.sz_135 fun w hh => ?_
       refine ops_end ?_
       refine blk_n ?_
       refine then_n ?_
       obtain ⟨y', hlk', hh⟩ : ∃ y', lkF p (pow0 p) p.th = lkF p y' (p.th.drop (i + 1)) ∧ Hp u [Bv] [(Bv, .cells (viA p sa cp y') viT)] w := by
         first
         | exact ⟨y, hlk.trans (lk_skip (by assumption)), hh.less (.cons _ (.refl _))⟩
         | exact ⟨stV p t y, hlk.trans (lk_step (by assumption) hst), hh.less (.cons _ (.cons _ (.refl _)))⟩
       refine sy_ops ?_
       refine o_v hf hh (y_add rfl rfl) ?_; clear hf a; intro a hf
       refine o_v hf hh (yv_move rfl) ?_; clear hf a; intro a hf
       refine ops_end ?_
       refine then_n ?_
       exact ⟨(i + 1, y'), ⟨⟨by show i + 1 ≤ _; omega, hlk', hh⟩, (hf.head (by repeat' (first | exact True.intro | refine And.intro rfl ?_)) (Keep.cons rfl (Keep.cons rfl (Keep.cons rfl (Keep.cons rfl (Keep.cons rfl (Keep.cons rfl (Keep.cons rfl (Keep.cons rfl (Keep.cons rfl (Keep.cons rfl (Keep.cons rfl (Keep.cons rfl (Keep.cons rfl (Keep.cons rfl (Keep.cons rfl (Keep.cons rfl (Keep.cons rfl (Keep.cons rfl (Keep.cons rfl (Keep.cons rfl (Keep.cons rfl (Keep.cons rfl (Keep.cons rfl (Keep.cons rfl (Keep.cons rfl (Keep.cons rfl (Keep.cons rfl (Keep.app rfl (Keep.rm rfl Keep.base))))))))))))))))))))))))))))))⟩, by show _ - (i + 1) < _; omega⟩
      ·intro ch w hX hf
       obtain ⟨hst, rfl, hx⟩ := hX; replace hh := hh.more hx; clear hx
       refine then_p ?_
       refine blk_p ?_
       refine then_p ?_
       refine then_p ?_
       refine blk_p ?_
       refine ng_p ?_
       refine pan_x hf ?_
       exact ⟨hlk.trans (lk_stop (by assumption) hst), rfl, hh.ext⟩
   ·have hG4 := hg4; try simp only [gS] at hG4
    refine sy_exit ?_
    refine then_e ?_
    refine then_e ?_
    refine blk_e ?_
    refine ng_n ?_
    refine ret_xn ?_
    refine ret_n hf rfl rfl ?_
    have hdn : p.th.drop i = [] := List.drop_eq_nil_of_le (by omega)
    rw [hdn] at hlk
    exact ⟨y, hlk, hh⟩
end Go.Proofs.Ytccpgpnekoncoaa

