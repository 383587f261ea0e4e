/- Lemmas, in order: Pairs in memory. Closed facts on the loaded program's types and functions, by program. Pairs are good: the reference's own. Package pair: what is a pair. Package pair: shifts, spans, narrowing. Package pair: what is shown. Package pair: what can stand still. Package pair: look.. -/
import Derived.Test.YtccpgpnekoncoaaGreatDoorQ3
import Derived.Test.YtccpgpnekoncoaaGreatDoorProg
namespace Go.PaiM
open Go Go.Sy
abbrev spV (s : Int × Int) : Value := .agg #[.int .i64 s.1, .int .i64 s.2]
abbrev plV (x y : Int × Int) : Value := .agg #[.int .i64 x.1, .int .i64 x.2, .int .i64 y.1, .int .i64 y.2]
abbrev thC (t : ThD) : List Value := [.int .i64 t.lx.1, .int .i64 t.lx.2, .int .i64 t.ly.1, .int .i64 t.ly.2, .int .i64 t.rx.1, .int .i64 t.rx.2, .int .i64 t.ry.1, .int .i64 t.ry.2, .int .i64 t.far]
abbrev thA (t : ThD) : Array Value := #[.int .i64 t.lx.1, .int .i64 t.lx.2, .int .i64 t.ly.1, .int .i64 t.ly.2, .int .i64 t.rx.1, .int .i64 t.rx.2, .int .i64 t.ry.1, .int .i64 t.ry.2, .int .i64 t.far]
abbrev prA (p : PrD) (sa : Option Addr) (cp : Nat) : Array Value := #[.int .i64 p.fo.1, .int .i64 p.fo.2, .int .i64 p.ba.1, .int .i64 p.ba.2, .int .i64 p.tilt, .int .i64 p.near, .int .i64 p.far, .slice sa p.th.length cp]
/-- Things lie in memory. -/
def ThAt (w : World) (sa : Option Addr) (l : List ThD) : Prop :=
  ∀ i t, l[i]? = some t → ∃ blk off c T fr, sa = some ⟨blk, off, none⟩ ∧ w.heap[blk]? = some (.cells c T fr) ∧ cellsAt c (off + ((i : Nat) : Int).toNat * 9) 9 = some (thC t)
theorem ThAt.ext {w w' : World} {sa : Option Addr} {l : List ThD} (h : ThAt w sa l) (e : Ext [] w w') : ThAt w' sa l := fun i s hi =>
  let ⟨blk, off, c, T, fr, h1, h2, h3⟩ := h i s hi
  ⟨blk, off, c, T, fr, h1, e.get h2, h3⟩
theorem ex_ofP {α : Type} {l : List α} {i : Nat} (h : i < l.length) : ∃ x, l[i]? = some x := ⟨l[i], List.getElem?_eq_getElem h⟩
theorem take_allP {α : Type} {f : α → Bool} {l : List α} {i : Nat} {x : α} (h : ∀ y ∈ l.take i, f y = true) (hx : l[i]? = some x) (hf : f x = true) : ∀ y ∈ l.take (i + 1), f y = true := fun y hy => by
  rw [List.take_add_one, hx, List.mem_append] at hy
  rcases hy with hy | hy
  · exact h y hy
  · have e : y = x := by simpa using hy
    rw [e]; exact hf
/-- What makes a pair good beside its things. -/
def prH (p : PrD) : Bool := decide ((p.th.length : Int) ≤ 12) && spP p.fo 1 50000 && spP p.ba 1 10000 && inP p.tilt 0 1000 && inP p.near 2000 1073741824 && inP p.far p.near 1073741824
theorem prB_bad {p : PrD} {i : Nat} {t : ThD} (h : p.th[i]? = some t) (hb : thB p t = false) : prB p = false := by
  have : p.th.all (thB p) = false := by
    rw [List.all_eq_false]
    exact ⟨t, List.mem_of_getElem? h, by rw [hb]; simp⟩
  unfold prB
  rw [this, Bool.and_false]
theorem prB_end {p : PrD} (h : ∀ t ∈ p.th, thB p t = true) : prB p = prH p := by
  have : p.th.all (thB p) = true := List.all_eq_true.2 h
  unfold prB prH
  rw [this, Bool.and_true, show decide ((p.th.length : Int) ≤ 12) = decide (p.th.length ≤ 12) from by rw [decide_eq_decide]; omega]
  cases decide (p.th.length ≤ 12) <;> simp
end Go.PaiM

namespace Go.Proofs.YtccpgpnekoncoaaGreatDoor
open Go Go.Sy
theorem Tryz.follows : Tryz.prog.follows .mixedOrders = true := by kernel_rfl
theorem Tryz.ae_105 : arrayElem Tryz.prog 105 = some (4, 3, 1) := by kernel_rfl
theorem Tryz.ae_126 : arrayElem Tryz.prog 126 = some (10, 83, 2) := by kernel_rfl
theorem Tryz.ae_190 : arrayElem Tryz.prog 190 = some (64, 5, 1) := by kernel_rfl
theorem Tryz.ae_200 : arrayElem Tryz.prog 200 = some (5, 199, 1) := by kernel_rfl
theorem Tryz.ae_83 : arrayElem Tryz.prog 83 = some (2, 3, 1) := by kernel_rfl
theorem Tryz.ag_105 : aggB Tryz.prog 105 = some 4 := by kernel_rfl
theorem Tryz.ag_120 : aggB Tryz.prog 120 = some 4 := by kernel_rfl
theorem Tryz.ag_151 : aggB Tryz.prog 151 = some 2 := by kernel_rfl
theorem Tryz.ag_153 : aggB Tryz.prog 153 = some 5 := by kernel_rfl
theorem Tryz.ag_160 : aggB Tryz.prog 160 = some 5 := by kernel_rfl
theorem Tryz.ag_200 : aggB Tryz.prog 200 = some 5 := by kernel_rfl
theorem Tryz.ag_24 : aggB Tryz.prog 24 = some 5 := by kernel_rfl
theorem Tryz.ag_33 : aggB Tryz.prog 33 = some 3 := by kernel_rfl
theorem Tryz.ag_35 : aggB Tryz.prog 35 = some 2 := by kernel_rfl
theorem Tryz.ag_38 : aggB Tryz.prog 38 = some 8 := by kernel_rfl
theorem Tryz.ag_44 : aggB Tryz.prog 44 = some 4 := by kernel_rfl
theorem Tryz.ag_46 : aggB Tryz.prog 46 = some 9 := by kernel_rfl
theorem Tryz.ag_51 : aggB Tryz.prog 51 = some 17 := by kernel_rfl
theorem Tryz.ag_70 : aggB Tryz.prog 70 = some 3 := by kernel_rfl
theorem Tryz.ag_83 : aggB Tryz.prog 83 = some 2 := by kernel_rfl
theorem Tryz.ba_105 : arrayB Tryz.prog 105 = some ([(.int .i64 0), (.int .i64 0), (.int .i64 0), (.int .i64 0)], 1) := by kernel_rfl
theorem Tryz.ba_200 : arrayB Tryz.prog 200 = some ([.nilIface, .nilIface, .nilIface, .nilIface, .nilIface], 1) := by kernel_rfl
theorem Tryz.ba_83 : arrayB Tryz.prog 83 = some ([(.int .i64 0), (.int .i64 0)], 1) := by kernel_rfl
theorem Tryz.bl_108_1 : sliceB Tryz.prog 108 1 = some (3, 1, [(.int .i64 0)]) := by kernel_rfl
theorem Tryz.bl_108_2 : sliceB Tryz.prog 108 2 = some (3, 1, [(.int .i64 0), (.int .i64 0)]) := by kernel_rfl
theorem Tryz.bl_108_3 : sliceB Tryz.prog 108 3 = some (3, 1, [(.int .i64 0), (.int .i64 0), (.int .i64 0)]) := by kernel_rfl
theorem Tryz.bl_108_4 : sliceB Tryz.prog 108 4 = some (3, 1, [(.int .i64 0), (.int .i64 0), (.int .i64 0), (.int .i64 0)]) := by kernel_rfl
theorem Tryz.bl_142_1 : sliceB Tryz.prog 142 1 = some (83, 2, [(.int .i64 0), (.int .i64 0)]) := by kernel_rfl
theorem Tryz.bl_145_1 : sliceB Tryz.prog 145 1 = some (120, 4, [(.int .i64 0), (.int .i64 0), (.int .i64 0), (.int .i64 0)]) := by kernel_rfl
theorem Tryz.bl_202_2 : sliceB Tryz.prog 202 2 = some (74, 1, [(.int .u64 0), (.int .u64 0)]) := by kernel_rfl
theorem Tryz.bl_204_2 : sliceB Tryz.prog 204 2 = some (151, 2, [(.int .i64 0), (.int .i64 0), (.int .i64 0), (.int .i64 0)]) := by kernel_rfl
theorem Tryz.bl_219_2 : sliceB Tryz.prog 219 2 = some (35, 2, [(.int .i64 0), (.int .i64 0), (.int .i64 0), (.int .i64 0)]) := by kernel_rfl
theorem Tryz.bl_22_3 : sliceB Tryz.prog 22 3 = some (33, 3, [(.int .i64 0), (.int .i64 0), (.int .i64 0), (.int .i64 0), (.int .i64 0), (.int .i64 0), (.int .i64 0), (.int .i64 0), (.int .i64 0)]) := by kernel_rfl
theorem Tryz.bl_36_1 : sliceB Tryz.prog 36 1 = some (46, 9, [(.int .i64 0), (.int .i64 0), (.int .i64 0), (.int .i64 0), (.int .i64 0), (.int .i64 0), (.int .i64 0), (.int .i64 0), (.int .i64 0)]) := by kernel_rfl
theorem Tryz.bl_36_2 : sliceB Tryz.prog 36 2 = some (46, 9, [(.int .i64 0), (.int .i64 0), (.int .i64 0), (.int .i64 0), (.int .i64 0), (.int .i64 0), (.int .i64 0), (.int .i64 0), (.int .i64 0), (.int .i64 0), (.int .i64 0), (.int .i64 0), (.int .i64 0), (.int .i64 0), (.int .i64 0), (.int .i64 0), (.int .i64 0), (.int .i64 0)]) := by kernel_rfl
theorem Tryz.bl_53_2 : sliceB Tryz.prog 53 2 = some (26, 1, [(.int .u32 0), (.int .u32 0)]) := by kernel_rfl
theorem Tryz.bl_67_1 : sliceB Tryz.prog 67 1 = some (70, 3, [(.int .i64 0), (.int .i64 0), (.int .i64 0)]) := by kernel_rfl
theorem Tryz.bl_90_4 : sliceB Tryz.prog 90 4 = some (92, 1, [.nilFunc, .nilFunc, .nilFunc, .nilFunc]) := by kernel_rfl
theorem Tryz.bs_103 : structB Tryz.prog 103 = some ([(.int .i64 0), (.int .i64 0), (.int .i64 0), (.int .i64 0), (.int .i64 0), (.int .i64 0), (.int .i64 0), (.slice none 0 0), (.int .i64 0), (.int .i64 0), (.int .i64 0), (.int .i64 0), (.int .i64 0), (.int .i64 0), (.int .i64 0), (.int .i64 0), (.int .i64 0), (.map none)], [(0, 17), (17, 1)]) := by kernel_rfl
theorem Tryz.bs_120 : structB Tryz.prog 120 = some ([(.int .i64 0), (.int .i64 0), (.int .i64 0), (.int .i64 0)], [(0, 1), (1, 1), (2, 1), (3, 1)]) := by kernel_rfl
theorem Tryz.bs_128 : structB Tryz.prog 128 = some ([(.int .i64 0), (.int .i64 0), (.int .i64 0), (.int .i64 0), (.slice none 0 0), (.int .i64 0), (.int .i64 0), (.int .i64 0), (.int .i64 0), (.int .i64 0), (.int .i64 0), (.int .i64 0), (.int .i64 0), (.int .i64 0), (.int .i64 0), (.int .i64 0), (.int .i64 0), (.int .i64 0), (.int .i64 0), (.int .i64 0), (.int .i64 0), (.int .i64 0), (.int .i64 0), (.int .i64 0), (.int .i64 0), (.map none)], [(0, 5), (5, 20), (25, 1)]) := by kernel_rfl
theorem Tryz.bs_135 : structB Tryz.prog 135 = some ([(.int .i64 0)], [(0, 1)]) := by kernel_rfl
theorem Tryz.bs_151 : structB Tryz.prog 151 = some ([(.int .i64 0), (.int .i64 0)], [(0, 1), (1, 1)]) := by kernel_rfl
theorem Tryz.bs_153 : structB Tryz.prog 153 = some ([(.int .i64 0), (.int .i64 0), (.int .i64 0), (.int .i64 0), (.int .i64 0)], [(0, 1), (1, 4)]) := by kernel_rfl
theorem Tryz.bs_160 : structB Tryz.prog 160 = some ([(.pointer none), (.int .i64 0), (.int .i64 0), (.int .i64 0), (.int .i64 0)], [(0, 1), (1, 4)]) := by kernel_rfl
theorem Tryz.bs_177 : structB Tryz.prog 177 = some ([(.int .i64 0)], [(0, 1)]) := by kernel_rfl
theorem Tryz.bs_179 : structB Tryz.prog 179 = some ([(.int .i64 0), (.int .i64 0)], [(0, 1), (1, 1)]) := by kernel_rfl
theorem Tryz.bs_193 : structB Tryz.prog 193 = some ([], []) := by kernel_rfl
theorem Tryz.bs_194 : structB Tryz.prog 194 = some ([], []) := by kernel_rfl
theorem Tryz.bs_195 : structB Tryz.prog 195 = some ([], []) := by kernel_rfl
theorem Tryz.bs_196 : structB Tryz.prog 196 = some ([], []) := by kernel_rfl
theorem Tryz.bs_197 : structB Tryz.prog 197 = some ([], []) := by kernel_rfl
theorem Tryz.bs_24 : structB Tryz.prog 24 = some ([(.int .i64 0), (.int .i64 0), (.int .i64 0), (.int .i64 0), (.slice none 0 0)], [(0, 1), (1, 1), (2, 1), (3, 1), (4, 1)]) := by kernel_rfl
theorem Tryz.bs_33 : structB Tryz.prog 33 = some ([(.int .i64 0), (.int .i64 0), (.int .i64 0)], [(0, 1), (1, 1), (2, 1)]) := by kernel_rfl
theorem Tryz.bs_35 : structB Tryz.prog 35 = some ([(.int .i64 0), (.int .i64 0)], [(0, 1), (1, 1)]) := by kernel_rfl
theorem Tryz.bs_38 : structB Tryz.prog 38 = some ([(.int .i64 0), (.int .i64 0), (.int .i64 0), (.int .i64 0), (.int .i64 0), (.int .i64 0), (.int .i64 0), (.slice none 0 0)], [(0, 2), (2, 2), (4, 1), (5, 1), (6, 1), (7, 1)]) := by kernel_rfl
theorem Tryz.bs_44 : structB Tryz.prog 44 = some ([(.int .i64 0), (.int .i64 0), (.int .i64 0), (.int .i64 0)], [(0, 2), (2, 2)]) := by kernel_rfl
theorem Tryz.bs_46 : structB Tryz.prog 46 = some ([(.int .i64 0), (.int .i64 0), (.int .i64 0), (.int .i64 0), (.int .i64 0), (.int .i64 0), (.int .i64 0), (.int .i64 0), (.int .i64 0)], [(0, 4), (4, 4), (8, 1)]) := by kernel_rfl
theorem Tryz.bs_51 : structB Tryz.prog 51 = some ([(.int .i64 0), (.int .i64 0), (.int .i64 0), (.int .i64 0), (.int .i64 0), (.int .i64 0), (.int .i64 0), (.slice none 0 0), (.int .i64 0), (.int .i64 0), (.int .i64 0), (.int .i64 0), (.int .i64 0), (.int .i64 0), (.int .i64 0), (.int .i64 0), (.int .i64 0)], [(0, 8), (8, 1), (9, 1), (10, 1), (11, 2), (13, 1), (14, 1), (15, 1), (16, 1)]) := by kernel_rfl
theorem Tryz.bs_70 : structB Tryz.prog 70 = some ([(.int .i64 0), (.int .i64 0), (.int .i64 0)], [(0, 1), (1, 1), (2, 1)]) := by kernel_rfl
theorem Tryz.bs_85 : structB Tryz.prog 85 = some ([(.int .i64 0), (.int .i64 0), (.int .i64 0), (.int .i64 0), (.int .i64 0), (.int .i64 0), (.int .i64 0), (.slice none 0 0), (.int .i64 0), (.int .i64 0)], [(0, 8), (8, 2)]) := by kernel_rfl
theorem Tryz.eb_108 : elemB Tryz.prog 108 = some (3, 1, 8, (.int .i64 0)) := by kernel_rfl
theorem Tryz.eb_36 : elemB Tryz.prog 36 = some (46, 9, 72, (.agg #[(.int .i64 0), (.int .i64 0), (.int .i64 0), (.int .i64 0), (.int .i64 0), (.int .i64 0), (.int .i64 0), (.int .i64 0), (.int .i64 0)])) := by kernel_rfl
theorem Tryz.eb_67 : elemB Tryz.prog 67 = some (70, 3, 24, (.agg #[(.int .i64 0), (.int .i64 0), (.int .i64 0)])) := by kernel_rfl
theorem Tryz.en_10 : Enters Tryz.prog 10 := enters_of Tryz.func10 (by kernel_rfl) rfl
theorem Tryz.en_100 : Enters Tryz.prog 100 := enters_of Tryz.func100 (by kernel_rfl) rfl
theorem Tryz.en_101 : Enters Tryz.prog 101 := enters_of Tryz.func101 (by kernel_rfl) rfl
theorem Tryz.en_102 : Enters Tryz.prog 102 := enters_of Tryz.func102 (by kernel_rfl) rfl
theorem Tryz.en_103 : Enters Tryz.prog 103 := enters_of Tryz.func103 (by kernel_rfl) rfl
theorem Tryz.en_104 : Enters Tryz.prog 104 := enters_of Tryz.func104 (by kernel_rfl) rfl
theorem Tryz.en_105 : Enters Tryz.prog 105 := enters_of Tryz.func105 (by kernel_rfl) rfl
theorem Tryz.en_106 : Enters Tryz.prog 106 := enters_of Tryz.func106 (by kernel_rfl) rfl
theorem Tryz.en_107 : Enters Tryz.prog 107 := enters_of Tryz.func107 (by kernel_rfl) rfl
theorem Tryz.en_108 : Enters Tryz.prog 108 := enters_of Tryz.func108 (by kernel_rfl) rfl
theorem Tryz.en_109 : Enters Tryz.prog 109 := enters_of Tryz.func109 (by kernel_rfl) rfl
theorem Tryz.en_11 : Enters Tryz.prog 11 := enters_of Tryz.func11 (by kernel_rfl) rfl
theorem Tryz.en_110 : Enters Tryz.prog 110 := enters_of Tryz.func110 (by kernel_rfl) rfl
theorem Tryz.en_111 : Enters Tryz.prog 111 := enters_of Tryz.func111 (by kernel_rfl) rfl
theorem Tryz.en_112 : Enters Tryz.prog 112 := enters_of Tryz.func112 (by kernel_rfl) rfl
theorem Tryz.en_114 : Enters Tryz.prog 114 := enters_of Tryz.func114 (by kernel_rfl) rfl
theorem Tryz.en_115 : Enters Tryz.prog 115 := enters_of Tryz.func115 (by kernel_rfl) rfl
theorem Tryz.en_116 : Enters Tryz.prog 116 := enters_of Tryz.func116 (by kernel_rfl) rfl
theorem Tryz.en_117 : Enters Tryz.prog 117 := enters_of Tryz.func117 (by kernel_rfl) rfl
theorem Tryz.en_118 : Enters Tryz.prog 118 := enters_of Tryz.func118 (by kernel_rfl) rfl
theorem Tryz.en_12 : Enters Tryz.prog 12 := enters_of Tryz.func12 (by kernel_rfl) rfl
theorem Tryz.en_13 : Enters Tryz.prog 13 := enters_of Tryz.func13 (by kernel_rfl) rfl
theorem Tryz.en_134 : Enters Tryz.prog 134 := enters_of Tryz.func134 (by kernel_rfl) rfl
theorem Tryz.en_135 : Enters Tryz.prog 135 := enters_of Tryz.func135 (by kernel_rfl) rfl
theorem Tryz.en_136 : Enters Tryz.prog 136 := enters_of Tryz.func136 (by kernel_rfl) rfl
theorem Tryz.en_137 : Enters Tryz.prog 137 := enters_of Tryz.func137 (by kernel_rfl) rfl
theorem Tryz.en_138 : Enters Tryz.prog 138 := enters_of Tryz.func138 (by kernel_rfl) rfl
theorem Tryz.en_139 : Enters Tryz.prog 139 := enters_of Tryz.func139 (by kernel_rfl) rfl
theorem Tryz.en_14 : Enters Tryz.prog 14 := enters_of Tryz.func14 (by kernel_rfl) rfl
theorem Tryz.en_140 : Enters Tryz.prog 140 := enters_of Tryz.func140 (by kernel_rfl) rfl
theorem Tryz.en_15 : Enters Tryz.prog 15 := enters_of Tryz.func15 (by kernel_rfl) rfl
theorem Tryz.en_16 : Enters Tryz.prog 16 := enters_of Tryz.func16 (by kernel_rfl) rfl
theorem Tryz.en_17 : Enters Tryz.prog 17 := enters_of Tryz.func17 (by kernel_rfl) rfl
theorem Tryz.en_18 : Enters Tryz.prog 18 := enters_of Tryz.func18 (by kernel_rfl) rfl
theorem Tryz.en_19 : Enters Tryz.prog 19 := enters_of Tryz.func19 (by kernel_rfl) rfl
theorem Tryz.en_20 : Enters Tryz.prog 20 := enters_of Tryz.func20 (by kernel_rfl) rfl
theorem Tryz.en_21 : Enters Tryz.prog 21 := enters_of Tryz.func21 (by kernel_rfl) rfl
theorem Tryz.en_22 : Enters Tryz.prog 22 := enters_of Tryz.func22 (by kernel_rfl) rfl
theorem Tryz.en_23 : Enters Tryz.prog 23 := enters_of Tryz.func23 (by kernel_rfl) rfl
theorem Tryz.en_24 : Enters Tryz.prog 24 := enters_of Tryz.func24 (by kernel_rfl) rfl
theorem Tryz.en_25 : Enters Tryz.prog 25 := enters_of Tryz.func25 (by kernel_rfl) rfl
theorem Tryz.en_26 : Enters Tryz.prog 26 := enters_of Tryz.func26 (by kernel_rfl) rfl
theorem Tryz.en_27 : Enters Tryz.prog 27 := enters_of Tryz.func27 (by kernel_rfl) rfl
theorem Tryz.en_28 : Enters Tryz.prog 28 := enters_of Tryz.func28 (by kernel_rfl) rfl
theorem Tryz.en_29 : Enters Tryz.prog 29 := enters_of Tryz.func29 (by kernel_rfl) rfl
theorem Tryz.en_30 : Enters Tryz.prog 30 := enters_of Tryz.func30 (by kernel_rfl) rfl
theorem Tryz.en_31 : Enters Tryz.prog 31 := enters_of Tryz.func31 (by kernel_rfl) rfl
theorem Tryz.en_32 : Enters Tryz.prog 32 := enters_of Tryz.func32 (by kernel_rfl) rfl
theorem Tryz.en_33 : Enters Tryz.prog 33 := enters_of Tryz.func33 (by kernel_rfl) rfl
theorem Tryz.en_34 : Enters Tryz.prog 34 := enters_of Tryz.func34 (by kernel_rfl) rfl
theorem Tryz.en_35 : Enters Tryz.prog 35 := enters_of Tryz.func35 (by kernel_rfl) rfl
theorem Tryz.en_36 : Enters Tryz.prog 36 := enters_of Tryz.func36 (by kernel_rfl) rfl
theorem Tryz.en_37 : Enters Tryz.prog 37 := enters_of Tryz.func37 (by kernel_rfl) rfl
theorem Tryz.en_38 : Enters Tryz.prog 38 := enters_of Tryz.func38 (by kernel_rfl) rfl
theorem Tryz.en_39 : Enters Tryz.prog 39 := enters_of Tryz.func39 (by kernel_rfl) rfl
theorem Tryz.en_40 : Enters Tryz.prog 40 := enters_of Tryz.func40 (by kernel_rfl) rfl
theorem Tryz.en_41 : Enters Tryz.prog 41 := enters_of Tryz.func41 (by kernel_rfl) rfl
theorem Tryz.en_42 : Enters Tryz.prog 42 := enters_of Tryz.func42 (by kernel_rfl) rfl
theorem Tryz.en_43 : Enters Tryz.prog 43 := enters_of Tryz.func43 (by kernel_rfl) rfl
theorem Tryz.en_44 : Enters Tryz.prog 44 := enters_of Tryz.func44 (by kernel_rfl) rfl
theorem Tryz.en_45 : Enters Tryz.prog 45 := enters_of Tryz.func45 (by kernel_rfl) rfl
theorem Tryz.en_46 : Enters Tryz.prog 46 := enters_of Tryz.func46 (by kernel_rfl) rfl
theorem Tryz.en_47 : Enters Tryz.prog 47 := enters_of Tryz.func47 (by kernel_rfl) rfl
theorem Tryz.en_48 : Enters Tryz.prog 48 := enters_of Tryz.func48 (by kernel_rfl) rfl
theorem Tryz.en_49 : Enters Tryz.prog 49 := enters_of Tryz.func49 (by kernel_rfl) rfl
theorem Tryz.en_5 : Enters Tryz.prog 5 := enters_of Tryz.func5 (by kernel_rfl) rfl
theorem Tryz.en_50 : Enters Tryz.prog 50 := enters_of Tryz.func50 (by kernel_rfl) rfl
theorem Tryz.en_51 : Enters Tryz.prog 51 := enters_of Tryz.func51 (by kernel_rfl) rfl
theorem Tryz.en_52 : Enters Tryz.prog 52 := enters_of Tryz.func52 (by kernel_rfl) rfl
theorem Tryz.en_53 : Enters Tryz.prog 53 := enters_of Tryz.func53 (by kernel_rfl) rfl
theorem Tryz.en_54 : Enters Tryz.prog 54 := enters_of Tryz.func54 (by kernel_rfl) rfl
theorem Tryz.en_55 : Enters Tryz.prog 55 := enters_of Tryz.func55 (by kernel_rfl) rfl
theorem Tryz.en_56 : Enters Tryz.prog 56 := enters_of Tryz.func56 (by kernel_rfl) rfl
theorem Tryz.en_57 : Enters Tryz.prog 57 := enters_of Tryz.func57 (by kernel_rfl) rfl
theorem Tryz.en_58 : Enters Tryz.prog 58 := enters_of Tryz.func58 (by kernel_rfl) rfl
theorem Tryz.en_59 : Enters Tryz.prog 59 := enters_of Tryz.func59 (by kernel_rfl) rfl
theorem Tryz.en_6 : Enters Tryz.prog 6 := enters_of Tryz.func6 (by kernel_rfl) rfl
theorem Tryz.en_60 : Enters Tryz.prog 60 := enters_of Tryz.func60 (by kernel_rfl) rfl
theorem Tryz.en_61 : Enters Tryz.prog 61 := enters_of Tryz.func61 (by kernel_rfl) rfl
theorem Tryz.en_62 : Enters Tryz.prog 62 := enters_of Tryz.func62 (by kernel_rfl) rfl
theorem Tryz.en_63 : Enters Tryz.prog 63 := enters_of Tryz.func63 (by kernel_rfl) rfl
theorem Tryz.en_64 : Enters Tryz.prog 64 := enters_of Tryz.func64 (by kernel_rfl) rfl
theorem Tryz.en_65 : Enters Tryz.prog 65 := enters_of Tryz.func65 (by kernel_rfl) rfl
theorem Tryz.en_66 : Enters Tryz.prog 66 := enters_of Tryz.func66 (by kernel_rfl) rfl
theorem Tryz.en_67 : Enters Tryz.prog 67 := enters_of Tryz.func67 (by kernel_rfl) rfl
theorem Tryz.en_68 : Enters Tryz.prog 68 := enters_of Tryz.func68 (by kernel_rfl) rfl
theorem Tryz.en_69 : Enters Tryz.prog 69 := enters_of Tryz.func69 (by kernel_rfl) rfl
theorem Tryz.en_7 : Enters Tryz.prog 7 := enters_of Tryz.func7 (by kernel_rfl) rfl
theorem Tryz.en_70 : Enters Tryz.prog 70 := enters_of Tryz.func70 (by kernel_rfl) rfl
theorem Tryz.en_71 : Enters Tryz.prog 71 := enters_of Tryz.func71 (by kernel_rfl) rfl
theorem Tryz.en_72 : Enters Tryz.prog 72 := enters_of Tryz.func72 (by kernel_rfl) rfl
theorem Tryz.en_73 : Enters Tryz.prog 73 := enters_of Tryz.func73 (by kernel_rfl) rfl
theorem Tryz.en_74 : Enters Tryz.prog 74 := enters_of Tryz.func74 (by kernel_rfl) rfl
theorem Tryz.en_75 : Enters Tryz.prog 75 := enters_of Tryz.func75 (by kernel_rfl) rfl
theorem Tryz.en_76 : Enters Tryz.prog 76 := enters_of Tryz.func76 (by kernel_rfl) rfl
theorem Tryz.en_77 : Enters Tryz.prog 77 := enters_of Tryz.func77 (by kernel_rfl) rfl
theorem Tryz.en_78 : Enters Tryz.prog 78 := enters_of Tryz.func78 (by kernel_rfl) rfl
theorem Tryz.en_79 : Enters Tryz.prog 79 := enters_of Tryz.func79 (by kernel_rfl) rfl
theorem Tryz.en_80 : Enters Tryz.prog 80 := enters_of Tryz.func80 (by kernel_rfl) rfl
theorem Tryz.en_81 : Enters Tryz.prog 81 := enters_of Tryz.func81 (by kernel_rfl) rfl
theorem Tryz.en_82 : Enters Tryz.prog 82 := enters_of Tryz.func82 (by kernel_rfl) rfl
theorem Tryz.en_83 : Enters Tryz.prog 83 := enters_of Tryz.func83 (by kernel_rfl) rfl
theorem Tryz.en_84 : Enters Tryz.prog 84 := enters_of Tryz.func84 (by kernel_rfl) rfl
theorem Tryz.en_85 : Enters Tryz.prog 85 := enters_of Tryz.func85 (by kernel_rfl) rfl
theorem Tryz.en_86 : Enters Tryz.prog 86 := enters_of Tryz.func86 (by kernel_rfl) rfl
theorem Tryz.en_87 : Enters Tryz.prog 87 := enters_of Tryz.func87 (by kernel_rfl) rfl
theorem Tryz.en_88 : Enters Tryz.prog 88 := enters_of Tryz.func88 (by kernel_rfl) rfl
theorem Tryz.en_89 : Enters Tryz.prog 89 := enters_of Tryz.func89 (by kernel_rfl) rfl
theorem Tryz.en_9 : Enters Tryz.prog 9 := enters_of Tryz.func9 (by kernel_rfl) rfl
theorem Tryz.en_90 : Enters Tryz.prog 90 := enters_of Tryz.func90 (by kernel_rfl) rfl
theorem Tryz.en_91 : Enters Tryz.prog 91 := enters_of Tryz.func91 (by kernel_rfl) rfl
theorem Tryz.en_92 : Enters Tryz.prog 92 := enters_of Tryz.func92 (by kernel_rfl) rfl
theorem Tryz.en_93 : Enters Tryz.prog 93 := enters_of Tryz.func93 (by kernel_rfl) rfl
theorem Tryz.en_94 : Enters Tryz.prog 94 := enters_of Tryz.func94 (by kernel_rfl) rfl
theorem Tryz.en_95 : Enters Tryz.prog 95 := enters_of Tryz.func95 (by kernel_rfl) rfl
theorem Tryz.en_96 : Enters Tryz.prog 96 := enters_of Tryz.func96 (by kernel_rfl) rfl
theorem Tryz.en_98 : Enters Tryz.prog 98 := enters_of Tryz.func98 (by kernel_rfl) rfl
theorem Tryz.en_99 : Enters Tryz.prog 99 := enters_of Tryz.func99 (by kernel_rfl) rfl
theorem Tryz.fg_51_0 : fieldG Tryz.prog 51 0 = some (0, 8) := by kernel_rfl
theorem Tryz.fo_103_0 : fieldOff Tryz.prog 103 0 = some 0 := by kernel_rfl
theorem Tryz.fo_103_1 : fieldOff Tryz.prog 103 1 = some 17 := by kernel_rfl
theorem Tryz.fo_120_0 : fieldOff Tryz.prog 120 0 = some 0 := by kernel_rfl
theorem Tryz.fo_120_1 : fieldOff Tryz.prog 120 1 = some 1 := by kernel_rfl
theorem Tryz.fo_120_2 : fieldOff Tryz.prog 120 2 = some 2 := by kernel_rfl
theorem Tryz.fo_120_3 : fieldOff Tryz.prog 120 3 = some 3 := by kernel_rfl
theorem Tryz.fo_128_0 : fieldOff Tryz.prog 128 0 = some 0 := by kernel_rfl
theorem Tryz.fo_128_1 : fieldOff Tryz.prog 128 1 = some 5 := by kernel_rfl
theorem Tryz.fo_128_2 : fieldOff Tryz.prog 128 2 = some 25 := by kernel_rfl
theorem Tryz.fo_135_0 : fieldOff Tryz.prog 135 0 = some 0 := by kernel_rfl
theorem Tryz.fo_151_0 : fieldOff Tryz.prog 151 0 = some 0 := by kernel_rfl
theorem Tryz.fo_151_1 : fieldOff Tryz.prog 151 1 = some 1 := by kernel_rfl
theorem Tryz.fo_153_0 : fieldOff Tryz.prog 153 0 = some 0 := by kernel_rfl
theorem Tryz.fo_153_1 : fieldOff Tryz.prog 153 1 = some 1 := by kernel_rfl
theorem Tryz.fo_160_0 : fieldOff Tryz.prog 160 0 = some 0 := by kernel_rfl
theorem Tryz.fo_160_1 : fieldOff Tryz.prog 160 1 = some 1 := by kernel_rfl
theorem Tryz.fo_177_0 : fieldOff Tryz.prog 177 0 = some 0 := by kernel_rfl
theorem Tryz.fo_179_0 : fieldOff Tryz.prog 179 0 = some 0 := by kernel_rfl
theorem Tryz.fo_179_1 : fieldOff Tryz.prog 179 1 = some 1 := by kernel_rfl
theorem Tryz.fo_24_0 : fieldOff Tryz.prog 24 0 = some 0 := by kernel_rfl
theorem Tryz.fo_24_1 : fieldOff Tryz.prog 24 1 = some 1 := by kernel_rfl
theorem Tryz.fo_24_2 : fieldOff Tryz.prog 24 2 = some 2 := by kernel_rfl
theorem Tryz.fo_24_3 : fieldOff Tryz.prog 24 3 = some 3 := by kernel_rfl
theorem Tryz.fo_24_4 : fieldOff Tryz.prog 24 4 = some 4 := by kernel_rfl
theorem Tryz.fo_33_0 : fieldOff Tryz.prog 33 0 = some 0 := by kernel_rfl
theorem Tryz.fo_33_1 : fieldOff Tryz.prog 33 1 = some 1 := by kernel_rfl
theorem Tryz.fo_33_2 : fieldOff Tryz.prog 33 2 = some 2 := by kernel_rfl
theorem Tryz.fo_35_0 : fieldOff Tryz.prog 35 0 = some 0 := by kernel_rfl
theorem Tryz.fo_35_1 : fieldOff Tryz.prog 35 1 = some 1 := by kernel_rfl
theorem Tryz.fo_38_0 : fieldOff Tryz.prog 38 0 = some 0 := by kernel_rfl
theorem Tryz.fo_38_1 : fieldOff Tryz.prog 38 1 = some 2 := by kernel_rfl
theorem Tryz.fo_38_2 : fieldOff Tryz.prog 38 2 = some 4 := by kernel_rfl
theorem Tryz.fo_38_3 : fieldOff Tryz.prog 38 3 = some 5 := by kernel_rfl
theorem Tryz.fo_38_4 : fieldOff Tryz.prog 38 4 = some 6 := by kernel_rfl
theorem Tryz.fo_38_5 : fieldOff Tryz.prog 38 5 = some 7 := by kernel_rfl
theorem Tryz.fo_44_0 : fieldOff Tryz.prog 44 0 = some 0 := by kernel_rfl
theorem Tryz.fo_44_1 : fieldOff Tryz.prog 44 1 = some 2 := by kernel_rfl
theorem Tryz.fo_46_0 : fieldOff Tryz.prog 46 0 = some 0 := by kernel_rfl
theorem Tryz.fo_46_1 : fieldOff Tryz.prog 46 1 = some 4 := by kernel_rfl
theorem Tryz.fo_46_2 : fieldOff Tryz.prog 46 2 = some 8 := by kernel_rfl
theorem Tryz.fo_51_0 : fieldOff Tryz.prog 51 0 = some 0 := by kernel_rfl
theorem Tryz.fo_51_1 : fieldOff Tryz.prog 51 1 = some 8 := by kernel_rfl
theorem Tryz.fo_51_2 : fieldOff Tryz.prog 51 2 = some 9 := by kernel_rfl
theorem Tryz.fo_51_3 : fieldOff Tryz.prog 51 3 = some 10 := by kernel_rfl
theorem Tryz.fo_51_4 : fieldOff Tryz.prog 51 4 = some 11 := by kernel_rfl
theorem Tryz.fo_51_5 : fieldOff Tryz.prog 51 5 = some 13 := by kernel_rfl
theorem Tryz.fo_51_6 : fieldOff Tryz.prog 51 6 = some 14 := by kernel_rfl
theorem Tryz.fo_51_7 : fieldOff Tryz.prog 51 7 = some 15 := by kernel_rfl
theorem Tryz.fo_51_8 : fieldOff Tryz.prog 51 8 = some 16 := by kernel_rfl
theorem Tryz.fo_70_0 : fieldOff Tryz.prog 70 0 = some 0 := by kernel_rfl
theorem Tryz.fo_70_1 : fieldOff Tryz.prog 70 1 = some 1 := by kernel_rfl
theorem Tryz.fo_70_2 : fieldOff Tryz.prog 70 2 = some 2 := by kernel_rfl
theorem Tryz.fo_85_0 : fieldOff Tryz.prog 85 0 = some 0 := by kernel_rfl
theorem Tryz.fo_85_1 : fieldOff Tryz.prog 85 1 = some 8 := by kernel_rfl
theorem Tryz.fs_151_0 : fieldS Tryz.prog 151 0 = some 0 := by kernel_rfl
theorem Tryz.fs_151_1 : fieldS Tryz.prog 151 1 = some 1 := by kernel_rfl
theorem Tryz.fs_35_0 : fieldS Tryz.prog 35 0 = some 0 := by kernel_rfl
theorem Tryz.fs_35_1 : fieldS Tryz.prog 35 1 = some 1 := by kernel_rfl
theorem Tryz.mt_101 : mapTypes Tryz.prog 101 = some (3, 151, .i64) := by kernel_rfl
theorem Tryz.mt_125 : mapTypes Tryz.prog 125 = some (75, 74, .u64) := by kernel_rfl
theorem Tryz.sc_101 : scalB Tryz.prog 101 = true := by kernel_rfl
theorem Tryz.sc_116 : scalB Tryz.prog 116 = true := by kernel_rfl
theorem Tryz.sc_125 : scalB Tryz.prog 125 = true := by kernel_rfl
theorem Tryz.sc_143 : scalB Tryz.prog 143 = true := by kernel_rfl
theorem Tryz.sc_166 : scalB Tryz.prog 166 = true := by kernel_rfl
theorem Tryz.sc_199 : scalB Tryz.prog 199 = true := by kernel_rfl
theorem Tryz.sc_22 : scalB Tryz.prog 22 = true := by kernel_rfl
theorem Tryz.sc_25 : scalB Tryz.prog 25 = true := by kernel_rfl
theorem Tryz.sc_26 : scalB Tryz.prog 26 = true := by kernel_rfl
theorem Tryz.sc_28 : scalB Tryz.prog 28 = true := by kernel_rfl
theorem Tryz.sc_3 : scalB Tryz.prog 3 = true := by kernel_rfl
theorem Tryz.sc_36 : scalB Tryz.prog 36 = true := by kernel_rfl
theorem Tryz.sc_4 : scalB Tryz.prog 4 = true := by kernel_rfl
theorem Tryz.sc_5 : scalB Tryz.prog 5 = true := by kernel_rfl
theorem Tryz.sc_62 : scalB Tryz.prog 62 = true := by kernel_rfl
theorem Tryz.sc_67 : scalB Tryz.prog 67 = true := by kernel_rfl
theorem Tryz.sc_74 : scalB Tryz.prog 74 = true := by kernel_rfl
theorem Tryz.sc_75 : scalB Tryz.prog 75 = true := by kernel_rfl
theorem Tryz.sc_80 : scalB Tryz.prog 80 = true := by kernel_rfl
theorem Tryz.sc_92 : scalB Tryz.prog 92 = true := by kernel_rfl
theorem Tryz.sc_98 : scalB Tryz.prog 98 = true := by kernel_rfl
theorem Tryz.se_108 : sliceElem Tryz.prog 108 = some (3, 1) := by kernel_rfl
theorem Tryz.se_142 : sliceElem Tryz.prog 142 = some (83, 2) := by kernel_rfl
theorem Tryz.se_145 : sliceElem Tryz.prog 145 = some (120, 4) := by kernel_rfl
theorem Tryz.se_202 : sliceElem Tryz.prog 202 = some (74, 1) := by kernel_rfl
theorem Tryz.se_204 : sliceElem Tryz.prog 204 = some (151, 2) := by kernel_rfl
theorem Tryz.se_219 : sliceElem Tryz.prog 219 = some (35, 2) := by kernel_rfl
theorem Tryz.se_22 : sliceElem Tryz.prog 22 = some (33, 3) := by kernel_rfl
theorem Tryz.se_36 : sliceElem Tryz.prog 36 = some (46, 9) := by kernel_rfl
theorem Tryz.se_53 : sliceElem Tryz.prog 53 = some (26, 1) := by kernel_rfl
theorem Tryz.se_67 : sliceElem Tryz.prog 67 = some (70, 3) := by kernel_rfl
theorem Tryz.se_90 : sliceElem Tryz.prog 90 = some (92, 1) := by kernel_rfl
theorem Tryz.sz_105 : (Tryz.prog.info? 105).map (·.size) = some 4 := by kernel_rfl
theorem Tryz.sz_120 : (Tryz.prog.info? 120).map (·.size) = some 4 := by kernel_rfl
theorem Tryz.sz_135 : (Tryz.prog.info? 135).map (·.size) = some 1 := by kernel_rfl
theorem Tryz.sz_143 : (Tryz.prog.info? 143).map (·.size) = some 1 := by kernel_rfl
theorem Tryz.sz_151 : (Tryz.prog.info? 151).map (·.size) = some 2 := by kernel_rfl
theorem Tryz.sz_153 : (Tryz.prog.info? 153).map (·.size) = some 5 := by kernel_rfl
theorem Tryz.sz_200 : (Tryz.prog.info? 200).map (·.size) = some 5 := by kernel_rfl
theorem Tryz.sz_24 : (Tryz.prog.info? 24).map (·.size) = some 5 := by kernel_rfl
theorem Tryz.sz_28 : (Tryz.prog.info? 28).map (·.size) = some 1 := by kernel_rfl
theorem Tryz.sz_3 : (Tryz.prog.info? 3).map (·.size) = some 1 := by kernel_rfl
theorem Tryz.sz_33 : (Tryz.prog.info? 33).map (·.size) = some 3 := by kernel_rfl
theorem Tryz.sz_35 : (Tryz.prog.info? 35).map (·.size) = some 2 := by kernel_rfl
theorem Tryz.sz_36 : (Tryz.prog.info? 36).map (·.size) = some 1 := by kernel_rfl
theorem Tryz.sz_38 : (Tryz.prog.info? 38).map (·.size) = some 8 := by kernel_rfl
theorem Tryz.sz_4 : (Tryz.prog.info? 4).map (·.size) = some 1 := by kernel_rfl
theorem Tryz.sz_46 : (Tryz.prog.info? 46).map (·.size) = some 9 := by kernel_rfl
theorem Tryz.sz_51 : (Tryz.prog.info? 51).map (·.size) = some 17 := by kernel_rfl
theorem Tryz.sz_67 : (Tryz.prog.info? 67).map (·.size) = some 1 := by kernel_rfl
theorem Tryz.sz_70 : (Tryz.prog.info? 70).map (·.size) = some 3 := by kernel_rfl
theorem Tryz.sz_74 : (Tryz.prog.info? 74).map (·.size) = some 1 := by kernel_rfl
theorem Tryz.sz_75 : (Tryz.prog.info? 75).map (·.size) = some 1 := by kernel_rfl
theorem Tryz.sz_80 : (Tryz.prog.info? 80).map (·.size) = some 1 := by kernel_rfl
theorem Tryz.sz_83 : (Tryz.prog.info? 83).map (·.size) = some 2 := by kernel_rfl
theorem Tryz.un_3 : Tryz.prog.underlying 3 = some (.int .i64) := by kernel_rfl
theorem Tryz.un_74 : Tryz.prog.underlying 74 = some (.int .u64) := by kernel_rfl
theorem Tryz.un_75 : Tryz.prog.underlying 75 = some (.int .u64) := by kernel_rfl
theorem Tryz.ze_105 : zeroOf Tryz.prog 105 = some (.agg #[(.int .i64 0), (.int .i64 0), (.int .i64 0), (.int .i64 0)]) := by kernel_rfl
theorem Tryz.ze_120 : zeroOf Tryz.prog 120 = some (.agg #[(.int .i64 0), (.int .i64 0), (.int .i64 0), (.int .i64 0)]) := by kernel_rfl
theorem Tryz.ze_135 : zeroOf Tryz.prog 135 = some (.agg #[(.int .i64 0)]) := by kernel_rfl
theorem Tryz.ze_143 : zeroOf Tryz.prog 143 = some .nilFunc := by kernel_rfl
theorem Tryz.ze_151 : zeroOf Tryz.prog 151 = some (.agg #[(.int .i64 0), (.int .i64 0)]) := by kernel_rfl
theorem Tryz.ze_153 : zeroOf Tryz.prog 153 = some (.agg #[(.int .i64 0), (.int .i64 0), (.int .i64 0), (.int .i64 0), (.int .i64 0)]) := by kernel_rfl
theorem Tryz.ze_200 : zeroOf Tryz.prog 200 = some (.agg #[.nilIface, .nilIface, .nilIface, .nilIface, .nilIface]) := by kernel_rfl
theorem Tryz.ze_24 : zeroOf Tryz.prog 24 = some (.agg #[(.int .i64 0), (.int .i64 0), (.int .i64 0), (.int .i64 0), (.slice none 0 0)]) := by kernel_rfl
theorem Tryz.ze_28 : zeroOf Tryz.prog 28 = some (.int .i64 0) := by kernel_rfl
theorem Tryz.ze_3 : zeroOf Tryz.prog 3 = some (.int .i64 0) := by kernel_rfl
theorem Tryz.ze_33 : zeroOf Tryz.prog 33 = some (.agg #[(.int .i64 0), (.int .i64 0), (.int .i64 0)]) := by kernel_rfl
theorem Tryz.ze_35 : zeroOf Tryz.prog 35 = some (.agg #[(.int .i64 0), (.int .i64 0)]) := by kernel_rfl
theorem Tryz.ze_38 : zeroOf Tryz.prog 38 = some (.agg #[(.int .i64 0), (.int .i64 0), (.int .i64 0), (.int .i64 0), (.int .i64 0), (.int .i64 0), (.int .i64 0), (.slice none 0 0)]) := by kernel_rfl
theorem Tryz.ze_4 : zeroOf Tryz.prog 4 = some (.bool false) := by kernel_rfl
theorem Tryz.ze_46 : zeroOf Tryz.prog 46 = some (.agg #[(.int .i64 0), (.int .i64 0), (.int .i64 0), (.int .i64 0), (.int .i64 0), (.int .i64 0), (.int .i64 0), (.int .i64 0), (.int .i64 0)]) := by kernel_rfl
theorem Tryz.ze_51 : zeroOf Tryz.prog 51 = some (.agg #[(.int .i64 0), (.int .i64 0), (.int .i64 0), (.int .i64 0), (.int .i64 0), (.int .i64 0), (.int .i64 0), (.slice none 0 0), (.int .i64 0), (.int .i64 0), (.int .i64 0), (.int .i64 0), (.int .i64 0), (.int .i64 0), (.int .i64 0), (.int .i64 0), (.int .i64 0)]) := by kernel_rfl
theorem Tryz.ze_70 : zeroOf Tryz.prog 70 = some (.agg #[(.int .i64 0), (.int .i64 0), (.int .i64 0)]) := by kernel_rfl
theorem Tryz.ze_74 : zeroOf Tryz.prog 74 = some (.int .u64 0) := by kernel_rfl
theorem Tryz.ze_75 : zeroOf Tryz.prog 75 = some (.int .u64 0) := by kernel_rfl
theorem Tryz.ze_80 : zeroOf Tryz.prog 80 = some (.pointer none) := by kernel_rfl
theorem Tryz.ze_83 : zeroOf Tryz.prog 83 = some (.agg #[(.int .i64 0), (.int .i64 0)]) := by kernel_rfl
end Go.Proofs.YtccpgpnekoncoaaGreatDoor

namespace Go.Proofs.YtccpgpnekoncoaaGreatDoor
open Go Go.Sy Go.PaiM
theorem c_in1 (n l h : Int) (w : World) : Calls Tryz.prog 69 #[.int .i64 n, .int .i64 l, .int .i64 h] w (Ret fun v w' => v = .bool (inP n l h) ∧ Ext [] w w') := by
  refine calls_of Tryz.func69 rfl rfl (fun a hf => ?_)
  have hh := Hp.init w []
  unfold inP
  refine sy_sq ?_
  refine o_v hf hh (yv_assign rfl) ?_; clear hf a; intro a hf
  refine o_end ?_
  refine sy_sq ?_
  refine o_v hf hh (yv_move rfl) ?_; clear hf a; intro a hf
  refine o_v hf hh (yv_move rfl) ?_; clear hf a; intro a hf
  refine o_v hf hh (yv_bin rfl rfl rfl) ?_; clear hf a; intro a hf
  refine o_v hf hh (yv_move rfl) ?_; clear hf a; intro a hf
  refine guard_split hf (t := 10) rfl (fun hg2 => ?_) (fun hg2 => ?_)
  ·have hG2 := hg2; try simp only [gS] at hG2
   refine o_v hf hh (yv_move rfl) ?_; clear hf a; intro a hf
   refine o_v hf hh (yv_move rfl) ?_; clear hf a; intro a hf
   refine o_v hf hh (yv_bin rfl rfl rfl) ?_; clear hf a; intro a hf
   refine o_v hf hh (y_pt rfl rfl) ?_; clear hf a; intro a hf
   refine o_v hf hh (yv_assign rfl) ?_; clear hf a; intro a hf
   refine o_end ?_
   refine sy_ret ?_
   refine ret_r hf rfl rfl ?_
   exact ⟨by simp [tup, *], hh.ext⟩
  ·have hG2 := hg2; try simp only [gS] at hG2
   refine o_off hf ?_; clear hf a; intro a hf
   refine o_off hf ?_; clear hf a; intro a hf
   refine o_off hf ?_; clear hf a; intro a hf
   refine o_v hf hh (y_pf rfl rfl) ?_; clear hf a; intro a hf
   refine o_v hf hh (yv_assign rfl) ?_; clear hf a; intro a hf
   refine o_end ?_
   refine sy_ret ?_
   refine ret_r hf rfl rfl ?_
   exact ⟨by simp [tup, *], hh.ext⟩
theorem c_in3 (n l h : Int) (w : World) : Calls Tryz.prog 44 #[.int .i64 n, .int .i64 l, .int .i64 h] w (Ret fun v w' => v = .bool (inP n l h) ∧ Ext [] w w') := by
  refine calls_of Tryz.func44 rfl rfl (fun a hf => ?_)
  have hh := Hp.init w []
  unfold inP
  refine sy_sq ?_
  refine o_v hf hh (yv_assign rfl) ?_; clear hf a; intro a hf
  refine o_end ?_
  refine sy_sq ?_
  refine o_v hf hh (yv_move rfl) ?_; clear hf a; intro a hf
  refine o_v hf hh (yv_move rfl) ?_; clear hf a; intro a hf
  refine o_v hf hh (yv_bin rfl rfl rfl) ?_; clear hf a; intro a hf
  refine o_v hf hh (yv_move rfl) ?_; clear hf a; intro a hf
  refine guard_split hf (t := 10) rfl (fun hg2 => ?_) (fun hg2 => ?_)
  ·have hG2 := hg2; try simp only [gS] at hG2
   refine o_v hf hh (yv_move rfl) ?_; clear hf a; intro a hf
   refine o_v hf hh (yv_move rfl) ?_; clear hf a; intro a hf
   refine o_v hf hh (yv_bin rfl rfl rfl) ?_; clear hf a; intro a hf
   refine o_v hf hh (y_pt rfl rfl) ?_; clear hf a; intro a hf
   refine o_v hf hh (yv_assign rfl) ?_; clear hf a; intro a hf
   refine o_end ?_
   refine sy_ret ?_
   refine ret_r hf rfl rfl ?_
   exact ⟨by simp [tup, *], hh.ext⟩
  ·have hG2 := hg2; try simp only [gS] at hG2
   refine o_off hf ?_; clear hf a; intro a hf
   refine o_off hf ?_; clear hf a; intro a hf
   refine o_off hf ?_; clear hf a; intro a hf
   refine o_v hf hh (y_pf rfl rfl) ?_; clear hf a; intro a hf
   refine o_v hf hh (yv_assign rfl) ?_; clear hf a; intro a hf
   refine o_end ?_
   refine sy_ret ?_
   refine ret_r hf rfl rfl ?_
   exact ⟨by simp [tup, *], hh.ext⟩
theorem c_wthn (n l h : Int) (w : World) : Calls Tryz.prog 31 #[.int .i64 n, .int .i64 l, .int .i64 h] w (Ret fun v w' => v = .bool (inP n l h) ∧ Ext [] w w') := by
  refine calls_of Tryz.func31 rfl rfl (fun a hf => ?_)
  have hh := Hp.init w []
  unfold inP
  refine sy_sq ?_
  refine o_v hf hh (yv_assign rfl) ?_; clear hf a; intro a hf
  refine o_end ?_
  refine sy_sq ?_
  refine o_v hf hh (yv_move rfl) ?_; clear hf a; intro a hf
  refine o_v hf hh (yv_move rfl) ?_; clear hf a; intro a hf
  refine o_v hf hh (yv_bin rfl rfl rfl) ?_; clear hf a; intro a hf
  refine o_v hf hh (yv_move rfl) ?_; clear hf a; intro a hf
  refine guard_split hf (t := 10) rfl (fun hg2 => ?_) (fun hg2 => ?_)
  ·have hG2 := hg2; try simp only [gS] at hG2
   refine o_v hf hh (yv_move rfl) ?_; clear hf a; intro a hf
   refine o_v hf hh (yv_move rfl) ?_; clear hf a; intro a hf
   refine o_v hf hh (yv_bin rfl rfl rfl) ?_; clear hf a; intro a hf
   refine o_v hf hh (y_pt rfl rfl) ?_; clear hf a; intro a hf
   refine o_v hf hh (yv_assign rfl) ?_; clear hf a; intro a hf
   refine o_end ?_
   refine sy_ret ?_
   refine ret_r hf rfl rfl ?_
   exact ⟨by simp [tup, *], hh.ext⟩
  ·have hG2 := hg2; try simp only [gS] at hG2
   refine o_off hf ?_; clear hf a; intro a hf
   refine o_off hf ?_; clear hf a; intro a hf
   refine o_off hf ?_; clear hf a; intro a hf
   refine o_v hf hh (y_pf rfl rfl) ?_; clear hf a; intro a hf
   refine o_v hf hh (yv_assign rfl) ?_; clear hf a; intro a hf
   refine o_end ?_
   refine sy_ret ?_
   refine ret_r hf rfl rfl ?_
   exact ⟨by simp [tup, *], hh.ext⟩
theorem c_span1 (s : Int × Int) (l h : Int) (w : World) : Calls Tryz.prog 70 #[spV s, .int .i64 l, .int .i64 h] w (Ret fun v w' => v = .bool (spP s l h) ∧ Ext [] w w') := by
  refine calls_of Tryz.func70 rfl rfl (fun a hf => ?_)
  have hh := Hp.init w []
  unfold spP
  refine sy_sq ?_
  refine o_box hf hh ?_; clear hf hh a; intro B3 a w hf hh
  refine o_v hf hh (yv_assign rfl) ?_; clear hf a; intro a hf
  refine o_end ?_
  refine sy_sq ?_
  refine o_v hf hh (yv_move rfl) ?_; clear hf a; intro a hf
  refine o_v hf hh (yv_fieldAddr Tryz.fo_35_0 rfl) ?_; clear hf a; intro a hf
  refine o_v hf hh (y_ld Tryz.sc_3 rfl) ?_; clear hf a; intro a hf
  refine o_v hf hh (yv_bin rfl rfl rfl) ?_; clear hf a; intro a hf
  refine o_v hf hh (yv_move rfl) ?_; clear hf a; intro a hf
  refine guard_split hf (t := 11) rfl (fun hg2 => ?_) (fun hg2 => ?_)
  ·have hG2 := hg2; try simp only [gS] at hG2
   refine o_v hf hh (yv_fieldAddr Tryz.fo_35_0 rfl) ?_; clear hf a; intro a hf
   refine o_v hf hh (y_ld Tryz.sc_3 rfl) ?_; clear hf a; intro a hf
   refine o_v hf hh (yv_fieldAddr Tryz.fo_35_1 rfl) ?_; clear hf a; intro a hf
   refine o_v hf hh (y_ld Tryz.sc_3 rfl) ?_; clear hf a; intro a hf
   refine o_v hf hh (yv_bin rfl rfl rfl) ?_; clear hf a; intro a hf
   refine o_v hf hh (y_pt rfl rfl) ?_; clear hf a; intro a hf
   refine o_v hf hh (yv_move rfl) ?_; clear hf a; intro a hf
   refine guard_split hf (t := 18) rfl (fun hg4 => ?_) (fun hg4 => ?_)
   ·have hG4 := hg4; try simp only [gS] at hG4
    refine o_v hf hh (yv_fieldAddr Tryz.fo_35_1 rfl) ?_; clear hf a; intro a hf
    refine o_v hf hh (y_ld Tryz.sc_3 rfl) ?_; clear hf a; intro a hf
    refine o_v hf hh (yv_move rfl) ?_; clear hf a; intro a hf
    refine o_v hf hh (yv_bin rfl rfl rfl) ?_; clear hf a; intro a hf
    refine o_v hf hh (y_pt rfl rfl) ?_; clear hf a; intro a hf
    refine o_v hf hh (yv_assign rfl) ?_; clear hf a; intro a hf
    refine o_end ?_
    refine sy_ret ?_
    refine ret_r hf rfl rfl ?_
    refine ⟨congrArg Value.bool ?_, hh.ext⟩
    clear hf hh
    first
      | (simp_all; done)
      | (simp only [*, Bool.false_and, Bool.and_false, Bool.true_and, Bool.and_true, Bool.not_true, Bool.not_false]; done)
      | (rw [Bool.eq_iff_iff]; simp_all <;> omega)
   ·have hG4 := hg4; try simp only [gS] at hG4
    refine o_off hf ?_; clear hf a; intro a hf
    refine o_off hf ?_; clear hf a; intro a hf
    refine o_off hf ?_; clear hf a; intro a hf
    refine o_off hf ?_; clear hf a; intro a hf
    refine o_v hf hh (y_pf rfl rfl) ?_; clear hf a; intro a hf
    refine o_v hf hh (yv_assign rfl) ?_; clear hf a; intro a hf
    refine o_end ?_
    refine sy_ret ?_
    refine ret_r hf rfl rfl ?_
    refine ⟨congrArg Value.bool ?_, hh.ext⟩
    clear hf hh
    first
      | (simp_all; done)
      | (simp only [*, Bool.false_and, Bool.and_false, Bool.true_and, Bool.and_true, Bool.not_true, Bool.not_false]; done)
      | (rw [Bool.eq_iff_iff]; simp_all <;> omega)
  ·have hG2 := hg2; try simp only [gS] at hG2
   refine o_off hf ?_; clear hf a; intro a hf
   refine o_off hf ?_; clear hf a; intro a hf
   refine o_off hf ?_; clear hf a; intro a hf
   refine o_off hf ?_; clear hf a; intro a hf
   refine o_off hf ?_; clear hf a; intro a hf
   refine o_v hf hh (y_pf rfl rfl) ?_; clear hf a; intro a hf
   refine o_v hf hh (yv_move rfl) ?_; clear hf a; intro a hf
   refine o_off hf ?_; clear hf a; intro a hf
   refine o_off hf ?_; clear hf a; intro a hf
   refine o_off hf ?_; clear hf a; intro a hf
   refine o_off hf ?_; clear hf a; intro a hf
   refine o_v hf hh (y_pf rfl rfl) ?_; clear hf a; intro a hf
   refine o_v hf hh (yv_assign rfl) ?_; clear hf a; intro a hf
   refine o_end ?_
   refine sy_ret ?_
   refine ret_r hf rfl rfl ?_
   refine ⟨congrArg Value.bool ?_, hh.ext⟩
   clear hf hh
   first
     | (simp_all; done)
     | (simp only [*, Bool.false_and, Bool.and_false, Bool.true_and, Bool.and_true, Bool.not_true, Bool.not_false]; done)
     | (rw [Bool.eq_iff_iff]; simp_all <;> omega)
theorem c_place (x y : Int × Int) (w : World) : Calls Tryz.prog 68 #[plV x y] w (Ret fun v w' => v = .bool (plP x y) ∧ Ext [] w w') := by
  refine calls_of Tryz.func68 rfl rfl (fun a hf => ?_)
  have hh := Hp.init w []
  unfold plP
  refine sy_sq ?_
  refine o_box hf hh ?_; clear hf hh a; intro B1 a w hf hh
  refine o_v hf hh (yv_assign rfl) ?_; clear hf a; intro a hf
  refine o_end ?_
  refine sy_sq ?_
  refine o_v hf hh (yv_fieldAddr Tryz.fo_44_0 rfl) ?_; clear hf a; intro a hf
  refine o_v hf hh (y_lds Tryz.ag_35 rfl) ?_; clear hf a; intro a hf
  refine o_call hf Tryz.en_70 rfl rfl rfl (c_span1 x (-4000) 4000 _) ?_; clear hf a; intro v a w hR hf
  obtain ⟨rfl, hx⟩ := hR; replace hh := hh.more hx; clear hx
  refine o_v hf hh (yv_move rfl) ?_; clear hf a; intro a hf
  refine guard_split hf (t := 6) rfl (fun hg2 => ?_) (fun hg2 => ?_)
  ·have hG2 := hg2; try simp only [gS] at hG2
   refine o_v hf hh (yv_fieldAddr Tryz.fo_44_1 rfl) ?_; clear hf a; intro a hf
   refine o_v hf hh (y_lds Tryz.ag_35 rfl) ?_; clear hf a; intro a hf
   refine o_call hf Tryz.en_70 rfl rfl rfl (c_span1 y (-4000) 4000 _) ?_; clear hf a; intro v a w hR hf
   obtain ⟨rfl, hx⟩ := hR; replace hh := hh.more hx; clear hx
   refine o_v hf hh (y_pt rfl rfl) ?_; clear hf a; intro a hf
   refine o_v hf hh (yv_assign rfl) ?_; clear hf a; intro a hf
   refine o_end ?_
   refine sy_ret ?_
   refine ret_r hf rfl rfl ?_
   refine ⟨congrArg Value.bool ?_, hh.ext⟩
   clear hf hh
   first
     | (simp_all; done)
     | (simp only [*, Bool.false_and, Bool.and_false, Bool.true_and, Bool.and_true, Bool.not_true, Bool.not_false]; done)
     | (rw [Bool.eq_iff_iff]; simp_all <;> omega)
  ·have hG2 := hg2; try simp only [gS] at hG2
   refine o_off hf ?_; clear hf a; intro a hf
   refine o_off hf ?_; clear hf a; intro a hf
   refine o_off hf ?_; clear hf a; intro a hf
   refine o_v hf hh (y_pf rfl rfl) ?_; clear hf a; intro a hf
   refine o_v hf hh (yv_assign rfl) ?_; clear hf a; intro a hf
   refine o_end ?_
   refine sy_ret ?_
   refine ret_r hf rfl rfl ?_
   refine ⟨congrArg Value.bool ?_, hh.ext⟩
   clear hf hh
   first
     | (simp_all; done)
     | (simp only [*, Bool.false_and, Bool.and_false, Bool.true_and, Bool.and_true, Bool.not_true, Bool.not_false]; done)
     | (rw [Bool.eq_iff_iff]; simp_all <;> omega)
set_option maxRecDepth 100000 in
theorem c_pair (p : PrD) (sa : Option Addr) (cp : Nat) (u : World) (hA : ThAt u sa p.th) (hl : p.th.length ≤ 9223372036854775807) : Calls Tryz.prog 45 #[.agg (prA p sa cp)] u (Ret fun v w' => v = .bool (prB p) ∧ Ext [] u w') := by
  refine calls_of Tryz.func45 rfl rfl (fun a hf => ?_)
  have hh := Hp.init u []
  refine sy_sq ?_
  refine o_box hf hh ?_; clear hf hh a; intro B1 a w hf hh
  refine o_v hf hh (yv_assign rfl) ?_; clear hf a; intro a hf
  refine o_end ?_
  refine sy_seq ?_
  refine sy_sq ?_
  refine o_v hf hh (yv_assign rfl) ?_; clear hf a; intro a hf
  refine o_end ?_
  refine sy_block ?_
  refine sy_loopH (σ := Nat) [2, 3, 4, 5, 6, 7, 8, 9, 10, 11, 12, 13, 14, 15, 16, 17, 18, 19, 20, 21, 22, 23, 24, 25, 26, 27, 28, 29, 30, 31, 32, 33, 34, 35, 36, 37, 38, 39, 40, 41] (fun i => [(3, .int .i64 (i : Nat))]) (fun i => fun w' => i ≤ p.th.length ∧ (∀ t ∈ p.th.take i, thB p t = true) ∧ Hp u [] [(B1, .cells (prA p sa cp) 38)] w') (fun i => p.th.length - i) (0) hf ?_ ?_ ?_
  · repeat' (first | exact True.intro | refine And.intro rfl ?_)
  · exact ⟨Nat.zero_le _, (fun x hx => by simp at hx), hh⟩
  ·rintro i a w ⟨hi, hq, hh⟩ hf
   refine sy_seq ?_
   refine sy_sq ?_
   refine o_v hf hh (yv_move rfl) ?_; clear hf a; intro a hf
   refine o_v hf hh (yv_fieldAddr Tryz.fo_38_5 rfl) ?_; clear hf a; intro a hf
   refine o_v hf hh (y_ld Tryz.sc_36 rfl) ?_; clear hf a; intro a hf
   refine o_v hf hh (yv_len Tryz.se_36 rfl) ?_; clear hf a; intro a hf
   refine o_v hf hh (yv_bin rfl rfl rfl) ?_; clear hf a; intro a hf
   refine o_end ?_
   refine sy_cond hf rfl (fun hg2 => ?_) (fun hg2 => ?_)
   ·have hG2 := hg2; try simp only [gS] at hG2
    refine sy_skip ?_
    refine then_n ?_
    refine sy_seq ?_
    refine sy_block ?_
    refine sy_seq ?_
    obtain ⟨t, ht⟩ := ex_ofP (l := p.th) (i := i) (by omega)
    obtain ⟨blk, off, cc, TT, fr, esa, hb2, hc⟩ := hA i t ht
    refine sy_ops ?_
    refine o_v hf hh (yv_fieldAddr Tryz.fo_38_5 rfl) ?_; clear hf a; intro a hf
    refine o_v hf hh (y_ld Tryz.sc_36 rfl) ?_; clear hf a; intro a hf
    refine o_v hf hh (yv_move rfl) ?_; clear hf a; intro a hf
    refine o_v hf hh (y_ix Tryz.se_36 (congrArg (fun z => some (Value.slice z p.th.length cp)) esa) rfl) ?_; clear hf a; intro a hf
    refine o_v hf hh (y_lds Tryz.ag_46 rfl) ?_; clear hf a; intro a hf
    refine o_alloc hf hh Tryz.ze_46 ?_; clear hf hh a; intro B4 a w hf hh
    refine o_store hf hh Tryz.sz_46 fun w hh => ?_
    refine o_end ?_
    refine sy_sq ?_
    refine o_v hf hh (yv_fieldAddr Tryz.fo_46_0 rfl) ?_; clear hf a; intro a hf
    refine o_v hf hh (y_lds Tryz.ag_44 rfl) ?_; clear hf a; intro a hf
    refine o_call hf Tryz.en_68 rfl rfl rfl (c_place t.lx t.ly _) ?_; clear hf a; intro v a w hR hf
    obtain ⟨rfl, hx⟩ := hR; replace hh := hh.more hx; clear hx
    refine o_v hf hh (yv_not rfl) ?_; clear hf a; intro a hf
    refine o_v hf hh (yv_move rfl) ?_; clear hf a; intro a hf
    refine guard_split hf (t := 21) rfl (fun hg5 => ?_) (fun hg5 => ?_)
    ·have hG5 := hg5; try simp only [gS] at hG5
     refine o_off hf ?_; clear hf a; intro a hf
     refine o_off hf ?_; clear hf a; intro a hf
     refine o_off hf ?_; clear hf a; intro a hf
     refine o_off hf ?_; clear hf a; intro a hf
     refine o_v hf hh (y_pt rfl rfl) ?_; clear hf a; intro a hf
     refine o_v hf hh (yv_move rfl) ?_; clear hf a; intro a hf
     refine o_off hf ?_; clear hf a; intro a hf
     refine o_off hf ?_; clear hf a; intro a hf
     refine o_off hf ?_; clear hf a; intro a hf
     refine o_off hf ?_; clear hf a; intro a hf
     refine o_off hf ?_; clear hf a; intro a hf
     refine o_off hf ?_; clear hf a; intro a hf
     refine o_off hf ?_; clear hf a; intro a hf
     refine o_off hf ?_; clear hf a; intro a hf
     refine o_off hf ?_; clear hf a; intro a hf
     refine o_off hf ?_; clear hf a; intro a hf
     refine o_off hf ?_; clear hf a; intro a hf
     refine o_off hf ?_; clear hf a; intro a hf
     refine o_off hf ?_; clear hf a; intro a hf
     refine o_v hf hh (y_pt rfl rfl) ?_; clear hf a; intro a hf
     refine o_end ?_
     refine c_t hf ?_
     refine sy_sq ?_
     refine o_v hf hh (yv_assign rfl) ?_; clear hf a; intro a hf
     refine o_end ?_
     refine sy_ret ?_
     refine blk_r ?_
     refine then_r ?_
     refine then_r ?_
     refine blk_r ?_
     refine then_r ?_
     refine ret_r hf rfl rfl ?_
     first
       | (have hy : thB p t = false := by clear hf hh; unfold thB; simp_all
          exact ⟨congrArg Value.bool (prB_bad ht hy).symm, hh.ext⟩)
       | (have ev := prB_end (p := p) (fun s hs => hq s (by rw [List.take_of_length_le (by omega)]; exact hs))
          refine ⟨congrArg Value.bool ?_, hh.ext⟩
          rw [ev]
          clear hf hh ev
          unfold prH
          first
            | (simp_all; done)
            | (rw [Bool.eq_iff_iff]; simp_all <;> omega))
    ·have hG5 := hg5; try simp only [gS] at hG5
     refine o_v hf hh (yv_fieldAddr Tryz.fo_46_1 rfl) ?_; clear hf a; intro a hf
     refine o_v hf hh (y_lds Tryz.ag_44 rfl) ?_; clear hf a; intro a hf
     refine o_call hf Tryz.en_68 rfl rfl rfl (c_place t.rx t.ry _) ?_; clear hf a; intro v a w hR hf
     obtain ⟨rfl, hx⟩ := hR; replace hh := hh.more hx; clear hx
     refine o_v hf hh (yv_not rfl) ?_; clear hf a; intro a hf
     refine o_v hf hh (y_pf rfl rfl) ?_; clear hf a; intro a hf
     refine o_v hf hh (yv_move rfl) ?_; clear hf a; intro a hf
     refine guard_split hf (t := 27) rfl (fun hg7 => ?_) (fun hg7 => ?_)
     ·have hG7 := hg7; try simp only [gS] at hG7
      refine o_off hf ?_; clear hf a; intro a hf
      refine o_off hf ?_; clear hf a; intro a hf
      refine o_off hf ?_; clear hf a; intro a hf
      refine o_off hf ?_; clear hf a; intro a hf
      refine o_off hf ?_; clear hf a; intro a hf
      refine o_off hf ?_; clear hf a; intro a hf
      refine o_off hf ?_; clear hf a; intro a hf
      refine o_off hf ?_; clear hf a; intro a hf
      refine o_off hf ?_; clear hf a; intro a hf
      refine o_off hf ?_; clear hf a; intro a hf
      refine o_off hf ?_; clear hf a; intro a hf
      refine o_off hf ?_; clear hf a; intro a hf
      refine o_off hf ?_; clear hf a; intro a hf
      refine o_v hf hh (y_pt rfl rfl) ?_; clear hf a; intro a hf
      refine o_end ?_
      refine c_t hf ?_
      refine sy_sq ?_
      refine o_v hf hh (yv_assign rfl) ?_; clear hf a; intro a hf
      refine o_end ?_
      refine sy_ret ?_
      refine blk_r ?_
      refine then_r ?_
      refine then_r ?_
      refine blk_r ?_
      refine then_r ?_
      refine ret_r hf rfl rfl ?_
      first
        | (have hy : thB p t = false := by clear hf hh; unfold thB; simp_all
           exact ⟨congrArg Value.bool (prB_bad ht hy).symm, hh.ext⟩)
        | (have ev := prB_end (p := p) (fun s hs => hq s (by rw [List.take_of_length_le (by omega)]; exact hs))
           refine ⟨congrArg Value.bool ?_, hh.ext⟩
           rw [ev]
           clear hf hh ev
           unfold prH
           first
             | (simp_all; done)
             | (rw [Bool.eq_iff_iff]; simp_all <;> omega))
     ·have hG7 := hg7; try simp only [gS] at hG7
      refine o_v hf hh (yv_fieldAddr Tryz.fo_46_2 rfl) ?_; clear hf a; intro a hf
      refine o_v hf hh (y_ld Tryz.sc_3 rfl) ?_; clear hf a; intro a hf
      refine o_v hf hh (yv_bin rfl rfl rfl) ?_; clear hf a; intro a hf
      refine o_v hf hh (yv_move rfl) ?_; clear hf a; intro a hf
      refine guard_split hf (t := 31) rfl (fun hg9 => ?_) (fun hg9 => ?_)
      ·have hG9 := hg9; try simp only [gS] at hG9
       refine o_v hf hh (yv_fieldAddr Tryz.fo_46_2 rfl) ?_; clear hf a; intro a hf
       refine o_v hf hh (y_ld Tryz.sc_3 rfl) ?_; clear hf a; intro a hf
       refine o_v hf hh (yv_fieldAddr Tryz.fo_38_3 rfl) ?_; clear hf a; intro a hf
       refine o_v hf hh (y_ld Tryz.sc_3 rfl) ?_; clear hf a; intro a hf
       refine o_v hf hh (yv_fieldAddr Tryz.fo_38_4 rfl) ?_; clear hf a; intro a hf
       refine o_v hf hh (y_ld Tryz.sc_3 rfl) ?_; clear hf a; intro a hf
       refine o_call hf Tryz.en_69 rfl rfl rfl (c_in1 t.far p.near p.far _) ?_; clear hf a; intro v a w hR hf
       obtain ⟨rfl, hx⟩ := hR; replace hh := hh.more hx; clear hx
       refine o_v hf hh (yv_not rfl) ?_; clear hf a; intro a hf
       refine o_v hf hh (y_pt rfl rfl) ?_; clear hf a; intro a hf
       refine o_v hf hh (y_pf rfl rfl) ?_; clear hf a; intro a hf
       refine o_end ?_
       refine sy_cond hf rfl (fun hg11 => ?_) (fun hg11 => ?_)
       ·have hG11 := hg11; try simp only [gS] at hG11
        refine sy_sq ?_
        refine o_v hf hh (yv_assign rfl) ?_; clear hf a; intro a hf
        refine o_end ?_
        refine sy_ret ?_
        refine blk_r ?_
        refine then_r ?_
        refine then_r ?_
        refine blk_r ?_
        refine then_r ?_
        refine ret_r hf rfl rfl ?_
        first
          | (have hy : thB p t = false := by clear hf hh; unfold thB; simp_all
             exact ⟨congrArg Value.bool (prB_bad ht hy).symm, hh.ext⟩)
          | (have ev := prB_end (p := p) (fun s hs => hq s (by rw [List.take_of_length_le (by omega)]; exact hs))
             refine ⟨congrArg Value.bool ?_, hh.ext⟩
             rw [ev]
             clear hf hh ev
             unfold prH
             first
               | (simp_all; done)
               | (rw [Bool.eq_iff_iff]; simp_all <;> omega))
       ·have hG11 := hg11; try simp only [gS] at hG11
        refine sy_skip ?_
        refine blk_n ?_
        refine then_n ?_
        refine sy_ops ?_
        refine o_v hf hh (yv_move rfl) ?_; clear hf a; intro a hf
        refine o_v hf hh (y_add rfl rfl) ?_; clear hf a; intro a hf
        refine o_v hf hh (yv_assign rfl) ?_; clear hf a; intro a hf
        refine ops_end ?_
        refine then_n ?_
        have hy : thB p t = true := by clear hf hh; unfold thB; simp_all
        exact ⟨i + 1, ⟨⟨by omega, take_allP hq ht hy, hh.less (.cons _ (.refl _))⟩, (hf.head (by repeat' (first | exact True.intro | refine And.intro rfl ?_)) (Keep.cons rfl (Keep.cons rfl (Keep.cons rfl (Keep.cons rfl (Keep.cons rfl (Keep.cons rfl (Keep.cons rfl (Keep.cons rfl (Keep.cons rfl (Keep.cons rfl (Keep.cons rfl (Keep.cons rfl (Keep.cons rfl (Keep.cons rfl (Keep.cons rfl (Keep.cons rfl (Keep.cons rfl (Keep.cons rfl (Keep.cons rfl (Keep.cons rfl (Keep.cons rfl (Keep.cons rfl (Keep.cons rfl (Keep.cons rfl (Keep.cons rfl (Keep.cons rfl (Keep.cons rfl (Keep.cons rfl (Keep.cons rfl (Keep.cons rfl (Keep.cons rfl (Keep.cons rfl (Keep.cons rfl (Keep.cons rfl (Keep.cons rfl (Keep.cons rfl (Keep.cons rfl (Keep.cons rfl (Keep.cons rfl (Keep.app rfl (Keep.rm rfl Keep.base))))))))))))))))))))))))))))))))))))))))))⟩, by omega⟩
      ·have hG9 := hg9; try simp only [gS] at hG9
       refine o_off hf ?_; clear hf a; intro a hf
       refine o_off hf ?_; clear hf a; intro a hf
       refine o_off hf ?_; clear hf a; intro a hf
       refine o_off hf ?_; clear hf a; intro a hf
       refine o_off hf ?_; clear hf a; intro a hf
       refine o_off hf ?_; clear hf a; intro a hf
       refine o_off hf ?_; clear hf a; intro a hf
       refine o_off hf ?_; clear hf a; intro a hf
       refine o_v hf hh (y_pf rfl rfl) ?_; clear hf a; intro a hf
       refine o_v hf hh (y_pf rfl rfl) ?_; clear hf a; intro a hf
       refine o_end ?_
       refine c_f hf ?_
       refine sy_skip ?_
       refine blk_n ?_
       refine then_n ?_
       refine sy_ops ?_
       refine o_v hf hh (yv_move rfl) ?_; clear hf a; intro a hf
       refine o_v hf hh (y_add rfl rfl) ?_; clear hf a; intro a hf
       refine o_v hf hh (yv_assign rfl) ?_; clear hf a; intro a hf
       refine ops_end ?_
       refine then_n ?_
       have hy : thB p t = true := by clear hf hh; unfold thB; simp_all
       exact ⟨i + 1, ⟨⟨by omega, take_allP hq ht hy, hh.less (.cons _ (.refl _))⟩, (hf.head (by repeat' (first | exact True.intro | refine And.intro rfl ?_)) (Keep.cons rfl (Keep.cons rfl (Keep.cons rfl (Keep.cons rfl (Keep.cons rfl (Keep.cons rfl (Keep.cons rfl (Keep.cons rfl (Keep.cons rfl (Keep.cons rfl (Keep.cons rfl (Keep.cons rfl (Keep.cons rfl (Keep.cons rfl (Keep.cons rfl (Keep.cons rfl (Keep.cons rfl (Keep.cons rfl (Keep.cons rfl (Keep.cons rfl (Keep.cons rfl (Keep.cons rfl (Keep.cons rfl (Keep.cons rfl (Keep.cons rfl (Keep.cons rfl (Keep.cons rfl (Keep.cons rfl (Keep.cons rfl (Keep.cons rfl (Keep.cons rfl (Keep.cons rfl (Keep.cons rfl (Keep.cons rfl (Keep.cons rfl (Keep.cons rfl (Keep.cons rfl (Keep.cons rfl (Keep.cons rfl (Keep.app rfl (Keep.rm rfl Keep.base))))))))))))))))))))))))))))))))))))))))))⟩, by omega⟩
   ·have hG2 := hg2; try simp only [gS] at hG2
    refine sy_exit ?_
    refine then_e ?_
    refine then_e ?_
    refine blk_e ?_
    refine then_n ?_
    refine sy_sq ?_
    refine o_v hf hh (yv_fieldAddr Tryz.fo_38_5 rfl) ?_; clear hf a; intro a hf
    refine o_v hf hh (y_ld Tryz.sc_36 rfl) ?_; clear hf a; intro a hf
    refine o_v hf hh (yv_len Tryz.se_36 rfl) ?_; clear hf a; intro a hf
    refine o_v hf hh (yv_bin rfl rfl rfl) ?_; clear hf a; intro a hf
    refine o_v hf hh (yv_move rfl) ?_; clear hf a; intro a hf
    refine guard_split hf (t := 46) rfl (fun hg13 => ?_) (fun hg13 => ?_)
    ·have hG13 := hg13; try simp only [gS] at hG13
     refine o_v hf hh (yv_fieldAddr Tryz.fo_38_0 rfl) ?_; clear hf a; intro a hf
     refine o_v hf hh (y_lds Tryz.ag_35 rfl) ?_; clear hf a; intro a hf
     refine o_call hf Tryz.en_70 rfl rfl rfl (c_span1 p.fo 1 50000 _) ?_; clear hf a; intro v a w hR hf
     obtain ⟨rfl, hx⟩ := hR; replace hh := hh.more hx; clear hx
     refine o_v hf hh (y_pt rfl rfl) ?_; clear hf a; intro a hf
     refine o_v hf hh (yv_move rfl) ?_; clear hf a; intro a hf
     refine guard_split hf (t := 51) rfl (fun hg15 => ?_) (fun hg15 => ?_)
     ·have hG15 := hg15; try simp only [gS] at hG15
      refine o_v hf hh (yv_fieldAddr Tryz.fo_38_1 rfl) ?_; clear hf a; intro a hf
      refine o_v hf hh (y_lds Tryz.ag_35 rfl) ?_; clear hf a; intro a hf
      refine o_call hf Tryz.en_70 rfl rfl rfl (c_span1 p.ba 1 10000 _) ?_; clear hf a; intro v a w hR hf
      obtain ⟨rfl, hx⟩ := hR; replace hh := hh.more hx; clear hx
      refine o_v hf hh (y_pt rfl rfl) ?_; clear hf a; intro a hf
      refine o_v hf hh (yv_move rfl) ?_; clear hf a; intro a hf
      refine guard_split hf (t := 56) rfl (fun hg17 => ?_) (fun hg17 => ?_)
      ·have hG17 := hg17; try simp only [gS] at hG17
       refine o_v hf hh (yv_fieldAddr Tryz.fo_38_2 rfl) ?_; clear hf a; intro a hf
       refine o_v hf hh (y_ld Tryz.sc_3 rfl) ?_; clear hf a; intro a hf
       refine o_call hf Tryz.en_69 rfl rfl rfl (c_in1 p.tilt 0 1000 _) ?_; clear hf a; intro v a w hR hf
       obtain ⟨rfl, hx⟩ := hR; replace hh := hh.more hx; clear hx
       refine o_v hf hh (y_pt rfl rfl) ?_; clear hf a; intro a hf
       refine o_v hf hh (yv_move rfl) ?_; clear hf a; intro a hf
       refine guard_split hf (t := 61) rfl (fun hg19 => ?_) (fun hg19 => ?_)
       ·have hG19 := hg19; try simp only [gS] at hG19
        refine o_v hf hh (yv_fieldAddr Tryz.fo_38_3 rfl) ?_; clear hf a; intro a hf
        refine o_v hf hh (y_ld Tryz.sc_3 rfl) ?_; clear hf a; intro a hf
        refine o_call hf Tryz.en_69 rfl rfl rfl (c_in1 p.near 2000 1073741824 _) ?_; clear hf a; intro v a w hR hf
        obtain ⟨rfl, hx⟩ := hR; replace hh := hh.more hx; clear hx
        refine o_v hf hh (y_pt rfl rfl) ?_; clear hf a; intro a hf
        refine o_v hf hh (yv_move rfl) ?_; clear hf a; intro a hf
        refine guard_split hf (t := 66) rfl (fun hg21 => ?_) (fun hg21 => ?_)
        ·have hG21 := hg21; try simp only [gS] at hG21
         refine o_v hf hh (yv_fieldAddr Tryz.fo_38_4 rfl) ?_; clear hf a; intro a hf
         refine o_v hf hh (y_ld Tryz.sc_3 rfl) ?_; clear hf a; intro a hf
         refine o_v hf hh (yv_fieldAddr Tryz.fo_38_3 rfl) ?_; clear hf a; intro a hf
         refine o_v hf hh (y_ld Tryz.sc_3 rfl) ?_; clear hf a; intro a hf
         refine o_call hf Tryz.en_69 rfl rfl rfl (c_in1 p.far p.near 1073741824 _) ?_; clear hf a; intro v a w hR hf
         obtain ⟨rfl, hx⟩ := hR; replace hh := hh.more hx; clear hx
         refine o_v hf hh (y_pt rfl rfl) ?_; clear hf a; intro a hf
         refine o_v hf hh (yv_assign rfl) ?_; clear hf a; intro a hf
         refine o_end ?_
         refine sy_ret ?_
         refine ret_r hf rfl rfl ?_
         first
           | (have hy : thB p t = false := by clear hf hh; unfold thB; simp_all
              exact ⟨congrArg Value.bool (prB_bad ht hy).symm, hh.ext⟩)
           | (have ev := prB_end (p := p) (fun s hs => hq s (by rw [List.take_of_length_le (by omega)]; exact hs))
              refine ⟨congrArg Value.bool ?_, hh.ext⟩
              rw [ev]
              clear hf hh ev
              unfold prH
              first
                | (simp_all; done)
                | (rw [Bool.eq_iff_iff]; simp_all <;> omega))
        ·have hG21 := hg21; try simp only [gS] at hG21
         refine o_off hf ?_; clear hf a; intro a hf
         refine o_off hf ?_; clear hf a; intro a hf
         refine o_off hf ?_; clear hf a; intro a hf
         refine o_off hf ?_; clear hf a; intro a hf
         refine o_off hf ?_; clear hf a; intro a hf
         refine o_v hf hh (y_pf rfl rfl) ?_; clear hf a; intro a hf
         refine o_v hf hh (yv_assign rfl) ?_; clear hf a; intro a hf
         refine o_end ?_
         refine sy_ret ?_
         refine ret_r hf rfl rfl ?_
         first
           | (have hy : thB p t = false := by clear hf hh; unfold thB; simp_all
              exact ⟨congrArg Value.bool (prB_bad ht hy).symm, hh.ext⟩)
           | (have ev := prB_end (p := p) (fun s hs => hq s (by rw [List.take_of_length_le (by omega)]; exact hs))
              refine ⟨congrArg Value.bool ?_, hh.ext⟩
              rw [ev]
              clear hf hh ev
              unfold prH
              first
                | (simp_all; done)
                | (rw [Bool.eq_iff_iff]; simp_all <;> omega))
       ·have hG19 := hg19; try simp only [gS] at hG19
        refine o_off hf ?_; clear hf a; intro a hf
        refine o_off hf ?_; clear hf a; intro a hf
        refine o_off hf ?_; clear hf a; intro a hf
        refine o_v hf hh (y_pf rfl rfl) ?_; clear hf a; intro a hf
        refine o_v hf hh (yv_move rfl) ?_; clear hf a; intro a hf
        refine o_off hf ?_; clear hf a; intro a hf
        refine o_off hf ?_; clear hf a; intro a hf
        refine o_off hf ?_; clear hf a; intro a hf
        refine o_off hf ?_; clear hf a; intro a hf
        refine o_off hf ?_; clear hf a; intro a hf
        refine o_v hf hh (y_pf rfl rfl) ?_; clear hf a; intro a hf
        refine o_v hf hh (yv_assign rfl) ?_; clear hf a; intro a hf
        refine o_end ?_
        refine sy_ret ?_
        refine ret_r hf rfl rfl ?_
        first
          | (have hy : thB p t = false := by clear hf hh; unfold thB; simp_all
             exact ⟨congrArg Value.bool (prB_bad ht hy).symm, hh.ext⟩)
          | (have ev := prB_end (p := p) (fun s hs => hq s (by rw [List.take_of_length_le (by omega)]; exact hs))
             refine ⟨congrArg Value.bool ?_, hh.ext⟩
             rw [ev]
             clear hf hh ev
             unfold prH
             first
               | (simp_all; done)
               | (rw [Bool.eq_iff_iff]; simp_all <;> omega))
      ·have hG17 := hg17; try simp only [gS] at hG17
       refine o_off hf ?_; clear hf a; intro a hf
       refine o_off hf ?_; clear hf a; intro a hf
       refine o_off hf ?_; clear hf a; intro a hf
       refine o_v hf hh (y_pf rfl rfl) ?_; clear hf a; intro a hf
       refine o_v hf hh (yv_move rfl) ?_; clear hf a; intro a hf
       refine o_off hf ?_; clear hf a; intro a hf
       refine o_off hf ?_; clear hf a; intro a hf
       refine o_off hf ?_; clear hf a; intro a hf
       refine o_v hf hh (y_pf rfl rfl) ?_; clear hf a; intro a hf
       refine o_v hf hh (yv_move rfl) ?_; clear hf a; intro a hf
       refine o_off hf ?_; clear hf a; intro a hf
       refine o_off hf ?_; clear hf a; intro a hf
       refine o_off hf ?_; clear hf a; intro a hf
       refine o_off hf ?_; clear hf a; intro a hf
       refine o_off hf ?_; clear hf a; intro a hf
       refine o_v hf hh (y_pf rfl rfl) ?_; clear hf a; intro a hf
       refine o_v hf hh (yv_assign rfl) ?_; clear hf a; intro a hf
       refine o_end ?_
       refine sy_ret ?_
       refine ret_r hf rfl rfl ?_
       first
         | (have hy : thB p t = false := by clear hf hh; unfold thB; simp_all
            exact ⟨congrArg Value.bool (prB_bad ht hy).symm, hh.ext⟩)
         | (have ev := prB_end (p := p) (fun s hs => hq s (by rw [List.take_of_length_le (by omega)]; exact hs))
            refine ⟨congrArg Value.bool ?_, hh.ext⟩
            rw [ev]
            clear hf hh ev
            unfold prH
            first
              | (simp_all; done)
              | (rw [Bool.eq_iff_iff]; simp_all <;> omega))
     ·have hG15 := hg15; try simp only [gS] at hG15
      refine o_off hf ?_; clear hf a; intro a hf
      refine o_off hf ?_; clear hf a; intro a hf
      refine o_off hf ?_; clear hf a; intro a hf
      refine o_v hf hh (y_pf rfl rfl) ?_; clear hf a; intro a hf
      refine o_v hf hh (yv_move rfl) ?_; clear hf a; intro a hf
      refine o_off hf ?_; clear hf a; intro a hf
      refine o_off hf ?_; clear hf a; intro a hf
      refine o_off hf ?_; clear hf a; intro a hf
      refine o_v hf hh (y_pf rfl rfl) ?_; clear hf a; intro a hf
      refine o_v hf hh (yv_move rfl) ?_; clear hf a; intro a hf
      refine o_off hf ?_; clear hf a; intro a hf
      refine o_off hf ?_; clear hf a; intro a hf
      refine o_off hf ?_; clear hf a; intro a hf
      refine o_v hf hh (y_pf rfl rfl) ?_; clear hf a; intro a hf
      refine o_v hf hh (yv_move rfl) ?_; clear hf a; intro a hf
      refine o_off hf ?_; clear hf a; intro a hf
      refine o_off hf ?_; clear hf a; intro a hf
      refine o_off hf ?_; clear hf a; intro a hf
      refine o_off hf ?_; clear hf a; intro a hf
      refine o_off hf ?_; clear hf a; intro a hf
      refine o_v hf hh (y_pf rfl rfl) ?_; clear hf a; intro a hf
      refine o_v hf hh (yv_assign rfl) ?_; clear hf a; intro a hf
      refine o_end ?_
      refine sy_ret ?_
      refine ret_r hf rfl rfl ?_
      first
        | (have hy : thB p t = false := by clear hf hh; unfold thB; simp_all
           exact ⟨congrArg Value.bool (prB_bad ht hy).symm, hh.ext⟩)
        | (have ev := prB_end (p := p) (fun s hs => hq s (by rw [List.take_of_length_le (by omega)]; exact hs))
           refine ⟨congrArg Value.bool ?_, hh.ext⟩
           rw [ev]
           clear hf hh ev
           unfold prH
           first
             | (simp_all; done)
             | (rw [Bool.eq_iff_iff]; simp_all <;> omega))
    ·have hG13 := hg13; try simp only [gS] at hG13
     refine o_off hf ?_; clear hf a; intro a hf
     refine o_off hf ?_; clear hf a; intro a hf
     refine o_off hf ?_; clear hf a; intro a hf
     refine o_v hf hh (y_pf rfl rfl) ?_; clear hf a; intro a hf
     refine o_v hf hh (yv_move rfl) ?_; clear hf a; intro a hf
     refine o_off hf ?_; clear hf a; intro a hf
     refine o_off hf ?_; clear hf a; intro a hf
     refine o_off hf ?_; clear hf a; intro a hf
     refine o_v hf hh (y_pf rfl rfl) ?_; clear hf a; intro a hf
     refine o_v hf hh (yv_move rfl) ?_; clear hf a; intro a hf
     refine o_off hf ?_; clear hf a; intro a hf
     refine o_off hf ?_; clear hf a; intro a hf
     refine o_off hf ?_; clear hf a; intro a hf
     refine o_v hf hh (y_pf rfl rfl) ?_; clear hf a; intro a hf
     refine o_v hf hh (yv_move rfl) ?_; clear hf a; intro a hf
     refine o_off hf ?_; clear hf a; intro a hf
     refine o_off hf ?_; clear hf a; intro a hf
     refine o_off hf ?_; clear hf a; intro a hf
     refine o_v hf hh (y_pf rfl rfl) ?_; clear hf a; intro a hf
     refine o_v hf hh (yv_move rfl) ?_; clear hf a; intro a hf
     refine o_off hf ?_; clear hf a; intro a hf
     refine o_off hf ?_; clear hf a; intro a hf
     refine o_off hf ?_; clear hf a; intro a hf
     refine o_off hf ?_; clear hf a; intro a hf
     refine o_off hf ?_; clear hf a; intro a hf
     refine o_v hf hh (y_pf rfl rfl) ?_; clear hf a; intro a hf
     refine o_v hf hh (yv_assign rfl) ?_; clear hf a; intro a hf
     refine o_end ?_
     refine sy_ret ?_
     refine ret_r hf rfl rfl ?_
     first
       | (have hy : thB p t = false := by clear hf hh; unfold thB; simp_all
          exact ⟨congrArg Value.bool (prB_bad ht hy).symm, hh.ext⟩)
       | (have ev := prB_end (p := p) (fun s hs => hq s (by rw [List.take_of_length_le (by omega)]; exact hs))
          refine ⟨congrArg Value.bool ?_, hh.ext⟩
          rw [ev]
          clear hf hh ev
          unfold prH
          first
            | (simp_all; done)
            | (rw [Bool.eq_iff_iff]; simp_all <;> omega))
end Go.Proofs.YtccpgpnekoncoaaGreatDoor

namespace Go.Proofs.YtccpgpnekoncoaaGreatDoor
open Go Go.Sy Go.PaiM
/-- The panic of what cannot be told. -/
abbrev misP (e : Int) : List PanicEntry := [{ v := .iface 135 (.agg #[.int .i64 e]), recovered := false }]
theorem c_need (b : Bool) (e : Int) (u : World) : Calls Tryz.prog 30 #[.bool b, .int .i64 e] u (RetX (fun v w' => b = true ∧ Ext [] u w') (fun ch w' => b = false ∧ ch = misP e ∧ Ext [] u w')) := by
  refine calls_ofX Tryz.func30 rfl rfl (fun a hf => ?_)
  have hh := Hp.init u []
  refine sy_sq ?_
  refine o_v hf hh (yv_move rfl) ?_; clear hf a; intro a hf
  refine o_v hf hh (yv_not rfl) ?_; clear hf a; intro a hf
  refine o_end ?_
  refine sy_cond hf rfl (fun hg2 => ?_) (fun hg2 => ?_)
  ·have hG2 := hg2; try simp only [gS] at hG2
   refine sy_ops ?_
   refine o_v hf hh (yv_move rfl) ?_; clear hf a; intro a hf
   refine o_v hf hh (yv_buildS Tryz.bs_135 rfl rfl) ?_; clear hf a; intro a hf
   refine o_v hf hh (yv_makeIface (by kernel_rfl) rfl) ?_; clear hf a; intro a hf
   refine o_panic hf fun hf => ?_
   refine pan_x hf ?_
   exact ⟨by simp_all, rfl, hh.ext⟩
  ·have hG2 := hg2; try simp only [gS] at hG2
   refine sy_skip ?_
   refine ret_xn ?_
   refine ret_n hf rfl rfl ?_
   exact ⟨by simp_all, hh.ext⟩
theorem c_spanP (s : Int × Int) (l h : Int) (w : World) : Calls Tryz.prog 101 #[spV s, .int .i64 l, .int .i64 h] w (Ret fun v w' => v = .bool (spP s l h) ∧ Ext [] w w') := by
  refine calls_of Tryz.func101 rfl rfl (fun a hf => ?_)
  have hh := Hp.init w []
  unfold spP
  refine sy_sq ?_
  refine o_box hf hh ?_; clear hf hh a; intro B3 a w hf hh
  refine o_v hf hh (yv_assign rfl) ?_; clear hf a; intro a hf
  refine o_end ?_
  refine sy_sq ?_
  refine o_v hf hh (yv_move rfl) ?_; clear hf a; intro a hf
  refine o_v hf hh (yv_fieldAddr Tryz.fo_35_0 rfl) ?_; clear hf a; intro a hf
  refine o_v hf hh (y_ld Tryz.sc_3 rfl) ?_; clear hf a; intro a hf
  refine o_v hf hh (yv_bin rfl rfl rfl) ?_; clear hf a; intro a hf
  refine o_v hf hh (yv_move rfl) ?_; clear hf a; intro a hf
  refine guard_split hf (t := 11) rfl (fun hg2 => ?_) (fun hg2 => ?_)
  ·have hG2 := hg2; try simp only [gS] at hG2
   refine o_v hf hh (yv_fieldAddr Tryz.fo_35_0 rfl) ?_; clear hf a; intro a hf
   refine o_v hf hh (y_ld Tryz.sc_3 rfl) ?_; clear hf a; intro a hf
   refine o_v hf hh (yv_fieldAddr Tryz.fo_35_1 rfl) ?_; clear hf a; intro a hf
   refine o_v hf hh (y_ld Tryz.sc_3 rfl) ?_; clear hf a; intro a hf
   refine o_v hf hh (yv_bin rfl rfl rfl) ?_; clear hf a; intro a hf
   refine o_v hf hh (y_pt rfl rfl) ?_; clear hf a; intro a hf
   refine o_v hf hh (yv_move rfl) ?_; clear hf a; intro a hf
   refine guard_split hf (t := 18) rfl (fun hg4 => ?_) (fun hg4 => ?_)
   ·have hG4 := hg4; try simp only [gS] at hG4
    refine o_v hf hh (yv_fieldAddr Tryz.fo_35_1 rfl) ?_; clear hf a; intro a hf
    refine o_v hf hh (y_ld Tryz.sc_3 rfl) ?_; clear hf a; intro a hf
    refine o_v hf hh (yv_move rfl) ?_; clear hf a; intro a hf
    refine o_v hf hh (yv_bin rfl rfl rfl) ?_; clear hf a; intro a hf
    refine o_v hf hh (y_pt rfl rfl) ?_; clear hf a; intro a hf
    refine o_v hf hh (yv_assign rfl) ?_; clear hf a; intro a hf
    refine o_end ?_
    refine sy_ret ?_
    refine ret_r hf rfl rfl ?_
    refine ⟨congrArg Value.bool ?_, hh.ext⟩
    clear hf hh
    first
      | (simp_all; done)
      | (simp only [*, Bool.false_and, Bool.and_false, Bool.true_and, Bool.and_true, Bool.not_true, Bool.not_false]; done)
      | (rw [Bool.eq_iff_iff]; simp_all <;> omega)
   ·have hG4 := hg4; try simp only [gS] at hG4
    refine o_off hf ?_; clear hf a; intro a hf
    refine o_off hf ?_; clear hf a; intro a hf
    refine o_off hf ?_; clear hf a; intro a hf
    refine o_off hf ?_; clear hf a; intro a hf
    refine o_v hf hh (y_pf rfl rfl) ?_; clear hf a; intro a hf
    refine o_v hf hh (yv_assign rfl) ?_; clear hf a; intro a hf
    refine o_end ?_
    refine sy_ret ?_
    refine ret_r hf rfl rfl ?_
    refine ⟨congrArg Value.bool ?_, hh.ext⟩
    clear hf hh
    first
      | (simp_all; done)
      | (simp only [*, Bool.false_and, Bool.and_false, Bool.true_and, Bool.and_true, Bool.not_true, Bool.not_false]; done)
      | (rw [Bool.eq_iff_iff]; simp_all <;> omega)
  ·have hG2 := hg2; try simp only [gS] at hG2
   refine o_off hf ?_; clear hf a; intro a hf
   refine o_off hf ?_; clear hf a; intro a hf
   refine o_off hf ?_; clear hf a; intro a hf
   refine o_off hf ?_; clear hf a; intro a hf
   refine o_off hf ?_; clear hf a; intro a hf
   refine o_v hf hh (y_pf rfl rfl) ?_; clear hf a; intro a hf
   refine o_v hf hh (yv_move rfl) ?_; clear hf a; intro a hf
   refine o_off hf ?_; clear hf a; intro a hf
   refine o_off hf ?_; clear hf a; intro a hf
   refine o_off hf ?_; clear hf a; intro a hf
   refine o_off hf ?_; clear hf a; intro a hf
   refine o_v hf hh (y_pf rfl rfl) ?_; clear hf a; intro a hf
   refine o_v hf hh (yv_assign rfl) ?_; clear hf a; intro a hf
   refine o_end ?_
   refine sy_ret ?_
   refine ret_r hf rfl rfl ?_
   refine ⟨congrArg Value.bool ?_, hh.ext⟩
   clear hf hh
   first
     | (simp_all; done)
     | (simp only [*, Bool.false_and, Bool.and_false, Bool.true_and, Bool.and_true, Bool.not_true, Bool.not_false]; done)
     | (rw [Bool.eq_iff_iff]; simp_all <;> omega)
theorem c_placeP (x y : Int × Int) (w : World) : Calls Tryz.prog 100 #[plV x y] w (Ret fun v w' => v = .bool (plP x y) ∧ Ext [] w w') := by
  refine calls_of Tryz.func100 rfl rfl (fun a hf => ?_)
  have hh := Hp.init w []
  unfold plP
  refine sy_sq ?_
  refine o_box hf hh ?_; clear hf hh a; intro B1 a w hf hh
  refine o_v hf hh (yv_assign rfl) ?_; clear hf a; intro a hf
  refine o_end ?_
  refine sy_sq ?_
  refine o_v hf hh (yv_fieldAddr Tryz.fo_44_0 rfl) ?_; clear hf a; intro a hf
  refine o_v hf hh (y_lds Tryz.ag_35 rfl) ?_; clear hf a; intro a hf
  refine o_call hf Tryz.en_101 rfl rfl rfl (c_spanP x (-4000) 4000 _) ?_; clear hf a; intro v a w hR hf
  obtain ⟨rfl, hx⟩ := hR; replace hh := hh.more hx; clear hx
  refine o_v hf hh (yv_move rfl) ?_; clear hf a; intro a hf
  refine guard_split hf (t := 6) rfl (fun hg2 => ?_) (fun hg2 => ?_)
  ·have hG2 := hg2; try simp only [gS] at hG2
   refine o_v hf hh (yv_fieldAddr Tryz.fo_44_1 rfl) ?_; clear hf a; intro a hf
   refine o_v hf hh (y_lds Tryz.ag_35 rfl) ?_; clear hf a; intro a hf
   refine o_call hf Tryz.en_101 rfl rfl rfl (c_spanP y (-4000) 4000 _) ?_; clear hf a; intro v a w hR hf
   obtain ⟨rfl, hx⟩ := hR; replace hh := hh.more hx; clear hx
   refine o_v hf hh (y_pt rfl rfl) ?_; clear hf a; intro a hf
   refine o_v hf hh (yv_assign rfl) ?_; clear hf a; intro a hf
   refine o_end ?_
   refine sy_ret ?_
   refine ret_r hf rfl rfl ?_
   refine ⟨congrArg Value.bool ?_, hh.ext⟩
   clear hf hh
   first
     | (simp_all; done)
     | (simp only [*, Bool.false_and, Bool.and_false, Bool.true_and, Bool.and_true, Bool.not_true, Bool.not_false]; done)
     | (rw [Bool.eq_iff_iff]; simp_all <;> omega)
  ·have hG2 := hg2; try simp only [gS] at hG2
   refine o_off hf ?_; clear hf a; intro a hf
   refine o_off hf ?_; clear hf a; intro a hf
   refine o_off hf ?_; clear hf a; intro a hf
   refine o_v hf hh (y_pf rfl rfl) ?_; clear hf a; intro a hf
   refine o_v hf hh (yv_assign rfl) ?_; clear hf a; intro a hf
   refine o_end ?_
   refine sy_ret ?_
   refine ret_r hf rfl rfl ?_
   refine ⟨congrArg Value.bool ?_, hh.ext⟩
   clear hf hh
   first
     | (simp_all; done)
     | (simp only [*, Bool.false_and, Bool.and_false, Bool.true_and, Bool.and_true, Bool.not_true, Bool.not_false]; done)
     | (rw [Bool.eq_iff_iff]; simp_all <;> omega)
theorem c_badT (p : PrD) (sa : Option Addr) (cp : Nat) (t : ThD) (Bf Bp : Nat) (u : World) (hf0 : u.heap[Bf]? = some (.cells #[.func (.func 100) #[] #[]] 143 (0, 0))) (hb0 : u.heap[Bp]? = some (.cells (prA p sa cp) 38 (0, 0))) : Calls Tryz.prog 102 #[.agg (thA t), ptr Bf 0, ptr Bp 0] u (Ret fun v w' => v = .bool (!thB p t) ∧ Ext [] u w') := by
  refine calls_of Tryz.func102 rfl rfl (fun a hf => ?_)
  have hh := Hp.init u []
  unfold thB
  refine sy_sq ?_
  refine o_box hf hh ?_; clear hf hh a; intro B3 a w hf hh
  refine o_v hf hh (yv_assign rfl) ?_; clear hf a; intro a hf
  refine o_end ?_
  refine sy_sq ?_
  refine o_v hf hh (y_ld Tryz.sc_143 rfl) ?_; clear hf a; intro a hf
  refine o_v hf hh (yv_fieldAddr Tryz.fo_46_0 rfl) ?_; clear hf a; intro a hf
  refine o_v hf hh (y_lds Tryz.ag_44 rfl) ?_; clear hf a; intro a hf
  refine o_call hf Tryz.en_100 rfl rfl rfl (c_placeP t.lx t.ly _) ?_; clear hf a; intro v a w hR hf
  obtain ⟨rfl, hx⟩ := hR; replace hh := hh.more hx; clear hx
  refine o_v hf hh (yv_not rfl) ?_; clear hf a; intro a hf
  refine o_v hf hh (yv_move rfl) ?_; clear hf a; intro a hf
  refine guard_split hf (t := 10) rfl (fun hg2 => ?_) (fun hg2 => ?_)
  ·have hG2 := hg2; try simp only [gS] at hG2
   refine o_off hf ?_; clear hf a; intro a hf
   refine o_off hf ?_; clear hf a; intro a hf
   refine o_off hf ?_; clear hf a; intro a hf
   refine o_off hf ?_; clear hf a; intro a hf
   refine o_off hf ?_; clear hf a; intro a hf
   refine o_v hf hh (y_pt rfl rfl) ?_; clear hf a; intro a hf
   refine o_v hf hh (yv_move rfl) ?_; clear hf a; intro a hf
   refine o_off hf ?_; clear hf a; intro a hf
   refine o_off hf ?_; clear hf a; intro a hf
   refine o_off hf ?_; clear hf a; intro a hf
   refine o_off hf ?_; clear hf a; intro a hf
   refine o_off hf ?_; clear hf a; intro a hf
   refine o_off hf ?_; clear hf a; intro a hf
   refine o_off hf ?_; clear hf a; intro a hf
   refine o_off hf ?_; clear hf a; intro a hf
   refine o_off hf ?_; clear hf a; intro a hf
   refine o_off hf ?_; clear hf a; intro a hf
   refine o_off hf ?_; clear hf a; intro a hf
   refine o_off hf ?_; clear hf a; intro a hf
   refine o_off hf ?_; clear hf a; intro a hf
   refine o_v hf hh (y_pt rfl rfl) ?_; clear hf a; intro a hf
   refine o_v hf hh (yv_assign rfl) ?_; clear hf a; intro a hf
   refine o_end ?_
   refine sy_ret ?_
   refine ret_r hf rfl rfl ?_
   refine ⟨congrArg Value.bool ?_, hh.ext⟩
   clear hf hh
   first
     | (simp_all; done)
     | (simp only [*, Bool.false_and, Bool.and_false, Bool.true_and, Bool.and_true, Bool.not_true, Bool.not_false]; done)
     | (rw [Bool.eq_iff_iff]; simp_all <;> omega)
  ·have hG2 := hg2; try simp only [gS] at hG2
   refine o_v hf hh (y_ld Tryz.sc_143 rfl) ?_; clear hf a; intro a hf
   refine o_v hf hh (yv_fieldAddr Tryz.fo_46_1 rfl) ?_; clear hf a; intro a hf
   refine o_v hf hh (y_lds Tryz.ag_44 rfl) ?_; clear hf a; intro a hf
   refine o_call hf Tryz.en_100 rfl rfl rfl (c_placeP t.rx t.ry _) ?_; clear hf a; intro v a w hR hf
   obtain ⟨rfl, hx⟩ := hR; replace hh := hh.more hx; clear hx
   refine o_v hf hh (yv_not rfl) ?_; clear hf a; intro a hf
   refine o_v hf hh (y_pf rfl rfl) ?_; clear hf a; intro a hf
   refine o_v hf hh (yv_move rfl) ?_; clear hf a; intro a hf
   refine guard_split hf (t := 17) rfl (fun hg4 => ?_) (fun hg4 => ?_)
   ·have hG4 := hg4; try simp only [gS] at hG4
    refine o_off hf ?_; clear hf a; intro a hf
    refine o_off hf ?_; clear hf a; intro a hf
    refine o_off hf ?_; clear hf a; intro a hf
    refine o_off hf ?_; clear hf a; intro a hf
    refine o_off hf ?_; clear hf a; intro a hf
    refine o_off hf ?_; clear hf a; intro a hf
    refine o_off hf ?_; clear hf a; intro a hf
    refine o_off hf ?_; clear hf a; intro a hf
    refine o_off hf ?_; clear hf a; intro a hf
    refine o_off hf ?_; clear hf a; intro a hf
    refine o_off hf ?_; clear hf a; intro a hf
    refine o_off hf ?_; clear hf a; intro a hf
    refine o_off hf ?_; clear hf a; intro a hf
    refine o_v hf hh (y_pt rfl rfl) ?_; clear hf a; intro a hf
    refine o_v hf hh (yv_assign rfl) ?_; clear hf a; intro a hf
    refine o_end ?_
    refine sy_ret ?_
    refine ret_r hf rfl rfl ?_
    refine ⟨congrArg Value.bool ?_, hh.ext⟩
    clear hf hh
    first
      | (simp_all; done)
      | (simp only [*, Bool.false_and, Bool.and_false, Bool.true_and, Bool.and_true, Bool.not_true, Bool.not_false]; done)
      | (rw [Bool.eq_iff_iff]; simp_all <;> omega)
   ·have hG4 := hg4; try simp only [gS] at hG4
    refine o_v hf hh (yv_fieldAddr Tryz.fo_46_2 rfl) ?_; clear hf a; intro a hf
    refine o_v hf hh (y_ld Tryz.sc_3 rfl) ?_; clear hf a; intro a hf
    refine o_v hf hh (yv_bin rfl rfl rfl) ?_; clear hf a; intro a hf
    refine o_v hf hh (yv_move rfl) ?_; clear hf a; intro a hf
    refine guard_split hf (t := 21) rfl (fun hg6 => ?_) (fun hg6 => ?_)
    ·have hG6 := hg6; try simp only [gS] at hG6
     refine o_v hf hh (yv_fieldAddr Tryz.fo_46_2 rfl) ?_; clear hf a; intro a hf
     refine o_v hf hh (y_ld Tryz.sc_3 rfl) ?_; clear hf a; intro a hf
     refine o_v hf hh (yv_fieldAddr Tryz.fo_38_3 rfl) ?_; clear hf a; intro a hf
     refine o_v hf hh (y_ld Tryz.sc_3 rfl) ?_; clear hf a; intro a hf
     refine o_v hf hh (yv_fieldAddr Tryz.fo_38_4 rfl) ?_; clear hf a; intro a hf
     refine o_v hf hh (y_ld Tryz.sc_3 rfl) ?_; clear hf a; intro a hf
     refine o_call hf Tryz.en_31 rfl rfl rfl (c_wthn t.far p.near p.far _) ?_; clear hf a; intro v a w hR hf
     obtain ⟨rfl, hx⟩ := hR; replace hh := hh.more hx; clear hx
     refine o_v hf hh (yv_not rfl) ?_; clear hf a; intro a hf
     refine o_v hf hh (y_pt rfl rfl) ?_; clear hf a; intro a hf
     refine o_v hf hh (y_pf rfl rfl) ?_; clear hf a; intro a hf
     refine o_v hf hh (yv_assign rfl) ?_; clear hf a; intro a hf
     refine o_end ?_
     refine sy_ret ?_
     refine ret_r hf rfl rfl ?_
     refine ⟨congrArg Value.bool ?_, hh.ext⟩
     clear hf hh
     first
       | (simp_all; done)
       | (simp only [*, Bool.false_and, Bool.and_false, Bool.true_and, Bool.and_true, Bool.not_true, Bool.not_false]; done)
       | (rw [Bool.eq_iff_iff]; simp_all <;> omega)
    ·have hG6 := hg6; try simp only [gS] at hG6
     refine o_off hf ?_; clear hf a; intro a hf
     refine o_off hf ?_; clear hf a; intro a hf
     refine o_off hf ?_; clear hf a; intro a hf
     refine o_off hf ?_; clear hf a; intro a hf
     refine o_off hf ?_; clear hf a; intro a hf
     refine o_off hf ?_; clear hf a; intro a hf
     refine o_off hf ?_; clear hf a; intro a hf
     refine o_off hf ?_; clear hf a; intro a hf
     refine o_v hf hh (y_pf rfl rfl) ?_; clear hf a; intro a hf
     refine o_v hf hh (y_pf rfl rfl) ?_; clear hf a; intro a hf
     refine o_v hf hh (yv_assign rfl) ?_; clear hf a; intro a hf
     refine o_end ?_
     refine sy_ret ?_
     refine ret_r hf rfl rfl ?_
     refine ⟨congrArg Value.bool ?_, hh.ext⟩
     clear hf hh
     first
       | (simp_all; done)
       | (simp only [*, Bool.false_and, Bool.and_false, Bool.true_and, Bool.and_true, Bool.not_true, Bool.not_false]; done)
       | (rw [Bool.eq_iff_iff]; simp_all <;> omega)
theorem any_take {f : ThD → Bool} {l : List ThD} (h : ∀ t ∈ l, f t = false) : l.any f = false := by
  rw [List.any_eq_false]; intro t ht; rw [h t ht]; simp
theorem any_hit {f : ThD → Bool} {l : List ThD} {i : Nat} {t : ThD} (h : l[i]? = some t) (hf : f t = true) : l.any f = true := List.any_eq_true.2 ⟨t, List.mem_of_getElem? h, hf⟩
theorem c_index (f : ThD → Bool) (l : List ThD) (sa : Option Addr) (cp F : Nat) (cs : Array Value) (u : World) (hA : ThAt u sa l) (hl : l.length ≤ 9223372036854775807) (hE : Enters Tryz.prog F) (hc : ∀ t ∈ l, ∀ w1 : World, Ext [] u w1 → Calls Tryz.prog F (#[.agg (thA t)] ++ cs) w1 (Ret fun v w2 => v = .bool (f t) ∧ Ext [] w1 w2)) : Calls Tryz.prog 115 #[.slice sa l.length cp, .func (.func F) #[] cs] u (Ret fun v w' => ∃ n : Int, v = .int .i64 n ∧ decide (0 ≤ n) = l.any f ∧ Ext [] u w') := by
  refine calls_of Tryz.func115 rfl rfl (fun a hf => ?_)
  have hh := Hp.init u []
  refine sy_sq ?_
  refine o_v hf hh (yv_assign rfl) ?_; clear hf a; intro a hf
  refine o_end ?_
  refine sy_seq ?_
  refine sy_sq ?_
  refine o_v hf hh (yv_move rfl) ?_; clear hf a; intro a hf
  refine o_v hf hh (yv_len Tryz.se_36 rfl) ?_; clear hf a; intro a hf
  refine o_v hf hh (yv_move rfl) ?_; clear hf a; intro a hf
  refine o_end ?_
  refine sy_block ?_
  refine sy_loopH (σ := Nat) [4, 5, 8, 9, 10, 11, 12, 13, 14, 15, 16, 17, 18] (fun i => [(8, .int .i64 (i : Nat))]) (fun i => fun w' => i ≤ l.length ∧ (∀ t ∈ l.take i, (!f t) = true) ∧ Hp u [] [] w') (fun i => l.length - i) (0) hf ?_ ?_ ?_
  · repeat' (first | exact True.intro | refine And.intro rfl ?_)
  · exact ⟨Nat.zero_le _, (fun x hx => by simp at hx), hh⟩
  ·rintro i a w ⟨hi, hq, hh⟩ hf
   refine sy_sq ?_
   refine o_v hf hh (yv_bin rfl rfl rfl) ?_; clear hf a; intro a hf
   refine o_end ?_
   refine sy_seq ?_
   refine sy_cond hf rfl (fun hg2 => ?_) (fun hg2 => ?_)
   ·have hG2 := hg2; try simp only [gS] at hG2
    refine sy_skip ?_
    refine then_n ?_
    refine sy_seq ?_
    refine sy_block ?_
    refine sy_sq ?_
    refine o_v hf hh (yv_move rfl) ?_; clear hf a; intro a hf
    refine o_v hf hh (yv_assign rfl) ?_; clear hf a; intro a hf
    refine o_end ?_
    refine sy_seq ?_
    obtain ⟨t, ht⟩ := ex_ofP (l := l) (i := i) (by omega)
    obtain ⟨blk, off, cc, TT, fr, esa, hb2, hcc⟩ := hA i t ht
    refine sy_ops ?_
    refine o_v hf hh (yv_move rfl) ?_; clear hf a; intro a hf
    refine o_v hf hh (yv_move rfl) ?_; clear hf a; intro a hf
    refine o_v hf hh (yv_move rfl) ?_; clear hf a; intro a hf
    refine o_v hf hh (y_ix Tryz.se_36 (congrArg (fun z => some (Value.slice z l.length cp)) esa) rfl) ?_; clear hf a; intro a hf
    refine o_v hf hh (y_lds Tryz.ag_46 rfl) ?_; clear hf a; intro a hf
    refine o_call hf hE rfl rfl rfl (hc t (List.mem_of_getElem? ht) w hh.ext) ?_; clear hf a; intro v a w hR hf
    obtain ⟨rfl, hx⟩ := hR; replace hh := hh.more hx; clear hx
    refine o_end ?_
    refine sy_cond hf rfl (fun hg5 => ?_) (fun hg5 => ?_)
    ·have hG5 := hg5; try simp only [gS] at hG5
     refine sy_sq ?_
     refine o_v hf hh (yv_move rfl) ?_; clear hf a; intro a hf
     refine o_v hf hh (yv_assign rfl) ?_; clear hf a; intro a hf
     refine o_end ?_
     refine sy_ret ?_
     refine blk_r ?_
     refine then_r ?_
     refine then_r ?_
     refine blk_r ?_
     refine then_r ?_
     refine ret_r hf rfl rfl ?_
     first
       | exact ⟨_, rfl, by rw [any_hit ht (by assumption)]; exact decide_eq_true (by omega), hh.ext⟩
       | exact ⟨-1, rfl, by rw [any_take (fun s hs => by have := hq s (by rw [List.take_of_length_le (by omega)]; exact hs); simpa using this)]; rfl, hh.ext⟩
    ·have hG5 := hg5; try simp only [gS] at hG5
     refine sy_skip ?_
     refine blk_n ?_
     refine then_n ?_
     refine sy_ops ?_
     refine o_v hf hh (y_add rfl rfl) ?_; clear hf a; intro a hf
     refine o_v hf hh (yv_move rfl) ?_; clear hf a; intro a hf
     refine ops_end ?_
     refine then_n ?_
     exact ⟨i + 1, ⟨⟨by omega, take_allP hq ht (by simp_all), hh⟩, (hf.head (by repeat' (first | exact True.intro | refine And.intro rfl ?_)) (Keep.cons rfl (Keep.cons rfl (Keep.cons rfl (Keep.cons rfl (Keep.cons rfl (Keep.cons rfl (Keep.cons rfl (Keep.cons rfl (Keep.cons rfl (Keep.cons rfl (Keep.cons rfl (Keep.app rfl (Keep.rm rfl Keep.base))))))))))))))⟩, by omega⟩
   ·have hG2 := hg2; try simp only [gS] at hG2
    refine sy_exit ?_
    refine then_e ?_
    refine then_e ?_
    refine blk_e ?_
    refine then_n ?_
    refine sy_sq ?_
    refine o_v hf hh (yv_assign rfl) ?_; clear hf a; intro a hf
    refine o_end ?_
    refine sy_ret ?_
    refine ret_r hf rfl rfl ?_
    first
      | exact ⟨_, rfl, by rw [any_hit ht (by assumption)]; exact decide_eq_true (by omega), hh.ext⟩
      | exact ⟨-1, rfl, by rw [any_take (fun s hs => by have := hq s (by rw [List.take_of_length_le (by omega)]; exact hs); simpa using this)]; rfl, hh.ext⟩
theorem c_contains (f : ThD → Bool) (l : List ThD) (sa : Option Addr) (cp F : Nat) (cs : Array Value) (u : World) (hA : ThAt u sa l) (hl : l.length ≤ 9223372036854775807) (hE : Enters Tryz.prog F) (hc : ∀ t ∈ l, ∀ w1 : World, Ext [] u w1 → Calls Tryz.prog F (#[.agg (thA t)] ++ cs) w1 (Ret fun v w2 => v = .bool (f t) ∧ Ext [] w1 w2)) : Calls Tryz.prog 103 #[.slice sa l.length cp, .func (.func F) #[] cs] u (Ret fun v w' => v = .bool (l.any f) ∧ Ext [] u w') := by
  refine calls_of Tryz.func103 rfl rfl (fun a hf => ?_)
  have hh := Hp.init u []
  refine sy_sq ?_
  refine o_v hf hh (yv_assign rfl) ?_; clear hf a; intro a hf
  refine o_end ?_
  refine sy_sq ?_
  refine o_v hf hh (yv_move rfl) ?_; clear hf a; intro a hf
  refine o_v hf hh (yv_move rfl) ?_; clear hf a; intro a hf
  refine o_call hf Tryz.en_115 rfl rfl rfl (c_index f l sa cp F cs u hA hl hE hc) ?_; clear hf a; intro v a w hR hf
  obtain ⟨n, rfl, hn, hx⟩ := hR; replace hh := hh.more hx; clear hx
  refine o_v hf hh (yv_bin rfl rfl rfl) ?_; clear hf a; intro a hf
  refine o_v hf hh (yv_assign rfl) ?_; clear hf a; intro a hf
  refine o_end ?_
  refine sy_ret ?_
  refine ret_r hf rfl rfl ?_
  exact ⟨congrArg Value.bool (by rw [← hn]), hh.ext⟩
set_option maxRecDepth 100000 in
theorem c_isPair (p : PrD) (sa : Option Addr) (cp : Nat) (u : World) (hA : ThAt u sa p.th) (hl : p.th.length ≤ 9223372036854775807) : Calls Tryz.prog 64 #[.agg (prA p sa cp)] u (Ret fun v w' => v = .bool (prB p) ∧ Ext [] u w') := by
  refine calls_of Tryz.func64 rfl rfl (fun a hf => ?_)
  have hh := Hp.init u []
  have e0 : prB p = (spP p.fo 1 50000 && spP p.ba 1 10000 && inP p.tilt 0 1000 && inP p.near 2000 1073741824 && inP p.far p.near 1073741824 && decide ((p.th.length : Int) ≤ 12) && !p.th.any fun t => !thB p t) := by
    unfold prB
    rw [show decide ((p.th.length : Int) ≤ 12) = decide (p.th.length ≤ 12) from by rw [decide_eq_decide]; omega, List.not_any_eq_all_not]
    simp only [Bool.not_not]
  rw [e0]; clear e0
  refine sy_sq ?_
  refine o_box hf hh ?_; clear hf hh a; intro B1 a w hf hh
  refine o_v hf hh (yv_assign rfl) ?_; clear hf a; intro a hf
  refine o_end ?_
  refine sy_sq ?_
  refine o_alloc hf hh Tryz.ze_143 ?_; clear hf hh a; intro B3 a w hf hh
  refine o_store hf hh Tryz.sz_143 fun w hh => ?_
  refine o_end ?_
  refine sy_sq ?_
  refine o_v hf hh (yv_makeFunc rfl rfl) ?_; clear hf a; intro a hf
  refine o_v hf hh (yv_assign rfl) ?_; clear hf a; intro a hf
  refine o_end ?_
  refine sy_sq ?_
  refine o_v hf hh (yv_fieldAddr Tryz.fo_38_0 rfl) ?_; clear hf a; intro a hf
  refine o_v hf hh (y_lds Tryz.ag_35 rfl) ?_; clear hf a; intro a hf
  refine o_call hf Tryz.en_101 rfl rfl rfl (c_spanP p.fo 1 50000 _) ?_; clear hf a; intro v a w hR hf
  obtain ⟨rfl, hx⟩ := hR; replace hh := hh.more hx; clear hx
  refine o_v hf hh (yv_move rfl) ?_; clear hf a; intro a hf
  refine guard_split hf (t := 10) rfl (fun hg2 => ?_) (fun hg2 => ?_)
  ·have hG2 := hg2; try simp only [gS] at hG2
   refine o_v hf hh (yv_fieldAddr Tryz.fo_38_1 rfl) ?_; clear hf a; intro a hf
   refine o_v hf hh (y_lds Tryz.ag_35 rfl) ?_; clear hf a; intro a hf
   refine o_call hf Tryz.en_101 rfl rfl rfl (c_spanP p.ba 1 10000 _) ?_; clear hf a; intro v a w hR hf
   obtain ⟨rfl, hx⟩ := hR; replace hh := hh.more hx; clear hx
   refine o_v hf hh (y_pt rfl rfl) ?_; clear hf a; intro a hf
   refine o_v hf hh (yv_move rfl) ?_; clear hf a; intro a hf
   refine guard_split hf (t := 15) rfl (fun hg4 => ?_) (fun hg4 => ?_)
   ·have hG4 := hg4; try simp only [gS] at hG4
    refine o_v hf hh (yv_fieldAddr Tryz.fo_38_2 rfl) ?_; clear hf a; intro a hf
    refine o_v hf hh (y_ld Tryz.sc_3 rfl) ?_; clear hf a; intro a hf
    refine o_call hf Tryz.en_31 rfl rfl rfl (c_wthn p.tilt 0 1000 _) ?_; clear hf a; intro v a w hR hf
    obtain ⟨rfl, hx⟩ := hR; replace hh := hh.more hx; clear hx
    refine o_v hf hh (y_pt rfl rfl) ?_; clear hf a; intro a hf
    refine o_v hf hh (yv_assign rfl) ?_; clear hf a; intro a hf
    refine o_end ?_
    refine sy_sq ?_
    refine o_v hf hh (yv_move rfl) ?_; clear hf a; intro a hf
    refine o_v hf hh (yv_move rfl) ?_; clear hf a; intro a hf
    refine guard_split hf (t := 21) rfl (fun hg6 => ?_) (fun hg6 => ?_)
    ·have hG6 := hg6; try simp only [gS] at hG6
     refine o_v hf hh (yv_fieldAddr Tryz.fo_38_3 rfl) ?_; clear hf a; intro a hf
     refine o_v hf hh (y_ld Tryz.sc_3 rfl) ?_; clear hf a; intro a hf
     refine o_call hf Tryz.en_31 rfl rfl rfl (c_wthn p.near 2000 1073741824 _) ?_; clear hf a; intro v a w hR hf
     obtain ⟨rfl, hx⟩ := hR; replace hh := hh.more hx; clear hx
     refine o_v hf hh (y_pt rfl rfl) ?_; clear hf a; intro a hf
     refine o_v hf hh (yv_move rfl) ?_; clear hf a; intro a hf
     refine guard_split hf (t := 26) rfl (fun hg8 => ?_) (fun hg8 => ?_)
     ·have hG8 := hg8; try simp only [gS] at hG8
      refine o_v hf hh (yv_fieldAddr Tryz.fo_38_4 rfl) ?_; clear hf a; intro a hf
      refine o_v hf hh (y_ld Tryz.sc_3 rfl) ?_; clear hf a; intro a hf
      refine o_v hf hh (yv_fieldAddr Tryz.fo_38_3 rfl) ?_; clear hf a; intro a hf
      refine o_v hf hh (y_ld Tryz.sc_3 rfl) ?_; clear hf a; intro a hf
      refine o_call hf Tryz.en_31 rfl rfl rfl (c_wthn p.far p.near 1073741824 _) ?_; clear hf a; intro v a w hR hf
      obtain ⟨rfl, hx⟩ := hR; replace hh := hh.more hx; clear hx
      refine o_v hf hh (y_pt rfl rfl) ?_; clear hf a; intro a hf
      refine o_v hf hh (yv_move rfl) ?_; clear hf a; intro a hf
      refine guard_split hf (t := 33) rfl (fun hg10 => ?_) (fun hg10 => ?_)
      ·have hG10 := hg10; try simp only [gS] at hG10
       refine o_v hf hh (yv_fieldAddr Tryz.fo_38_5 rfl) ?_; clear hf a; intro a hf
       refine o_v hf hh (y_ld Tryz.sc_36 rfl) ?_; clear hf a; intro a hf
       refine o_v hf hh (yv_len Tryz.se_36 rfl) ?_; clear hf a; intro a hf
       refine o_v hf hh (yv_bin rfl rfl rfl) ?_; clear hf a; intro a hf
       refine o_v hf hh (y_pt rfl rfl) ?_; clear hf a; intro a hf
       refine o_v hf hh (yv_move rfl) ?_; clear hf a; intro a hf
       refine guard_split hf (t := 39) rfl (fun hg12 => ?_) (fun hg12 => ?_)
       ·have hG12 := hg12; try simp only [gS] at hG12
        refine o_v hf hh (yv_fieldAddr Tryz.fo_38_5 rfl) ?_; clear hf a; intro a hf
        refine o_v hf hh (y_ld Tryz.sc_36 rfl) ?_; clear hf a; intro a hf
        refine o_v hf hh (yv_move rfl) ?_; clear hf a; intro a hf
        refine o_call hf Tryz.en_103 rfl rfl rfl (c_contains (fun t => !thB p t) p.th sa cp 102 #[ptr B3 0, ptr B1 0] _ (hA.ext hh.ext) hl Tryz.en_102 (fun t _ w1 e => c_badT p sa cp t B3 B1 w1 (e.get (hh.at (i := 0) rfl)) (e.get (hh.at (i := 1) rfl)))) ?_; clear hf a; intro v a w hR hf
        obtain ⟨rfl, hx⟩ := hR; replace hh := hh.more hx; clear hx
        refine o_v hf hh (yv_not rfl) ?_; clear hf a; intro a hf
        refine o_v hf hh (y_pt rfl rfl) ?_; clear hf a; intro a hf
        refine o_v hf hh (yv_assign rfl) ?_; clear hf a; intro a hf
        refine o_end ?_
        refine sy_ret ?_
        refine ret_r hf rfl rfl ?_
        refine ⟨congrArg Value.bool ?_, hh.ext⟩
        clear hf hh
        first
          | (simp_all; done)
          | (simp only [*, Bool.false_and, Bool.and_false, Bool.true_and, Bool.and_true, Bool.not_true, Bool.not_false]; done)
          | (rw [Bool.eq_iff_iff]; simp_all <;> omega)
       ·have hG12 := hg12; try simp only [gS] at hG12
        refine o_off hf ?_; clear hf a; intro a hf
        refine o_off hf ?_; clear hf a; intro a hf
        refine o_off hf ?_; clear hf a; intro a hf
        refine o_off hf ?_; clear hf a; intro a hf
        refine o_off hf ?_; clear hf a; intro a hf
        refine o_v hf hh (y_pf rfl rfl) ?_; clear hf a; intro a hf
        refine o_v hf hh (yv_assign rfl) ?_; clear hf a; intro a hf
        refine o_end ?_
        refine sy_ret ?_
        refine ret_r hf rfl rfl ?_
        refine ⟨congrArg Value.bool ?_, hh.ext⟩
        clear hf hh
        first
          | (simp_all; done)
          | (simp only [*, Bool.false_and, Bool.and_false, Bool.true_and, Bool.and_true, Bool.not_true, Bool.not_false]; done)
          | (rw [Bool.eq_iff_iff]; simp_all <;> omega)
      ·have hG10 := hg10; try simp only [gS] at hG10
       refine o_off hf ?_; clear hf a; intro a hf
       refine o_off hf ?_; clear hf a; intro a hf
       refine o_off hf ?_; clear hf a; intro a hf
       refine o_off hf ?_; clear hf a; intro a hf
       refine o_v hf hh (y_pf rfl rfl) ?_; clear hf a; intro a hf
       refine o_v hf hh (yv_move rfl) ?_; clear hf a; intro a hf
       refine o_off hf ?_; clear hf a; intro a hf
       refine o_off hf ?_; clear hf a; intro a hf
       refine o_off hf ?_; clear hf a; intro a hf
       refine o_off hf ?_; clear hf a; intro a hf
       refine o_off hf ?_; clear hf a; intro a hf
       refine o_v hf hh (y_pf rfl rfl) ?_; clear hf a; intro a hf
       refine o_v hf hh (yv_assign rfl) ?_; clear hf a; intro a hf
       refine o_end ?_
       refine sy_ret ?_
       refine ret_r hf rfl rfl ?_
       refine ⟨congrArg Value.bool ?_, hh.ext⟩
       clear hf hh
       first
         | (simp_all; done)
         | (simp only [*, Bool.false_and, Bool.and_false, Bool.true_and, Bool.and_true, Bool.not_true, Bool.not_false]; done)
         | (rw [Bool.eq_iff_iff]; simp_all <;> omega)
     ·have hG8 := hg8; try simp only [gS] at hG8
      refine o_off hf ?_; clear hf a; intro a hf
      refine o_off hf ?_; clear hf a; intro a hf
      refine o_off hf ?_; clear hf a; intro a hf
      refine o_off hf ?_; clear hf a; intro a hf
      refine o_off hf ?_; clear hf a; intro a hf
      refine o_v hf hh (y_pf rfl rfl) ?_; clear hf a; intro a hf
      refine o_v hf hh (yv_move rfl) ?_; clear hf a; intro a hf
      refine o_off hf ?_; clear hf a; intro a hf
      refine o_off hf ?_; clear hf a; intro a hf
      refine o_off hf ?_; clear hf a; intro a hf
      refine o_off hf ?_; clear hf a; intro a hf
      refine o_v hf hh (y_pf rfl rfl) ?_; clear hf a; intro a hf
      refine o_v hf hh (yv_move rfl) ?_; clear hf a; intro a hf
      refine o_off hf ?_; clear hf a; intro a hf
      refine o_off hf ?_; clear hf a; intro a hf
      refine o_off hf ?_; clear hf a; intro a hf
      refine o_off hf ?_; clear hf a; intro a hf
      refine o_off hf ?_; clear hf a; intro a hf
      refine o_v hf hh (y_pf rfl rfl) ?_; clear hf a; intro a hf
      refine o_v hf hh (yv_assign rfl) ?_; clear hf a; intro a hf
      refine o_end ?_
      refine sy_ret ?_
      refine ret_r hf rfl rfl ?_
      refine ⟨congrArg Value.bool ?_, hh.ext⟩
      clear hf hh
      first
        | (simp_all; done)
        | (simp only [*, Bool.false_and, Bool.and_false, Bool.true_and, Bool.and_true, Bool.not_true, Bool.not_false]; done)
        | (rw [Bool.eq_iff_iff]; simp_all <;> omega)
    ·have hG6 := hg6; try simp only [gS] at hG6
     refine o_off hf ?_; clear hf a; intro a hf
     refine o_off hf ?_; clear hf a; intro a hf
     refine o_off hf ?_; clear hf a; intro a hf
     refine o_v hf hh (y_pf rfl rfl) ?_; clear hf a; intro a hf
     refine o_v hf hh (yv_move rfl) ?_; clear hf a; intro a hf
     refine o_off hf ?_; clear hf a; intro a hf
     refine o_off hf ?_; clear hf a; intro a hf
     refine o_off hf ?_; clear hf a; intro a hf
     refine o_off hf ?_; clear hf a; intro a hf
     refine o_off hf ?_; clear hf a; intro a hf
     refine o_v hf hh (y_pf rfl rfl) ?_; clear hf a; intro a hf
     refine o_v hf hh (yv_move rfl) ?_; clear hf a; intro a hf
     refine o_off hf ?_; clear hf a; intro a hf
     refine o_off hf ?_; clear hf a; intro a hf
     refine o_off hf ?_; clear hf a; intro a hf
     refine o_off hf ?_; clear hf a; intro a hf
     refine o_v hf hh (y_pf rfl rfl) ?_; clear hf a; intro a hf
     refine o_v hf hh (yv_move rfl) ?_; clear hf a; intro a hf
     refine o_off hf ?_; clear hf a; intro a hf
     refine o_off hf ?_; clear hf a; intro a hf
     refine o_off hf ?_; clear hf a; intro a hf
     refine o_off hf ?_; clear hf a; intro a hf
     refine o_off hf ?_; clear hf a; intro a hf
     refine o_v hf hh (y_pf rfl rfl) ?_; clear hf a; intro a hf
     refine o_v hf hh (yv_assign rfl) ?_; clear hf a; intro a hf
     refine o_end ?_
     refine sy_ret ?_
     refine ret_r hf rfl rfl ?_
     refine ⟨congrArg Value.bool ?_, hh.ext⟩
     clear hf hh
     first
       | (simp_all; done)
       | (simp only [*, Bool.false_and, Bool.and_false, Bool.true_and, Bool.and_true, Bool.not_true, Bool.not_false]; done)
       | (rw [Bool.eq_iff_iff]; simp_all <;> omega)
   ·have hG4 := hg4; try simp only [gS] at hG4
    refine o_off hf ?_; clear hf a; intro a hf
    refine o_off hf ?_; clear hf a; intro a hf
    refine o_off hf ?_; clear hf a; intro a hf
    refine o_v hf hh (y_pf rfl rfl) ?_; clear hf a; intro a hf
    refine o_v hf hh (yv_assign rfl) ?_; clear hf a; intro a hf
    refine o_end ?_
    refine sy_sq ?_
    refine o_v hf hh (yv_move rfl) ?_; clear hf a; intro a hf
    refine o_v hf hh (yv_move rfl) ?_; clear hf a; intro a hf
    refine o_off hf ?_; clear hf a; intro a hf
    refine o_off hf ?_; clear hf a; intro a hf
    refine o_off hf ?_; clear hf a; intro a hf
    refine o_v hf hh (y_pf rfl rfl) ?_; clear hf a; intro a hf
    refine o_v hf hh (yv_move rfl) ?_; clear hf a; intro a hf
    refine o_off hf ?_; clear hf a; intro a hf
    refine o_off hf ?_; clear hf a; intro a hf
    refine o_off hf ?_; clear hf a; intro a hf
    refine o_off hf ?_; clear hf a; intro a hf
    refine o_off hf ?_; clear hf a; intro a hf
    refine o_v hf hh (y_pf rfl rfl) ?_; clear hf a; intro a hf
    refine o_v hf hh (yv_move rfl) ?_; clear hf a; intro a hf
    refine o_off hf ?_; clear hf a; intro a hf
    refine o_off hf ?_; clear hf a; intro a hf
    refine o_off hf ?_; clear hf a; intro a hf
    refine o_off hf ?_; clear hf a; intro a hf
    refine o_v hf hh (y_pf rfl rfl) ?_; clear hf a; intro a hf
    refine o_v hf hh (yv_move rfl) ?_; clear hf a; intro a hf
    refine o_off hf ?_; clear hf a; intro a hf
    refine o_off hf ?_; clear hf a; intro a hf
    refine o_off hf ?_; clear hf a; intro a hf
    refine o_off hf ?_; clear hf a; intro a hf
    refine o_off hf ?_; clear hf a; intro a hf
    refine o_v hf hh (y_pf rfl rfl) ?_; clear hf a; intro a hf
    refine o_v hf hh (yv_assign rfl) ?_; clear hf a; intro a hf
    refine o_end ?_
    refine sy_ret ?_
    refine ret_r hf rfl rfl ?_
    refine ⟨congrArg Value.bool ?_, hh.ext⟩
    clear hf hh
    first
      | (simp_all; done)
      | (simp only [*, Bool.false_and, Bool.and_false, Bool.true_and, Bool.and_true, Bool.not_true, Bool.not_false]; done)
      | (rw [Bool.eq_iff_iff]; simp_all <;> omega)
  ·have hG2 := hg2; try simp only [gS] at hG2
   refine o_off hf ?_; clear hf a; intro a hf
   refine o_off hf ?_; clear hf a; intro a hf
   refine o_off hf ?_; clear hf a; intro a hf
   refine o_v hf hh (y_pf rfl rfl) ?_; clear hf a; intro a hf
   refine o_v hf hh (yv_move rfl) ?_; clear hf a; intro a hf
   refine o_off hf ?_; clear hf a; intro a hf
   refine o_off hf ?_; clear hf a; intro a hf
   refine o_off hf ?_; clear hf a; intro a hf
   refine o_v hf hh (y_pf rfl rfl) ?_; clear hf a; intro a hf
   refine o_v hf hh (yv_assign rfl) ?_; clear hf a; intro a hf
   refine o_end ?_
   refine sy_sq ?_
   refine o_v hf hh (yv_move rfl) ?_; clear hf a; intro a hf
   refine o_v hf hh (yv_move rfl) ?_; clear hf a; intro a hf
   refine o_off hf ?_; clear hf a; intro a hf
   refine o_off hf ?_; clear hf a; intro a hf
   refine o_off hf ?_; clear hf a; intro a hf
   refine o_v hf hh (y_pf rfl rfl) ?_; clear hf a; intro a hf
   refine o_v hf hh (yv_move rfl) ?_; clear hf a; intro a hf
   refine o_off hf ?_; clear hf a; intro a hf
   refine o_off hf ?_; clear hf a; intro a hf
   refine o_off hf ?_; clear hf a; intro a hf
   refine o_off hf ?_; clear hf a; intro a hf
   refine o_off hf ?_; clear hf a; intro a hf
   refine o_v hf hh (y_pf rfl rfl) ?_; clear hf a; intro a hf
   refine o_v hf hh (yv_move rfl) ?_; clear hf a; intro a hf
   refine o_off hf ?_; clear hf a; intro a hf
   refine o_off hf ?_; clear hf a; intro a hf
   refine o_off hf ?_; clear hf a; intro a hf
   refine o_off hf ?_; clear hf a; intro a hf
   refine o_v hf hh (y_pf rfl rfl) ?_; clear hf a; intro a hf
   refine o_v hf hh (yv_move rfl) ?_; clear hf a; intro a hf
   refine o_off hf ?_; clear hf a; intro a hf
   refine o_off hf ?_; clear hf a; intro a hf
   refine o_off hf ?_; clear hf a; intro a hf
   refine o_off hf ?_; clear hf a; intro a hf
   refine o_off hf ?_; clear hf a; intro a hf
   refine o_v hf hh (y_pf rfl rfl) ?_; clear hf a; intro a hf
   refine o_v hf hh (yv_assign rfl) ?_; clear hf a; intro a hf
   refine o_end ?_
   refine sy_ret ?_
   refine ret_r hf rfl rfl ?_
   refine ⟨congrArg Value.bool ?_, hh.ext⟩
   clear hf hh
   first
     | (simp_all; done)
     | (simp only [*, Bool.false_and, Bool.and_false, Bool.true_and, Bool.and_true, Bool.not_true, Bool.not_false]; done)
     | (rw [Bool.eq_iff_iff]; simp_all <;> omega)
end Go.Proofs.YtccpgpnekoncoaaGreatDoor

namespace Go.Proofs.YtccpgpnekoncoaaGreatDoor
open Go Go.Sy Go.PaiM
def narI (x y : Int × Int) (i : Nat) : Int × Int := if i = 0 then x else nar x y
theorem narI_hi (x y : Int × Int) : narI x y 1 = nar x y := rfl
theorem c_shift (t : ThD) (u : World) (h1 : -4000 ≤ t.lx.1 ∧ t.lx.1 ≤ 4000) (h2 : -4000 ≤ t.lx.2 ∧ t.lx.2 ≤ 4000) (h3 : -4000 ≤ t.rx.1 ∧ t.rx.1 ≤ 4000) (h4 : -4000 ≤ t.rx.2 ∧ t.rx.2 ≤ 4000) : Calls Tryz.prog 67 #[.agg (thA t)] u (Ret fun v w' => v = spV (shf t) ∧ Ext [] u w') := by
  refine calls_of Tryz.func67 rfl rfl (fun a hf => ?_)
  have hh := Hp.init u []
  refine sy_sq ?_
  refine o_box hf hh ?_; clear hf hh a; intro B1 a w hf hh
  refine o_alloc hf hh Tryz.ze_35 ?_; clear hf hh a; intro B2 a w hf hh
  refine o_end ?_
  refine sy_sq ?_
  refine o_v hf hh (yv_fieldAddr Tryz.fo_46_0 rfl) ?_; clear hf a; intro a hf
  refine o_v hf hh (yv_fieldAddr Tryz.fo_44_0 rfl) ?_; clear hf a; intro a hf
  refine o_v hf hh (yv_fieldAddr Tryz.fo_35_0 rfl) ?_; clear hf a; intro a hf
  refine o_v hf hh (y_ld Tryz.sc_3 rfl) ?_; clear hf a; intro a hf
  refine o_v hf hh (yv_fieldAddr Tryz.fo_46_1 rfl) ?_; clear hf a; intro a hf
  refine o_v hf hh (yv_fieldAddr Tryz.fo_44_0 rfl) ?_; clear hf a; intro a hf
  refine o_v hf hh (yv_fieldAddr Tryz.fo_35_1 rfl) ?_; clear hf a; intro a hf
  refine o_v hf hh (y_ld Tryz.sc_3 rfl) ?_; clear hf a; intro a hf
  refine o_v hf hh (y_sub rfl rfl) ?_; clear hf a; intro a hf
  refine o_v hf hh (yv_fieldAddr Tryz.fo_46_0 rfl) ?_; clear hf a; intro a hf
  refine o_v hf hh (yv_fieldAddr Tryz.fo_44_0 rfl) ?_; clear hf a; intro a hf
  refine o_v hf hh (yv_fieldAddr Tryz.fo_35_1 rfl) ?_; clear hf a; intro a hf
  refine o_v hf hh (y_ld Tryz.sc_3 rfl) ?_; clear hf a; intro a hf
  refine o_v hf hh (yv_fieldAddr Tryz.fo_46_1 rfl) ?_; clear hf a; intro a hf
  refine o_v hf hh (yv_fieldAddr Tryz.fo_44_0 rfl) ?_; clear hf a; intro a hf
  refine o_v hf hh (yv_fieldAddr Tryz.fo_35_0 rfl) ?_; clear hf a; intro a hf
  refine o_v hf hh (y_ld Tryz.sc_3 rfl) ?_; clear hf a; intro a hf
  refine o_v hf hh (y_sub rfl rfl) ?_; clear hf a; intro a hf
  refine o_v hf hh (yv_buildS Tryz.bs_35 rfl rfl) ?_; clear hf a; intro a hf
  refine o_store hf hh Tryz.sz_35 fun w hh => ?_
  refine o_end ?_
  refine sy_ret ?_
  refine ret_c (vs := [spV (shf t)]) hf ?_ ?_
  · exact ⟨⟨B2, 0, _, _, _, rfl, hh.at (i := 0) rfl, .inr ⟨2, _, Tryz.ag_35, rfl, rfl⟩⟩, True.intro⟩
  · exact ⟨rfl, hh.ext⟩
theorem c_spanOf (s : Int × Int) (u : World) : Calls Tryz.prog 43 #[spV s] u (Ret fun v w' => v = spV s ∧ Ext [] u w') := by
  refine calls_of Tryz.func43 rfl rfl (fun a hf => ?_)
  have hh := Hp.init u []
  refine sy_sq ?_
  refine o_box hf hh ?_; clear hf hh a; intro B1 a w hf hh
  refine o_alloc hf hh Tryz.ze_35 ?_; clear hf hh a; intro B2 a w hf hh
  refine o_end ?_
  refine sy_sq ?_
  refine o_v hf hh (y_ia Tryz.ae_83 rfl rfl) ?_; clear hf a; intro a hf
  refine o_v hf hh (y_ld Tryz.sc_3 rfl) ?_; clear hf a; intro a hf
  refine o_v hf hh (y_ia Tryz.ae_83 rfl rfl) ?_; clear hf a; intro a hf
  refine o_v hf hh (y_ld Tryz.sc_3 rfl) ?_; clear hf a; intro a hf
  refine o_v hf hh (yv_buildS Tryz.bs_35 rfl rfl) ?_; clear hf a; intro a hf
  refine o_store hf hh Tryz.sz_35 fun w hh => ?_
  refine o_end ?_
  refine sy_ret ?_
  refine ret_c (vs := [spV s]) hf ?_ ?_
  · exact ⟨⟨B2, 0, _, _, _, rfl, hh.at (i := 0) rfl, .inr ⟨2, _, Tryz.ag_35, rfl, rfl⟩⟩, True.intro⟩
  · exact ⟨rfl, hh.ext⟩
theorem c_nar (x y : Int × Int) (B : Nat) (T : TypeId) (fr : Nat × Nat) (u : World) (hb : u.heap[B]? = some (.cells #[.int .i64 y.1, .int .i64 y.2] T fr)) : Calls Tryz.prog 42 #[spV x, .slice (some ⟨B, 0, none⟩) 1 1] u (Ret fun v w' => v = .tuple #[spV (nar x y), .bool (neB (nar x y))] ∧ Ext [] u w') := by
  refine calls_of Tryz.func42 rfl rfl (fun a hf => ?_)
  have hh := Hp.init u []
  refine sy_sq ?_
  refine o_box hf hh ?_; clear hf hh a; intro B2 a w hf hh
  refine o_alloc hf hh Tryz.ze_83 ?_; clear hf hh a; intro B4 a w hf hh
  refine o_v hf hh (yv_assign rfl) ?_; clear hf a; intro a hf
  refine o_end ?_
  refine sy_seq ?_
  refine sy_sq ?_
  refine o_v hf hh (yv_move rfl) ?_; clear hf a; intro a hf
  refine o_v hf hh (yv_len Tryz.se_142 rfl) ?_; clear hf a; intro a hf
  refine o_v hf hh (yv_move rfl) ?_; clear hf a; intro a hf
  refine o_end ?_
  refine sy_block ?_
  refine sy_loopH (σ := Nat) [7, 10, 11, 12, 13, 14, 15, 16, 17, 18, 19, 20, 21, 22, 23, 24, 25] (fun i => [(10, .int .i64 (i : Nat))]) (fun i => fun w' => i ≤ 1 ∧ Hp u [] [(B4, .cells #[.int .i64 0, .int .i64 0] 83), (B2, .cells #[.int .i64 (narI x y i).1, .int .i64 (narI x y i).2] 83)] w') (fun i => 1 - i) (0) hf ?_ ?_ ?_
  · repeat' (first | exact True.intro | refine And.intro rfl ?_)
  · exact ⟨Nat.zero_le _, hh⟩
  ·rintro i a w ⟨hi, hh⟩ hf
   refine sy_sq ?_
   refine o_v hf hh (yv_bin rfl rfl rfl) ?_; clear hf a; intro a hf
   refine o_end ?_
   refine sy_seq ?_
   refine sy_cond hf rfl (fun hg2 => ?_) (fun hg2 => ?_)
   ·have hG2 := hg2; try simp only [gS] at hG2
    refine sy_skip ?_
    refine then_n ?_
    refine sy_seq ?_
    refine sy_block ?_
    refine sy_seq ?_
    obtain rfl : i = 0 := by omega
    refine sy_ops ?_
    refine o_v hf hh (y_ix Tryz.se_142 rfl rfl) ?_; clear hf a; intro a hf
    refine o_v hf hh (y_lds Tryz.ag_83 rfl) ?_; clear hf a; intro a hf
    refine o_alloc hf hh Tryz.ze_83 ?_; clear hf hh a; intro B7 a w hf hh
    refine o_store hf hh Tryz.sz_83 fun w hh => ?_
    refine o_end ?_
    refine sy_ops ?_
    refine o_v hf hh (y_ia Tryz.ae_83 rfl rfl) ?_; clear hf a; intro a hf
    refine o_v hf hh (y_ld Tryz.sc_3 rfl) ?_; clear hf a; intro a hf
    refine o_v hf hh (y_ia Tryz.ae_83 rfl rfl) ?_; clear hf a; intro a hf
    refine o_v hf hh (y_ld Tryz.sc_3 rfl) ?_; clear hf a; intro a hf
    refine o_v hf hh (yv_max rfl rfl) ?_; clear hf a; intro a hf
    refine o_v hf hh (y_ia Tryz.ae_83 rfl rfl) ?_; clear hf a; intro a hf
    refine o_v hf hh (y_ld Tryz.sc_3 rfl) ?_; clear hf a; intro a hf
    refine o_v hf hh (y_ia Tryz.ae_83 rfl rfl) ?_; clear hf a; intro a hf
    refine o_v hf hh (y_ld Tryz.sc_3 rfl) ?_; clear hf a; intro a hf
    refine o_v hf hh (yv_min rfl rfl) ?_; clear hf a; intro a hf
    refine o_v hf hh (yv_buildA Tryz.ba_83 rfl rfl) ?_; clear hf a; intro a hf
    refine o_store hf hh Tryz.sz_83 fun w hh => ?_
    refine ops_end ?_
    refine blk_n ?_
    refine then_n ?_
    refine sy_ops ?_
    refine o_v hf hh (y_add rfl rfl) ?_; clear hf a; intro a hf
    refine o_v hf hh (yv_move rfl) ?_; clear hf a; intro a hf
    refine ops_end ?_
    refine then_n ?_
    exact ⟨1, ⟨⟨Nat.le_refl _, hh.less (.cons _ (.refl _))⟩, (hf.head (by repeat' (first | exact True.intro | refine And.intro rfl ?_)) (Keep.cons rfl (Keep.cons rfl (Keep.cons rfl (Keep.cons rfl (Keep.cons rfl (Keep.cons rfl (Keep.cons rfl (Keep.cons rfl (Keep.cons rfl (Keep.cons rfl (Keep.cons rfl (Keep.cons rfl (Keep.cons rfl (Keep.cons rfl (Keep.cons rfl (Keep.cons rfl (Keep.cons rfl (Keep.app rfl (Keep.rm rfl Keep.base))))))))))))))))))))⟩, by omega⟩
   ·have hG2 := hg2; try simp only [gS] at hG2
    refine sy_exit ?_
    refine then_e ?_
    refine then_e ?_
    refine blk_e ?_
    refine then_n ?_
    refine sy_seq ?_
    obtain rfl : i = 1 := by omega
    rw [narI_hi] at hh
    replace hh : Hp u [] [(B4, .cells #[.int .i64 0, .int .i64 0] 83), (B2, .cells #[.int .i64 (nar x y).1, .int .i64 (nar x y).2] 83)] w := hh
    refine sy_treeC (.q 0 0 (.p 1 (.q 0 2 (.p 3 (.q 0 4 (.p 5 (.e1 6 (.p 7 (.fin))))))))) [[]] [(AtE u [] [(B2, .cells #[.int .i64 (nar x y).1, .int .i64 (nar x y).2] 83)], [])] Tryz.follows (by kernel_rfl) rfl hh (fun w hh => ?_)
    refine mc_q rfl rfl (AtE.of hh (by intro z hz; simp only [List.mem_cons, List.not_mem_nil, or_false] at hz ⊢; simp [hz])) hf (y_lds Tryz.ag_83 rfl) (.inl rfl) rfl rfl ?_; clear hf a; intro a hf
    refine mc_p rfl   hf (y_ia Tryz.ae_83 rfl rfl) (.inl rfl) rfl rfl ?_; clear hf a; intro a hf
    refine mc_q rfl rfl (AtE.of hh (by intro z hz; simp only [List.mem_cons, List.not_mem_nil, or_false] at hz ⊢; simp [hz])) hf (y_ld Tryz.sc_3 rfl) (.inl rfl) rfl rfl ?_; clear hf a; intro a hf
    refine mc_p rfl   hf (y_ia Tryz.ae_83 rfl rfl) (.inl rfl) rfl rfl ?_; clear hf a; intro a hf
    refine mc_q rfl rfl (AtE.of hh (by intro z hz; simp only [List.mem_cons, List.not_mem_nil, or_false] at hz ⊢; simp [hz])) hf (y_ld Tryz.sc_3 rfl) (.inl rfl) rfl rfl ?_; clear hf a; intro a hf
    refine mc_p rfl   hf (yv_bin rfl rfl rfl) (.inl rfl) rfl rfl ?_; clear hf a; intro a hf
    refine mc_e rfl fun Q1 => ?_
    refine o_store hf hh Tryz.sz_83 fun w hh => ?_
    refine ops_end ?_
    refine then_n ⟨⟨fun _ _ => (AtE.of hh (by intro z hz; simp only [List.mem_cons, List.not_mem_nil, or_false] at hz ⊢; simp [hz])), trivial⟩, ?_⟩
    refine mc_p rfl   hf (yv_assign rfl) (.inl rfl) rfl rfl ?_; clear hf a; intro a hf
    refine mc_end ?_
    refine then_n ?_
    refine sy_ret ?_
    refine ret_c (vs := [spV (nar x y), .bool (neB (nar x y))]) hf ?_ ?_
    · exact ⟨⟨B4, 0, _, _, _, rfl, hh.at (i := 0) rfl, .inr ⟨2, _, Tryz.ag_83, rfl, rfl⟩⟩, rfl, True.intro⟩
    · exact ⟨rfl, hh.ext⟩
end Go.Proofs.YtccpgpnekoncoaaGreatDoor

namespace Go.Proofs.YtccpgpnekoncoaaGreatDoor
open Go Go.Sy Go.PaiM
abbrev viA (p : PrD) (sa : Option Addr) (cp : Nat) (w : Int × Int) : Array Value := #[.int .i64 p.fo.1, .int .i64 p.fo.2, .int .i64 p.ba.1, .int .i64 p.ba.2, .int .i64 p.tilt, .int .i64 p.near, .int .i64 p.far, .slice sa p.th.length cp, .int .i64 w.1, .int .i64 w.2]
abbrev viT : TypeId := 85
theorem c_shown (p : PrD) (t : ThD) (hO : ThOk p t) (u : World) : Calls Tryz.prog 41 #[.agg (thA t)] u (Ret fun v w' => v = .tuple #[spV (shn t), .bool (neB (shn t))] ∧ Ext [] u w') := by
  refine calls_of Tryz.func41 rfl rfl (fun a hf => ?_)
  have hh := Hp.init u []
  obtain ⟨⟨a1, a2, a3⟩, ⟨b1, b2, b3⟩, ⟨c1, c2, c3⟩, ⟨d1, d2, d3⟩, -⟩ := hO
  refine sy_sq ?_
  refine o_box hf hh ?_; clear hf hh a; intro B1 a w hf hh
  refine o_alloc hf hh Tryz.ze_83 ?_; clear hf hh a; intro B2 a w hf hh
  refine o_v hf hh (yv_assign rfl) ?_; clear hf a; intro a hf
  refine o_end ?_
  refine sy_sq ?_
  refine o_v hf hh (y_lds Tryz.ag_46 rfl) ?_; clear hf a; intro a hf
  refine o_call hf Tryz.en_67 rfl rfl rfl (c_shift t _ ⟨by omega, by omega⟩ ⟨by omega, by omega⟩ ⟨by omega, by omega⟩ ⟨by omega, by omega⟩) ?_; clear hf a; intro v a w hR hf
  obtain ⟨rfl, hx⟩ := hR; replace hh := hh.more hx; clear hx
  refine o_alloc hf hh Tryz.ze_35 ?_; clear hf hh a; intro B4 a w hf hh
  refine o_store hf hh Tryz.sz_35 fun w hh => ?_
  refine o_end ?_
  refine sy_sq ?_
  refine o_v hf hh (yv_fieldAddr Tryz.fo_35_0 rfl) ?_; clear hf a; intro a hf
  refine o_v hf hh (y_ld Tryz.sc_3 rfl) ?_; clear hf a; intro a hf
  refine o_v hf hh (yv_fieldAddr Tryz.fo_35_1 rfl) ?_; clear hf a; intro a hf
  refine o_v hf hh (y_ld Tryz.sc_3 rfl) ?_; clear hf a; intro a hf
  refine o_v hf hh (yv_buildA Tryz.ba_83 rfl rfl) ?_; clear hf a; intro a hf
  refine o_v hf hh (yv_buildA Tryz.ba_83 rfl rfl) ?_; clear hf a; intro a hf
  refine ops_buildSl hf hh Tryz.bl_142_1 rfl rfl (.inl rfl) rfl ?_; clear hf hh; clear a; intro B13 a w hf hh
  refine o_call hf Tryz.en_42 rfl rfl rfl (c_nar (shf t) (0, 2000) B13 _ _ _ (hh.at (i := 0) rfl)) ?_; clear hf a; intro v a w hR hf
  obtain ⟨rfl, hx⟩ := hR; replace hh := hh.more hx; clear hx
  refine o_v hf hh (yv_extract rfl rfl) ?_; clear hf a; intro a hf
  refine o_v hf hh (yv_extract rfl rfl) ?_; clear hf a; intro a hf
  refine o_store hf hh Tryz.sz_83 fun w hh => ?_
  refine o_v hf hh (yv_assign rfl) ?_; clear hf a; intro a hf
  refine o_end ?_
  refine sy_ret ?_
  refine ret_c (vs := [spV (shn t), .bool (neB (shn t))]) hf ?_ ?_
  · exact ⟨⟨B2, 0, _, _, _, rfl, hh.at (i := 2) rfl, .inr ⟨2, _, Tryz.ag_83, rfl, rfl⟩⟩, rfl, True.intro⟩
  · exact ⟨rfl, hh.ext⟩
theorem mul_bdP {a b : Int} (ha : 0 ≤ a ∧ a ≤ 2001) (hb : 0 ≤ b ∧ b ≤ 1073741824) : 0 ≤ a * b ∧ a * b ≤ 2148557389824 := by
  refine ⟨Int.mul_nonneg ha.1 hb.1, ?_⟩
  have h1 := Int.mul_le_mul ha.2 hb.2 hb.1 (by decide : (0 : Int) ≤ 2001)
  omega
theorem c_mark (y : Int) (s : Int × Int) (u : World) (hs : 0 ≤ s.1 ∧ s.1 ≤ s.2 ∧ s.2 ≤ 2000) (hy : 0 ≤ y ∧ y ≤ 1073741824) : Calls Tryz.prog 134 #[.agg #[.int .i64 y], spV s] u (Ret fun v w' => v = spV (s.1 * y, (s.2 + 1) * y - 1) ∧ Ext [] u w') := by
  refine calls_of Tryz.func134 rfl rfl (fun a hf => ?_)
  have hh := Hp.init u []
  have m1 := mul_bdP (a := s.1) (b := y) ⟨by omega, by omega⟩ hy
  have m2 := mul_bdP (a := s.2 + 1) (b := y) ⟨by omega, by omega⟩ hy
  refine sy_sq ?_
  refine o_box hf hh ?_; clear hf hh a; intro B2 a w hf hh
  refine o_box hf hh ?_; clear hf hh a; intro B3 a w hf hh
  refine o_alloc hf hh Tryz.ze_83 ?_; clear hf hh a; intro B4 a w hf hh
  refine o_end ?_
  refine sy_sq ?_
  refine o_v hf hh (y_ia Tryz.ae_83 rfl rfl) ?_; clear hf a; intro a hf
  refine o_v hf hh (y_ld Tryz.sc_3 rfl) ?_; clear hf a; intro a hf
  refine o_v hf hh (yv_fieldAddr Tryz.fo_177_0 rfl) ?_; clear hf a; intro a hf
  refine o_v hf hh (y_ld Tryz.sc_3 rfl) ?_; clear hf a; intro a hf
  refine o_v hf hh (y_mul rfl rfl (Int.le_trans (by decide) m1.1) (Int.le_trans m1.2 (by decide))) ?_; clear hf a; intro a hf
  refine o_v hf hh (y_ia Tryz.ae_83 rfl rfl) ?_; clear hf a; intro a hf
  refine o_v hf hh (y_ld Tryz.sc_3 rfl) ?_; clear hf a; intro a hf
  refine o_v hf hh (y_add rfl rfl) ?_; clear hf a; intro a hf
  refine o_v hf hh (yv_fieldAddr Tryz.fo_177_0 rfl) ?_; clear hf a; intro a hf
  refine o_v hf hh (y_ld Tryz.sc_3 rfl) ?_; clear hf a; intro a hf
  refine o_v hf hh (y_mul rfl rfl (Int.le_trans (by decide) m2.1) (Int.le_trans m2.2 (by decide))) ?_; clear hf a; intro a hf
  refine o_v hf hh (y_sub rfl rfl (by omega) (by omega)) ?_; clear hf a; intro a hf
  refine o_v hf hh (yv_buildA Tryz.ba_83 rfl rfl) ?_; clear hf a; intro a hf
  refine o_store hf hh Tryz.sz_83 fun w hh => ?_
  refine o_end ?_
  refine sy_ret ?_
  refine ret_c (vs := [spV (s.1 * y, (s.2 + 1) * y - 1)]) hf ?_ ?_
  · exact ⟨⟨B4, 0, _, _, _, rfl, hh.at (i := 0) rfl, .inr ⟨2, _, Tryz.ag_83, rfl, rfl⟩⟩, True.intro⟩
  · exact ⟨rfl, hh.ext⟩
theorem c_other (y z : Int) (s : Int × Int) (u : World) (hs : 0 ≤ s.1 ∧ s.1 ≤ s.2 ∧ s.2 ≤ 2000) (hy : 0 ≤ y ∧ y ≤ 1073741824) (hz : 0 ≤ z ∧ z ≤ 1073741824) : Calls Tryz.prog 135 #[.agg #[.int .i64 y, .int .i64 z], spV s] u (Ret fun v w' => v = spV (s.1 * y, (s.2 + 1) * z - 1) ∧ Ext [] u w') := by
  refine calls_of Tryz.func135 rfl rfl (fun a hf => ?_)
  have hh := Hp.init u []
  have m1 := mul_bdP (a := s.1) (b := y) ⟨by omega, by omega⟩ hy
  have m2 := mul_bdP (a := s.2 + 1) (b := z) ⟨by omega, by omega⟩ hz
  refine sy_sq ?_
  refine o_box hf hh ?_; clear hf hh a; intro B2 a w hf hh
  refine o_box hf hh ?_; clear hf hh a; intro B3 a w hf hh
  refine o_alloc hf hh Tryz.ze_83 ?_; clear hf hh a; intro B4 a w hf hh
  refine o_end ?_
  refine sy_sq ?_
  refine o_v hf hh (y_ia Tryz.ae_83 rfl rfl) ?_; clear hf a; intro a hf
  refine o_v hf hh (y_ld Tryz.sc_3 rfl) ?_; clear hf a; intro a hf
  refine o_v hf hh (yv_fieldAddr Tryz.fo_179_0 rfl) ?_; clear hf a; intro a hf
  refine o_v hf hh (y_ld Tryz.sc_3 rfl) ?_; clear hf a; intro a hf
  refine o_v hf hh (y_mul rfl rfl (Int.le_trans (by decide) m1.1) (Int.le_trans m1.2 (by decide))) ?_; clear hf a; intro a hf
  refine o_v hf hh (y_ia Tryz.ae_83 rfl rfl) ?_; clear hf a; intro a hf
  refine o_v hf hh (y_ld Tryz.sc_3 rfl) ?_; clear hf a; intro a hf
  refine o_v hf hh (y_add rfl rfl) ?_; clear hf a; intro a hf
  refine o_v hf hh (yv_fieldAddr Tryz.fo_179_1 rfl) ?_; clear hf a; intro a hf
  refine o_v hf hh (y_ld Tryz.sc_3 rfl) ?_; clear hf a; intro a hf
  refine o_v hf hh (y_mul rfl rfl (Int.le_trans (by decide) m2.1) (Int.le_trans m2.2 (by decide))) ?_; clear hf a; intro a hf
  refine o_v hf hh (y_sub rfl rfl (by omega) (by omega)) ?_; clear hf a; intro a hf
  refine o_v hf hh (yv_buildA Tryz.ba_83 rfl rfl) ?_; clear hf a; intro a hf
  refine o_store hf hh Tryz.sz_83 fun w hh => ?_
  refine o_end ?_
  refine sy_ret ?_
  refine ret_c (vs := [spV (s.1 * y, (s.2 + 1) * z - 1)]) hf ?_ ?_
  · exact ⟨⟨B4, 0, _, _, _, rfl, hh.at (i := 0) rfl, .inr ⟨2, _, Tryz.ag_83, rfl, rfl⟩⟩, True.intro⟩
  · exact ⟨rfl, hh.ext⟩
theorem c_level (p : PrD) (sa : Option Addr) (cp : Nat) (pw : Int × Int) (t : ThD) (hp : PrOk p) (hO : ThOk p t) (Bv : Nat) (u : World) (hv : u.heap[Bv]? = some (.cells (viA p sa cp pw) viT (0, 0))) : Calls Tryz.prog 65 #[ptr Bv 0, .agg (thA t)] u (Ret fun v w' => v = .bool (lvl p t) ∧ Ext [] u w') := by
  refine calls_of Tryz.func65 rfl rfl (fun a hf => ?_)
  have hh := Hp.init u []
  obtain ⟨⟨a1, a2, a3⟩, ⟨b1, b2, b3⟩, ⟨c1, c2, c3⟩, ⟨d1, d2, d3⟩, -⟩ := hO
  obtain ⟨e1, e2⟩ := hp.ti
  refine sy_sq ?_
  refine o_box hf hh ?_; clear hf hh a; intro B3 a w hf hh
  refine o_v hf hh (yv_assign rfl) ?_; clear hf a; intro a hf
  refine o_end ?_
  refine sy_sq ?_
  refine o_v hf hh (yv_fieldAddr Tryz.fo_46_0 rfl) ?_; clear hf a; intro a hf
  refine o_v hf hh (yv_fieldAddr Tryz.fo_44_1 rfl) ?_; clear hf a; intro a hf
  refine o_v hf hh (yv_fieldAddr Tryz.fo_35_0 rfl) ?_; clear hf a; intro a hf
  refine o_v hf hh (y_ld Tryz.sc_3 rfl) ?_; clear hf a; intro a hf
  refine o_v hf hh (yv_fieldAddr Tryz.fo_46_1 rfl) ?_; clear hf a; intro a hf
  refine o_v hf hh (yv_fieldAddr Tryz.fo_44_1 rfl) ?_; clear hf a; intro a hf
  refine o_v hf hh (yv_fieldAddr Tryz.fo_35_1 rfl) ?_; clear hf a; intro a hf
  refine o_v hf hh (y_ld Tryz.sc_3 rfl) ?_; clear hf a; intro a hf
  refine o_v hf hh (y_sub rfl rfl) ?_; clear hf a; intro a hf
  refine o_v hf hh (yv_fieldAddr Tryz.fo_46_0 rfl) ?_; clear hf a; intro a hf
  refine o_v hf hh (yv_fieldAddr Tryz.fo_44_1 rfl) ?_; clear hf a; intro a hf
  refine o_v hf hh (yv_fieldAddr Tryz.fo_35_1 rfl) ?_; clear hf a; intro a hf
  refine o_v hf hh (y_ld Tryz.sc_3 rfl) ?_; clear hf a; intro a hf
  refine o_v hf hh (yv_fieldAddr Tryz.fo_46_1 rfl) ?_; clear hf a; intro a hf
  refine o_v hf hh (yv_fieldAddr Tryz.fo_44_1 rfl) ?_; clear hf a; intro a hf
  refine o_v hf hh (yv_fieldAddr Tryz.fo_35_0 rfl) ?_; clear hf a; intro a hf
  refine o_v hf hh (y_ld Tryz.sc_3 rfl) ?_; clear hf a; intro a hf
  refine o_v hf hh (y_sub rfl rfl) ?_; clear hf a; intro a hf
  refine o_v hf hh (yv_buildA Tryz.ba_83 rfl rfl) ?_; clear hf a; intro a hf
  refine o_alloc hf hh Tryz.ze_83 ?_; clear hf hh a; intro B5 a w hf hh
  refine o_store hf hh Tryz.sz_83 fun w hh => ?_
  refine o_end ?_
  refine sy_seq ?_
  replace hh : Hp u [] [(B5, .cells #[.int .i64 (upv t).1, .int .i64 (upv t).2] 83), (B3, .cells (thA t) 46)] w := hh
  refine sy_treeC (.q 0 0 (.p 1 (.p 2 (.p 3 (.p 4 (.q 0 5 (.p 6 (.p 7 (.p 8 (.p 9 (.p 10 (.q 0 11 (.p 12 (.e2 13 (.e2 14 (.p 15 (.p 16 (.p 17 (.e1 18 (.e1 19 (.p 20 (.fin))))))) 18 (.e1 14 (.p 15 (.p 16 (.p 17 (.e1 19 (.p 20 (.fin)))))))) 18 (.e1 13 (.e1 14 (.p 15 (.p 16 (.p 17 (.e1 19 (.p 20 (.fin)))))))))))))))))))))) [[19]] [(AtE u [] [(B5, .cells #[.int .i64 (upv t).1, .int .i64 (upv t).2] 83)], [19])] Tryz.follows (by kernel_rfl) rfl hh (fun w hh => ?_)
  refine mc_q rfl rfl (AtE.of hh (by intro z hz; simp only [List.mem_cons, List.not_mem_nil, or_false] at hz ⊢; simp [hz])) hf (y_lds Tryz.ag_83 rfl) (.inl rfl) rfl rfl ?_; clear hf a; intro a hf
  refine mc_p rfl   hf (yv_move rfl) (.inl rfl) rfl rfl ?_; clear hf a; intro a hf
  refine mc_p rfl   hf (yv_nilCheck rfl) (.inl rfl) rfl rfl ?_; clear hf a; intro a hf
  refine mc_p rfl   hf (yv_fieldAddr Tryz.fo_85_0 rfl) (.inl rfl) rfl rfl ?_; clear hf a; intro a hf
  refine mc_p rfl   hf (yv_fieldAddr Tryz.fo_38_2 rfl) (.inl rfl) rfl rfl ?_; clear hf a; intro a hf
  refine mc_q rfl rfl (AtE.of hh (by intro z hz; simp only [List.mem_cons, List.not_mem_nil, or_false] at hz ⊢; simp [hz])) hf (y_ld Tryz.sc_3 rfl) (.inl rfl) rfl rfl ?_; clear hf a; intro a hf
  refine mc_p rfl   hf (yv_neg rfl (by omega) (by omega)) (.inl rfl) rfl rfl ?_; clear hf a; intro a hf
  refine mc_p rfl   hf (yv_move rfl) (.inl rfl) rfl rfl ?_; clear hf a; intro a hf
  refine mc_p rfl   hf (yv_nilCheck rfl) (.inl rfl) rfl rfl ?_; clear hf a; intro a hf
  refine mc_p rfl   hf (yv_fieldAddr Tryz.fo_85_0 rfl) (.inl rfl) rfl rfl ?_; clear hf a; intro a hf
  refine mc_p rfl   hf (yv_fieldAddr Tryz.fo_38_2 rfl) (.inl rfl) rfl rfl ?_; clear hf a; intro a hf
  refine mc_q rfl rfl (AtE.of hh (by intro z hz; simp only [List.mem_cons, List.not_mem_nil, or_false] at hz ⊢; simp [hz])) hf (y_ld Tryz.sc_3 rfl) (.inl rfl) rfl rfl ?_; clear hf a; intro a hf
  refine mc_p rfl   hf (yv_buildA Tryz.ba_83 rfl rfl) (.inl rfl) rfl rfl ?_; clear hf a; intro a hf
  refine ⟨?_, ?_⟩
  ·refine mc_e rfl fun Q1 => ?_
   refine ops_buildSl hf hh Tryz.bl_142_1 rfl rfl (.inl rfl) rfl ?_; clear hf hh a; intro B41 a w hf hh
   replace hh : Hp u [] ((B41, .cells #[.int .i64 (-p.tilt), .int .i64 p.tilt] 83) :: _) w := hh
   refine ops_end ?_
   refine then_n ⟨⟨fun _ _ => (AtE.of hh (by intro z hz; simp only [List.mem_cons, List.not_mem_nil, or_false] at hz ⊢; simp [hz])), trivial⟩, ?_⟩
   refine ⟨?_, ?_⟩
   ·refine mc_e rfl fun Q1 => ?_
    refine o_call hf Tryz.en_42 rfl rfl rfl (c_nar (upv t) (-p.tilt, p.tilt) B41 _ _ _ (hh.get (B41, .cells #[.int .i64 (-p.tilt), .int .i64 p.tilt] 83) (by simp))) ?_; clear hf a; intro v a w hR hf
    obtain ⟨rfl, hx⟩ := hR; replace hh := hh.more hx; clear hx
    refine ops_end ?_
    refine then_n ⟨⟨fun _ _ => (AtE.of hh (by intro z hz; simp only [List.mem_cons, List.not_mem_nil, or_false] at hz ⊢; simp [hz])), trivial⟩, ?_⟩
    refine mc_p rfl   hf (yv_move rfl) (.inl rfl) rfl rfl ?_; clear hf a; intro a hf
    refine mc_p rfl   hf (yv_extract rfl rfl) (.inl rfl) rfl rfl ?_; clear hf a; intro a hf
    refine mc_p rfl   hf (yv_extract rfl rfl) (.inl rfl) rfl rfl ?_; clear hf a; intro a hf
    refine mc_e rfl fun Q1 => ?_
    refine o_alloc hf hh Tryz.ze_83 ?_; clear hf hh a; intro B6 a w hf hh
    refine ops_end ?_
    refine then_n ⟨⟨fun _ _ => (AtE.of hh (by intro z hz; simp only [List.mem_cons, List.not_mem_nil, or_false] at hz ⊢; simp [hz])), trivial⟩, ?_⟩
    refine mc_e rfl fun Q1 => ?_
    refine o_store hf hh Tryz.sz_83 fun w hh => ?_
    refine ops_end ?_
    refine then_n ⟨⟨fun h => Bool.noConfusion (show true = false from h), trivial⟩, ?_⟩
    refine mc_p rfl   hf (yv_assign rfl) (.inl rfl) rfl rfl ?_; clear hf a; intro a hf
    refine mc_end ?_
    refine then_n ?_
    refine sy_sq ?_
    refine o_v hf hh (yv_move rfl) ?_; clear hf a; intro a hf
    refine o_v hf hh (yv_assign rfl) ?_; clear hf a; intro a hf
    refine o_end ?_
    refine sy_ret ?_
    refine ret_r hf rfl rfl ?_
    exact ⟨rfl, hh.ext⟩
   ·refine mc_e rfl fun Q1 => ?_
    refine o_alloc hf hh Tryz.ze_83 ?_; clear hf hh a; intro B6 a w hf hh
    refine ops_end ?_
    refine then_n ⟨⟨fun _ _ => (AtE.of hh (by intro z hz; simp only [List.mem_cons, List.not_mem_nil, or_false] at hz ⊢; simp [hz])), trivial⟩, ?_⟩
    refine mc_e rfl fun Q1 => ?_
    refine o_call hf Tryz.en_42 rfl rfl rfl (c_nar (upv t) (-p.tilt, p.tilt) B41 _ _ _ (hh.get (B41, .cells #[.int .i64 (-p.tilt), .int .i64 p.tilt] 83) (by simp))) ?_; clear hf a; intro v a w hR hf
    obtain ⟨rfl, hx⟩ := hR; replace hh := hh.more hx; clear hx
    refine ops_end ?_
    refine then_n ⟨⟨fun _ _ => (AtE.of hh (by intro z hz; simp only [List.mem_cons, List.not_mem_nil, or_false] at hz ⊢; simp [hz])), trivial⟩, ?_⟩
    refine mc_p rfl   hf (yv_move rfl) (.inl rfl) rfl rfl ?_; clear hf a; intro a hf
    refine mc_p rfl   hf (yv_extract rfl rfl) (.inl rfl) rfl rfl ?_; clear hf a; intro a hf
    refine mc_p rfl   hf (yv_extract rfl rfl) (.inl rfl) rfl rfl ?_; clear hf a; intro a hf
    refine mc_e rfl fun Q1 => ?_
    refine o_store hf hh Tryz.sz_83 fun w hh => ?_
    refine ops_end ?_
    refine then_n ⟨⟨fun h => Bool.noConfusion (show true = false from h), trivial⟩, ?_⟩
    refine mc_p rfl   hf (yv_assign rfl) (.inl rfl) rfl rfl ?_; clear hf a; intro a hf
    refine mc_end ?_
    refine then_n ?_
    refine sy_sq ?_
    refine o_v hf hh (yv_move rfl) ?_; clear hf a; intro a hf
    refine o_v hf hh (yv_assign rfl) ?_; clear hf a; intro a hf
    refine o_end ?_
    refine sy_ret ?_
    refine ret_r hf rfl rfl ?_
    exact ⟨rfl, hh.ext⟩
  ·refine mc_e rfl fun Q1 => ?_
   refine o_alloc hf hh Tryz.ze_83 ?_; clear hf hh a; intro B6 a w hf hh
   refine ops_end ?_
   refine then_n ⟨⟨fun _ _ => (AtE.of hh (by intro z hz; simp only [List.mem_cons, List.not_mem_nil, or_false] at hz ⊢; simp [hz])), trivial⟩, ?_⟩
   refine mc_e rfl fun Q1 => ?_
   refine ops_buildSl hf hh Tryz.bl_142_1 rfl rfl (.inl rfl) rfl ?_; clear hf hh a; intro B41 a w hf hh
   replace hh : Hp u [] ((B41, .cells #[.int .i64 (-p.tilt), .int .i64 p.tilt] 83) :: _) w := hh
   refine ops_end ?_
   refine then_n ⟨⟨fun _ _ => (AtE.of hh (by intro z hz; simp only [List.mem_cons, List.not_mem_nil, or_false] at hz ⊢; simp [hz])), trivial⟩, ?_⟩
   refine mc_e rfl fun Q1 => ?_
   refine o_call hf Tryz.en_42 rfl rfl rfl (c_nar (upv t) (-p.tilt, p.tilt) B41 _ _ _ (hh.get (B41, .cells #[.int .i64 (-p.tilt), .int .i64 p.tilt] 83) (by simp))) ?_; clear hf a; intro v a w hR hf
   obtain ⟨rfl, hx⟩ := hR; replace hh := hh.more hx; clear hx
   refine ops_end ?_
   refine then_n ⟨⟨fun _ _ => (AtE.of hh (by intro z hz; simp only [List.mem_cons, List.not_mem_nil, or_false] at hz ⊢; simp [hz])), trivial⟩, ?_⟩
   refine mc_p rfl   hf (yv_move rfl) (.inl rfl) rfl rfl ?_; clear hf a; intro a hf
   refine mc_p rfl   hf (yv_extract rfl rfl) (.inl rfl) rfl rfl ?_; clear hf a; intro a hf
   refine mc_p rfl   hf (yv_extract rfl rfl) (.inl rfl) rfl rfl ?_; clear hf a; intro a hf
   refine mc_e rfl fun Q1 => ?_
   refine o_store hf hh Tryz.sz_83 fun w hh => ?_
   refine ops_end ?_
   refine then_n ⟨⟨fun h => Bool.noConfusion (show true = false from h), trivial⟩, ?_⟩
   refine mc_p rfl   hf (yv_assign rfl) (.inl rfl) rfl rfl ?_; clear hf a; intro a hf
   refine mc_end ?_
   refine then_n ?_
   refine sy_sq ?_
   refine o_v hf hh (yv_move rfl) ?_; clear hf a; intro a hf
   refine o_v hf hh (yv_assign rfl) ?_; clear hf a; intro a hf
   refine o_end ?_
   refine sy_ret ?_
   refine ret_r hf rfl rfl ?_
   exact ⟨rfl, hh.ext⟩
end Go.Proofs.YtccpgpnekoncoaaGreatDoor

namespace Go.Proofs.YtccpgpnekoncoaaGreatDoor
open Go Go.Sy Go.PaiM
def ofV (p : PrD) (t : ThD) : Value := if t.far = 0 then .iface 179 (.agg #[.int .i64 p.near, .int .i64 p.far]) else .iface 177 (.agg #[.int .i64 t.far])
theorem of_pow (p : PrD) (t : ThD) (hp : PrOk p) (hO : ThOk p t) : ∃ tt vv ff, ofV p t = .iface tt vv ∧ methS Tryz.prog tt "pairworks/pair.powers" = some ff ∧ Enters Tryz.prog ff ∧ ∀ (s : Int × Int) (u : World), 0 ≤ s.1 ∧ s.1 ≤ s.2 ∧ s.2 ≤ 2000 → Calls Tryz.prog ff #[vv, spV s] u (Ret fun v w' => v = spV (pws p t s) ∧ Ext [] u w') := by
  have hn := hp.ne
  have hf := hp.fa
  by_cases h : t.far = 0
  · refine ⟨179, .agg #[.int .i64 p.near, .int .i64 p.far], 135, if_pos h, by kernel_rfl, Tryz.en_135, fun s u hs => ?_⟩
    have := c_other p.near p.far s u hs ⟨by omega, by omega⟩ ⟨by omega, by omega⟩
    unfold pws
    rw [if_pos h]
    exact this
  · have h2 : p.near ≤ t.far ∧ t.far ≤ p.far := by
      rcases hO.f with h3 | h3
      · exact absurd h3 h
      · exact h3
    refine ⟨177, .agg #[.int .i64 t.far], 134, if_neg h, by kernel_rfl, Tryz.en_134, fun s u hs => ?_⟩
    have := c_mark t.far s u hs ⟨by omega, by omega⟩
    unfold pws
    rw [if_neg h]
    exact this
theorem c_of (p : PrD) (sa : Option Addr) (cp : Nat) (pw : Int × Int) (t : ThD) (Bv : Nat) (u : World) (hv : u.heap[Bv]? = some (.cells (viA p sa cp pw) viT (0, 0))) : Calls Tryz.prog 66 #[ptr Bv 0, .agg (thA t)] u (Ret fun v w' => v = ofV p t ∧ Ext [] u w') := by
  refine calls_of Tryz.func66 rfl rfl (fun a hf => ?_)
  have hh := Hp.init u []
  refine sy_sq ?_
  refine o_box hf hh ?_; clear hf hh a; intro B3 a w hf hh
  refine o_v hf hh (yv_assign rfl) ?_; clear hf a; intro a hf
  refine o_end ?_
  refine sy_seq ?_
  refine sy_sq ?_
  refine o_v hf hh (yv_fieldAddr Tryz.fo_46_2 rfl) ?_; clear hf a; intro a hf
  refine o_v hf hh (y_ld Tryz.sc_3 rfl) ?_; clear hf a; intro a hf
  refine o_v hf hh (yv_bin rfl rfl rfl) ?_; clear hf a; intro a hf
  refine o_end ?_
  refine sy_cond hf rfl (fun hg2 => ?_) (fun hg2 => ?_)
  ·have hG2 := hg2; try simp only [gS] at hG2
   refine sy_sq ?_
   refine o_v hf hh (yv_fieldAddr Tryz.fo_46_2 rfl) ?_; clear hf a; intro a hf
   refine o_v hf hh (y_ld Tryz.sc_3 rfl) ?_; clear hf a; intro a hf
   refine o_v hf hh (yv_buildS Tryz.bs_177 rfl rfl) ?_; clear hf a; intro a hf
   refine o_v hf hh (yv_makeIface (by kernel_rfl) rfl) ?_; clear hf a; intro a hf
   refine o_v hf hh (yv_assign rfl) ?_; clear hf a; intro a hf
   refine o_end ?_
   refine sy_ret ?_
   refine then_r ?_
   refine ret_r hf rfl rfl ?_
   unfold ofV
   first
     | exact ⟨(if_pos (by simp_all)).symm, hh.ext⟩
     | exact ⟨(if_neg (by simp_all)).symm, hh.ext⟩
  ·have hG2 := hg2; try simp only [gS] at hG2
   refine sy_skip ?_
   refine then_n ?_
   refine sy_seq ?_
   refine sy_quiet (C := Hp _ _ _) Tryz.follows (by kernel_rfl) (hh.drawn _) ?_
   refine oq_v hf (yv_move rfl) ?_; clear hf a; intro a hf
   refine oq_v hf (yv_nilCheck rfl) ?_; clear hf a; intro a hf
   refine oq_v hf (yv_fieldAddr Tryz.fo_85_0 rfl) ?_; clear hf a; intro a hf
   refine oq_v hf (yv_fieldAddr Tryz.fo_38_3 rfl) ?_; clear hf a; intro a hf
   refine oq_v hf (y_ld Tryz.sc_3 rfl) ?_; clear hf a; intro a hf
   refine oq_v hf (yv_move rfl) ?_; clear hf a; intro a hf
   refine oq_v hf (yv_nilCheck rfl) ?_; clear hf a; intro a hf
   refine oq_v hf (yv_fieldAddr Tryz.fo_85_0 rfl) ?_; clear hf a; intro a hf
   refine oq_v hf (yv_fieldAddr Tryz.fo_38_4 rfl) ?_; clear hf a; intro a hf
   refine oq_v hf (y_ld Tryz.sc_3 rfl) ?_; clear hf a; intro a hf
   refine oq_v hf (yv_buildS Tryz.bs_179 rfl rfl) ?_; clear hf a; intro a hf
   refine oq_v hf (yv_makeIface (by kernel_rfl) rfl) ?_; clear hf a; intro a hf
   refine oq_v hf (yv_assign rfl) ?_; clear hf a; intro a hf
   refine q_end fun w hh => ?_
   refine then_n ?_
   refine sy_ret ?_
   refine ret_r hf rfl rfl ?_
   unfold ofV
   first
     | exact ⟨(if_pos (by simp_all)).symm, hh.ext⟩
     | exact ⟨(if_neg (by simp_all)).symm, hh.ext⟩
set_option maxRecDepth 100000 in
theorem c_still (p : PrD) (sa : Option Addr) (cp : Nat) (pw y : Int × Int) (t : ThD) (hp : PrOk p) (hO : ThOk p t) (Bv : Nat) (u : World) (hv : u.heap[Bv]? = some (.cells (viA p sa cp pw) viT (0, 0))) : Calls Tryz.prog 34 #[ptr Bv 0, .agg (thA t), spV y] u (Ret fun v w' => v = .tuple #[spV (stV p t y), .bool (stB p t y)] ∧ Ext [] u w') := by
  refine calls_of Tryz.func34 rfl rfl (fun a hf => ?_)
  have hh := Hp.init u []
  obtain ⟨tt, vv, ff, eof, hmt, hE, hcall⟩ := of_pow p t hp hO
  refine sy_sq ?_
  refine o_box hf hh ?_; clear hf hh a; intro B4 a w hf hh
  refine o_box hf hh ?_; clear hf hh a; intro B5 a w hf hh
  refine o_alloc hf hh Tryz.ze_83 ?_; clear hf hh a; intro B6 a w hf hh
  refine o_v hf hh (yv_assign rfl) ?_; clear hf a; intro a hf
  refine o_end ?_
  refine sy_sq ?_
  refine o_v hf hh (y_lds Tryz.ag_46 rfl) ?_; clear hf a; intro a hf
  refine o_call hf Tryz.en_41 rfl rfl rfl (c_shown p t hO _) ?_; clear hf a; intro v a w hR hf
  obtain ⟨rfl, hx⟩ := hR; replace hh := hh.more hx; clear hx
  refine o_v hf hh (yv_move rfl) ?_; clear hf a; intro a hf
  refine o_v hf hh (yv_extract rfl rfl) ?_; clear hf a; intro a hf
  refine o_v hf hh (yv_extract rfl rfl) ?_; clear hf a; intro a hf
  refine o_alloc hf hh Tryz.ze_83 ?_; clear hf hh a; intro B8 a w hf hh
  refine o_store hf hh Tryz.sz_83 fun w hh => ?_
  refine o_v hf hh (yv_assign rfl) ?_; clear hf a; intro a hf
  refine o_end ?_
  refine sy_seq ?_
  refine sy_sq ?_
  refine o_v hf hh (yv_move rfl) ?_; clear hf a; intro a hf
  refine o_v hf hh (yv_not rfl) ?_; clear hf a; intro a hf
  refine o_v hf hh (yv_move rfl) ?_; clear hf a; intro a hf
  refine guard_split hf (t := 17) rfl (fun hg4 => ?_) (fun hg4 => ?_)
  ·have hG4 := hg4; try simp only [gS] at hG4
   refine o_off hf ?_; clear hf a; intro a hf
   refine o_off hf ?_; clear hf a; intro a hf
   refine o_off hf ?_; clear hf a; intro a hf
   refine o_off hf ?_; clear hf a; intro a hf
   refine o_v hf hh (y_pt rfl rfl) ?_; clear hf a; intro a hf
   refine o_end ?_
   refine c_t hf ?_
   refine sy_sq ?_
   refine o_v hf hh (y_lds Tryz.ag_83 rfl) ?_; clear hf a; intro a hf
   refine o_store hf hh Tryz.sz_83 fun w hh => ?_
   refine o_v hf hh (yv_assign rfl) ?_; clear hf a; intro a hf
   refine o_end ?_
   refine sy_ret ?_
   refine then_r ?_
   refine ret_c (vs := [spV y, .bool false]) hf ?_ ?_
   · first
       | exact ⟨⟨B6, 0, _, _, _, rfl, hh.at (i := 1) rfl, .inr ⟨2, _, Tryz.ag_83, rfl, rfl⟩⟩, rfl, True.intro⟩
       | exact ⟨⟨B6, 0, _, _, _, rfl, hh.at (i := 2) rfl, .inr ⟨2, _, Tryz.ag_83, rfl, rfl⟩⟩, rfl, True.intro⟩
   · first
       | (have e1 : stV p t y = nar y (pws p t (shn t)) := by unfold stV; rw [hok]; rfl
          have e2 : stB p t y = neB (nar y (pws p t (shn t))) := by unfold stB; rw [hok]; rfl
          exact ⟨by first | (rw [e1, e2]; done) | (rw [e1, e2]; rfl), hh.ext⟩)
       | (have hno : okT p t = false := by clear hf hh; unfold okT; simp_all
          have e1 : stV p t y = y := by unfold stV; rw [hno]; rfl
          have e2 : stB p t y = false := by unfold stB; rw [hno]; rfl
          exact ⟨by first | (rw [e1, e2]; done) | (rw [e1, e2]; rfl), hh.ext⟩)
  ·have hG4 := hg4; try simp only [gS] at hG4
   refine o_v hf hh (yv_move rfl) ?_; clear hf a; intro a hf
   refine o_v hf hh (y_lds Tryz.ag_46 rfl) ?_; clear hf a; intro a hf
   refine o_call hf Tryz.en_65 rfl rfl rfl (c_level p sa cp pw t hp hO Bv _ (hh.old hv)) ?_; clear hf a; intro v a w hR hf
   obtain ⟨rfl, hx⟩ := hR; replace hh := hh.more hx; clear hx
   refine o_v hf hh (yv_not rfl) ?_; clear hf a; intro a hf
   refine o_v hf hh (y_pf rfl rfl) ?_; clear hf a; intro a hf
   refine o_end ?_
   refine sy_cond hf rfl (fun hg6 => ?_) (fun hg6 => ?_)
   ·have hG6 := hg6; try simp only [gS] at hG6
    refine sy_sq ?_
    refine o_v hf hh (y_lds Tryz.ag_83 rfl) ?_; clear hf a; intro a hf
    refine o_store hf hh Tryz.sz_83 fun w hh => ?_
    refine o_v hf hh (yv_assign rfl) ?_; clear hf a; intro a hf
    refine o_end ?_
    refine sy_ret ?_
    refine then_r ?_
    refine ret_c (vs := [spV y, .bool false]) hf ?_ ?_
    · first
        | exact ⟨⟨B6, 0, _, _, _, rfl, hh.at (i := 1) rfl, .inr ⟨2, _, Tryz.ag_83, rfl, rfl⟩⟩, rfl, True.intro⟩
        | exact ⟨⟨B6, 0, _, _, _, rfl, hh.at (i := 2) rfl, .inr ⟨2, _, Tryz.ag_83, rfl, rfl⟩⟩, rfl, True.intro⟩
    · first
        | (have e1 : stV p t y = nar y (pws p t (shn t)) := by unfold stV; rw [hok]; rfl
           have e2 : stB p t y = neB (nar y (pws p t (shn t))) := by unfold stB; rw [hok]; rfl
           exact ⟨by first | (rw [e1, e2]; done) | (rw [e1, e2]; rfl), hh.ext⟩)
        | (have hno : okT p t = false := by clear hf hh; unfold okT; simp_all
           have e1 : stV p t y = y := by unfold stV; rw [hno]; rfl
           have e2 : stB p t y = false := by unfold stB; rw [hno]; rfl
           exact ⟨by first | (rw [e1, e2]; done) | (rw [e1, e2]; rfl), hh.ext⟩)
   ·have hG6 := hg6; try simp only [gS] at hG6
    refine sy_skip ?_
    refine then_n ?_
    refine sy_seq ?_
    replace hh : Hp u [] [(B8, .cells #[.int .i64 (shn t).1, .int .i64 (shn t).2] 83), (B6, .cells #[.int .i64 0, .int .i64 0] 83), (B5, .cells #[.int .i64 y.1, .int .i64 y.2] 83), (B4, .cells (thA t) 46)] w := hh
    have hok : okT p t = true := by unfold okT; simp_all
    have hsn : 0 ≤ (shn t).1 ∧ (shn t).1 ≤ (shn t).2 ∧ (shn t).2 ≤ 2000 := shn_bd (by unfold okT at hok; rw [Bool.and_eq_true] at hok; exact hok.1)
    refine sy_treeC (.q 0 0 (.p 1 (.q 0 2 (.q 0 4 (.e1 3 (.e1 5 (.e1 6 (.e1 7 (.p 8 (.p 9 (.e1 10 (.p 11 (.fin))))))))))))) [[10]] [(AtE u [] [(B8, .cells #[.int .i64 (shn t).1, .int .i64 (shn t).2] 83), (B5, .cells #[.int .i64 y.1, .int .i64 y.2] 83), (B4, .cells (thA t) 46)], [10])] Tryz.follows (by kernel_rfl) rfl hh (fun w hh => ?_)
    refine mc_q rfl rfl (AtE.of hh (by intro z hz; simp only [List.mem_cons, List.not_mem_nil, or_false] at hz ⊢; rcases hz with h | h | h <;> simp [h])) hf (y_lds Tryz.ag_83 rfl) (.inl rfl) rfl rfl ?_; clear hf a; intro a hf
    refine mc_p rfl   hf (yv_move rfl) (.inl rfl) rfl rfl ?_; clear hf a; intro a hf
    refine mc_q rfl rfl (AtE.of hh (by intro z hz; simp only [List.mem_cons, List.not_mem_nil, or_false] at hz ⊢; rcases hz with h | h | h <;> simp [h])) hf (y_lds Tryz.ag_46 rfl) (.inl rfl) rfl rfl ?_; clear hf a; intro a hf
    refine mc_q rfl rfl (AtE.of hh (by intro z hz; simp only [List.mem_cons, List.not_mem_nil, or_false] at hz ⊢; rcases hz with h | h | h <;> simp [h])) hf (y_lds Tryz.ag_83 rfl) (.inl rfl) rfl rfl ?_; clear hf a; intro a hf
    refine mc_e rfl fun Q1 => ?_
    refine o_call hf Tryz.en_66 rfl rfl rfl (c_of p sa cp pw t Bv _ (hh.old hv)) ?_; clear hf a; intro v a w hR hf
    rw [eof] at hR
    obtain ⟨rfl, hx⟩ := hR; replace hh := hh.more hx; clear hx
    refine ops_end ?_
    refine then_n ⟨⟨fun _ _ => (AtE.of hh (by intro z hz; simp only [List.mem_cons, List.not_mem_nil, or_false] at hz ⊢; rcases hz with h | h | h <;> simp [h])), trivial⟩, ?_⟩
    refine mc_e rfl fun Q1 => ?_
    refine o_invokeS hf hmt hE rfl rfl rfl (hcall (shn t) w hsn) ?_; clear hf a; intro v a w hR hf
    obtain ⟨rfl, hx⟩ := hR; replace hh := hh.more hx; clear hx
    refine ops_end ?_
    refine then_n ⟨⟨fun _ _ => (AtE.of hh (by intro z hz; simp only [List.mem_cons, List.not_mem_nil, or_false] at hz ⊢; rcases hz with h | h | h <;> simp [h])), trivial⟩, ?_⟩
    refine mc_e rfl fun Q1 => ?_
    refine ops_buildSl hf hh Tryz.bl_142_1 rfl rfl (.inl rfl) rfl ?_; clear hf hh a; intro B30 a w hf hh
    replace hh : Hp u [] ((B30, .cells #[.int .i64 (pws p t (shn t)).1, .int .i64 (pws p t (shn t)).2] 83) :: _) w := hh
    refine ops_end ?_
    refine then_n ⟨⟨fun _ _ => (AtE.of hh (by intro z hz; simp only [List.mem_cons, List.not_mem_nil, or_false] at hz ⊢; rcases hz with h | h | h <;> simp [h])), trivial⟩, ?_⟩
    refine mc_e rfl fun Q1 => ?_
    refine o_call hf Tryz.en_42 rfl rfl rfl (c_nar y (pws p t (shn t)) B30 _ _ _ (hh.at (i := 0) rfl)) ?_; clear hf a; intro v a w hR hf
    obtain ⟨rfl, hx⟩ := hR; replace hh := hh.more hx; clear hx
    refine ops_end ?_
    refine then_n ⟨⟨fun _ _ => (AtE.of hh (by intro z hz; simp only [List.mem_cons, List.not_mem_nil, or_false] at hz ⊢; rcases hz with h | h | h <;> simp [h])), trivial⟩, ?_⟩
    refine mc_p rfl   hf (yv_extract rfl rfl) (.inl rfl) rfl rfl ?_; clear hf a; intro a hf
    refine mc_p rfl   hf (yv_extract rfl rfl) (.inl rfl) rfl rfl ?_; clear hf a; intro a hf
    refine mc_e rfl fun Q1 => ?_
    refine o_store hf hh Tryz.sz_83 fun w hh => ?_
    refine ops_end ?_
    refine then_n ⟨⟨fun h => Bool.noConfusion (show true = false from h), trivial⟩, ?_⟩
    refine mc_p rfl   hf (yv_assign rfl) (.inl rfl) rfl rfl ?_; clear hf a; intro a hf
    refine mc_end ?_
    refine then_n ?_
    refine sy_ret ?_
    refine ret_c (vs := [spV (nar y (pws p t (shn t))), .bool (neB (nar y (pws p t (shn t))))]) hf ?_ ?_
    · first
        | exact ⟨⟨B6, 0, _, _, _, rfl, hh.at (i := 1) rfl, .inr ⟨2, _, Tryz.ag_83, rfl, rfl⟩⟩, rfl, True.intro⟩
        | exact ⟨⟨B6, 0, _, _, _, rfl, hh.at (i := 2) rfl, .inr ⟨2, _, Tryz.ag_83, rfl, rfl⟩⟩, rfl, True.intro⟩
    · first
        | (have e1 : stV p t y = nar y (pws p t (shn t)) := by unfold stV; rw [hok]; rfl
           have e2 : stB p t y = neB (nar y (pws p t (shn t))) := by unfold stB; rw [hok]; rfl
           exact ⟨by first | (rw [e1, e2]; done) | (rw [e1, e2]; rfl), hh.ext⟩)
        | (have hno : okT p t = false := by clear hf hh; unfold okT; simp_all
           have e1 : stV p t y = y := by unfold stV; rw [hno]; rfl
           have e2 : stB p t y = false := by unfold stB; rw [hno]; rfl
           exact ⟨by first | (rw [e1, e2]; done) | (rw [e1, e2]; rfl), hh.ext⟩)
end Go.Proofs.YtccpgpnekoncoaaGreatDoor

namespace Go.Proofs.YtccpgpnekoncoaaGreatDoor
open Go Go.Sy Go.PaiM
theorem mul_bdF {a b : Int} (ha : 0 ≤ a ∧ a ≤ 50000) (hb : 0 ≤ b ∧ b ≤ 10000) : 0 ≤ a * b ∧ a * b ≤ 500000000 := by
  refine ⟨Int.mul_nonneg ha.1 hb.1, ?_⟩
  have h1 := Int.mul_le_mul ha.2 hb.2 hb.1 (by decide : (0 : Int) ≤ 50000)
  omega
theorem drop_atP {α : Type} {l : List α} {i : Nat} {x : α} (h : l[i]? = some x) : l.drop i = x :: l.drop (i + 1) := by
  have hi : i < l.length := (List.getElem?_eq_some_iff.1 h).1
  rw [List.drop_eq_getElem_cons hi, (List.getElem?_eq_some_iff.1 h).2]
theorem init1P {b : Nat} {o : Obj} {w : World} (h : w.heap[b]? = some o) : Hp w [b] [(b, o)] w := Hp.init1 h
theorem lk_skip {p : PrD} {y : Int × Int} {t : ThD} {l : List ThD} (h : t.far = 0) : lkF p y (t :: l) = lkF p y l := by rw [lkF, if_pos h]
theorem lk_step {p : PrD} {y : Int × Int} {t : ThD} {l : List ThD} (h : t.far ≠ 0) (hs : stB p t y = true) : lkF p y (t :: l) = lkF p (stV p t y) l := by rw [lkF, if_neg h, if_pos hs]
theorem lk_stop {p : PrD} {y : Int × Int} {t : ThD} {l : List ThD} (h : t.far ≠ 0) (hs : stB p t y = false) : lkF p y (t :: l) = none := by rw [lkF, if_neg h, if_neg (by rw [hs]; decide)]
set_option maxRecDepth 100000 in
theorem c_look (p : PrD) (sa : Option Addr) (cp : Nat) (z : Int × Int) (hp : PrOk p) (Bv : Nat) (u0 u : World) (hA : ThAt u0 sa p.th) (he0 : Ext [] u0 u) (hs0 : u0.heap.size ≤ Bv) (hv : u.heap[Bv]? = some (.cells (viA p sa cp z) viT (0, 0))) : Calls Tryz.prog 32 #[ptr Bv 0] u (RetX (fun v w' => ∃ y, powO p = some y ∧ Hp u [Bv] [(Bv, .cells (viA p sa cp y) viT)] w') (fun ch w' => powO p = none ∧ ch = misP 4 ∧ Ext [Bv] u w')) := by
  refine calls_ofX Tryz.func32 rfl rfl (fun a hf => ?_)
  have hh := init1P hv
  obtain ⟨f1, f2, f3⟩ := hp.fo
  obtain ⟨g1, g2, g3⟩ := hp.ba
  have hl := hp.nt
  have m1 := mul_bdF (a := p.fo.1) (b := p.ba.1) ⟨by omega, by omega⟩ ⟨by omega, by omega⟩
  have m2 := mul_bdF (a := p.fo.2) (b := p.ba.2) ⟨by omega, by omega⟩ ⟨by omega, by omega⟩
  refine sy_scope ?_
  refine sy_seq ?_
  refine sy_tail (C := Hp _ _ _) 28 Tryz.follows (by kernel_rfl) rfl rfl (hh.drawn _) ?_
  refine oq_v hf (yv_move rfl) ?_; clear hf a; intro a hf
  refine oq_v hf (yv_move rfl) ?_; clear hf a; intro a hf
  refine oq_v hf (yv_nilCheck rfl) ?_; clear hf a; intro a hf
  refine oq_v hf (yv_fieldAddr Tryz.fo_85_0 rfl) ?_; clear hf a; intro a hf
  refine oq_v hf (yv_fieldAddr Tryz.fo_38_0 rfl) ?_; clear hf a; intro a hf
  refine oq_v hf (yv_fieldAddr Tryz.fo_35_0 rfl) ?_; clear hf a; intro a hf
  refine oq_v hf (y_ld Tryz.sc_3 rfl) ?_; clear hf a; intro a hf
  refine oq_v hf (yv_move rfl) ?_; clear hf a; intro a hf
  refine oq_v hf (yv_nilCheck rfl) ?_; clear hf a; intro a hf
  refine oq_v hf (yv_fieldAddr Tryz.fo_85_0 rfl) ?_; clear hf a; intro a hf
  refine oq_v hf (yv_fieldAddr Tryz.fo_38_1 rfl) ?_; clear hf a; intro a hf
  refine oq_v hf (yv_fieldAddr Tryz.fo_35_0 rfl) ?_; clear hf a; intro a hf
  refine oq_v hf (y_ld Tryz.sc_3 rfl) ?_; clear hf a; intro a hf
  refine oq_v hf (y_mul rfl rfl (Int.le_trans (by decide) m1.1) (Int.le_trans m1.2 (by decide))) ?_; clear hf a; intro a hf
  refine oq_v hf (yv_move rfl) ?_; clear hf a; intro a hf
  refine oq_v hf (yv_nilCheck rfl) ?_; clear hf a; intro a hf
  refine oq_v hf (yv_fieldAddr Tryz.fo_85_0 rfl) ?_; clear hf a; intro a hf
  refine oq_v hf (yv_fieldAddr Tryz.fo_38_0 rfl) ?_; clear hf a; intro a hf
  refine oq_v hf (yv_fieldAddr Tryz.fo_35_1 rfl) ?_; clear hf a; intro a hf
  refine oq_v hf (y_ld Tryz.sc_3 rfl) ?_; clear hf a; intro a hf
  refine oq_v hf (yv_move rfl) ?_; clear hf a; intro a hf
  refine oq_v hf (yv_nilCheck rfl) ?_; clear hf a; intro a hf
  refine oq_v hf (yv_fieldAddr Tryz.fo_85_0 rfl) ?_; clear hf a; intro a hf
  refine oq_v hf (yv_fieldAddr Tryz.fo_38_1 rfl) ?_; clear hf a; intro a hf
  refine oq_v hf (yv_fieldAddr Tryz.fo_35_1 rfl) ?_; clear hf a; intro a hf
  refine oq_v hf (y_ld Tryz.sc_3 rfl) ?_; clear hf a; intro a hf
  refine oq_v hf (y_mul rfl rfl (Int.le_trans (by decide) m2.1) (Int.le_trans m2.2 (by decide))) ?_; clear hf a; intro a hf
  refine oq_v hf (yv_buildA Tryz.ba_83 rfl rfl) ?_; clear hf a; intro a hf
  refine q_end fun w hh => ?_
  refine o_v hf hh (yv_nilCheck rfl) ?_; clear hf a; intro a hf
  refine o_v hf hh (yv_fieldAddr Tryz.fo_85_1 rfl) ?_; clear hf a; intro a hf
  refine o_store hf hh Tryz.sz_83 fun w hh => ?_
  refine o_end ?_
  refine sy_seq ?_
  refine sy_label ?_
  refine then_n ?_
  refine sy_seq ?_
  replace hh : Hp u [Bv] [(Bv, .cells (viA p sa cp (pow0 p)) viT)] w := hh
  refine sy_ops ?_
  refine o_v hf hh (yv_move rfl) ?_; clear hf a; intro a hf
  refine o_v hf hh (yv_nilCheck rfl) ?_; clear hf a; intro a hf
  refine o_v hf hh (yv_fieldAddr Tryz.fo_85_0 rfl) ?_; clear hf a; intro a hf
  refine o_v hf hh (yv_fieldAddr Tryz.fo_38_5 rfl) ?_; clear hf a; intro a hf
  refine o_v hf hh (y_ld Tryz.sc_36 rfl) ?_; clear hf a; intro a hf
  refine o_v hf hh (yv_len Tryz.se_36 rfl) ?_; clear hf a; intro a hf
  refine o_v hf hh (yv_move rfl) ?_; clear hf a; intro a hf
  refine o_end ?_
  refine sy_block ?_
  refine sy_loopH (σ := Nat × (Int × Int)) [3, 4, 5, 42, 43, 44, 45, 46, 47, 48, 49, 50, 51, 52, 53, 54, 55, 56, 57, 58, 59, 60, 61, 62, 63, 64, 65] (fun s => [(42, .int .i64 (s.1 : Nat))]) (fun s => fun w' => s.1 ≤ p.th.length ∧ lkF p (pow0 p) p.th = lkF p s.2 (p.th.drop s.1) ∧ Hp u [Bv] [(Bv, .cells (viA p sa cp s.2) viT)] w') (fun s => p.th.length - s.1) ((0, pow0 p)) hf ?_ ?_ ?_
  · repeat' (first | exact True.intro | refine And.intro rfl ?_)
  · exact ⟨Nat.zero_le _, rfl, hh⟩
  ·rintro s a w ⟨hi, hlk, hh⟩ hf
   obtain ⟨i, y⟩ := s; simp only at hi hlk hh hf ⊢
   refine sy_sq ?_
   refine o_v hf hh (yv_bin rfl rfl rfl) ?_; clear hf a; intro a hf
   refine o_end ?_
   refine sy_seq ?_
   refine sy_cond hf rfl (fun hg4 => ?_) (fun hg4 => ?_)
   ·have hG4 := hg4; try simp only [gS] at hG4
    refine sy_skip ?_
    refine then_n ?_
    refine sy_seq ?_
    refine sy_block ?_
    refine sy_seq ?_
    obtain ⟨t, ht⟩ := ex_ofP (l := p.th) (i := i) (by omega)
    obtain ⟨blk, off, cc, TT, fr, esa, hb0, hc⟩ := hA i t ht
    have hb2 := he0.get hb0
    have hn2 : blk ∉ [Bv] := fun h => by
      have := (Array.getElem?_eq_some_iff.1 hb0).1
      have := List.mem_singleton.1 h
      omega
    have hO := hp.th t (List.mem_of_getElem? ht)
    rw [drop_atP ht] at hlk
    refine sy_ops ?_
    refine o_v hf hh (y_ix Tryz.se_36 (congrArg (fun z => some (Value.slice z p.th.length cp)) esa) rfl) ?_; clear hf a; intro a hf
    refine o_v hf hh (y_lds Tryz.ag_46 rfl) ?_; clear hf a; intro a hf
    refine o_alloc hf hh Tryz.ze_46 ?_; clear hf hh a; intro B3 a w hf hh
    refine o_store hf hh Tryz.sz_46 fun w hh => ?_
    refine o_end ?_
    refine sy_seq ?_
    refine sy_sq ?_
    refine o_v hf hh (yv_fieldAddr Tryz.fo_46_2 rfl) ?_; clear hf a; intro a hf
    refine o_v hf hh (y_ld Tryz.sc_3 rfl) ?_; clear hf a; intro a hf
    refine o_v hf hh (yv_bin rfl rfl rfl) ?_; clear hf a; intro a hf
    refine o_end ?_
    refine sy_cond hf rfl (fun hg7 => ?_) (fun hg7 => ?_)
    ·have hG7 := hg7; try simp only [gS] at hG7
     refine sy_exit ?_
     refine then_e ?_
     refine blk_e ?_
     refine then_n ?_
     obtain ⟨y', hlk', hh⟩ : ∃ y', lkF p (pow0 p) p.th = lkF p y' (p.th.drop (i + 1)) ∧ Hp u [Bv] [(Bv, .cells (viA p sa cp y') viT)] w := by
       first
       | exact ⟨y, hlk.trans (lk_skip (by assumption)), hh.less (.cons _ (.refl _))⟩
       | exact ⟨stV p t y, hlk.trans (lk_step (by assumption) hst), hh.less (.cons _ (.cons _ (.refl _)))⟩
     refine sy_ops ?_
     refine o_v hf hh (y_add rfl rfl) ?_; clear hf a; intro a hf
     refine o_v hf hh (yv_move rfl) ?_; clear hf a; intro a hf
     refine ops_end ?_
     refine then_n ?_
     exact ⟨(i + 1, y'), ⟨⟨by show i + 1 ≤ _; omega, hlk', hh⟩, (hf.head (by repeat' (first | exact True.intro | refine And.intro rfl ?_)) (Keep.cons rfl (Keep.cons rfl (Keep.cons rfl (Keep.cons rfl (Keep.cons rfl (Keep.cons rfl (Keep.cons rfl (Keep.cons rfl (Keep.cons rfl (Keep.app rfl (Keep.rm rfl Keep.base))))))))))))⟩, by show _ - (i + 1) < _; omega⟩
    ·have hG7 := hg7; try simp only [gS] at hG7
     refine sy_skip ?_
     refine then_n ?_
     refine sy_seq ?_
     replace hh : Hp u [Bv] [(B3, .cells (thA t) 46), (Bv, .cells (viA p sa cp y) viT)] w := hh
     refine sy_treeC (.p 0 (.q 0 1 (.p 2 (.p 3 (.p 4 (.q 0 5 (.e2 6 (.p 7 (.p 8 (.p 9 (.e1 10 (.e1 11 (.p 12 (.fin))))))) 10 (.e1 6 (.p 7 (.p 8 (.p 9 (.e1 11 (.p 12 (.fin)))))))))))))) [[]] [(AtE u [Bv] [(B3, .cells (thA t) 46), (Bv, .cells (viA p sa cp y) viT)], [])] Tryz.follows (by kernel_rfl) rfl hh (fun w hh => ?_)
     refine mc_p rfl   hf (yv_move rfl) (.inl rfl) rfl rfl ?_; clear hf a; intro a hf
     refine mc_q rfl rfl (AtE.of hh (by intro z hz; simp only [List.mem_cons, List.not_mem_nil, or_false] at hz ⊢; rcases hz with h | h <;> simp [h])) hf (y_lds Tryz.ag_46 rfl) (.inl rfl) rfl rfl ?_; clear hf a; intro a hf
     refine mc_p rfl   hf (yv_move rfl) (.inl rfl) rfl rfl ?_; clear hf a; intro a hf
     refine mc_p rfl   hf (yv_nilCheck rfl) (.inl rfl) rfl rfl ?_; clear hf a; intro a hf
     refine mc_p rfl   hf (yv_fieldAddr Tryz.fo_85_1 rfl) (.inl rfl) rfl rfl ?_; clear hf a; intro a hf
     refine mc_q rfl rfl (AtE.of hh (by intro z hz; simp only [List.mem_cons, List.not_mem_nil, or_false] at hz ⊢; rcases hz with h | h <;> simp [h])) hf (y_lds Tryz.ag_83 rfl) (.inl rfl) rfl rfl ?_; clear hf a; intro a hf
     refine ⟨?_, ?_⟩
     ·refine mc_e rfl fun Q1 => ?_
      refine o_call hf Tryz.en_34 rfl rfl rfl (c_still p sa cp y y t hp hO Bv _ (hh.get (Bv, .cells (viA p sa cp y) viT) (by simp))) ?_; clear hf a; intro v a w hR hf
      obtain ⟨rfl, hx⟩ := hR; replace hh := hh.more hx; clear hx
      refine ops_end ?_
      refine then_n ⟨⟨fun _ _ => (AtE.of hh (by intro z hz; simp only [List.mem_cons, List.not_mem_nil, or_false] at hz ⊢; rcases hz with h | h <;> simp [h])), trivial⟩, ?_⟩
      refine mc_p rfl   hf (yv_move rfl) (.inl rfl) rfl rfl ?_; clear hf a; intro a hf
      refine mc_p rfl   hf (yv_extract rfl rfl) (.inl rfl) rfl rfl ?_; clear hf a; intro a hf
      refine mc_p rfl   hf (yv_extract rfl rfl) (.inl rfl) rfl rfl ?_; clear hf a; intro a hf
      refine mc_e rfl fun Q1 => ?_
      refine o_alloc hf hh Tryz.ze_83 ?_; clear hf hh a; intro B4 a w hf hh
      refine ops_end ?_
      refine then_n ⟨⟨fun _ _ => (AtE.of hh (by intro z hz; simp only [List.mem_cons, List.not_mem_nil, or_false] at hz ⊢; rcases hz with h | h <;> simp [h])), trivial⟩, ?_⟩
      refine mc_e rfl fun Q1 => ?_
      refine o_store hf hh Tryz.sz_83 fun w hh => ?_
      refine ops_end ?_
      refine then_n ⟨⟨fun _ _ => (AtE.of hh (by intro z hz; simp only [List.mem_cons, List.not_mem_nil, or_false] at hz ⊢; rcases hz with h | h <;> simp [h])), trivial⟩, ?_⟩
      refine mc_p rfl   hf (yv_assign rfl) (.inl rfl) rfl rfl ?_; clear hf a; intro a hf
      refine mc_end ?_
      refine then_n ?_
      refine sy_seq ?_
      replace hh : Hp u [Bv] [(B4, .cells #[.int .i64 (stV p t y).1, .int .i64 (stV p t y).2] 83), (B3, .cells (thA t) 46), (Bv, .cells (viA p sa cp y) viT)] w := hh
      refine sy_ops ?_
      refine o_v hf hh (yv_move rfl) ?_; clear hf a; intro a hf
      refine o_callX hf Tryz.en_30 rfl rfl rfl (c_need (stB p t y) 4 _) ?_ ?_
      ·clear hf a; intro v a w hR hf
       obtain ⟨hst, hx⟩ := hR; replace hh := hh.more hx; clear hx
       refine o_end ?_
       refine sy_ops ?_
       refine o_v hf hh (yv_move rfl) ?_; clear hf a; intro a hf
       refine o_v hf hh (y_lds Tryz.ag_83 rfl) ?_; clear hf a; intro a hf
       refine o_v hf hh (yv_nilCheck rfl) ?_; clear hf a; intro a hf
       refine o_v hf hh (yv_fieldAddr Tryz.fo_85_1 rfl) ?_; clear hf a; intro a hf
       refine o_store hf hh Tryz.sz_83 fun w hh => ?_
       refine ops_end ?_
       refine blk_n ?_
       refine then_n ?_
       obtain ⟨y', hlk', hh⟩ : ∃ y', lkF p (pow0 p) p.th = lkF p y' (p.th.drop (i + 1)) ∧ Hp u [Bv] [(Bv, .cells (viA p sa cp y') viT)] w := by
         first
         | exact ⟨y, hlk.trans (lk_skip (by assumption)), hh.less (.cons _ (.refl _))⟩
         | exact ⟨stV p t y, hlk.trans (lk_step (by assumption) hst), hh.less (.cons _ (.cons _ (.refl _)))⟩
       refine sy_ops ?_
       refine o_v hf hh (y_add rfl rfl) ?_; clear hf a; intro a hf
       refine o_v hf hh (yv_move rfl) ?_; clear hf a; intro a hf
       refine ops_end ?_
       refine then_n ?_
       exact ⟨(i + 1, y'), ⟨⟨by show i + 1 ≤ _; omega, hlk', hh⟩, (hf.head (by repeat' (first | exact True.intro | refine And.intro rfl ?_)) (Keep.cons rfl (Keep.cons rfl (Keep.cons rfl (Keep.cons rfl (Keep.cons rfl (Keep.cons rfl (Keep.cons rfl (Keep.cons rfl (Keep.cons rfl (Keep.cons rfl (Keep.cons rfl (Keep.cons rfl (Keep.cons rfl (Keep.cons rfl (Keep.cons rfl (Keep.cons rfl (Keep.cons rfl (Keep.cons rfl (Keep.cons rfl (Keep.cons rfl (Keep.cons rfl (Keep.cons rfl (Keep.cons rfl (Keep.cons rfl (Keep.cons rfl (Keep.cons rfl (Keep.cons rfl (Keep.app rfl (Keep.rm rfl Keep.base))))))))))))))))))))))))))))))⟩, by show _ - (i + 1) < _; omega⟩
      ·intro ch w hX hf
       obtain ⟨hst, rfl, hx⟩ := hX; replace hh := hh.more hx; clear hx
       refine then_p ?_
       refine blk_p ?_
       refine then_p ?_
       refine then_p ?_
       refine blk_p ?_
       refine ng_p ?_
       refine pan_x hf ?_
       exact ⟨hlk.trans (lk_stop (by assumption) hst), rfl, hh.ext⟩
     ·refine mc_e rfl fun Q1 => ?_
      refine o_alloc hf hh Tryz.ze_83 ?_; clear hf hh a; intro B4 a w hf hh
      refine ops_end ?_
      refine then_n ⟨⟨fun _ _ => (AtE.of hh (by intro z hz; simp only [List.mem_cons, List.not_mem_nil, or_false] at hz ⊢; rcases hz with h | h <;> simp [h])), trivial⟩, ?_⟩
      refine mc_e rfl fun Q1 => ?_
      refine o_call hf Tryz.en_34 rfl rfl rfl (c_still p sa cp y y t hp hO Bv _ (hh.get (Bv, .cells (viA p sa cp y) viT) (by simp))) ?_; clear hf a; intro v a w hR hf
      obtain ⟨rfl, hx⟩ := hR; replace hh := hh.more hx; clear hx
      refine ops_end ?_
      refine then_n ⟨⟨fun _ _ => (AtE.of hh (by intro z hz; simp only [List.mem_cons, List.not_mem_nil, or_false] at hz ⊢; rcases hz with h | h <;> simp [h])), trivial⟩, ?_⟩
      refine mc_p rfl   hf (yv_move rfl) (.inl rfl) rfl rfl ?_; clear hf a; intro a hf
      refine mc_p rfl   hf (yv_extract rfl rfl) (.inl rfl) rfl rfl ?_; clear hf a; intro a hf
      refine mc_p rfl   hf (yv_extract rfl rfl) (.inl rfl) rfl rfl ?_; clear hf a; intro a hf
      refine mc_e rfl fun Q1 => ?_
      refine o_store hf hh Tryz.sz_83 fun w hh => ?_
      refine ops_end ?_
      refine then_n ⟨⟨fun _ _ => (AtE.of hh (by intro z hz; simp only [List.mem_cons, List.not_mem_nil, or_false] at hz ⊢; rcases hz with h | h <;> simp [h])), trivial⟩, ?_⟩
      refine mc_p rfl   hf (yv_assign rfl) (.inl rfl) rfl rfl ?_; clear hf a; intro a hf
      refine mc_end ?_
      refine then_n ?_
      refine sy_seq ?_
      replace hh : Hp u [Bv] [(B4, .cells #[.int .i64 (stV p t y).1, .int .i64 (stV p t y).2] 83), (B3, .cells (thA t) 46), (Bv, .cells (viA p sa cp y) viT)] w := hh
      refine sy_ops ?_
      refine o_v hf hh (yv_move rfl) ?_; clear hf a; intro a hf
      refine o_callX hf Tryz.en_30 rfl rfl rfl (c_need (stB p t y) 4 _) ?_ ?_
      ·clear hf a; intro v a w hR hf
       obtain ⟨hst, hx⟩ := hR; replace hh := hh.more hx; clear hx
       refine o_end ?_
       refine sy_ops ?_
       refine o_v hf hh (yv_move rfl) ?_; clear hf a; intro a hf
       refine o_v hf hh (y_lds Tryz.ag_83 rfl) ?_; clear hf a; intro a hf
       refine o_v hf hh (yv_nilCheck rfl) ?_; clear hf a; intro a hf
       refine o_v hf hh (yv_fieldAddr Tryz.fo_85_1 rfl) ?_; clear hf a; intro a hf
       refine o_store hf hh Tryz.sz_83 fun w hh => ?_
       refine ops_end ?_
       refine blk_n ?_
       refine then_n ?_
       obtain ⟨y', hlk', hh⟩ : ∃ y', lkF p (pow0 p) p.th = lkF p y' (p.th.drop (i + 1)) ∧ Hp u [Bv] [(Bv, .cells (viA p sa cp y') viT)] w := by
         first
         | exact ⟨y, hlk.trans (lk_skip (by assumption)), hh.less (.cons _ (.refl _))⟩
         | exact ⟨stV p t y, hlk.trans (lk_step (by assumption) hst), hh.less (.cons _ (.cons _ (.refl _)))⟩
       refine sy_ops ?_
       refine o_v hf hh (y_add rfl rfl) ?_; clear hf a; intro a hf
       refine o_v hf hh (yv_move rfl) ?_; clear hf a; intro a hf
       refine ops_end ?_
       refine then_n ?_
       exact ⟨(i + 1, y'), ⟨⟨by show i + 1 ≤ _; omega, hlk', hh⟩, (hf.head (by repeat' (first | exact True.intro | refine And.intro rfl ?_)) (Keep.cons rfl (Keep.cons rfl (Keep.cons rfl (Keep.cons rfl (Keep.cons rfl (Keep.cons rfl (Keep.cons rfl (Keep.cons rfl (Keep.cons rfl (Keep.cons rfl (Keep.cons rfl (Keep.cons rfl (Keep.cons rfl (Keep.cons rfl (Keep.cons rfl (Keep.cons rfl (Keep.cons rfl (Keep.cons rfl (Keep.cons rfl (Keep.cons rfl (Keep.cons rfl (Keep.cons rfl (Keep.cons rfl (Keep.cons rfl (Keep.cons rfl (Keep.cons rfl (Keep.cons rfl (Keep.app rfl (Keep.rm rfl Keep.base))))))))))))))))))))))))))))))⟩, by show _ - (i + 1) < _; omega⟩
      ·intro ch w hX hf
       obtain ⟨hst, rfl, hx⟩ := hX; replace hh := hh.more hx; clear hx
       refine then_p ?_
       refine blk_p ?_
       refine then_p ?_
       refine then_p ?_
       refine blk_p ?_
       refine ng_p ?_
       refine pan_x hf ?_
       exact ⟨hlk.trans (lk_stop (by assumption) hst), rfl, hh.ext⟩
   ·have hG4 := hg4; try simp only [gS] at hG4
    refine sy_exit ?_
    refine then_e ?_
    refine then_e ?_
    refine blk_e ?_
    refine ng_n ?_
    refine ret_xn ?_
    refine ret_n hf rfl rfl ?_
    have hdn : p.th.drop i = [] := List.drop_eq_nil_of_le (by omega)
    rw [hdn] at hlk
    exact ⟨y, hlk, hh⟩
end Go.Proofs.YtccpgpnekoncoaaGreatDoor

