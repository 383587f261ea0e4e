/- The library's table, from the row's condition. -/
import Derived.Test.YtkolcbjghphjeaaDoorB17
import Derived.Lib.LaidU8
namespace Go.Proofs.YtkolcbjghphjeaaDoor
open Go Go.Sy Go.BarM Go.ChangeShapes Go.WideShapes Go.Deep
theorem gn1 : Tryd.prog.globalNamed "math/bits.deBruijn64tab" = some 1 := by kernel_rfl
theorem gt1 : (Tryd.prog.globals[1]?).map (·.type) = some 107 := by kernel_rfl
theorem un107 : Tryd.prog.underlying 107 = some (.array 64 5) := by kernel_rfl
theorem un5 : Tryd.prog.underlying 5 = some (.int .u8) := by kernel_rfl
theorem co5 : Tryd.prog.cellsOf 5 = 1 := by kernel_rfl
theorem tab_data : (Rows.laid_math_bits_deBruijn64tab : DataW Unit) = .agg (Lib.deBruijn64tab.map fun (k : Nat) => .lit (.int .u8 (k : Int))) := by kernel_rfl
theorem tab_len : Lib.deBruijn64tab.length = 64 := by kernel_rfl
theorem gTab_of_laid {W : World} {l : List (String × DataW Unit)} (hm : ("math/bits.deBruijn64tab", Rows.laid_math_bits_deBruijn64tab) ∈ l) (h : laidMet Tryd.prog l W) : GTab W := by
  obtain ⟨g, t, cs, fuel, p, h1, h2, h3, h4⟩ := Lib.laidMet.reads h hm
  obtain rfl : 1 = g := Option.some.inj (gn1.symm.trans h1)
  obtain rfl : 107 = t := Option.some.inj (gt1.symm.trans h2)
  rw [tab_data] at h4
  have hb : ∃ T fr, W.heap[1]? = some (.cells cs T fr) := by
    simp only [World.var?, gn1, Option.bind_some] at h3
    split at h3
    · rename_i c T fr hc
      cases h3; exact ⟨T, fr, hc⟩
    · cases h3
  obtain ⟨T, fr, hb⟩ := hb
  refine ⟨cs, T, fr, hb, fun j hj => ?_⟩
  obtain ⟨fuel', d, q, hd, ht⟩ := Lib.array_elem un107 h4 j hj
  rw [co5, Nat.mul_one] at ht
  obtain ⟨n, e1, e2, _⟩ := DataW.trod_int un5 ht
  rw [List.getElem?_map] at hd
  have hjl : j < Lib.deBruijn64tab.length := by rw [tab_len]; exact hj
  rw [List.getElem?_eq_getElem hjl] at hd
  have hd := Option.some.inj hd
  have e3 : d = .lit (.int .u8 n) := congrArg Prod.fst e2
  rw [e3] at hd
  have hn : n = ((Lib.deBruijn64tab[j] : Nat) : Int) := by injection hd with hd; injection hd with _ hd; exact hd.symm
  have h5 := congrArg (·[0]?) e1
  simp only [List.getElem?_take, List.getElem?_drop, Nat.add_zero] at h5
  have h6 : cs[j]? = some (.int .u8 n) := by simpa using h5
  rw [h6, hn, List.getD_eq_getElem?_getD, List.getElem?_eq_getElem hjl]; rfl
end Go.Proofs.YtkolcbjghphjeaaDoor
