/- Lemmas, in order: Rows that a law is handed, opened; the library's table.. -/
import Derived.Test.YtemmhdgaagaglaaDoorQ13
import Derived.Test.YtemmhdgaagaglaaDoorRows
import Derived.Test.YtemmhdgaagaglaaDoorChecked
import Derived.JoinedOf
import Derived.LaidLaws
import Derived.Lib.LaidU8
import Derived.RowKit
import Derived.RowKitTokens
import Derived.LaidHandle
import Derived.Stop.Joined
import Derived.Lay
namespace Go.Proofs.YtemmhdgaagaglaaDoor
open Go Go.Sy Go.MatM Go.ChangeShapes Go.WideShapes Go.Deep Go.RowKit
theorem hs26 : Tryd.prog.underlying 26 = some (.struct (Tryd.prog.fieldsOf 26)) := by kernel_rfl
theorem fs26 : (Tryd.prog.fieldsOf 26).map (fun f => (f.offset, f.type)) = #[(0, 22), (1, 22), (2, 24), (4, 3)] := by kernel_rfl
theorem co26 : Tryd.prog.cellsOf 26 = 5 := by kernel_rfl
theorem co22 : Tryd.prog.cellsOf 22 = 1 := by kernel_rfl
theorem co24 : Tryd.prog.cellsOf 24 = 2 := by kernel_rfl
theorem co3 : Tryd.prog.cellsOf 3 = 1 := by kernel_rfl
theorem un22 : Tryd.prog.underlying 22 = some (.slice 53) := by kernel_rfl
theorem fk53 : flK Tryd.prog .i64 9 53 = some 4 := by kernel_rfl
theorem fk24 : flK Tryd.prog .i64 9 24 = some 2 := by kernel_rfl
theorem fk3 : flK Tryd.prog .i64 9 3 = some 1 := by kernel_rfl
def toMk (p : List Int) : Mk := match p with
  | [x, y, z, t] => ⟨x, y, z, t⟩
  | _ => ⟨0, 0, 0, 0⟩
theorem mkAt_flat {W : World} {sa : Option Addr} {l : List (List Int)} (hl : ∀ p ∈ l, p.length = 4) (h : FlatAt W .i64 sa 4 l) : MkAt W sa (l.map toMk) := fun i s hi => by
  rw [List.getElem?_map] at hi
  cases hp : l[i]? with
  | none => rw [hp] at hi; cases hi
  | some p =>
    rw [hp] at hi
    cases hi
    obtain ⟨blk, off, c, T, fr, h1, h2, h3⟩ := h i p hp
    refine ⟨blk, off, c, T, fr, h1, h2, ?_⟩
    rw [h3]
    match p, hl p (List.mem_of_getElem? hp) with
    | [x, y, z, t], _ => rfl
theorem len5 {l : List Value} (h : l.length = 5) : ∃ a b c d e, l = [a, b, c, d, e] := by
  match l, h with
  | [a, b, c, d, e], _ => exact ⟨a, b, c, d, e, rfl⟩
section
variable {H : Type} {enc : TypeId × Value → H} {W : World} {base : Nat} {spare : Nat → Bool} {held : Bool}
set_option maxRecDepth 100000 in
theorem openRows {r : Reach} {b0 : Nat} {v : Value} {d : DataW H} {p : List MemPlace} (hv : Value.okWide Tryd.prog W r b0 26 v) (h : DataW.Trod enc Tryd.prog W base spare held 26 v d p) : ∃ (d : RowsD) (sa sb : Option Addr) (ca cb : Nat), v = rowsV d sa sb ca cb ∧ MkAt W sa d.l ∧ MkAt W sb d.r ∧ (-9223372036854775808 ≤ d.hid ∧ d.hid ≤ 9223372036854775807) := by
  obtain ⟨cs, rfl, hsz⟩ := okWide_struct hs26 hv
  obtain ⟨fuel, h⟩ := h
  obtain ⟨_, hf⟩ := trod_field hs26 h
  rw [fs26] at hf
  rw [co26] at hsz
  obtain ⟨l, rfl⟩ : ∃ l : List Value, cs = l.toArray := ⟨cs.toList, by simp⟩
  obtain ⟨c0, c1, c2, c3, c4, rfl⟩ := len5 (by simpa using hsz)
  replace hf : ∀ (i o : Nat) (u : TypeId) (c : Nat), (#[(0, 22), (1, 22), (2, 24), (4, 3)] : Array (Nat × TypeId))[i]? = some (o, u) → Tryd.prog.cellsOf u = c → ∃ n y, DataW.trod enc Tryd.prog W base spare held n u (([c0, c1, c2, c3, c4].drop o).take c) = some y := hf
  obtain ⟨_, _, g0⟩ := hf 0 0 22 1 rfl co22
  obtain ⟨_, _, g1⟩ := hf 1 1 22 1 rfl co22
  obtain ⟨_, _, g2⟩ := hf 2 2 24 2 rfl co24
  obtain ⟨_, _, g3⟩ := hf 3 4 3 1 rfl co3
  obtain ⟨l0, sa, ca, e0, _, b0', f0⟩ := trod_slices un22 fk53 (by omega) g0
  obtain ⟨l1, sb, cb, e1, _, b1, f1⟩ := trod_slices un22 fk53 (by omega) g1
  obtain ⟨p2, q2, e2, _⟩ := trod_fl fk24 g2
  obtain ⟨p3, q3, e3, w3⟩ := trod_fl fk3 g3
  obtain ⟨lo, hi, rfl⟩ : ∃ x y, p2 = [x, y] := by
    match p2, q2 with
    | [x, y], _ => exact ⟨x, y, rfl⟩
  obtain ⟨hid, rfl⟩ : ∃ x, p3 = [x] := by
    match p3, q3 with
    | [x], _ => exact ⟨x, rfl⟩
  simp at e0 e1 e2 e3
  obtain ⟨rfl, rfl⟩ := e2
  subst e0; subst e1; subst e3
  exact ⟨⟨l0.map toMk, l1.map toMk, lo, hi, hid⟩, sa, sb, ca, cb, by simp, mkAt_flat (fun p hp => (b0' p hp).1) f0, mkAt_flat (fun p hp => (b1 p hp).1) f1, wf64 (w3 hid (by simp))⟩
end
theorem gn1 : Tryd.prog.globalNamed "math/bits.deBruijn64tab" = some 1 := by kernel_rfl
theorem gt1 : (Tryd.prog.globals[1]?).map (·.type) = some 137 := by kernel_rfl
theorem untab : Tryd.prog.underlying 137 = some (.array 64 5) := by kernel_rfl
theorem un5 : Tryd.prog.underlying 5 = some (.int .u8) := by kernel_rfl
theorem co5 : Tryd.prog.cellsOf 5 = 1 := by kernel_rfl
theorem tab_data : (Rows.laid_math_bits_deBruijn64tab : DataW Unit) = .agg (Lib.deBruijn64tab.map fun (k : Nat) => .lit (.int .u8 (k : Int))) := by kernel_rfl
theorem tab_len : Lib.deBruijn64tab.length = 64 := by kernel_rfl
theorem gTab_of_laid {W : World} {l : List (String × DataW Unit)} (hm : ("math/bits.deBruijn64tab", Rows.laid_math_bits_deBruijn64tab) ∈ l) (h : laidMet Tryd.prog l W) : GTab W := by
  obtain ⟨g, t, cs, fuel, p, h1, h2, h3, h4⟩ := Lib.laidMet.reads h hm
  obtain rfl : 1 = g := Option.some.inj (gn1.symm.trans h1)
  obtain rfl : 137 = t := Option.some.inj (gt1.symm.trans h2)
  rw [tab_data] at h4
  have hb : ∃ T fr, W.heap[1]? = some (.cells cs T fr) := by
    simp only [World.var?, gn1, Option.bind_some] at h3
    split at h3
    · rename_i c T fr hc
      cases h3; exact ⟨T, fr, hc⟩
    · cases h3
  obtain ⟨T, fr, hb⟩ := hb
  refine ⟨cs, T, fr, hb, fun j hj => ?_⟩
  obtain ⟨fuel', d, q, hd, ht⟩ := Lib.array_elem untab h4 j hj
  rw [co5, Nat.mul_one] at ht
  obtain ⟨n, e1, e2, _⟩ := DataW.trod_int un5 ht
  rw [List.getElem?_map] at hd
  have hjl : j < Lib.deBruijn64tab.length := by rw [tab_len]; exact hj
  rw [List.getElem?_eq_getElem hjl] at hd
  have hd := Option.some.inj hd
  have e3 : d = .lit (.int .u8 n) := congrArg Prod.fst e2
  rw [e3] at hd
  have hn : n = ((Lib.deBruijn64tab[j] : Nat) : Int) := by injection hd with hd; injection hd with _ hd; exact hd.symm
  have h5 := congrArg (·[0]?) e1
  simp only [List.getElem?_take, List.getElem?_drop, Nat.add_zero] at h5
  have h6 : cs[j]? = some (.int .u8 n) := by simpa using h5
  rw [h6, hn, List.getD_eq_getElem?_getD, List.getElem?_eq_getElem hjl]; rfl
theorem own : ownKnob Tryd.prog.godebug = none := by kernel_rfl
theorem laidWorld_met (os : Os) (args : Array Value) : laidMetH Tryd.prog Rows.matchNamesRow.laid ((World.laidAll Tryd.prog os Rows.matchNamesRow.laid).forCall (fun _ _ => 0) ⟨#[], args, []⟩).memory :=
  laidMetH_of_parts (laidMet_laidAll args (by kernel_rfl) (by kernel_rfl)) (by kernel_rfl)
theorem un4 : Tryd.prog.underlying 4 = some .bool := by kernel_rfl
end Go.Proofs.YtemmhdgaagaglaaDoor
