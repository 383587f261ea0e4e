/- Lemmas, in order: The room of rows that a law is handed.. -/
import Derived.Test.YtemmhdgaagaglaaDoorQ15
namespace Go.Proofs.YtemmhdgaagaglaaDoor
open Go Go.Sy Go.MatM Go.ChangeShapes Go.WideShapes Go.Deep Go.RowKit
theorem rowsCap {H : Type} {enc : TypeId × Value → H} {W : World} {base : Nat} {spare : Nat → Bool} {held : Bool} {d : RowsD} {sa sb : Option Addr} {ca cb : Nat} {dd : DataW H} {p : List MemPlace} (h : DataW.Trod enc Tryd.prog W base spare held 26 (rowsV d sa sb ca cb) dd p) : d.l.length ≤ ca ∧ d.r.length ≤ cb := by
  obtain ⟨fuel, h⟩ := h
  obtain ⟨_, hf⟩ := trod_field hs26 h
  rw [fs26] at hf
  obtain ⟨_, _, g0⟩ := hf 0 0 22 1 rfl co22
  obtain ⟨_, _, g1⟩ := hf 1 1 22 1 rfl co22
  exact ⟨trod_cap un22 rfl g0, trod_cap un22 rfl g1⟩
end Go.Proofs.YtemmhdgaagaglaaDoor
