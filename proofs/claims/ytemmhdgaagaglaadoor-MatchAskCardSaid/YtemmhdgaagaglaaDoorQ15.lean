/- Lemmas, in order: The engine: the room of a slice that a row is handed.. -/
import Derived.Test.YtemmhdgaagaglaaDoorQ14
namespace Go.Sy
open Go Go.Proofs Go.RowKit Go.ChangeShapes Go.WideShapes Go.Deep
section
variable {P : Program} {H : Type} {enc : TypeId × Value → H} {W : World} {base : Nat} {spare : Nat → Bool} {held : Bool}
theorem trod_cap {t e : TypeId} {fuel n cap : Nat} {sa : Option Addr} {cs : List Value} {x : DataW H × List MemPlace} (ht : P.underlying t = some (.slice e)) (hc : cs = [.slice sa n cap]) (h : DataW.trod enc P W base spare held fuel t cs = some x) : n ≤ cap := by
  rcases open_slice ht h with ⟨e1, _⟩ | ⟨a, len, cap', m, n', D, Pl, e1, hb, hl, hm, hmm, _, hx⟩
  · rw [hc] at e1; cases e1; exact Nat.le_refl _
  · rw [hc] at e1; cases e1; exact hl
end
end Go.Sy
