/- Lemmas, in order: Integers in memory that are made and turned one by one.. -/
import Derived.Test.YtidieepndphodaaGreatQ11
namespace Go.MatM
open Go Go.Sy Go.Proofs Go.RowKit
theorem made_grid (n : Nat) : Grid n 1 (fun _ _ => 0) (madeCells (Value.int .i64 0).cells (n * 1)) := by
  refine ⟨by simp [madeCells], fun i k hi hk => ?_⟩
  have hk0 : k = 0 := by omega
  subst hk0
  unfold madeCells
  rw [Array.getElem?_map, Array.getElem?_range, if_pos (by omega)]
  have e : (Value.int .i64 0).cells = #[.int .i64 0] := rfl
  rw [e]
  simp [Nat.mod_one]
theorem grid_one {n i : Nat} {G : Nat → Nat → Int} {cs : Array Value} (h : Grid n 1 G cs) (hi : i < n) : cs[0 + ((i : Nat) : Int).toNat * 1]? = some (.int .i64 (G i 0)) := by
  have := h.get i 0 hi (by omega)
  rw [Int.toNat_natCast, Nat.zero_add]; exact this
theorem pair_cells {cs : Array Value} {off : Nat} {c : List Pr} {j : Nat} {p : Pr} (hp : c[j]? = some p) (hcx : ∀ j v, (encP c)[j]? = some v → cs[off + j]? = some v) : cellsAt cs (off + ((j : Nat) : Int).toNat * 2) 2 = some [.int .i64 (p.1 : Int), .int .i64 (p.2 : Int)] := by
  obtain ⟨g1, g2⟩ := encP_get c j p hp
  rw [Int.toNat_natCast]
  refine cellsAt_of [.int .i64 (p.1 : Int), .int .i64 (p.2 : Int)] _ fun k v hk => ?_
  match k, hk with
  | 0, hk => cases hk; exact hcx _ _ g1
  | 1, hk => cases hk; exact hcx _ _ g2
theorem grid_vals {w : World} {B n : Nat} {G : Nat → Nat → Int} {cs : Array Value} {T : TypeId} {fr : Nat × Nat} (h : Grid n 1 G cs) (hb : w.heap[B]? = some (.cells cs T fr)) {f : Nat → Int} (e : ∀ i, i < n → G i 0 = f i) : ValsAt w (some ⟨B, 0, none⟩) (ivs ((List.range n).map f)) :=
  .inr ⟨B, 0, cs, T, fr, rfl, hb, fun j v hj => by
    have hjn : j < n := by have := (List.getElem?_eq_some_iff.1 hj).1; simpa using this
    have := h.get j 0 hjn (by omega)
    rw [Nat.mul_one, Nat.add_zero, e j hjn] at this
    rw [Nat.zero_add, this]
    unfold ivs at hj
    rw [List.map_map, List.getElem?_map, List.getElem?_range hjn] at hj
    exact hj⟩
end Go.MatM
