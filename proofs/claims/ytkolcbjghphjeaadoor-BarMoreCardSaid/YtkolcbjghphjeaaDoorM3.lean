/- Bits, and the pairs of slots in the program's order. -/
import Derived.Test.YtkolcbjghphjeaaDoorM2
import Derived.Shelf.Spec.TrailingZeros
namespace Go.BarM
open Go Go.Sy
theorem low_clear (t : Nat) : ∀ q : Nat, q.testBit t = true → (∀ i, i < t → q.testBit i = false) → ∀ j, (q &&& (q - 1)).testBit j = (q.testBit j && decide (j ≠ t)) := by
  induction t with
  | zero =>
    intro q h _ j
    rw [Nat.testBit_zero] at h
    have h1 : q % 2 = 1 := by simpa using h
    rw [Nat.testBit_and]
    cases j with
    | zero => simp [Nat.testBit_zero]; omega
    | succ j => rw [Nat.testBit_succ, Nat.testBit_succ, show (q - 1) / 2 = q / 2 by omega]; simp
  | succ t ih =>
    intro q h hl j
    have h0 := hl 0 (by omega)
    rw [Nat.testBit_zero] at h0
    have h1 : q % 2 = 0 := by simp at h0; omega
    have hq : q ≠ 0 := by rintro rfl; simp at h
    rw [Nat.testBit_succ] at h
    have e := ih (q / 2) h (fun i hi => by rw [← Nat.testBit_succ]; exact hl (i + 1) (by omega))
    cases j with
    | zero => rw [Nat.testBit_and, Nat.testBit_zero]; simp [h1]
    | succ j =>
      have := e j
      rw [Nat.testBit_and] at this
      rw [Nat.testBit_and, Nat.testBit_succ, Nat.testBit_succ, show (q - 1) / 2 = q / 2 - 1 by omega, this]
      simp
theorem ctz_bits {q : Nat} (h0 : q ≠ 0) (h : q < 65536) : Lib.ctz 64 q < 16 ∧ q.testBit (Lib.ctz 64 q) = true ∧ ∀ i, i < Lib.ctz 64 q → q.testBit i = false := by
  obtain ⟨m, hm, _⟩ := Lib.ctzFrom_spec 64 q (by omega) (by omega)
  have e : Lib.ctz 64 q = Lib.ctzFrom 64 q := by simp [Lib.ctz, h0]
  rw [e]
  generalize Lib.ctzFrom 64 q = t at hm
  have h1 : q.testBit t = true := by rw [hm, Nat.testBit_two_pow_mul]; simp [Nat.testBit_zero]
  have h2 : ∀ i, i < t → q.testBit i = false := by
    intro i hi; rw [hm, Nat.testBit_two_pow_mul]
    have : ¬ i ≥ t := by omega
    simp [this]
  refine ⟨?_, h1, h2⟩
  by_cases ht : t < 16
  · exact ht
  · have := Nat.testBit_lt_two_pow (x := q) (i := t) (Nat.lt_of_lt_of_le h (Nat.pow_le_pow_right (n := 2) (by omega) (show 16 ≤ t by omega)))
    rw [this] at h1; cases h1
def bitsOf (q : Nat) : List Nat := (List.range 16).filter (q.testBit ·)
theorem bitsOf_zero : bitsOf 0 = [] := by simp [bitsOf]
theorem bitsOf_next {q : Nat} (h0 : q ≠ 0) (h : q < 65536) : bitsOf q = Lib.ctz 64 q :: bitsOf (q &&& (q - 1)) := by
  obtain ⟨h1, h2, h3⟩ := ctz_bits h0 h
  have h4 := low_clear _ q h2 h3
  generalize Lib.ctz 64 q = t at *
  unfold bitsOf
  have hr : List.range 16 = List.range' 0 t ++ t :: List.range' (t + 1) (15 - t) := by
    have e1 : List.range' 0 16 = List.range' 0 t ++ List.range' (0 + t) (16 - t) := by rw [List.range'_append_1]; congr 1; omega
    rw [List.range_eq_range', e1, show 16 - t = (15 - t) + 1 by omega, List.range'_succ, Nat.zero_add]
  rw [hr, List.filter_append, List.filter_append, List.filter_cons, List.filter_cons]
  have a1 : (List.range' 0 t).filter (q.testBit ·) = [] := by
    rw [List.filter_eq_nil_iff]; intro x hx; rw [List.mem_range'_1] at hx; simp [h3 x (by omega)]
  have a2 : (List.range' 0 t).filter ((q &&& (q - 1)).testBit ·) = [] := by
    rw [List.filter_eq_nil_iff]; intro x hx; rw [List.mem_range'_1] at hx; rw [h4]; simp [h3 x (by omega)]
  have a3 : (List.range' (t + 1) (15 - t)).filter (q.testBit ·) = (List.range' (t + 1) (15 - t)).filter ((q &&& (q - 1)).testBit ·) := by
    apply List.filter_congr; intro x hx; rw [List.mem_range'_1] at hx; rw [h4]; simp; omega
  rw [a1, a2, a3, h4 t, h2]
  simp
/-- The two slots at a, d apart, if they take a scene. -/
def cand (p : Nat) (s : Scn) (d a : Nat) : Option (Nat × Nat × Nat) := if (between p a (a + d) : Int) ≤ s.calm then some (between p a (a + d), a, a + d) else none
def rowD (p : Nat) (s : Scn) (d : Nat) : List (Nat × Nat × Nat) := (bitsOf (p &&& (p >>> d))).filterMap (cand p s d)
def restD (p : Nat) (s : Scn) (hi d : Nat) : List (Nat × Nat × Nat) := (List.range' d (hi + 1 - d)).flatMap (rowD p s)
theorem restD_step (p : Nat) (s : Scn) {hi d : Nat} (h : d ≤ hi) : restD p s hi d = (bitsOf (p &&& (p >>> d))).filterMap (cand p s d) ++ restD p s hi (d + 1) := by
  unfold restD
  rw [show hi + 1 - d = (hi + 1 - (d + 1)) + 1 by omega, List.range'_succ, List.flatMap_cons]; rfl
theorem restD_end (p : Nat) (s : Scn) {hi d : Nat} (h : hi < d) : restD p s hi d = [] := by
  unfold restD
  rw [show hi + 1 - d = 0 by omega]; rfl
theorem next_yes {p : Nat} {s : Scn} {d q : Nat} {L D R : List (Nat × Nat × Nat)} (h : (between p (Lib.ctz 64 q) (Lib.ctz 64 q + d) : Int) ≤ s.calm) (h0 : q ≠ 0) (hq : q < 65536) (hx : L = D ++ ((bitsOf q).filterMap (cand p s d) ++ R)) :
    L = D ++ ((between p (Lib.ctz 64 q) (Lib.ctz 64 q + d), Lib.ctz 64 q, Lib.ctz 64 q + d) :: ((bitsOf (q &&& (q - 1))).filterMap (cand p s d) ++ R)) := by
  rw [hx, bitsOf_next h0 hq, List.filterMap_cons]
  have : cand p s d (Lib.ctz 64 q) = some (between p (Lib.ctz 64 q) (Lib.ctz 64 q + d), Lib.ctz 64 q, Lib.ctz 64 q + d) := by unfold cand; rw [if_pos h]
  rw [this]; rfl
theorem next_no {p : Nat} {s : Scn} {d q : Nat} {L D R : List (Nat × Nat × Nat)} (h : ¬ (between p (Lib.ctz 64 q) (Lib.ctz 64 q + d) : Int) ≤ s.calm) (h0 : q ≠ 0) (hq : q < 65536) (hx : L = D ++ ((bitsOf q).filterMap (cand p s d) ++ R)) :
    L = D ++ ((bitsOf (q &&& (q - 1))).filterMap (cand p s d) ++ R) := by
  rw [hx, bitsOf_next h0 hq, List.filterMap_cons]
  have : cand p s d (Lib.ctz 64 q) = none := by unfold cand; rw [if_neg h]
  rw [this]
end Go.BarM
