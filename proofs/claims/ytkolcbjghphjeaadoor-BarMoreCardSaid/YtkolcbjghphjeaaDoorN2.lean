/- Plain laws on plans: sets by bits; which slots are needed. -/
import Derived.Test.YtkolcbjghphjeaaDoorN1
namespace Go.Proofs.YtkolcbjghphjeaaDoor
open Go Go.Sy Go.BarM
theorem taken_bit (b : BarD) (p i : Nat) : (taken b p).testBit i = (match b.scenes[i]? with | some s => (best b p s).isSome | none => false) := by
  have h := takenTo_bit b p b.scenes.length i (Nat.le_refl _)
  have e : taken b p = takenTo b p b.scenes.length := by unfold taken; rfl
  rw [e, h]
  by_cases hi : i < b.scenes.length
  · simp [hi]
  · rw [List.getElem?_eq_none (by omega)]; simp
theorem andn_bit (a c i : Nat) : (andn a c).testBit i = (a.testBit i && !c.testBit i) := by
  unfold andn
  rw [Nat.testBit_xor, Nat.testBit_and]
  cases a.testBit i <;> cases c.testBit i <;> rfl
theorem andn_zero {a c : Nat} : andn a c = 0 ↔ ∀ i, a.testBit i = true → c.testBit i = true := by
  constructor
  · intro h i hi
    have := andn_bit a c i
    rw [h, Nat.zero_testBit, hi] at this
    cases hc : c.testBit i <;> simp [hc] at this ⊢
  · intro h
    apply Nat.eq_of_testBit_eq
    intro i
    rw [andn_bit, Nat.zero_testBit]
    cases ha : a.testBit i
    · rfl
    · rw [h i ha]; rfl
theorem takesB_iff {b : BarD} {set p : Nat} : takesB b set p = true ↔ ∀ i, set.testBit i = true → (taken b p).testBit i = true := by
  unfold takesB
  rw [decide_eq_true_eq, andn_zero]
/-- The first k scenes of a set are taken. -/
def tkTo (b : BarD) (set p k : Nat) : Bool := (List.range k).all fun i => !set.testBit i || (taken b p).testBit i
theorem tkTo_zero (b : BarD) (set p : Nat) : tkTo b set p 0 = true := by simp [tkTo]
theorem tkTo_step (b : BarD) (set p k : Nat) : tkTo b set p (k + 1) = (tkTo b set p k && (!set.testBit k || (taken b p).testBit k)) := by
  unfold tkTo; rw [List.range_succ, List.all_append]; simp
theorem tkTo_all {b : BarD} {set p n : Nat} (h : set < 2 ^ n) : tkTo b set p n = takesB b set p := by
  rw [Bool.eq_iff_iff, takesB_iff]
  unfold tkTo
  rw [List.all_eq_true]
  constructor
  · intro hh i hi
    have hin : i < n := by
      by_cases hin : i < n
      · exact hin
      · rw [testBit_lt h (by omega)] at hi; cases hi
    have := hh i (by simpa using hin)
    rw [hi] at this; simpa using this
  · intro hh i _
    cases hs : set.testBit i
    · rfl
    · simpa using hh i hs
theorem tkTo_no {b : BarD} {set p k n : Nat} (h : set < 2 ^ n) (hk : k ≤ n) (hf : tkTo b set p k = false) : takesB b set p = false := by
  cases ht : takesB b set p
  · rfl
  · rw [← tkTo_all h] at ht
    unfold tkTo at *
    rw [List.all_eq_true] at ht
    have : (List.range k).all (fun i => !set.testBit i || (taken b p).testBit i) = true := List.all_eq_true.2 fun i hi => ht i (by simp at hi ⊢; omega)
    rw [this] at hf; cases hf
/-- The plans of refL, the first k numbers looked at. -/
def refK (b : BarD) (set k : Nat) : List Nat := (List.range k).filter fun p => isPlan b p && takesB b set p
theorem refK_zero (b : BarD) (set : Nat) : refK b set 0 = [] := by simp [refK]
theorem refK_step (b : BarD) (set k : Nat) : refK b set (k + 1) = if isPlan b k && takesB b set k then refK b set k ++ [k] else refK b set k := by
  unfold refK; rw [List.range_succ, List.filter_append]
  by_cases h : (isPlan b k && takesB b set k) = true
  · rw [if_pos h]; simp [h]
  · rw [if_neg h]; simp [h]
theorem refK_len (b : BarD) (set k : Nat) : (refK b set k).length ≤ k := by
  unfold refK; exact Nat.le_trans (List.length_filter_le _ _) (by simp)
theorem refK_all (b : BarD) (set : Nat) : refK b set (2 ^ b.slots.toNat) = refL b set := rfl
theorem refL_nil {b : BarD} (hV : Valid b) {set : Nat} : refL b set = [] ↔ firstP b set = none := by
  rw [firstP_none hV, List.eq_nil_iff_forall_not_mem]
  constructor
  · intro h q hq
    cases ht : takesB b set q
    · rfl
    · exact absurd (mem_refL.2 ⟨hq, ht⟩) (h q)
  · intro h q hq
    obtain ⟨h1, h2⟩ := mem_refL.1 hq
    rw [h q h1] at h2; cases h2
theorem refL_bd {b : BarD} (hV : Valid b) {set k p : Nat} (h : (refL b set)[k]? = some p) : p < 2 ^ b.slots.toNat := isPlan_bd (mem_refL.1 (List.mem_of_getElem? h)).1
theorem refL_sorted (b : BarD) (set : Nat) : (refL b set).Pairwise (· < ·) := List.Pairwise.filter _ List.pairwise_lt_range
/-- The first with the fewest slots, of the first k of a list. -/
def fewK (L : List Nat) (k : Nat) : Nat := (L.take k).foldl (fun m p => if pc p < pc m then p else m) (L.headD 0)
theorem fewK_zero (L : List Nat) : fewK L 0 = L.headD 0 := by simp [fewK]
theorem fewK_step {L : List Nat} {k y : Nat} (h : L[k]? = some y) : fewK L (k + 1) = if pc y < pc (fewK L k) then y else fewK L k := by
  unfold fewK; rw [List.take_add_one, h, List.foldl_append]; rfl
theorem few_fold : ∀ (L D : List Nat) (m : Nat), (D ++ L).Pairwise (· < ·) → m ∈ D → (∀ q ∈ D, m = q ∨ Lx m q) →
    (L.foldl (fun m p => if pc p < pc m then p else m) m) ∈ D ++ L ∧ ∀ q ∈ D ++ L, (L.foldl (fun m p => if pc p < pc m then p else m) m) = q ∨ Lx (L.foldl (fun m p => if pc p < pc m then p else m) m) q
  | [], D, m, _, hm, h => by rw [List.append_nil]; exact ⟨hm, h⟩
  | y :: L, D, m, hs, hm, h => by
    have e : D ++ y :: L = (D ++ [y]) ++ L := by simp
    rw [List.foldl_cons]
    rw [e] at hs ⊢
    refine few_fold L (D ++ [y]) _ hs ?_ ?_
    · split
      · simp
      · simp [hm]
    · have hd : ∀ q ∈ D, q < y := fun q hq => by
        have h2 := (List.pairwise_append.1 hs).1
        exact (List.pairwise_append.1 h2).2.2 q hq y (by simp)
      intro q hq
      rcases List.mem_append.1 hq with hq | hq
      · split
        · rename_i hlt
          right
          rcases h q hq with e | e
          · subst e; exact .inl hlt
          · unfold Lx at *; omega
        · exact h q hq
      · simp at hq; subst hq
        split
        · exact .inl rfl
        · rename_i hge
          have := hd m hm
          unfold Lx
          right
          by_cases h1 : pc m < pc q
          · exact .inl h1
          · exact .inr ⟨by omega, this⟩
theorem few_ref {b : BarD} (hV : Valid b) {set : Nat} (h : refL b set ≠ []) : IsFew b set (fewK (refL b set) (refL b set).length) := by
  have hs := refL_sorted b set
  cases hL : refL b set with
  | nil => exact absurd hL h
  | cons x L =>
    rw [hL] at hs
    have hf := few_fold L [x] x hs (by simp) (fun q hq => by simp at hq; exact .inl hq.symm)
    have hk : fewK (x :: L) (x :: L).length = L.foldl (fun m p => if pc p < pc m then p else m) x := by
      unfold fewK
      rw [List.take_length, List.foldl_cons]
      congr 1
      simp
    rw [hk]
    have hm := mem_refL.1 (by rw [hL]; exact hf.1 : _ ∈ refL b set)
    exact ⟨hm.1, hm.2, fun q hq hqt => hf.2 q (by have := mem_refL.2 ⟨hq, hqt⟩; rw [hL] at this; exact this)⟩
theorem few_first {b : BarD} (hV : Valid b) {set : Nat} (h : refL b set ≠ []) : firstP b set = some (fewK (refL b set) (refL b set).length) := (firstP_iff hV).2 (few_ref hV h)
theorem fewK_mem {L : List Nat} (h : L ≠ []) : ∀ k, fewK L k ∈ L
  | 0 => by rw [fewK_zero]; cases L with | nil => exact absurd rfl h | cons x L => simp
  | k + 1 => by
    cases hy : L[k]? with
    | none =>
      have e : fewK L (k + 1) = fewK L k := by unfold fewK; rw [List.take_add_one, hy]; simp
      rw [e]; exact fewK_mem h k
    | some y => rw [fewK_step hy]; split; exact List.mem_of_getElem? hy; exact fewK_mem h k
/-- Numbers by bits. -/
def sumB (P : Nat → Bool) : Nat → Nat
  | 0 => 0
  | k + 1 => if P k then sumB P k + 2 ^ k else sumB P k
theorem sumB_lt (P : Nat → Bool) : ∀ k, sumB P k < 2 ^ k
  | 0 => by simp [sumB]
  | k + 1 => by have := sumB_lt P k; unfold sumB; rw [Nat.pow_succ]; split <;> omega
theorem lt_or_add {a k : Nat} (h : a < 2 ^ k) : a ||| 2 ^ k = a + 2 ^ k := by
  have h1 := Nat.two_pow_add_eq_or_of_lt (i := k) h 1
  rw [Nat.mul_one] at h1
  rw [Nat.or_comm, ← h1, Nat.add_comm]
theorem sumB_bit (P : Nat → Bool) : ∀ (k i : Nat), (sumB P k).testBit i = (decide (i < k) && P i)
  | 0, i => by simp [sumB]
  | k + 1, i => by
    have ih := sumB_bit P k i
    have hlt := sumB_lt P k
    unfold sumB
    by_cases hk : P k = true
    · rw [if_pos hk, ← lt_or_add hlt, Nat.testBit_or, ih, Nat.testBit_two_pow]
      by_cases hik : i = k
      · subst hik; simp [hk]
      · by_cases hik2 : i < k
        · have : i < k + 1 := by omega
          simp [hik2, this, Ne.symm hik]
        · have : ¬ i < k + 1 := by omega
          simp [hik2, this, Ne.symm hik]
    · rw [if_neg hk, ih]
      by_cases hik : i = k
      · subst hik; simp [hk]
      · by_cases hik2 : i < k
        · have : i < k + 1 := by omega
          simp [hik2, this]
        · have : ¬ i < k + 1 := by omega
          simp [hik2, this]
theorem nd_fold (b : BarD) (set i : Nat) : ∀ (L : List Nat) (m : Nat × Nat),
    (L.foldl (ndStep b set) m).1.testBit i = (m.1.testBit i && L.all fun p => !takesB b set p || p.testBit i) ∧
    (L.foldl (ndStep b set) m).2.testBit i = (m.2.testBit i || L.any fun p => takesB b set p && p.testBit i)
  | [], m => by simp
  | p :: L, m => by
    have ih := nd_fold b set i L (ndStep b set m p)
    rw [List.foldl_cons, ih.1, ih.2]
    unfold ndStep
    cases ht : takesB b set p
    · simp [ht]
    · simp [ht, Nat.testBit_and, Nat.testBit_or, Bool.and_assoc, Bool.or_assoc]
/-- A plan with the fewest slots that take a set. -/
def fewest (b : BarD) (set f p : Nat) : Prop := isPlan b p = true ∧ takesB b set p = true ∧ pc p = pc f
theorem takeWhile_mem {f : Nat} : ∀ {L : List Nat}, L.Pairwise Lx → ∀ q, q ∈ L.takeWhile (fun p => decide (pc p ≤ pc f)) ↔ q ∈ L ∧ pc q ≤ pc f
  | [], _, q => by simp
  | x :: L, hs, q => by
    rw [List.pairwise_cons] at hs
    rw [List.takeWhile_cons]
    by_cases hx : pc x ≤ pc f
    · rw [if_pos (by simpa using hx), List.mem_cons, List.mem_cons, takeWhile_mem hs.2 q]
      constructor
      · rintro (rfl | ⟨h1, h2⟩)
        · exact ⟨.inl rfl, hx⟩
        · exact ⟨.inr h1, h2⟩
      · rintro ⟨rfl | h1, h2⟩
        · exact .inl rfl
        · exact .inr ⟨h1, h2⟩
    · rw [if_neg (by simpa using hx)]
      constructor
      · intro h; cases h
      · rintro ⟨h1, h2⟩
        rcases List.mem_cons.1 h1 with rfl | h1
        · exact absurd h2 hx
        · have := hs.1 q h1; unfold Lx at this; omega
theorem ndF_bit {b : BarD} (hV : Valid b) {set f : Nat} (hf : IsFew b set f) (i : Nat) :
    ((ndF b set f).1.testBit i = true ↔ i < 64 ∧ ∀ p, fewest b set f p → p.testBit i = true) ∧ ((ndF b set f).2.testBit i = true ↔ ∃ p, fewest b set f p ∧ p.testBit i = true) := by
  have hn := nd_fold b set i ((plansL b).takeWhile fun p => decide (pc p ≤ pc f)) (18446744073709551615, 0)
  have hmem := fun q => takeWhile_mem (f := f) (plansL_sorted b) q
  have key : ∀ q, (q ∈ (plansL b).takeWhile (fun p => decide (pc p ≤ pc f)) ∧ takesB b set q = true) ↔ fewest b set f q := fun q => by
    rw [hmem, mem_plansL hV]
    constructor
    · rintro ⟨⟨h1, h2⟩, h3⟩
      refine ⟨h1, h3, ?_⟩
      rcases hf.least q h1 h3 with e | e
      · rw [e]
      · unfold Lx at e; omega
    · rintro ⟨h1, h2, h3⟩
      exact ⟨⟨h1, by omega⟩, h2⟩
  have e64 : (18446744073709551615 : Nat) = 2 ^ 64 - 1 := rfl
  unfold ndF
  rw [hn.1, hn.2]
  constructor
  · rw [Bool.and_eq_true, List.all_eq_true, e64, Nat.testBit_two_pow_sub_one, decide_eq_true_eq]
    refine and_congr_right fun _ => ?_
    constructor
    · intro h p hp
      obtain ⟨h1, h2⟩ := (key p).2 hp
      have := h p h1
      rw [h2] at this; simpa using this
    · intro h p hp
      cases ht : takesB b set p
      · rfl
      · simpa using h p ((key p).1 ⟨hp, ht⟩)
  · rw [Nat.zero_testBit, Bool.false_or, List.any_eq_true]
    constructor
    · rintro ⟨p, hp, h⟩
      rw [Bool.and_eq_true] at h
      exact ⟨p, (key p).1 ⟨hp, h.1⟩, h.2⟩
    · rintro ⟨p, hp, h⟩
      obtain ⟨h1, h2⟩ := (key p).2 hp
      exact ⟨p, h1, by rw [h2, h]; rfl⟩
end Go.Proofs.YtkolcbjghphjeaaDoor
