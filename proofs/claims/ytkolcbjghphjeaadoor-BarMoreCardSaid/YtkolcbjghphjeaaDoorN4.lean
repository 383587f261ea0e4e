/- Plain laws on plans: a plan by bits; what the statements ask. -/
import Derived.Test.YtkolcbjghphjeaaDoorN3
namespace Go.Proofs.YtkolcbjghphjeaaDoor
open Go Go.Sy Go.BarM
/-- The plan by bits, the first k slots looked at, and its size. -/
def planTo (b : BarD) (y : Nat) : Nat → Nat × Nat
  | 0 => (0, 0)
  | k + 1 => if y.testBit k = true ∧ b.broken.toNat.testBit k = false ∧ ((planTo b y k).2 : Int) < b.most then ((planTo b y k).1 ||| 2 ^ k, (planTo b y k).2 + 1) else planTo b y k
def planV (b : BarD) (y : Nat) : Nat := (planTo b y b.slots.toNat).1
theorem pc_add {a k : Nat} (h : a < 2 ^ k) (hk : k < 31) : pc (a ||| 2 ^ k) = pc a + 1 := by
  rw [lt_or_add h]
  have h1 := pc_top k (a + 2 ^ k) (by rw [Nat.pow_succ]; omega) (by omega)
  have e1 : (a + 2 ^ k) % 2 ^ k = a := by rw [Nat.add_mod_right, Nat.mod_eq_of_lt h]
  have e2 : (a + 2 ^ k).testBit k = true := by
    rw [← lt_or_add h, Nat.testBit_or, Nat.testBit_two_pow]; simp
  rw [e1, e2] at h1; simpa using h1
structure PlOk (b : BarD) (k : Nat) (o : Nat × Nat) : Prop where
  lt : o.1 < 2 ^ k
  sz : o.2 = pc o.1
  most : (o.2 : Int) ≤ b.most
  ok : ∀ i, o.1.testBit i = true → b.broken.toNat.testBit i = false
theorem planTo_ok {b : BarD} (hV : Valid b) (y : Nat) : ∀ k, k ≤ b.slots.toNat → PlOk b k (planTo b y k)
  | 0, _ => ⟨by simp [planTo], by simp [planTo, pc_zero], by have := hV.m1; simp [planTo]; omega, fun i h => by simp [planTo] at h⟩
  | k + 1, hk => by
    have hs2 := hV.s2
    have ih := planTo_ok hV y k (by omega)
    unfold planTo
    split
    · rename_i hc
      refine ⟨?_, ?_, by simp only; omega, fun i hi => ?_⟩
      · simp only; rw [lt_or_add ih.lt, Nat.pow_succ]; have := ih.lt; omega
      · simp only; rw [pc_add ih.lt (by omega), ih.sz]
      · simp only [Nat.testBit_or, Nat.testBit_two_pow, Bool.or_eq_true, decide_eq_true_eq] at hi
        rcases hi with hi | hi
        · exact ih.ok i hi
        · subst hi; exact hc.2.1
    · exact ⟨Nat.lt_trans ih.lt (Nat.pow_lt_pow_right (by omega) (by omega)), ih.sz, ih.most, ih.ok⟩
theorem planV_plan {b : BarD} (hV : Valid b) (y : Nat) : isPlan b (planV b y) = true := by
  have h := planTo_ok hV y b.slots.toNat (Nat.le_refl _)
  rw [isPlan_iff]
  refine ⟨h.lt, by unfold planV; rw [← h.sz]; exact h.most, fun k _ hk => ?_⟩
  have := h.ok k hk.1
  rw [this] at hk; cases hk.2
theorem pc_le_of {n : Nat} : ∀ {t : Nat}, t < 2 ^ n → n < 32 → pc t ≤ n ∧ (pc t = n → t = 2 ^ n - 1) := by
  induction n with
  | zero => intro t h _; have : t = 0 := by omega
            subst this; simp [pc_zero]
  | succ n ih =>
    intro t h hn
    have h1 := pc_top n t h (by omega)
    have hp := Nat.two_pow_pos n
    have h2 := ih (t := t % 2 ^ n) (Nat.mod_lt _ hp) (by omega)
    have h3 : t = t % 2 ^ n + 2 ^ n * (t / 2 ^ n) := (Nat.mod_add_div t (2 ^ n)).symm
    rw [Nat.pow_succ] at h
    have h4 : t / 2 ^ n < 2 := (Nat.div_lt_iff_lt_mul hp).2 (by omega)
    by_cases hb : t.testBit n = true
    · rw [hb] at h1
      simp at h1
      refine ⟨by omega, fun e => ?_⟩
      have h5 := h2.2 (by omega)
      have h6 : t / 2 ^ n = 1 := by
        rw [Nat.testBit_eq_decide_div_mod_eq, decide_eq_true_eq] at hb
        clear h3 h1 h2 h5
        generalize t / 2 ^ n = z at *
        omega
      rw [h6] at h3; rw [Nat.pow_succ]; omega
    · simp only [Bool.not_eq_true] at hb
      rw [hb] at h1
      simp at h1
      exact ⟨by omega, fun e => by omega⟩
theorem pc_ones : ∀ n, n < 32 → pc (2 ^ n - 1) = n
  | 0, _ => by simp [pc_zero]
  | n + 1, hn => by
    have h1 := pc_ones n (by omega)
    have hp := Nat.two_pow_pos n
    have e : 2 ^ (n + 1) - 1 = (2 ^ n - 1) ||| 2 ^ n := by rw [lt_or_add (by omega), Nat.pow_succ]; omega
    rw [e]
    have h2 := pc_top n ((2 ^ n - 1) ||| 2 ^ n) (by rw [lt_or_add (by omega), Nat.pow_succ]; omega) (by omega)
    have e2 : ((2 ^ n - 1) ||| 2 ^ n) % 2 ^ n = 2 ^ n - 1 := by rw [lt_or_add (by omega), Nat.add_mod_right, Nat.mod_eq_of_lt (by omega)]
    have e3 : ((2 ^ n - 1) ||| 2 ^ n).testBit n = true := by rw [Nat.testBit_or, Nat.testBit_two_pow]; simp
    rw [e2, e3, h1] at h2; simpa using h2
theorem all_sub {n t : Nat} (ht : t < 2 ^ n) : (∀ i, (2 ^ n - 1).testBit i = true → t.testBit i = true) ↔ t = 2 ^ n - 1 := by
  constructor
  · intro h
    apply Nat.eq_of_testBit_eq
    intro i
    rw [Nat.testBit_two_pow_sub_one]
    by_cases hi : i < n
    · have := h i (by rw [Nat.testBit_two_pow_sub_one]; simpa using hi)
      rw [this]; simp [hi]
    · rw [testBit_lt ht (by omega)]; simp [hi]
  · intro h; subst h; exact fun i hi => hi
theorem taken_all {b : BarD} {p : Nat} : takesB b (allS b) p = true ↔ taken b p = allS b := by
  rw [takesB_iff]; exact all_sub (taken_lt b p)
theorem few_all {b : BarD} {f : Nat} (h : IsFew b (allS b) f) : taken b f = allS b := taken_all.1 h.takes
theorem cnt_two {b : BarD} (hV : Valid b) {set p q : Nat} (hp : isPlan b p = true) (hpt : takesB b set p = true) (hq : isPlan b q = true) (hqt : takesB b set q = true) :
    1 ≤ cntK b set (plansL b).length ∧ (q = p ∨ 2 ≤ cntK b set (plansL b).length) := by
  rw [cnt_ref hV]
  have h1 := mem_refL.2 ⟨hp, hpt⟩
  have h2 := mem_refL.2 ⟨hq, hqt⟩
  have hl := List.length_pos_of_mem h1
  refine ⟨hl, ?_⟩
  by_cases e : q = p
  · exact .inl e
  · right
    match hL : refL b set with
    | [] => rw [hL] at h1; cases h1
    | [x] => rw [hL] at h1 h2; simp at h1 h2; exact absurd (h2.trans h1.symm) e
    | x :: y :: L => simp
theorem cnt_none {b : BarD} (hV : Valid b) {set : Nat} (h : firstP b set = none) : cntK b set (plansL b).length = 0 := by
  rw [cnt_ref hV, (refL_nil hV).2 h]; rfl
section
variable {b : BarD} (hV : Valid b) {set f : Nat} (hf : IsFew b set f)
include hV hf
theorem nd_all {q : Nat} (hq : fewest b set f q) : andn (ndF b set f).1 q = 0 := andn_zero.2 fun i hi => ((ndF_bit hV hf i).1.1 hi).2 q hq
theorem nd_some {q : Nat} (hq : fewest b set f q) : andn q (ndF b set f).2 = 0 := andn_zero.2 fun i hi => (ndF_bit hV hf i).2.2 ⟨q, hq, hi⟩
theorem nd_broken : (ndF b set f).2 &&& b.broken.toNat = 0 := by
  apply Nat.eq_of_testBit_eq
  intro i
  rw [Nat.testBit_and, Nat.zero_testBit]
  cases h : (ndF b set f).2.testBit i
  · rfl
  · obtain ⟨p, hp, hpi⟩ := (ndF_bit hV hf i).2.1 h
    have h1 := (isPlan_iff b p).1 hp.1
    have h2 := h1.2.2 i (bit_lt h1.1 hpi)
    cases hb : b.broken.toNat.testBit i
    · rfl
    · exact absurd ⟨hpi, hb⟩ h2
end
theorem few_most {b : BarD} (hV : Valid b) {f : Nat} (hf : IsFew b (allS b) f) : f = bstK b (plansL b).length := by
  have hn := hV.n
  refine IsMost.uniq (b := b) ⟨hf.plan, fun q hq => ?_⟩ (bst_most hV)
  have hfa := few_all hf
  by_cases ht : taken b q = allS b
  · rcases hf.least q hq (taken_all.2 ht) with e | e
    · exact .inl e
    · right; right; rw [hfa, ht]; exact ⟨rfl, e⟩
  · right; left
    have h1 := pc_le_of (taken_lt b q) (by omega)
    have h2 := pc_le_of (taken_lt b f) (by omega)
    have h3 : pc (allS b) = b.scenes.length := pc_ones b.scenes.length (by omega)
    rw [hfa, h3]
    by_cases e : pc (taken b q) = b.scenes.length
    · exact absurd (h1.2 e) ht
    · omega
theorem lx_le {p q : Nat} (h : p = q ∨ Lx p q) : pc p ≤ pc q ∧ (pc p = pc q → p ≤ q) := by
  rcases h with rfl | h
  · exact ⟨Nat.le_refl _, fun _ => Nat.le_refl _⟩
  · unfold Lx at h; omega
theorem bt_le {b : BarD} {p q : Nat} (h : p = q ∨ Bt b p q) : pc (taken b q) ≤ pc (taken b p) ∧ (pc (taken b q) = pc (taken b p) → pc p ≤ pc q ∧ (pc p = pc q → p ≤ q)) := by
  rcases h with rfl | h
  · exact ⟨Nat.le_refl _, fun _ => ⟨Nat.le_refl _, fun _ => Nat.le_refl _⟩⟩
  · unfold Bt Lx at h; omega
end Go.Proofs.YtkolcbjghphjeaaDoor
