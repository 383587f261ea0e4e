/- Plain laws on plans: a bar turned round. -/
import Derived.Test.YtkolcbjghphjeaaDoorN4
import Derived.Test.YtkolcbjghphjeaaDoorE10
namespace Go.Proofs.YtkolcbjghphjeaaDoor
open Go Go.Sy Go.BarM
theorem byB_mk {b : BarD} {p l r : Nat} {s : Scn} (h1 : l < r) (h2 : (p >>> l) &&& 1 = 1) (h3 : (p >>> r) &&& 1 = 1) (h4 : s.least ≤ b.pitch * ((r : Int) - l)) (h5 : b.pitch * ((r : Int) - l) ≤ s.most) (h6 : (between p l r : Int) ≤ s.calm) : byB b p s l r = true := by
  unfold byB
  simp [h1, bit1_eq.1 h2, bit1_eq.1 h3, h4, h5, h6]
theorem byB_of {b : BarD} {p l r : Nat} {s : Scn} (h : byB b p s l r = true) : l < r ∧ (p >>> l) &&& 1 = 1 ∧ (p >>> r) &&& 1 = 1 ∧ s.least ≤ b.pitch * ((r : Int) - l) ∧ b.pitch * ((r : Int) - l) ≤ s.most ∧ (between p l r : Int) ≤ s.calm := by
  unfold byB at h
  simp only [Bool.and_eq_true, decide_eq_true_eq] at h
  obtain ⟨⟨⟨⟨h1, h2⟩, h3⟩, h4, h5⟩, h6⟩ := h
  exact ⟨h1, bit1_eq.2 h2, bit1_eq.2 h3, h4, h5, h6⟩
/-- A set turned round, the first k slots looked at. -/
def revTo (S p : Nat) : Nat → Nat
  | 0 => 0
  | k + 1 => revTo S p k ||| (((p >>> k) &&& 1) * 2 ^ (S - 1 - k))
def rev (S p : Nat) : Nat := revTo S p S
theorem mul_bit (p k m i : Nat) : ((((p >>> k) &&& 1) * 2 ^ m)).testBit i = (p.testBit k && decide (i = m)) := by
  rw [bit1]
  cases p.testBit k
  · simp
  · simp only [if_true, Nat.one_mul, Nat.testBit_two_pow, Bool.true_and, decide_eq_decide]; omega
theorem revTo_bit (S p : Nat) : ∀ k, k ≤ S → ∀ i, (revTo S p k).testBit i = (decide (S - k ≤ i ∧ i < S) && p.testBit (S - 1 - i))
  | 0, _, i => by
    have : ¬ (S - 0 ≤ i ∧ i < S) := by omega
    rw [decide_eq_false this]; simp [revTo]
  | k + 1, hk, i => by
    have ih := revTo_bit S p k (by omega) i
    unfold revTo
    rw [Nat.testBit_or, ih, mul_bit]
    by_cases h1 : i = S - 1 - k
    · have e : S - 1 - i = k := by omega
      have h2 : S - (k + 1) ≤ i ∧ i < S := by omega
      have h3 : ¬ (S - k ≤ i ∧ i < S) := by omega
      simp only [h2, h3, decide_false, decide_true, Bool.false_and, Bool.false_or, e]
      simp [h1]
    · by_cases h2 : S - k ≤ i ∧ i < S
      · have h3 : S - (k + 1) ≤ i ∧ i < S := by omega
        rw [decide_eq_true h2, decide_eq_true h3, decide_eq_false h1]; simp
      · have h3 : ¬ (S - (k + 1) ≤ i ∧ i < S) := by omega
        rw [decide_eq_false h2, decide_eq_false h3, decide_eq_false h1]; simp
theorem rev_bit (S p i : Nat) : (rev S p).testBit i = (decide (i < S) && p.testBit (S - 1 - i)) := by
  unfold rev
  rw [revTo_bit S p S (Nat.le_refl _) i]
  congr 1; rw [decide_eq_decide]; omega
theorem revTo_lt (S p : Nat) : ∀ k, k ≤ S → revTo S p k < 2 ^ S
  | 0, _ => by simp [revTo, Nat.pow_pos]
  | k + 1, hk => by
    have ih := revTo_lt S p k (by omega)
    unfold revTo
    refine Nat.or_lt_two_pow ih ?_
    have h1 := bit1_le p k
    have h2 : 2 ^ (S - 1 - k) ≤ 2 ^ (S - 1) := Nat.pow_le_pow_right (by omega) (by omega)
    have h3 : 2 ^ S = 2 * 2 ^ (S - 1) := by rw [← Nat.pow_succ']; congr 1; omega
    have h4 := Nat.two_pow_pos (S - 1)
    have h5 : ((p >>> k) &&& 1) * 2 ^ (S - 1 - k) ≤ 1 * 2 ^ (S - 1 - k) := Nat.mul_le_mul_right _ h1
    omega
theorem rev_lt (S p : Nat) : rev S p < 2 ^ S := revTo_lt S p S (Nat.le_refl _)
theorem rev_rev {S p : Nat} (h : p < 2 ^ S) : rev S (rev S p) = p := by
  apply Nat.eq_of_testBit_eq
  intro i
  rw [rev_bit, rev_bit]
  by_cases hi : i < S
  · have e : S - 1 - (S - 1 - i) = i := by omega
    have h2 : S - 1 - i < S := by omega
    simp [hi, h2, e]
  · have := testBit_lt (k := i) h (by omega)
    rw [this]; simp [hi]
theorem pc_cnt : ∀ {n p : Nat}, p < 2 ^ n → n < 32 → pc p = (List.range n).countP (p.testBit ·)
  | 0, p, h, _ => by have : p = 0 := by omega
                     subst this; simp [pc_zero]
  | n + 1, p, h, hn => by
    have h1 := pc_top n p h (by omega)
    have h2 := pc_cnt (n := n) (p := p % 2 ^ n) (Nat.mod_lt _ (Nat.two_pow_pos n)) (by omega)
    rw [h1, h2, List.range_succ, List.countP_append]
    congr 1
    · apply List.countP_congr
      intro i hi
      rw [List.mem_range] at hi
      simp [Nat.testBit_mod_two_pow, hi]
    · simp [List.countP_cons]
theorem range_rev (S : Nat) : ((List.range S).map fun i => S - 1 - i).Perm (List.range S) := by
  refine (List.perm_ext_iff_of_nodup ?_ List.nodup_range).2 fun j => ?_
  · refine List.pairwise_map.2 (List.Pairwise.imp_of_mem ?_ (List.nodup_range (n := S)))
    intro a c ha hc hne
    rw [List.mem_range] at ha hc
    omega
  · rw [List.mem_map, List.mem_range]
    constructor
    · rintro ⟨i, hi, rfl⟩; rw [List.mem_range] at hi; omega
    · intro hj; exact ⟨S - 1 - j, by rw [List.mem_range]; omega, by omega⟩
theorem pc_rev {S p : Nat} (h : p < 2 ^ S) (hS : S < 32) : pc (rev S p) = pc p := by
  rw [pc_cnt (rev_lt S p) hS, pc_cnt h hS, ← (range_rev S).countP_eq (p.testBit ·), List.countP_map]
  apply List.countP_congr
  intro i hi
  rw [List.mem_range] at hi
  simp [rev_bit, hi]
theorem btw_cnt (p l r : Nat) : between p l r = (List.range' (l + 1) (r - (l + 1))).countP (p.testBit ·) := by
  unfold between; rw [List.countP_eq_length_filter]
theorem range'_rev (S l m : Nat) (h : l + m ≤ S) : ((List.range' l m).map fun i => S - 1 - i).Perm (List.range' (S - (l + m)) m) := by
  refine (List.perm_ext_iff_of_nodup ?_ List.nodup_range').2 fun j => ?_
  · refine List.pairwise_map.2 (List.Pairwise.imp_of_mem ?_ (List.nodup_range' (s := l) (n := m) (step := 1)))
    intro a c ha hc hne
    rw [List.mem_range'_1] at ha hc
    omega
  · rw [List.mem_map, List.mem_range'_1]
    constructor
    · rintro ⟨i, hi, rfl⟩; rw [List.mem_range'_1] at hi; omega
    · intro hj; exact ⟨S - 1 - j, by rw [List.mem_range'_1]; omega, by omega⟩
theorem between_rev {S p l r : Nat} (hl : l < r) (hr : r < S) : between (rev S p) (S - 1 - r) (S - 1 - l) = between p l r := by
  rw [btw_cnt, btw_cnt]
  have e := range'_rev S (l + 1) (r - (l + 1)) (by omega)
  have e2 : S - (l + 1 + (r - (l + 1))) = S - 1 - r + 1 := by omega
  have e3 : S - 1 - l - (S - 1 - r + 1) = r - (l + 1) := by omega
  rw [e2] at e
  rw [e3, ← e.countP_eq ((rev S p).testBit ·), List.countP_map]
  apply List.countP_congr
  intro i hi
  rw [List.mem_range'_1] at hi
  have h1 : S - 1 - i < S := by omega
  have h2 : S - 1 - (S - 1 - i) = i := by omega
  simp [rev_bit, h1, h2]
/-- The bar turned round. -/
def turnB (b : BarD) : BarD := { b with broken := (rev b.slots.toNat b.broken.toNat : Nat) }
theorem turn_bd {b : BarD} {p : Nat} (h : isPlan (turnB b) p = true) : p < 2 ^ b.slots.toNat := isPlan_bd (b := turnB b) h
section
variable {b : BarD} (hV : Valid b)
include hV
theorem turn_valid : Valid (turnB b) := by
  have hs1 := hV.s1; have hs2 := hV.s2
  have h := rev_lt b.slots.toNat b.broken.toNat
  have hpw2 := cast_pow b.slots.toNat
  exact ⟨hV.s1, hV.s2, hV.p1, hV.p2, Int.natCast_nonneg _, by show ((rev b.slots.toNat b.broken.toNat : Nat) : Int) ≤ 2 ^ b.slots.toNat - 1; rw [← hpw2]; omega, hV.m1, hV.m2, hV.n, hV.sc⟩
theorem turn_turn : turnB (turnB b) = b := by
  have hk1 := hV.k1; have hk2 := hV.k2
  have hpw2 := cast_pow b.slots.toNat
  have h := rev_rev (S := b.slots.toNat) (p := b.broken.toNat) (by omega)
  unfold turnB
  simp only [Int.toNat_natCast]
  rw [h, Int.toNat_of_nonneg hk1]
theorem turn_plan {p : Nat} (h : isPlan b p = true) : isPlan (turnB b) (rev b.slots.toNat p) = true := by
  have hs2 := hV.s2
  have h1 := (isPlan_iff b p).1 h
  rw [isPlan_iff]
  refine ⟨rev_lt _ _, ?_, fun k hk => ?_⟩
  · rw [pc_rev h1.1 (by omega)]; exact h1.2.1
  · show ¬ ((rev b.slots.toNat p).testBit k = true ∧ ((rev b.slots.toNat b.broken.toNat : Nat) : Int).toNat.testBit k = true)
    rw [Int.toNat_natCast, rev_bit, rev_bit]
    have hk' : k < b.slots.toNat := hk
    have := h1.2.2 (b.slots.toNat - 1 - k) (by omega)
    simpa [hk'] using this
omit hV in
theorem turn_by {p l r : Nat} {s : Scn} (hp : p < 2 ^ b.slots.toNat) (h : byB b p s l r = true) : byB (turnB b) (rev b.slots.toNat p) s (b.slots.toNat - 1 - r) (b.slots.toNat - 1 - l) = true := by
  obtain ⟨h1, h2, h3, h4, h5, h6⟩ := byB_of h
  have hr := bit_lt hp (bit1_eq.1 h3)
  have e : (((b.slots.toNat - 1 - l : Nat) : Int) - ((b.slots.toNat - 1 - r : Nat) : Int)) = (r : Int) - l := by omega
  refine byB_mk (by omega) ?_ ?_ ?_ ?_ ?_
  · rw [bit1_eq, rev_bit, show b.slots.toNat - 1 - (b.slots.toNat - 1 - r) = r by omega, bit1_eq.1 h3]; simp; omega
  · rw [bit1_eq, rev_bit, show b.slots.toNat - 1 - (b.slots.toNat - 1 - l) = l by omega, bit1_eq.1 h2]; simp; omega
  · rw [e]; exact h4
  · rw [e]; exact h5
  · rw [between_rev h1 hr]; exact h6
theorem turn_taken {p : Nat} (hp : p < 2 ^ b.slots.toNat) : taken (turnB b) (rev b.slots.toNat p) = taken b p := by
  apply Nat.eq_of_testBit_eq
  intro i
  rw [taken_bit, taken_bit]
  show (match b.scenes[i]? with | some s => (best (turnB b) (rev b.slots.toNat p) s).isSome | none => false) = _
  cases hs : b.scenes[i]? with
  | none => rfl
  | some s =>
    simp only
    have hr : rev b.slots.toNat p < 2 ^ (turnB b).slots.toNat := rev_lt _ _
    have key : best (turnB b) (rev b.slots.toNat p) s = none ↔ best b p s = none := by
      rw [best_none hr, best_none hp]
      constructor
      · intro h l r
        cases hb : byB b p s l r
        · rfl
        · have := turn_by hp hb; rw [h] at this; cases this
      · intro h l r
        cases hb : byB (turnB b) (rev b.slots.toNat p) s l r
        · rfl
        · have h2 := turn_by hr hb
          rw [turn_turn hV] at h2
          have e : rev (turnB b).slots.toNat (rev b.slots.toNat p) = p := rev_rev hp
          rw [e, h] at h2; cases h2
    cases h1 : best b p s with
    | none => rw [key.2 h1]
    | some x =>
      cases h2 : best (turnB b) (rev b.slots.toNat p) s with
      | none => rw [key.1 h2] at h1; cases h1
      | some y => rfl
theorem turn_takes {p set : Nat} (hp : p < 2 ^ b.slots.toNat) : takesB (turnB b) set (rev b.slots.toNat p) = takesB b set p := by
  unfold takesB; rw [turn_taken hV hp]
theorem turn_back {p : Nat} (h : isPlan (turnB b) p = true) : isPlan b (rev b.slots.toNat p) = true := by
  have h2 := turn_plan (turn_valid hV) h
  rw [turn_turn hV] at h2; exact h2
theorem turn_len (set : Nat) : (refL (turnB b) set).length = (refL b set).length := by
  have h : (refL (turnB b) set).Perm ((refL b set).map (rev b.slots.toNat)) := by
    refine (List.perm_ext_iff_of_nodup ?_ ?_).2 fun q => ?_
    · exact (refL_sorted _ _).imp fun {p q} h => by omega
    · refine List.pairwise_map.2 (List.Pairwise.imp_of_mem ?_ (refL_sorted b set))
      intro p q hp hq hlt e
      have h1 := isPlan_bd (mem_refL.1 hp).1
      have h2 := isPlan_bd (mem_refL.1 hq).1
      have h3 := rev_rev h1; have h4 := rev_rev h2
      rw [e] at h3; omega
    · rw [mem_refL, List.mem_map]
      constructor
      · rintro ⟨h1, h2⟩
        have h3 := turn_back hV h1
        have hq : q < 2 ^ b.slots.toNat := turn_bd h1
        refine ⟨rev b.slots.toNat q, mem_refL.2 ⟨h3, ?_⟩, rev_rev hq⟩
        have h4 := turn_takes hV (p := rev b.slots.toNat q) (set := set) (rev_lt _ _)
        rw [rev_rev hq] at h4
        rw [← h4]; exact h2
      · rintro ⟨p, hp, rfl⟩
        obtain ⟨h1, h2⟩ := mem_refL.1 hp
        exact ⟨turn_plan hV h1, by rw [turn_takes hV (isPlan_bd h1)]; exact h2⟩
  rw [h.length_eq, List.length_map]
theorem turn_first : (firstP (turnB b) (allS b)).isSome = (firstP b (allS b)).isSome ∧ ∀ f g, firstP b (allS b) = some f → firstP (turnB b) (allS b) = some g → pc f = pc g := by
  have hT := turn_valid hV
  have hs2 := hV.s2
  constructor
  · have e := turn_len hV (allS b)
    have h1 := refL_nil hV (set := allS b); have h2 := refL_nil hT (set := allS b)
    cases hf : firstP b (allS b) with
    | none =>
      rw [h1.2 hf] at e
      have := h2.1 (List.eq_nil_of_length_eq_zero (by simpa using e))
      rw [this]
    | some f =>
      cases hg : firstP (turnB b) (allS b) with
      | none =>
        rw [h2.2 hg] at e
        have := h1.1 (List.eq_nil_of_length_eq_zero (by simpa using e.symm))
        rw [this] at hf; cases hf
      | some g => rfl
  · intro f g hf hg
    have h1 := firstP_some hV hf
    have h2 := firstP_some hT hg
    have hfb := isPlan_bd h1.plan
    have hgb : g < 2 ^ b.slots.toNat := turn_bd h2.plan
    have a1 := lx_le (h1.least _ (turn_back hV h2.plan) (by
      have h4 := turn_takes hV (p := rev b.slots.toNat g) (set := allS b) (rev_lt _ _)
      rw [rev_rev hgb] at h4; rw [← h4]; exact h2.takes))
    have a2 := lx_le (h2.least _ (turn_plan hV h1.plan) (by rw [turn_takes hV hfb]; exact h1.takes))
    rw [pc_rev hgb (by omega)] at a1
    rw [pc_rev hfb (by omega)] at a2
    omega
theorem turn_fewest {f g p : Nat} (hfg : pc f = pc g) : fewest (turnB b) (allS b) g (rev b.slots.toNat p) ∧ p < 2 ^ b.slots.toNat ↔ fewest b (allS b) f p := by
  have hs2 := hV.s2
  constructor
  · rintro ⟨⟨h1, h2, h3⟩, hp⟩
    have h4 := turn_back hV h1
    rw [rev_rev hp] at h4
    rw [turn_takes hV hp] at h2
    rw [pc_rev hp (by omega)] at h3
    exact ⟨h4, h2, by omega⟩
  · rintro ⟨h1, h2, h3⟩
    have hp := isPlan_bd h1
    exact ⟨⟨turn_plan hV h1, by rw [turn_takes hV hp]; exact h2, by rw [pc_rev hp (by omega)]; omega⟩, hp⟩
theorem turn_nd {f g : Nat} (hf : IsFew b (allS b) f) (hg : IsFew (turnB b) (allS b) g) (hfg : pc f = pc g) :
    rev b.slots.toNat (ndF b (allS b) f).1 = (ndF (turnB b) (allS b) g).1 ∧ rev b.slots.toNat (ndF b (allS b) f).2 = (ndF (turnB b) (allS b) g).2 := by
  have hT := turn_valid hV
  have hs2 := hV.s2
  have key : ∀ q, fewest (turnB b) (allS b) g q ↔ ∃ p, fewest b (allS b) f p ∧ q = rev b.slots.toNat p := fun q => by
    constructor
    · intro hq
      have hqb : q < 2 ^ b.slots.toNat := turn_bd hq.1
      refine ⟨rev b.slots.toNat q, (turn_fewest hV hfg).1 ⟨by rw [rev_rev hqb]; exact hq, rev_lt _ _⟩, (rev_rev hqb).symm⟩
    · rintro ⟨p, hp, rfl⟩; exact ((turn_fewest hV hfg).2 hp).1
  constructor
  · apply Nat.eq_of_testBit_eq
    intro i
    rw [Bool.eq_iff_iff, (ndF_bit hT hg i).1, rev_bit, Bool.and_eq_true, decide_eq_true_eq, (ndF_bit hV hf _).1]
    constructor
    · rintro ⟨h1, _, h2⟩
      refine ⟨by omega, fun q hq => ?_⟩
      obtain ⟨p, hp, rfl⟩ := (key q).1 hq
      rw [rev_bit, h2 p hp]; simp [h1]
    · rintro ⟨_, h2⟩
      have h3 := h2 g (fewest_self hg)
      have h4 : i < b.slots.toNat := bit_lt (n := b.slots.toNat) (turn_bd hg.plan) h3
      refine ⟨h4, by omega, fun p hp => ?_⟩
      have h5 := h2 _ ((key _).2 ⟨p, hp, rfl⟩)
      rw [rev_bit] at h5; simp [h4] at h5; exact h5
  · apply Nat.eq_of_testBit_eq
    intro i
    rw [Bool.eq_iff_iff, (ndF_bit hT hg i).2, rev_bit, Bool.and_eq_true, decide_eq_true_eq, (ndF_bit hV hf _).2]
    constructor
    · rintro ⟨h1, p, hp, h2⟩
      exact ⟨_, (key _).2 ⟨p, hp, rfl⟩, by rw [rev_bit, h2]; simp [h1]⟩
    · rintro ⟨q, hq, h2⟩
      obtain ⟨p, hp, rfl⟩ := (key q).1 hq
      rw [rev_bit, Bool.and_eq_true, decide_eq_true_eq] at h2
      exact ⟨h2.1, p, hp, h2.2⟩
theorem turn_most : pc (taken (turnB b) (bstK (turnB b) (plansL (turnB b)).length)) = pc (taken b (bstK b (plansL b).length)) := by
  have hT := turn_valid hV
  have h1 := bst_most hV; have h2 := bst_most hT
  generalize bstK b (plansL b).length = m at *
  generalize bstK (turnB b) (plansL (turnB b)).length = k at *
  have hmb := isPlan_bd h1.plan
  have hkb : k < 2 ^ b.slots.toNat := turn_bd h2.plan
  have a1 := bt_le (h1.best _ (turn_back hV h2.plan))
  have a2 := bt_le (h2.best _ (turn_plan hV h1.plan))
  have e1 := turn_taken hV (p := rev b.slots.toNat k) (rev_lt _ _)
  rw [rev_rev hkb] at e1
  have e2 := turn_taken hV hmb
  rw [e2] at a2
  rw [← e1] at a1
  omega
end
theorem rev_zero (S : Nat) : rev S 0 = 0 := by
  apply Nat.eq_of_testBit_eq; intro i; rw [rev_bit]; simp
theorem turn_cnt {b : BarD} (hV : Valid b) : cntK (turnB b) (allS b) (plansL (turnB b)).length = cntK b (allS b) (plansL b).length := by
  rw [cnt_ref hV, cnt_ref (turn_valid hV), turn_len hV]
end Go.Proofs.YtkolcbjghphjeaaDoor
