/- Plain laws on plans: the statement's own count of slots that are needed. -/
import Derived.Test.YtkolcbjghphjeaaDoorN4
namespace Go.Proofs.YtkolcbjghphjeaaDoor
open Go Go.Sy Go.BarM
def bcStep (m : Nat × Nat × Nat) (p : Nat) : Nat × Nat × Nat := if pc p < m.1 then (pc p, p, p) else if pc p = m.1 then (m.1, m.2.1 &&& p, m.2.2 ||| p) else m
def bcK (b : BarD) (k : Nat) : Nat × Nat × Nat := (refK b (allS b) k).foldl bcStep (b.slots.toNat + 1, 0, 0)
theorem bcK_yes {b : BarD} {k : Nat} (h1 : isPlan b k = true) (h2 : takesB b (allS b) k = true) : bcK b (k + 1) = bcStep (bcK b k) k := by
  unfold bcK; rw [refK_step, h1, h2, if_pos (by rfl), List.foldl_append]; rfl
theorem bcK_no {b : BarD} {k : Nat} (h : isPlan b k = false ∨ takesB b (allS b) k = false) : bcK b (k + 1) = bcK b k ∧ refK b (allS b) (k + 1) = refK b (allS b) k := by
  have e : (isPlan b k && takesB b (allS b) k) = false := by rcases h with h | h <;> simp [h]
  unfold bcK; rw [refK_step, e, if_neg (by simp)]; exact ⟨rfl, rfl⟩
theorem refK_yes {b : BarD} {k : Nat} (h1 : isPlan b k = true) (h2 : takesB b (allS b) k = true) : (refK b (allS b) (k + 1)).length = (refK b (allS b) k).length + 1 := by
  rw [refK_step, h1, h2, if_pos (by rfl)]; simp
structure BcOk (S : Nat) (L : List Nat) (m : Nat × Nat × Nat) : Prop where
  nil : L = [] → m = (S + 1, 0, 0)
  hit : L ≠ [] → ∃ p ∈ L, pc p = m.1
  low : ∀ p ∈ L, m.1 ≤ pc p
  all : L ≠ [] → ∀ i, m.2.1.testBit i = true ↔ ∀ p ∈ L, pc p = m.1 → p.testBit i = true
  some : L ≠ [] → ∀ i, m.2.2.testBit i = true ↔ ∃ p ∈ L, pc p = m.1 ∧ p.testBit i = true
theorem BcOk.step {S : Nat} {L : List Nat} {m : Nat × Nat × Nat} (h : BcOk S L m) {y : Nat} (hy : pc y ≤ S) : BcOk S (L ++ [y]) (bcStep m y) := by
  unfold bcStep
  by_cases hL : L = []
  · have hm := h.nil hL
    subst hL; subst hm
    rw [if_pos (by simp only; omega)]
    exact ⟨by simp, by simp, by simp, by simp, by simp⟩
  · obtain ⟨p0, hp0, e0⟩ := h.hit hL
    have hall := h.all hL; have hsome := h.some hL
    by_cases h1 : pc y < m.1
    · rw [if_pos h1]
      have hlt : ∀ p ∈ L, ¬ pc p = pc y := fun p hp => by have := h.low p hp; omega
      refine ⟨by simp, fun _ => ⟨y, by simp, rfl⟩, fun p hp => ?_, fun _ i => ?_, fun _ i => ?_⟩
      · rcases List.mem_append.1 hp with hp | hp
        · have := h.low p hp; simp only; omega
        · simp at hp; subst hp; exact Nat.le_refl _
      · constructor
        · intro hi p hp e
          rcases List.mem_append.1 hp with hp | hp
          · exact absurd e (hlt p hp)
          · simp at hp; subst hp; exact hi
        · intro hi; exact hi y (by simp) rfl
      · constructor
        · intro hi; exact ⟨y, by simp, rfl, hi⟩
        · rintro ⟨p, hp, e, hi⟩
          rcases List.mem_append.1 hp with hp | hp
          · exact absurd e (hlt p hp)
          · simp at hp; subst hp; exact hi
    · rw [if_neg h1]
      by_cases h2 : pc y = m.1
      · rw [if_pos h2]
        refine ⟨by simp, fun _ => ⟨p0, by simp [hp0], e0⟩, fun p hp => ?_, fun _ i => ?_, fun _ i => ?_⟩
        · rcases List.mem_append.1 hp with hp | hp
          · exact h.low p hp
          · simp at hp; subst hp; simp only; omega
        · simp only [Nat.testBit_and, Bool.and_eq_true]
          rw [hall i]
          constructor
          · rintro ⟨g1, g2⟩ p hp e
            rcases List.mem_append.1 hp with hp | hp
            · exact g1 p hp e
            · simp at hp; subst hp; exact g2
          · intro g; exact ⟨fun p hp e => g p (by simp [hp]) e, g y (by simp) h2⟩
        · simp only [Nat.testBit_or, Bool.or_eq_true]
          rw [hsome i]
          constructor
          · rintro (⟨p, hp, e, hi⟩ | hi)
            · exact ⟨p, by simp [hp], e, hi⟩
            · exact ⟨y, by simp, h2, hi⟩
          · rintro ⟨p, hp, e, hi⟩
            rcases List.mem_append.1 hp with hp | hp
            · exact .inl ⟨p, hp, e, hi⟩
            · simp at hp; subst hp; exact .inr hi
      · rw [if_neg h2]
        refine ⟨by simp, fun _ => ⟨p0, by simp [hp0], e0⟩, fun p hp => ?_, fun _ i => ?_, fun _ i => ?_⟩
        · rcases List.mem_append.1 hp with hp | hp
          · exact h.low p hp
          · simp at hp; subst hp; omega
        · rw [hall i]
          constructor
          · intro g p hp e
            rcases List.mem_append.1 hp with hp | hp
            · exact g p hp e
            · simp at hp; subst hp; exact absurd e h2
          · intro g p hp e; exact g p (by simp [hp]) e
        · rw [hsome i]
          constructor
          · rintro ⟨p, hp, e, hi⟩; exact ⟨p, by simp [hp], e, hi⟩
          · rintro ⟨p, hp, e, hi⟩
            rcases List.mem_append.1 hp with hp | hp
            · exact ⟨p, hp, e, hi⟩
            · simp at hp; subst hp; exact absurd e h2
theorem bcK_ok {b : BarD} (hV : Valid b) : ∀ k, k ≤ 2 ^ b.slots.toNat → BcOk b.slots.toNat (refK b (allS b) k) (bcK b k)
  | 0, _ => by
    have e : bcK b 0 = (b.slots.toNat + 1, 0, 0) := by unfold bcK; rw [refK_zero]; rfl
    rw [e, refK_zero]
    exact ⟨by simp, by simp, by simp, by simp, by simp⟩
  | k + 1, hk => by
    have ih := bcK_ok hV k (by omega)
    have hs2 := hV.s2
    by_cases hp : isPlan b k = true
    · by_cases ht : takesB b (allS b) k = true
      · have e : refK b (allS b) (k + 1) = refK b (allS b) k ++ [k] := by rw [refK_step, hp, ht, if_pos (by rfl)]
        rw [bcK_yes hp ht, e]
        exact ih.step (pc_le_of (isPlan_bd hp) (by omega)).1
      · have h := bcK_no (b := b) (k := k) (.inr (by simpa using ht))
        rw [h.1, h.2]; exact ih
    · have h := bcK_no (b := b) (k := k) (.inl (by simpa using hp))
      rw [h.1, h.2]; exact ih
theorem bcK_bd {b : BarD} (hV : Valid b) : ∀ k, k ≤ 2 ^ b.slots.toNat → (bcK b k).1 ≤ 17 ∧ (bcK b k).2.1 < 2 ^ 16 ∧ (bcK b k).2.2 < 2 ^ 16
  | 0, _ => by
    have e : bcK b 0 = (b.slots.toNat + 1, 0, 0) := by unfold bcK; rw [refK_zero]; rfl
    have hs2 := hV.s2
    rw [e]; simp only; omega
  | k + 1, hk => by
    have ih := bcK_bd hV k (by omega)
    have hs1 := hV.s1; have hs2 := hV.s2
    have hpw := shl_bd hs1 hs2
    by_cases hp : isPlan b k = true
    · by_cases ht : takesB b (allS b) k = true
      · have hb := isPlan_bd hp
        rw [bcK_yes hp ht]; unfold bcStep
        split
        · simp only; have := (pc_le_of hb (by omega)).1; omega
        · split
          · have h1 := @Nat.and_le_left (bcK b k).2.1 k
            have h2 := @Nat.or_lt_two_pow (bcK b k).2.2 k 16 ih.2.2 (by omega)
            exact ⟨ih.1, by simp only; omega, h2⟩
          · exact ih
      · have h := bcK_no (b := b) (k := k) (.inr (by simpa using ht))
        rw [h.1]; exact ih
    · have h := bcK_no (b := b) (k := k) (.inl (by simpa using hp))
      rw [h.1]; exact ih
theorem bc_final {b : BarD} (hV : Valid b) : ndA b = ((bcK b (2 ^ b.slots.toNat)).2.1 : Nat) ∧ ndS b = ((bcK b (2 ^ b.slots.toNat)).2.2 : Nat) ∧ (fewE b = 0 ↔ 0 < (refL b (allS b)).length) := by
  have hok := (okBar_iff b).2 hV
  have h := bcK_ok hV (2 ^ b.slots.toNat) (Nat.le_refl _)
  rw [refK_all] at h
  cases hF : firstP b (allS b) with
  | none =>
    have hn := (refL_nil hV).2 hF
    have e := h.nil hn
    rw [e, hn]
    simp [ndA, ndS, fewE, hok, hF]
  | some f =>
    have hf := firstP_some hV hF
    have hm := mem_refL.2 ⟨hf.plan, hf.takes⟩
    have hne : refL b (allS b) ≠ [] := fun e => by rw [e] at hm; cases hm
    obtain ⟨p, hp, e1⟩ := h.hit hne
    have e2 := h.low f hm
    have hp' := mem_refL.1 hp
    have e3 : (bcK b (2 ^ b.slots.toNat)).1 = pc f := by
      rcases hf.least p hp'.1 hp'.2 with e | e
      · rw [← e1, e]
      · unfold Lx at e; omega
    have hs2 := hV.s2
    have ha : (ndF b (allS b) f).1 = (bcK b (2 ^ b.slots.toNat)).2.1 := by
      apply Nat.eq_of_testBit_eq
      intro i
      rw [Bool.eq_iff_iff, (ndF_bit hV hf i).1, h.all hne i, e3]
      constructor
      · rintro ⟨_, g⟩ q hq e; exact g q ⟨(mem_refL.1 hq).1, (mem_refL.1 hq).2, e⟩
      · intro g
        refine ⟨?_, fun q hq => g q (mem_refL.2 ⟨hq.1, hq.2.1⟩) hq.2.2⟩
        have := bit_lt (isPlan_bd hf.plan) (g f hm rfl); omega
    have hs : (ndF b (allS b) f).2 = (bcK b (2 ^ b.slots.toNat)).2.2 := by
      apply Nat.eq_of_testBit_eq
      intro i
      rw [Bool.eq_iff_iff, (ndF_bit hV hf i).2, h.some hne i, e3]
      constructor
      · rintro ⟨q, hq, g⟩; exact ⟨q, mem_refL.2 ⟨hq.1, hq.2.1⟩, hq.2.2, g⟩
      · rintro ⟨q, hq, e, g⟩; exact ⟨q, ⟨(mem_refL.1 hq).1, (mem_refL.1 hq).2, e⟩, g⟩
    have hl := List.length_pos_of_mem hm
    refine ⟨by simp [ndA, hok, hF, ha], by simp [ndS, hok, hF, hs], by simp [fewE, hok, hF]; exact hl⟩
/-- What Taken hands back for a number below those of all slots. -/
def tkE (b : BarD) (k : Nat) : Int := if isPlan b k then (taken b k : Nat) else 0
def erE (b : BarD) (k : Nat) : Int := if isPlan b k then 0 else 2
theorem erE_or (b : BarD) (k : Nat) : erE b k = 0 ∨ erE b k = 2 := by unfold erE; split <;> simp
theorem erE_yes {b : BarD} {k : Nat} (h : erE b k = 0) : isPlan b k = true ∧ tkE b k = (taken b k : Nat) := by
  unfold erE at h; unfold tkE
  cases hp : isPlan b k
  · rw [hp] at h; simp at h
  · simp
theorem erE_no {b : BarD} {k : Nat} (h : ¬ erE b k = 0) : isPlan b k = false := by
  unfold erE at h
  cases hp : isPlan b k
  · rfl
  · rw [hp] at h; simp at h
end Go.Proofs.YtkolcbjghphjeaaDoor
