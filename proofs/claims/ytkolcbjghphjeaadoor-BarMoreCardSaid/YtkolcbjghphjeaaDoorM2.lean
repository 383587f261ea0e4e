/- More plain mathematics of bars: the program's way of looking. -/
import Derived.Test.YtkolcbjghphjeaaDoorM1
namespace Go.BarM
open Go.Sy
def cmpV (x y : Int) : Int := if x < y then -1 else if y < x then 1 else 0
def orV (x y z : Int) : Int := if x ≠ 0 then x else if y ≠ 0 then y else z
/-- Is the first pair of slots better than the other? -/
def befV (n l r n' l' r' : Int) : Bool := decide (n < n' ∨ (n = n' ∧ (r' - l' < r - l ∨ (r' - l' = r - l ∧ l < l'))))
theorem befV_same (n l r : Int) : befV n l r n l r = false := by simp [befV]
theorem befV_or (n l r n' l' r' : Int) : decide (orV (cmpV n n') (cmpV (r' - l') (r - l)) (cmpV l l') < 0) = befV n l r n' l' r' := by
  unfold befV orV cmpV
  by_cases h1 : n < n' <;> by_cases h2 : n' < n <;> by_cases h3 : r' - l' < r - l <;> by_cases h4 : r - l < r' - l' <;> by_cases h5 : l < l' <;> by_cases h6 : l' < l <;> simp [h1, h2, h3, h4, h5, h6] <;> omega
theorem pc_top (m : Nat) : ∀ y : Nat, y < 2 ^ (m + 1) → m < 32 → pc y = pc (y % 2 ^ m) + (if y.testBit m then 1 else 0) := by
  induction m with
  | zero =>
    intro y hy _
    have : y = 0 ∨ y = 1 := by omega
    rcases this with rfl | rfl
    · simp [pc_zero]
    · have := pc_step (n := 1) (by omega)
      simp [pc_zero] at this ⊢; omega
  | succ m ih =>
    intro y hy hm
    have hb : 2 ^ (m + 1 + 1) ≤ 2 ^ 33 := Nat.pow_le_pow_right (by omega) (by omega)
    have h1 := pc_step (n := y) (by omega)
    have h2 := ih (y / 2) (by rw [Nat.pow_succ] at hy; omega) (by omega)
    have h3 := pc_step (n := y % 2 ^ (m + 1)) (by have := Nat.mod_le y (2 ^ (m + 1)); omega)
    have e1 : y % 2 ^ (m + 1) % 2 = y % 2 := Nat.mod_mod_of_dvd _ (by rw [Nat.pow_succ]; exact Nat.dvd_mul_left ..)
    have e2 : y % 2 ^ (m + 1) / 2 = y / 2 % 2 ^ m := by rw [Nat.pow_succ, Nat.mul_comm, Nat.mod_mul_right_div_self]
    have e3 : y.testBit (m + 1) = (y / 2).testBit m := Nat.testBit_succ ..
    rw [e1, e2] at h3
    rw [h1, h2, h3, e3]
    omega
theorem pc_between (p l : Nat) : ∀ n : Nat, l + n < 32 → pc ((p >>> (l + 1)) % 2 ^ n) = between p l (l + 1 + n)
  | 0, _ => by simp [between_start, pc_zero, Nat.mod_one]
  | n + 1, h => by
    have ih := pc_between p l n (by omega)
    have h1 := pc_top n ((p >>> (l + 1)) % 2 ^ (n + 1)) (Nat.mod_lt _ (Nat.pow_pos (by omega))) (by omega)
    have e1 : (p >>> (l + 1)) % 2 ^ (n + 1) % 2 ^ n = (p >>> (l + 1)) % 2 ^ n := Nat.mod_mod_of_dvd _ (Nat.pow_dvd_pow 2 (by omega))
    have e2 : ((p >>> (l + 1)) % 2 ^ (n + 1)).testBit n = p.testBit (l + 1 + n) := by simp [Nat.testBit_mod_two_pow, Nat.testBit_shiftRight]
    rw [h1, e1, e2, ih, ← Nat.add_assoc, between_step _ _ _ (by omega)]
/-- The first scene that is none. -/
def firstBad (l : List Scn) : Int := match l.findIdx? (fun s => !okScn s) with | some i => (i : Int) | none => -1
theorem firstBad_at {l : List Scn} {k : Nat} {s : Scn} (h : ∀ j t, j < k → l[j]? = some t → okScn t = true) (hs : l[k]? = some s) (hb : okScn s = false) : firstBad l = k := by
  have : l.findIdx? (fun s => !okScn s) = some k := by
    obtain ⟨hl, he⟩ := List.getElem?_eq_some_iff.1 hs
    rw [List.findIdx?_eq_some_iff_getElem]
    refine ⟨hl, by rw [he, hb]; rfl, fun j hj => ?_⟩
    have := h j (l[j]'(by omega)) hj (by simp)
    simp [this]
  simp [firstBad, this]
theorem firstBad_none {l : List Scn} (h : ∀ j t, j < l.length → l[j]? = some t → okScn t = true) : firstBad l = -1 := by
  have : l.findIdx? (fun s => !okScn s) = none := by
    rw [List.findIdx?_eq_none_iff]
    intro x hx
    obtain ⟨j, hj⟩ := List.getElem?_of_mem hx
    rw [h j x (List.getElem?_eq_some_iff.1 hj).1 hj]; rfl
  simp [firstBad, this]
theorem firstBad_all (l : List Scn) : decide (0 ≤ firstBad l) = !(l.all okScn) := by
  unfold firstBad
  cases h : l.findIdx? (fun s => !okScn s) with
  | none =>
    rw [List.findIdx?_eq_none_iff] at h
    have : l.all okScn = true := List.all_eq_true.2 fun x hx => by have := h x hx; simpa using this
    rw [this]; rfl
  | some i =>
    rw [List.findIdx?_eq_some_iff_getElem] at h
    obtain ⟨hl, h1, _⟩ := h
    have : l.all okScn = false := by
      cases ha : l.all okScn
      · rfl
      · have := List.all_eq_true.1 ha _ (List.getElem_mem hl); rw [this] at h1; simp at h1
    rw [this]; simp
theorem okBar_last {b : BarD} (s1 : 1 ≤ b.slots) (s2 : b.slots ≤ 16) (p1 : 1 ≤ b.pitch) (p2 : b.pitch ≤ 1000) (k1 : 0 ≤ b.broken) (k2 : b.broken ≤ 2 ^ b.slots.toNat - 1) (m1 : 0 ≤ b.most) (m2 : b.most ≤ 16) (n : (b.scenes.length : Int) ≤ 10) : b.scenes.all okScn = okBar b := by
  have hn : b.scenes.length ≤ 10 := by omega
  simp [okBar, s1, s2, p1, p2, k1, k2, m1, m2, hn]
end Go.BarM
