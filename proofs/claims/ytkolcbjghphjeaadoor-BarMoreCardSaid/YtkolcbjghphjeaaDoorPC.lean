/- How many bits are set: the library's way of counting, on numbers below 65536; the lowest bit. -/
import Derived.KernelRfl
namespace Go.Sy
def popF : Nat → Nat → Nat
  | 0, _ => 0
  | k + 1, n => n % 2 + popF k (n / 2)
/-- How many bits of a number are set. -/
def pc (n : Nat) : Nat := popF 64 n

theorem popF_zero : ∀ k, popF k 0 = 0
  | 0 => rfl
  | k + 1 => by simp [popF, popF_zero k]
theorem popF_more : ∀ (k n : Nat), n < 2 ^ k → popF (k + 1) n = popF k n
  | 0, n, h => by have : n = 0 := by simp at h; omega
                  subst this; simp [popF]
  | k + 1, n, h => by
    rw [popF, popF_more k (n / 2) (by rw [Nat.pow_succ] at h; omega), popF]
theorem pc_zero : pc 0 = 0 := popF_zero 64
theorem pc_step {n : Nat} (h : n < 2 ^ 64) : pc n = n % 2 + pc (n / 2) := by
  unfold pc
  have : popF 64 n = n % 2 + popF 63 (n / 2) := rfl
  rw [this, ← popF_more 63 (n / 2) (by omega)]
theorem popF_le : ∀ (k n : Nat), popF k n ≤ k
  | 0, _ => by simp [popF]
  | k + 1, n => by have := popF_le k (n / 2); rw [popF]; omega
theorem pc_le (n : Nat) : pc n ≤ 64 := popF_le 64 n
theorem popF_eq : ∀ (j k n : Nat), n < 2 ^ k → k ≤ j → popF j n = popF k n
  | 0, k, n, h, hj => by have : k = 0 := by omega
                         subst this; rfl
  | j + 1, k, n, h, hj => by
    by_cases hk : k = j + 1
    · subst hk; rfl
    · rw [popF_more j n (Nat.lt_of_lt_of_le h (Nat.pow_le_pow_right (by omega) (by omega))), popF_eq j k n h (by omega)]
theorem popF_add : ∀ (k j n m : Nat), n < 2 ^ k → popF (k + j) (2 ^ k * m + n) = popF k n + popF j m
  | 0, j, n, m, h => by have : n = 0 := by simp at h; omega
                        subst this; simp [popF]
  | k + 1, j, n, m, h => by
    have e1 : (2 ^ (k + 1) * m + n) % 2 = n % 2 := by rw [Nat.pow_succ, Nat.mul_right_comm]; omega
    have e2 : (2 ^ (k + 1) * m + n) / 2 = 2 ^ k * m + n / 2 := by rw [Nat.pow_succ, Nat.mul_right_comm]; omega
    rw [show k + 1 + j = (k + j) + 1 by omega, popF, e1, e2, popF_add k j (n / 2) m (by rw [Nat.pow_succ] at h; omega), popF]
    omega
theorem pc_bytes {h l : Nat} (hh : h < 256) (hl : l < 256) : pc (256 * h + l) = pc h + pc l := by
  have h1 := popF_add 8 8 l h hl
  unfold pc
  rw [popF_eq 64 16 (256 * h + l) (by omega) (by omega), popF_eq 64 8 h hh (by omega), popF_eq 64 8 l hl (by omega)]
  simpa [Nat.add_comm] using h1

theorem land_split (a b m M : Nat) (ha : a < 256) (hm : m < 256) : (256 * b + a) &&& (256 * M + m) = 256 * (b &&& M) + (a &&& m) := by
  have hx : a &&& m < 2 ^ 8 := Nat.and_lt_two_pow _ (by omega)
  apply Nat.eq_of_testBit_eq
  intro j
  rw [Nat.testBit_and, show 256 = 2 ^ 8 from rfl, Nat.testBit_two_pow_mul_add _ (by omega), Nat.testBit_two_pow_mul_add _ (by omega), Nat.testBit_two_pow_mul_add _ (by omega)]
  split <;> simp [Nat.testBit_and]

def sw1 (x : Nat) : Nat := ((x / 2) &&& 6148914691236517205) + (x &&& 6148914691236517205)
def sw2 (x : Nat) : Nat := ((x / 4) &&& 3689348814741910323) + (x &&& 3689348814741910323)
def sw3 (x : Nat) : Nat := (x / 16 + x) &&& 1085102592571150095
def sw4 (x : Nat) : Nat := x + x / 256
def sw5 (x : Nat) : Nat := x + x / 65536
def sw6 (x : Nat) : Nat := x + x / 4294967296
def sw (x : Nat) : Nat := (sw6 (sw5 (sw4 (sw3 (sw2 (sw1 x)))))) &&& 127

def upto (p : Nat → Bool) : Nat → Bool
  | 0 => true
  | n + 1 => p n && upto p n
theorem upto_get {p : Nat → Bool} : ∀ {n : Nat}, upto p n = true → ∀ i, i < n → p i = true
  | 0, _, i, hi => by omega
  | n + 1, h, i, hi => by
    simp only [upto, Bool.and_eq_true] at h
    by_cases e : i = n
    · subst e; exact h.1
    · exact upto_get h.2 i (by omega)

theorem byte1 : upto (fun l => Nat.beq ((128 + l / 2) &&& 85) ((l / 2) &&& 85) && Nat.beq ((l / 2) &&& 6148914691236517205) ((l / 2) &&& 85) && Nat.beq (l &&& 6148914691236517205) (l &&& 85) && Nat.blt (sw1 l) 171) 256 = true := by kernel_rfl
theorem byte2 : upto (fun l => Nat.beq ((64 + l / 4) &&& 51) ((l / 4) &&& 51) && Nat.beq ((128 + l / 4) &&& 51) ((l / 4) &&& 51) && Nat.beq ((192 + l / 4) &&& 51) ((l / 4) &&& 51) && Nat.beq ((l / 4) &&& 3689348814741910323) ((l / 4) &&& 51) && Nat.beq (l &&& 3689348814741910323) (l &&& 51) && Nat.blt (sw2 l) 103) 256 = true := by kernel_rfl
theorem byte0 : upto (fun l => Nat.beq (sw3 (sw2 (sw1 l))) (pc l) && Nat.ble (sw2 (sw1 l)) 68 && Nat.ble (sw2 (sw1 l) % 16) 4 && Nat.blt (sw1 l) 171) 256 = true := by kernel_rfl
theorem nib : upto (fun l => Nat.beq (l &&& 15) (l % 16) && Nat.beq (l &&& 1085102592571150095) (l % 16)) 256 = true := by kernel_rfl

theorem sw1_bytes {h l : Nat} (hh : h < 256) (hl : l < 256) : sw1 (256 * h + l) = 256 * sw1 h + sw1 l := by
  have bl := upto_get byte1 l hl
  have bh := upto_get byte1 h hh
  simp only [Bool.and_eq_true, Nat.beq_eq] at bl bh
  have e : (256 * h + l) / 2 = 256 * (h / 2) + (128 * (h % 2) + l / 2) := by omega
  have k : (128 * (h % 2) + l / 2) &&& 85 = (l / 2) &&& 85 := by
    rcases Nat.mod_two_eq_zero_or_one h with h0 | h0 <;> rw [h0]
    · simp
    · exact bl.1.1.1
  unfold sw1
  rw [e, show 6148914691236517205 = 256 * 24019198012642645 + 85 from rfl, land_split _ _ _ _ (by omega) (by omega), land_split _ _ _ _ hl (by omega), k]
  have c1 : (h / 2) &&& 24019198012642645 = (h / 2) &&& 85 := by
    have := land_split (h / 2) 0 85 93824992236885 (by omega) (by omega)
    simpa using this
  have c2 : h &&& 24019198012642645 = h &&& 85 := by
    have := land_split h 0 85 93824992236885 hh (by omega)
    simpa using this
  rw [c1, c2, ← show 6148914691236517205 = 256 * 24019198012642645 + 85 from rfl, bh.1.1.2, bh.1.2, bl.1.1.2, bl.1.2]
  omega
theorem sw2_bytes {h l : Nat} (hh : h < 256) (hl : l < 256) : sw2 (256 * h + l) = 256 * sw2 h + sw2 l := by
  have bl := upto_get byte2 l hl
  have bh := upto_get byte2 h hh
  simp only [Bool.and_eq_true, Nat.beq_eq] at bl bh
  have e : (256 * h + l) / 4 = 256 * (h / 4) + (64 * (h % 4) + l / 4) := by omega
  have k : (64 * (h % 4) + l / 4) &&& 51 = (l / 4) &&& 51 := by
    have h4 : h % 4 = 0 ∨ h % 4 = 1 ∨ h % 4 = 2 ∨ h % 4 = 3 := by omega
    rcases h4 with h0 | h0 | h0 | h0 <;> rw [h0]
    · simp
    · exact bl.1.1.1.1.1
    · exact bl.1.1.1.1.2
    · exact bl.1.1.1.2
  unfold sw2
  rw [e, show 3689348814741910323 = 256 * 14411518807585587 + 51 from rfl, land_split _ _ _ _ (by omega) (by omega), land_split _ _ _ _ hl (by omega), k]
  have c1 : (h / 4) &&& 14411518807585587 = (h / 4) &&& 51 := by
    have := land_split (h / 4) 0 51 56294995342131 (by omega) (by omega)
    simpa using this
  have c2 : h &&& 14411518807585587 = h &&& 51 := by
    have := land_split h 0 51 56294995342131 hh (by omega)
    simpa using this
  rw [c1, c2, ← show 3689348814741910323 = 256 * 14411518807585587 + 51 from rfl, bh.1.1.2, bh.1.2, bl.1.1.2, bl.1.2]
  omega
theorem sw3_bytes {h l : Nat} (hh : h ≤ 68) (h4 : h % 16 ≤ 4) (hl : l ≤ 68) : sw3 (256 * h + l) = 256 * sw3 h + sw3 l := by
  have e : (256 * h + l) / 16 + (256 * h + l) = 256 * (h / 16 + h) + (16 * (h % 16) + l / 16 + l) := by omega
  have n1 := upto_get nib (16 * (h % 16) + l / 16 + l) (by omega)
  have n2 := upto_get nib (l / 16 + l) (by omega)
  have n3 := upto_get nib (h / 16 + h) (by omega)
  simp only [Bool.and_eq_true, Nat.beq_eq] at n1 n2 n3
  unfold sw3
  rw [e, n2.2, n3.2, show 1085102592571150095 = 256 * 4238682002231055 + 15 from rfl, land_split _ _ _ _ (by omega) (by omega), n1.1]
  have c : (h / 16 + h) &&& 4238682002231055 = (h / 16 + h) % 16 := by
    have := land_split (h / 16 + h) 0 15 16557351571215 (by omega) (by omega)
    simp only [Nat.mul_zero, Nat.zero_add, Nat.zero_and] at this
    rw [show 256 * 16557351571215 + 15 = 4238682002231055 from rfl] at this
    rw [this, n3.1]
  rw [c]
  omega

/-- The library's way of counting bits. -/
theorem sw_pc {x : Nat} (hx : x < 65536) : sw x = pc x := by
  obtain ⟨h, l, hh, hl, rfl⟩ : ∃ h l, h < 256 ∧ l < 256 ∧ x = 256 * h + l := ⟨x / 256, x % 256, by omega, by omega, by omega⟩
  have bl := upto_get byte0 l hl
  have bh := upto_get byte0 h hh
  simp only [Bool.and_eq_true, Nat.beq_eq, Nat.ble_eq] at bl bh
  have ll := Nat.le_of_ble_eq_true bl.2
  have lh := Nat.le_of_ble_eq_true bh.2
  have e3 : sw3 (sw2 (sw1 (256 * h + l))) = 256 * pc h + pc l := by
    rw [sw1_bytes hh hl, sw2_bytes (by omega) (by omega), sw3_bytes bh.1.1.2 bh.1.2 bl.1.1.2, bl.1.1.1, bh.1.1.1]
  have p1 : pc h ≤ 8 := by unfold pc; rw [popF_eq 64 8 h hh (by omega)]; exact popF_le 8 h
  have p2 : pc l ≤ 8 := by unfold pc; rw [popF_eq 64 8 l hl (by omega)]; exact popF_le 8 l
  have e4 : sw4 (256 * pc h + pc l) = 256 * pc h + (pc l + pc h) := by unfold sw4; omega
  have e5 : sw5 (256 * pc h + (pc l + pc h)) = 256 * pc h + (pc l + pc h) := by unfold sw5; omega
  have e6 : sw6 (256 * pc h + (pc l + pc h)) = 256 * pc h + (pc l + pc h) := by unfold sw6; omega
  unfold sw
  rw [e3, e4, e5, e6, pc_bytes hh hl]
  have := land_split (pc l + pc h) (pc h) 127 0 (by omega) (by omega)
  simp only [Nat.mul_zero, Nat.zero_add, Nat.and_zero] at this
  rw [this]
  have n : (pc l + pc h) &&& 127 = (pc l + pc h) % 128 := Nat.and_two_pow_sub_one_eq_mod _ 7
  rw [n]; omega
attribute [irreducible] pc sw
end Go.Sy
namespace Go.Sy
theorem sw1_le (x : Nat) (h : x < 65536) : sw1 x ≤ 131072 := by
  have a := Nat.and_le_left (n := x / 2) (m := 6148914691236517205); have b := Nat.and_le_left (n := x) (m := 6148914691236517205)
  unfold sw1; omega
theorem sw2_le (x : Nat) (h : x < 65536) : sw2 (sw1 x) ≤ 262144 := by
  have k := sw1_le x h
  have a := Nat.and_le_left (n := sw1 x / 4) (m := 3689348814741910323); have b := Nat.and_le_left (n := sw1 x) (m := 3689348814741910323)
  unfold sw2; omega
theorem sw3_le (x : Nat) (h : x < 65536) : sw3 (sw2 (sw1 x)) ≤ 524288 := by
  have k := sw2_le x h
  have a := Nat.and_le_left (n := sw2 (sw1 x) / 16 + sw2 (sw1 x)) (m := 1085102592571150095)
  unfold sw3; omega
theorem sw4_le (x : Nat) (h : x < 65536) : sw4 (sw3 (sw2 (sw1 x))) ≤ 1048576 := by
  have k := sw3_le x h
  unfold sw4; omega
theorem sw5_le (x : Nat) (h : x < 65536) : sw5 (sw4 (sw3 (sw2 (sw1 x)))) ≤ 2097152 := by
  have k := sw4_le x h
  unfold sw5; omega
theorem sw6_le (x : Nat) (h : x < 65536) : sw6 (sw5 (sw4 (sw3 (sw2 (sw1 x))))) ≤ 4194304 := by
  have k := sw5_le x h
  unfold sw6; omega
end Go.Sy
