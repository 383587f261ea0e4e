/- Plain mathematics of bars, no program in sight: what the document says of plans. -/
import Derived.Test.YtkolcbjghphjeaaDoorPC
namespace Go.BarM
open Go.Sy

structure Scn where
  least : Int
  most : Int
  calm : Int
structure BarD where
  slots : Int
  pitch : Int
  broken : Int
  most : Int
  scenes : List Scn

/-- How many slots of p lie between two. -/
def between (p l r : Nat) : Nat := ((List.range' (l + 1) (r - (l + 1))).filter (p.testBit ·)).length

theorem between_start (p l : Nat) : between p l (l + 1) = 0 := by simp [between]
theorem between_step (p l r : Nat) (h : l < r) : between p l (r + 1) = between p l r + (if p.testBit r then 1 else 0) := by
  unfold between
  rw [show r + 1 - (l + 1) = (r - (l + 1)) + 1 by omega, List.range'_concat, List.filter_append, List.length_append]
  rw [show l + 1 + 1 * (r - (l + 1)) = r by omega]
  cases h2 : p.testBit r <;> simp [h2]
theorem between_le (p l r : Nat) : between p l r ≤ r - (l + 1) := by
  unfold between
  exact Nat.le_trans (List.length_filter_le _ _) (by simp)

/-- Does p take a scene by two slots? -/
def byB (b : BarD) (p : Nat) (s : Scn) (l r : Nat) : Bool :=
  decide (l < r) && p.testBit l && p.testBit r && decide (s.least ≤ b.pitch * ((r : Int) - l) ∧ b.pitch * ((r : Int) - l) ≤ s.most) && decide ((between p l r : Int) ≤ s.calm)

def okScn (s : Scn) : Bool := decide (0 ≤ s.least ∧ s.least ≤ 10000) && decide (s.least ≤ s.most ∧ s.most ≤ 10000) && decide (0 ≤ s.calm ∧ s.calm ≤ 16)
def okBar (b : BarD) : Bool :=
  decide (1 ≤ b.slots ∧ b.slots ≤ 16) && decide (1 ≤ b.pitch ∧ b.pitch ≤ 1000) && decide (0 ≤ b.broken ∧ b.broken ≤ 2 ^ b.slots.toNat - 1) && decide (0 ≤ b.most ∧ b.most ≤ 16) && decide (b.scenes.length ≤ 10) && b.scenes.all okScn

def better (p : Nat) (c x : Nat × Nat) : Bool :=
  decide (between p c.1 c.2 < between p x.1 x.2) || (decide (between p c.1 c.2 = between p x.1 x.2) && decide (x.2 - x.1 < c.2 - c.1))
def upd (b : BarD) (p : Nat) (s : Scn) (o : Option (Nat × Nat)) (c : Nat × Nat) : Option (Nat × Nat) :=
  if byB b p s c.1 c.2 then
    match o with
    | none => some c
    | some x => if better p c x then some c else some x
  else o
/-- Pairs of slots, by left, then by right. -/
def rowTo (l r : Nat) : List (Nat × Nat) := (List.range' (l + 1) (r - (l + 1))).map fun k => (l, k)
def pairsTo (S l : Nat) : List (Nat × Nat) := (List.range l).flatMap fun i => rowTo i S
def bestF (b : BarD) (p : Nat) (s : Scn) (l r : Nat) : Option (Nat × Nat) := (pairsTo b.slots.toNat l ++ rowTo l r).foldl (upd b p s) none
/-- The two slots by which a plan takes a scene. -/
def best (b : BarD) (p : Nat) (s : Scn) : Option (Nat × Nat) := (pairsTo b.slots.toNat b.slots.toNat).foldl (upd b p s) none

theorem rowTo_start (l : Nat) : rowTo l (l + 1) = [] := by simp [rowTo]
theorem rowTo_step (l r : Nat) (h : l < r) : rowTo l (r + 1) = rowTo l r ++ [(l, r)] := by
  unfold rowTo
  rw [show r + 1 - (l + 1) = (r - (l + 1)) + 1 by omega, List.range'_concat, List.map_append]
  simp; omega
theorem pairsTo_step (S l : Nat) : pairsTo S (l + 1) = pairsTo S l ++ rowTo l S := by
  simp [pairsTo, List.range_succ]
theorem bestF_zero (b : BarD) (p : Nat) (s : Scn) : bestF b p s 0 1 = none := by simp [bestF, pairsTo, rowTo]
theorem bestF_step (b : BarD) (p : Nat) (s : Scn) (l r : Nat) (h : l < r) : bestF b p s l (r + 1) = upd b p s (bestF b p s l r) (l, r) := by
  unfold bestF; rw [rowTo_step l r h, ← List.append_assoc, List.foldl_append]; rfl
theorem bestF_row (b : BarD) (p : Nat) (s : Scn) (l : Nat) : bestF b p s (l + 1) (l + 2) = bestF b p s l b.slots.toNat := by
  unfold bestF; rw [pairsTo_step, rowTo_start, List.append_nil]
theorem bestF_end (b : BarD) (p : Nat) (s : Scn) : bestF b p s b.slots.toNat (b.slots.toNat + 1) = best b p s := by
  unfold bestF best; rw [rowTo_start, List.append_nil]
theorem bestF_lt (b : BarD) (p : Nat) (s : Scn) (l r : Nat) : ∀ x, bestF b p s l r = some x → x.1 < x.2 := by
  unfold bestF
  generalize pairsTo b.slots.toNat l ++ rowTo l r = L
  have key : ∀ (L : List (Nat × Nat)) (o : Option (Nat × Nat)), (∀ x, o = some x → x.1 < x.2) → ∀ x, L.foldl (upd b p s) o = some x → x.1 < x.2 := by
    intro L
    induction L with
    | nil => intro o h x hx; exact h x hx
    | cons c L ih =>
      intro o h
      refine ih _ fun x hx => ?_
      unfold upd at hx
      split at hx
      · rename_i hb
        have hc : c.1 < c.2 := by simp [byB] at hb; exact hb.1.1.1.1
        split at hx
        · simp at hx; subst hx; exact hc
        · split at hx
          · simp at hx; subst hx; exact hc
          · exact h x hx
      · exact h x hx
  exact key L none (by simp)

def encX : Option (Nat × Nat) → Int
  | none => -1
  | some x => x.1
def encY : Option (Nat × Nat) → Int
  | none => -1
  | some x => x.2

/-- The scenes that a plan takes, the first k of them looked at. -/
def takenTo (b : BarD) (p : Nat) (k : Nat) : Nat := (List.range k).foldl (fun acc i => match b.scenes[i]? with | some s => if (best b p s).isSome then acc + 2 ^ i else acc | none => acc) 0
def taken (b : BarD) (p : Nat) : Nat := takenTo b p b.scenes.length
theorem takenTo_zero (b : BarD) (p : Nat) : takenTo b p 0 = 0 := rfl
theorem takenTo_step (b : BarD) (p k : Nat) (s : Scn) (h : b.scenes[k]? = some s) : takenTo b p (k + 1) = (if (best b p s).isSome then takenTo b p k + 2 ^ k else takenTo b p k) := by
  unfold takenTo; rw [List.range_succ, List.foldl_append]; simp [h]
theorem takenTo_lt (b : BarD) (p : Nat) : ∀ k, takenTo b p k < 2 ^ k
  | 0 => by simp [takenTo]
  | k + 1 => by
    have ih := takenTo_lt b p k
    have e : takenTo b p (k + 1) = (match b.scenes[k]? with | some s => if (best b p s).isSome then takenTo b p k + 2 ^ k else takenTo b p k | none => takenTo b p k) := by
      unfold takenTo; rw [List.range_succ, List.foldl_append]; rfl
    rw [e, Nat.pow_succ]
    cases b.scenes[k]? with
    | none => simp only; omega
    | some s => simp only; split <;> omega

/-- Is a number a plan of a bar? -/
def isPlan (b : BarD) (p : Nat) : Bool := decide (p < 2 ^ b.slots.toNat) && decide ((pc p : Int) ≤ b.most) && (List.range b.slots.toNat).all fun k => !(p.testBit k && b.broken.toNat.testBit k)

theorem enc_some {o : Option (Nat × Nat)} (h : 0 ≤ encX o) : ∃ x, o = some x := by
  cases o with
  | none => simp [encX] at h
  | some x => exact ⟨x, rfl⟩
theorem upd_keep {b : BarD} {p : Nat} {s : Scn} {o : Option (Nat × Nat)} {l r : Nat} (h : byB b p s l r = false) : upd b p s o (l, r) = o := by simp [upd, h]
theorem upd_none {b : BarD} {p : Nat} {s : Scn} {o : Option (Nat × Nat)} {l r : Nat} (h : byB b p s l r = true) (ho : encX o < 0) : upd b p s o (l, r) = some (l, r) := by
  cases o with
  | none => simp [upd, h]
  | some x => simp [encX] at ho; omega
theorem upd_some {b : BarD} {p : Nat} {s : Scn} {o : Option (Nat × Nat)} {l r : Nat} (h : byB b p s l r = true) (ho : 0 ≤ encX o) :
    upd b p s o (l, r) = if between p l r < between p (encX o).toNat (encY o).toNat ∨ between p l r = between p (encX o).toNat (encY o).toNat ∧ (encY o).toNat - (encX o).toNat < r - l then some (l, r) else o := by
  obtain ⟨x, rfl⟩ := enc_some ho
  have e : (if between p l r < between p x.1 x.2 ∨ between p l r = between p x.1 x.2 ∧ x.2 - x.1 < r - l then some (l, r) else some x) = upd b p s (some x) (l, r) := by
    by_cases hc : between p l r < between p x.1 x.2 ∨ between p l r = between p x.1 x.2 ∧ x.2 - x.1 < r - l
    · rw [if_pos hc]; simp [upd, h, better, hc]
    · rw [if_neg hc]; simp [upd, h, better, hc]
  exact e.symm

structure OkS (s : Scn) : Prop where
  l1 : 0 ≤ s.least
  l2 : s.least ≤ 10000
  m1 : s.least ≤ s.most
  m2 : s.most ≤ 10000
  c1 : 0 ≤ s.calm
  c2 : s.calm ≤ 16
structure Valid (b : BarD) : Prop where
  s1 : 1 ≤ b.slots
  s2 : b.slots ≤ 16
  p1 : 1 ≤ b.pitch
  p2 : b.pitch ≤ 1000
  k1 : 0 ≤ b.broken
  k2 : b.broken ≤ 2 ^ b.slots.toNat - 1
  m1 : 0 ≤ b.most
  m2 : b.most ≤ 16
  n : b.scenes.length ≤ 10
  sc : ∀ s ∈ b.scenes, OkS s
theorem okScn_iff (s : Scn) : okScn s = true ↔ OkS s := by
  simp only [okScn, Bool.and_eq_true, decide_eq_true_eq]
  exact ⟨fun h => ⟨by omega, by omega, by omega, by omega, by omega, by omega⟩, fun h => by obtain ⟨a, b, c, d, e, f⟩ := h; omega⟩
theorem okBar_iff (b : BarD) : okBar b = true ↔ Valid b := by
  simp only [okBar, Bool.and_eq_true, decide_eq_true_eq, List.all_eq_true]
  constructor
  · rintro ⟨⟨⟨⟨⟨h1, h2⟩, h3⟩, h4⟩, h5⟩, h6⟩
    exact ⟨h1.1, h1.2, h2.1, h2.2, h3.1, h3.2, h4.1, h4.2, h5, fun s hs => (okScn_iff s).1 (h6 s hs)⟩
  · intro h
    exact ⟨⟨⟨⟨⟨⟨h.s1, h.s2⟩, h.p1, h.p2⟩, h.k1, h.k2⟩, h.m1, h.m2⟩, h.n⟩, fun s hs => (okScn_iff s).2 (h.sc s hs)⟩
theorem okBar_no {b : BarD} (h : Valid b → False) : false = okBar b := by
  cases hb : okBar b
  · rfl
  · exact (h ((okBar_iff b).1 hb)).elim
theorem okBar_yes {b : BarD} (h : Valid b) : true = okBar b := ((okBar_iff b).2 h).symm
theorem mul_bd {a b A B : Int} (h0 : 0 ≤ a) (h1 : a ≤ A) (h2 : -B ≤ b) (h3 : b ≤ B) : -(A * B) ≤ a * b ∧ a * b ≤ A * B := by
  have hB : 0 ≤ B := by omega
  have e1 : a * b ≤ a * B := Int.mul_le_mul_of_nonneg_left h3 h0
  have e2 : a * B ≤ A * B := Int.mul_le_mul_of_nonneg_right h1 hB
  have e3 : a * (-B) ≤ a * b := Int.mul_le_mul_of_nonneg_left h2 h0
  have e4 : a * (-B) = -(a * B) := Int.mul_neg a B
  omega
theorem isPlan_iff (b : BarD) (p : Nat) : isPlan b p = true ↔ p < 2 ^ b.slots.toNat ∧ (pc p : Int) ≤ b.most ∧ ∀ k, k < b.slots.toNat → ¬ (p.testBit k = true ∧ b.broken.toNat.testBit k = true) := by
  simp only [isPlan, Bool.and_eq_true, decide_eq_true_eq, List.all_eq_true, List.mem_range, and_assoc]
  refine and_congr_right fun _ => and_congr_right fun _ => forall_congr' fun k => imp_congr_right fun _ => ?_
  cases p.testBit k <;> cases b.broken.toNat.testBit k <;> simp
def isPlanI (b : BarD) (p : Int) : Bool := decide (0 ≤ p) && isPlan b p.toNat
theorem isPlanI_no {b : BarD} {p : Int} (h : 0 ≤ p → isPlan b p.toNat = true → False) : false = isPlanI b p := by
  cases hb : isPlanI b p
  · rfl
  · simp [isPlanI] at hb; exact (h hb.1 hb.2).elim
theorem isPlanI_yes {b : BarD} {p : Int} (h0 : 0 ≤ p) (h : isPlan b p.toNat = true) : true = isPlanI b p := by simp [isPlanI, h0, h]
theorem encX_ge (o : Option (Nat × Nat)) : -1 ≤ encX o := by cases o with | none => simp [encX] | some x => simp only [encX]; omega
theorem encY_ge (o : Option (Nat × Nat)) : -1 ≤ encY o := by cases o with | none => simp [encY] | some x => simp only [encY]; omega
theorem mem_rowTo {l r : Nat} {c : Nat × Nat} (h : c ∈ rowTo l r) : c.1 = l ∧ l < c.2 ∧ c.2 < r := by
  unfold rowTo at h
  obtain ⟨k, hk, rfl⟩ := List.mem_map.1 h
  rw [List.mem_range'_1] at hk
  simp; omega
theorem mem_pairsTo {S l : Nat} {c : Nat × Nat} (h : c ∈ pairsTo S l) : c.1 < l ∧ c.1 < c.2 ∧ c.2 < S := by
  unfold pairsTo at h
  obtain ⟨i, hi, hc⟩ := List.mem_flatMap.1 h
  have := mem_rowTo hc
  simp at hi; omega
theorem foldl_upd_mem (b : BarD) (p : Nat) (s : Scn) : ∀ (L : List (Nat × Nat)) (o : Option (Nat × Nat)) (x : Nat × Nat), L.foldl (upd b p s) o = some x → o = some x ∨ x ∈ L
  | [], o, x, h => .inl h
  | c :: L, o, x, h => by
    rcases foldl_upd_mem b p s L _ x h with h1 | h1
    · unfold upd at h1
      split at h1
      · split at h1
        · simp at h1; subst h1; exact .inr (by simp)
        · split at h1
          · simp at h1; subst h1; exact .inr (by simp)
          · exact .inl h1
      · exact .inl h1
    · exact .inr (by simp [h1])
theorem bestF_enc (b : BarD) (p : Nat) (s : Scn) (l r : Nat) (h1 : b.slots ≤ 16) (h2 : r ≤ 62) : 0 ≤ encX (bestF b p s l r) → encX (bestF b p s l r) < encY (bestF b p s l r) ∧ encY (bestF b p s l r) ≤ 62 := by
  intro h
  obtain ⟨x, hx⟩ := enc_some h
  rw [hx]
  have h3 := bestF_lt b p s l r x hx
  have h4 : x.2 ≤ 62 := by
    unfold bestF at hx
    rcases foldl_upd_mem b p s _ none x hx with h5 | h5
    · cases h5
    · rcases List.mem_append.1 h5 with h6 | h6
      · have := mem_pairsTo h6; omega
      · have := mem_rowTo h6; omega
  simp [encX, encY]; omega
theorem enc_isSome {o : Option (Nat × Nat)} (h : 0 ≤ encX o) : o.isSome = true := by
  obtain ⟨x, rfl⟩ := enc_some h; rfl
theorem enc_isNone {o : Option (Nat × Nat)} (h : encX o < 0) : ¬ o.isSome = true := by
  cases o with
  | none => simp
  | some x => simp only [encX] at h; omega
attribute [irreducible] between best bestF taken takenTo byB upd isPlanI isPlan okBar okScn
end Go.BarM
