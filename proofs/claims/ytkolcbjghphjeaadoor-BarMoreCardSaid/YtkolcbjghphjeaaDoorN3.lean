/- Plain laws on plans: what the reference counts; values of all functions for any bar. -/
import Derived.Test.YtkolcbjghphjeaaDoorN2
namespace Go.Proofs.YtkolcbjghphjeaaDoor
open Go Go.Sy Go.BarM
abbrev iv (p : Nat) : Value := .int .i64 (p : Nat)
abbrev allS (b : BarD) : Nat := 2 ^ b.scenes.length - 1
def cntN (L : List Nat) (f k i : Nat) : Nat := (L.take i).countP fun p => decide (pc p = pc f) && p.testBit k
def cntM (L : List Nat) (f i : Nat) : Nat := (L.take i).countP fun p => decide (pc p = pc f)
theorem cntN_zero (L : List Nat) (f k : Nat) : cntN L f k 0 = 0 := by simp [cntN]
theorem cntM_zero (L : List Nat) (f : Nat) : cntM L f 0 = 0 := by simp [cntM]
theorem cntN_step {L : List Nat} {f k i y : Nat} (h : L[i]? = some y) : cntN L f k (i + 1) = cntN L f k i + (if pc y = pc f ∧ y.testBit k = true then 1 else 0) := by
  unfold cntN
  rw [List.take_add_one, h, List.countP_append]
  simp [List.countP_cons]
theorem cntM_step {L : List Nat} {f i y : Nat} (h : L[i]? = some y) : cntM L f (i + 1) = cntM L f i + (if pc y = pc f then 1 else 0) := by
  unfold cntM
  rw [List.take_add_one, h, List.countP_append]
  simp [List.countP_cons]
theorem cntN_le (L : List Nat) (f k i : Nat) : cntN L f k i ≤ i := Nat.le_trans List.countP_le_length (List.length_take_le _ _)
theorem cntM_le (L : List Nat) (f i : Nat) : cntM L f i ≤ i := Nat.le_trans List.countP_le_length (List.length_take_le _ _)
def refAll (b : BarD) (set f k : Nat) : Nat := sumB (fun k => decide (cntN (refL b set) f k (refL b set).length = cntM (refL b set) f (refL b set).length)) k
def refSome (b : BarD) (set f k : Nat) : Nat := sumB (fun k => decide (0 < cntN (refL b set) f k (refL b set).length)) k
theorem refAll_bit {b : BarD} {set f k : Nat} : cntN (refL b set) f k (refL b set).length = cntM (refL b set) f (refL b set).length ↔ ∀ p, fewest b set f p → p.testBit k = true := by
  unfold cntN cntM
  rw [List.take_length]
  have e : (refL b set).countP (fun p => decide (pc p = pc f) && p.testBit k) = ((refL b set).filter fun p => decide (pc p = pc f)).countP (fun p => p.testBit k) := by
    rw [List.countP_filter]; congr 1; funext p; exact Bool.and_comm _ _
  rw [e, List.countP_eq_length_filter (l := refL b set), List.countP_eq_length]
  constructor
  · intro h p hp
    exact h p (List.mem_filter.2 ⟨mem_refL.2 ⟨hp.1, hp.2.1⟩, by simpa using hp.2.2⟩)
  · intro h p hp
    obtain ⟨h1, h2⟩ := List.mem_filter.1 hp
    obtain ⟨h3, h4⟩ := mem_refL.1 h1
    exact h p ⟨h3, h4, by simpa using h2⟩
theorem refSome_bit {b : BarD} {set f k : Nat} : 0 < cntN (refL b set) f k (refL b set).length ↔ ∃ p, fewest b set f p ∧ p.testBit k = true := by
  unfold cntN
  rw [List.take_length, List.countP_pos_iff]
  constructor
  · rintro ⟨p, hp, h⟩
    obtain ⟨h3, h4⟩ := mem_refL.1 hp
    simp only [Bool.and_eq_true, decide_eq_true_eq] at h
    exact ⟨p, ⟨h3, h4, h.1⟩, h.2⟩
  · rintro ⟨p, ⟨h1, h2, h3⟩, h4⟩
    exact ⟨p, mem_refL.2 ⟨h1, h2⟩, by simp [h3, h4]⟩
theorem fewest_self {b : BarD} {set f : Nat} (hf : IsFew b set f) : fewest b set f f := ⟨hf.plan, hf.takes, rfl⟩
theorem nd_ref {b : BarD} (hV : Valid b) {set f : Nat} (hf : IsFew b set f) : refAll b set f b.slots.toNat = (ndF b set f).1 ∧ refSome b set f b.slots.toNat = (ndF b set f).2 := by
  have hs2 := hV.s2
  constructor
  · apply Nat.eq_of_testBit_eq
    intro i
    rw [Bool.eq_iff_iff, (ndF_bit hV hf i).1]
    unfold refAll
    rw [sumB_bit, Bool.and_eq_true, decide_eq_true_eq, decide_eq_true_eq, refAll_bit]
    constructor
    · rintro ⟨h1, h2⟩; exact ⟨by omega, h2⟩
    · rintro ⟨_, h2⟩; exact ⟨bit_lt (isPlan_bd hf.plan) (h2 f (fewest_self hf)), h2⟩
  · apply Nat.eq_of_testBit_eq
    intro i
    rw [Bool.eq_iff_iff, (ndF_bit hV hf i).2]
    unfold refSome
    rw [sumB_bit, Bool.and_eq_true, decide_eq_true_eq, decide_eq_true_eq, refSome_bit]
    constructor
    · rintro ⟨_, h2⟩; exact h2
    · rintro ⟨p, h1, h2⟩; exact ⟨bit_lt (isPlan_bd h1.1) h2, p, h1, h2⟩
theorem ndF_lt {b : BarD} (hV : Valid b) {set f : Nat} (hf : IsFew b set f) : (ndF b set f).1 < 65536 ∧ (ndF b set f).2 < 65536 := by
  have h := nd_ref hV hf
  have h1 := sumB_lt (fun k => decide (cntN (refL b set) f k (refL b set).length = cntM (refL b set) f (refL b set).length)) b.slots.toNat
  have h2 := sumB_lt (fun k => decide (0 < cntN (refL b set) f k (refL b set).length)) b.slots.toNat
  have hs1 := hV.s1; have hs2 := hV.s2
  have hp := shl_bd hs1 hs2
  unfold refAll refSome at h
  omega
/-- The best plan, the first k numbers looked at. -/
def mostR (b : BarD) (k : Nat) : Nat := (List.range k).foldl (fun m p => if isPlan b p then (if pc (taken b m) < pc (taken b p) ∨ (pc (taken b p) = pc (taken b m) ∧ pc p < pc m) then p else m) else m) 0
theorem mostR_zero (b : BarD) : mostR b 0 = 0 := by simp [mostR]
theorem mostR_step (b : BarD) (k : Nat) : mostR b (k + 1) = if isPlan b k then (if pc (taken b (mostR b k)) < pc (taken b k) ∨ (pc (taken b k) = pc (taken b (mostR b k)) ∧ pc k < pc (mostR b k)) then k else mostR b k) else mostR b k := by
  unfold mostR; rw [List.range_succ, List.foldl_append]; rfl
theorem mostR_lt (b : BarD) : ∀ k, mostR b k ≤ k ∧ (mostR b k = 0 ∨ isPlan b (mostR b k) = true)
  | 0 => by rw [mostR_zero]; simp
  | k + 1 => by
    have ih := mostR_lt b k
    rw [mostR_step]
    split
    · rename_i hp
      split
      · exact ⟨by omega, .inr hp⟩
      · exact ⟨by omega, ih.2⟩
    · exact ⟨by omega, ih.2⟩
theorem mostR_best (b : BarD) : ∀ k q, q < k → isPlan b q = true → mostR b k = q ∨ Bt b (mostR b k) q
  | 0, q, h, _ => by omega
  | k + 1, q, h, hq => by
    have ih := mostR_best b k
    have hle := (mostR_lt b k).1
    rw [mostR_step]
    by_cases hqk : q = k
    · subst hqk
      rw [if_pos hq]
      split
      · exact .inl rfl
      · rename_i hn
        have hl := ih
        by_cases e : mostR b q = q
        · exact .inl e
        · right; unfold Bt Lx; omega
    · rcases ih q (by omega) hq with e | e
      · split
        · split
          · right; unfold Bt Lx; subst e; omega
          · exact .inl e
        · exact .inl e
      · split
        · split
          · right; unfold Bt Lx at *; omega
          · exact .inr e
        · exact .inr e
theorem most_ref {b : BarD} (hV : Valid b) : mostR b (2 ^ b.slots.toNat) = bstK b (plansL b).length := by
  refine IsMost.uniq (b := b) ⟨?_, fun q hq => mostR_best b _ q (isPlan_bd hq) hq⟩ (bst_most hV)
  rcases (mostR_lt b (2 ^ b.slots.toNat)).2 with h | h
  · rw [h]; exact zero_plan hV
  · exact h
theorem never_ref {b : BarD} (hV : Valid b) (set : Nat) : neverB b set = decide (refL b set = []) := by
  unfold neverB
  cases h : firstP b set with
  | none => simp [(refL_nil hV).2 h]
  | some p =>
    have : refL b set ≠ [] := fun e => by rw [(refL_nil hV).1 e] at h; cases h
    simp [this]
theorem never_len {b : BarD} (hV : Valid b) (set : Nat) : neverB b set = decide (((refL b set).length : Int) = 0) := by
  rw [never_ref hV, decide_eq_decide]
  constructor
  · intro h; rw [h]; rfl
  · intro h; exact List.eq_nil_of_length_eq_zero (by omega)
theorem or_pow {i k : Nat} (h : i < k) : 2 ^ i ||| 2 ^ k = 2 ^ i + 2 ^ k := lt_or_add (Nat.pow_lt_pow_right (by omega) h)
/-- Values, for any bar. -/
def okE (b : BarD) : Int := if okBar b then 0 else 1
def fewP (b : BarD) : Int := if okBar b then ((firstP b (allS b)).getD 0 : Nat) else 0
def fewE (b : BarD) : Int := if okBar b then (if (firstP b (allS b)).isSome then 0 else 11) else 1
def cntV (b : BarD) : Int := if okBar b then (cntK b (allS b) (plansL b).length : Nat) else 0
def ndA (b : BarD) : Int := if okBar b then (match firstP b (allS b) with | some f => ((ndF b (allS b) f).1 : Nat) | none => 0) else 0
def ndS (b : BarD) : Int := if okBar b then (match firstP b (allS b) with | some f => ((ndF b (allS b) f).2 : Nat) | none => 0) else 0
def mosP (b : BarD) : Int := if okBar b then (bstK b (plansL b).length : Nat) else 0
def mosS (b : BarD) : Int := if okBar b then (taken b (bstK b (plansL b).length) : Nat) else 0
def whyT (b : BarD) : Value := if okBar b then whyV b else .tuple #[.int .i64 0, .int .i64 0, .int .i64 0, .int .i64 1]
theorem whyT_form (b : BarD) : ∃ x y z t, whyT b = .tuple #[.int .i64 x, .int .i64 y, .int .i64 z, .int .i64 t] := by
  unfold whyT whyV
  repeat' split
  all_goals exact ⟨_, _, _, _, rfl⟩
section
variable (b : BarD) (sa : Option Addr) (sc : Nat) (u : World) (hS : ScAt u sa b.scenes) (hT : GTab u)
include hS hT
theorem c18t : Calls Tryd.prog 18 #[barV b sa sc] u (Ret fun v w' => v = .tuple #[.int .i64 (fewP b), .int .i64 (fewE b)] ∧ Ext [] u w') := by
  cases hb : okBar b
  · have h := c18n b sa sc u hS hb
    simpa [fewP, fewE, hb] using h
  · have h := c18v b sa sc u hS hT ((okBar_iff b).1 hb)
    simpa [fewP, fewE, hb, allS] using h
theorem c20t : Calls Tryd.prog 20 #[barV b sa sc] u (Ret fun v w' => v = .tuple #[.int .i64 (cntV b), .int .i64 (okE b)] ∧ Ext [] u w') := by
  cases hb : okBar b
  · have h := c20n b sa sc u hS hb
    simpa [cntV, okE, hb] using h
  · have h := c20v b sa sc u hS hT ((okBar_iff b).1 hb)
    simpa [cntV, okE, hb, allS] using h
theorem c22t : Calls Tryd.prog 22 #[barV b sa sc] u (Ret fun v w' => v = .tuple #[.int .i64 (ndA b), .int .i64 (ndS b), .int .i64 (fewE b)] ∧ Ext [] u w') := by
  cases hb : okBar b
  · have h := c22n b sa sc u hS hb
    simpa [ndA, ndS, fewE, hb] using h
  · have hV := (okBar_iff b).1 hb
    cases hf : firstP b (allS b) with
    | none =>
      have h := c22x b sa sc u hS hT hV hf
      simpa [ndA, ndS, fewE, hb, hf] using h
    | some f =>
      have h := c22v b sa sc u hS hT hV f hf
      have hl : (ndF b (2 ^ b.scenes.length - 1) f).1 < 65536 := (ndF_lt hV (firstP_some hV hf)).1
      rw [wrap_i64 (by omega) (by omega)] at h
      simpa [ndA, ndS, fewE, hb, hf] using h
theorem c24t : Calls Tryd.prog 24 #[barV b sa sc] u (Ret fun v w' => v = .tuple #[.int .i64 (mosP b), .int .i64 (mosS b), .int .i64 (okE b)] ∧ Ext [] u w') := by
  cases hb : okBar b
  · have h := c24n b sa sc u hS hb
    simpa [mosP, mosS, okE, hb] using h
  · have h := c24v b sa sc u hS hT ((okBar_iff b).1 hb)
    simpa [mosP, mosS, okE, hb] using h
theorem c26t : Calls Tryd.prog 26 #[barV b sa sc] u (Ret fun v w' => v = whyT b ∧ Ext [] u w') := by
  cases hb : okBar b
  · have h := c26n b sa sc u hS hb
    simpa [whyT, hb] using h
  · have h := c26v b sa sc u hS hT ((okBar_iff b).1 hb)
    simpa [whyT, hb] using h
end
end Go.Proofs.YtkolcbjghphjeaaDoor
