/- The program's pairs of slots against the document's. -/
import Derived.Test.YtkolcbjghphjeaaDoorB7
namespace Go.BarM
open Go Go.Sy Go.Proofs.YtkolcbjghphjeaaDoor
theorem lo_le {b : BarD} {s : Scn} {d : Int} (hV : Valid b) (hO : OkS s) : loS b s ≤ d ↔ 1 ≤ d ∧ s.least ≤ b.pitch * d := by
  have hp := hV.p1
  unfold loS
  rw [Int.max_le]
  refine and_congr_right fun h1 => ?_
  have e : (s.least + b.pitch - 1) / b.pitch < d + 1 ↔ s.least + b.pitch - 1 < (d + 1) * b.pitch := Int.ediv_lt_iff_lt_mul (by omega)
  have e2 : (d + 1) * b.pitch = b.pitch * d + b.pitch := by rw [Int.add_mul, Int.one_mul, Int.mul_comm]
  rw [e2] at e
  omega
theorem le_hi {b : BarD} {s : Scn} {d : Int} (hV : Valid b) (hO : OkS s) : d ≤ hiS b s ↔ d ≤ b.slots - 1 ∧ b.pitch * d ≤ s.most := by
  have hp := hV.p1
  unfold hiS
  rw [Int.le_min]
  refine and_congr_right fun h1 => ?_
  rw [Int.le_ediv_iff_mul_le (by omega), Int.mul_comm]
theorem bit_lt {p n k : Nat} (h : p < 2 ^ n) (hb : p.testBit k = true) : k < n := by
  by_cases hk : k < n
  · exact hk
  · rw [testBit_lt h (by omega)] at hb; cases hb
theorem mem_pairsP {b : BarD} {p : Nat} {s : Scn} (hV : Valid b) (hO : OkS s) (hp : p < 2 ^ b.slots.toNat) (n l r : Nat) :
    (n, l, r) ∈ pairsP b p s ↔ byB b p s l r = true ∧ n = between p l r := by
  have hs1 := hV.s1; have hs2 := hV.s2
  have hl := loS_bd hV hO; have hh := hiS_bd hV hO
  unfold pairsP restD rowD bitsOf byB
  simp only [List.mem_flatMap, List.mem_range'_1, List.mem_filterMap, List.mem_filter, List.mem_range, Nat.testBit_and, Nat.testBit_shiftRight, Bool.and_eq_true, decide_eq_true_eq]
  constructor
  · rintro ⟨d, ⟨hd1, hd2⟩, a, ⟨ha, hb1, hb2⟩, hc⟩
    unfold cand at hc
    split at hc
    · rename_i hcalm
      simp only [Option.some.injEq, Prod.mk.injEq] at hc
      obtain ⟨rfl, rfl, rfl⟩ := hc
      have e1 := (lo_le (d := (d : Int)) hV hO).1 (by omega)
      have e2 := (le_hi (d := (d : Int)) hV hO).1 (by omega)
      have e3 : (((a + d : Nat) : Int) - (a : Int)) = d := by omega
      rw [e3]
      exact ⟨⟨⟨⟨⟨by omega, hb1⟩, by rw [Nat.add_comm]; exact hb2⟩, e1.2, e2.2⟩, hcalm⟩, rfl⟩
    · cases hc
  · rintro ⟨⟨⟨⟨⟨h1, h2⟩, h3⟩, h4⟩, h5⟩, rfl⟩
    have hr := bit_lt hp h3
    have e3 : ((r : Int) - (l : Int)) = ((r - l : Nat) : Int) := by omega
    rw [e3] at h4
    have e1 := (lo_le (d := ((r - l : Nat) : Int)) hV hO).2 ⟨by omega, h4.1⟩
    have e2 := (le_hi (d := ((r - l : Nat) : Int)) hV hO).2 ⟨by omega, h4.2⟩
    refine ⟨r - l, ⟨by omega, by omega⟩, l, ⟨by omega, h2, by rw [show r - l + l = r by omega]; exact h3⟩, ?_⟩
    unfold cand
    rw [show l + (r - l) = r by omega, if_pos h5]
/-- A pair is not worse than another. -/
abbrev bef (p : Nat) (c x : Nat × Nat) : Bool := befV (between p c.1 c.2) c.1 c.2 (between p x.1 x.2) x.1 x.2
theorem better_iff (p : Nat) (c x : Nat × Nat) (hc : c.1 < c.2) (hx : x.1 < x.2) (hl : x.1 ≤ c.1) : better p c x = bef p c x := by
  unfold better bef befV
  rw [Bool.eq_iff_iff]
  simp only [Bool.or_eq_true, Bool.and_eq_true, decide_eq_true_eq]
  omega
theorem bef_trans {p : Nat} {a c x : Nat × Nat} (h1 : bef p c x = true) (h2 : bef p a x = false) : bef p a c = false := by
  unfold bef befV at *
  simp only [decide_eq_true_eq, decide_eq_false_iff_not] at *
  omega
theorem bef_antisymm {p : Nat} {a c : Nat × Nat} (h1 : bef p c a = false) (h2 : bef p a c = false) : a = c := by
  unfold bef befV at *
  simp only [decide_eq_false_iff_not] at *
  have e1 : a.1 = c.1 := by omega
  have e2 : a.2 = c.2 := by omega
  exact Prod.ext e1 e2
/-- The best of a list's members that take a scene. -/
def BestOf (b : BarD) (p : Nat) (s : Scn) (L : List (Nat × Nat)) : Option (Nat × Nat) → Prop
  | none => ∀ c ∈ L, byB b p s c.1 c.2 = false
  | some x => x ∈ L ∧ byB b p s x.1 x.2 = true ∧ ∀ c ∈ L, byB b p s c.1 c.2 = true → bef p c x = false
theorem byB_lt {b : BarD} {p : Nat} {s : Scn} {l r : Nat} (h : byB b p s l r = true) : l < r := by
  unfold byB at h; simp only [Bool.and_eq_true, decide_eq_true_eq] at h; exact h.1.1.1.1
theorem bestOf_fold (b : BarD) (p : Nat) (s : Scn) : ∀ (L D : List (Nat × Nat)) (o : Option (Nat × Nat)), BestOf b p s D o → (∀ x ∈ D, ∀ c ∈ L, x.1 ≤ c.1) → L.Pairwise (fun x c => x.1 ≤ c.1) → BestOf b p s (D ++ L) (L.foldl (upd b p s) o)
  | [], D, o, h, _, _ => by simpa using h
  | c :: L, D, o, h, hD, hL => by
    rw [List.pairwise_cons] at hL
    have e : D ++ c :: L = (D ++ [c]) ++ L := by simp
    rw [e, List.foldl_cons]
    refine bestOf_fold b p s L (D ++ [c]) _ ?_ ?_ hL.2
    · unfold upd
      by_cases hb : byB b p s c.1 c.2 = true
      · rw [if_pos hb]
        cases o with
        | none => exact ⟨by simp, hb, fun y hy hby => by
            rcases List.mem_append.1 hy with hy | hy
            · rw [h y hy] at hby; cases hby
            · simp at hy; subst hy; exact befV_same _ _ _⟩
        | some x =>
          obtain ⟨hx1, hx2, hx3⟩ := h
          have hbt := better_iff p c x (byB_lt hb) (byB_lt hx2) (hD x hx1 c (by simp))
          simp only
          rw [hbt]
          by_cases hc : bef p c x = true
          · rw [if_pos hc]
            exact ⟨by simp, hb, fun y hy hby => by
              rcases List.mem_append.1 hy with hy | hy
              · exact bef_trans hc (hx3 y hy hby)
              · simp at hy; subst hy; exact befV_same _ _ _⟩
          · rw [if_neg hc]
            exact ⟨by simp [hx1], hx2, fun y hy hby => by
              rcases List.mem_append.1 hy with hy | hy
              · exact hx3 y hy hby
              · simp at hy; subst hy; simpa using hc⟩
      · rw [if_neg hb]
        cases o with
        | none => intro y hy; rcases List.mem_append.1 hy with hy | hy
                  · exact h y hy
                  · simp at hy; subst hy; simpa using hb
        | some x =>
          obtain ⟨hx1, hx2, hx3⟩ := h
          exact ⟨by simp [hx1], hx2, fun y hy hby => by
              rcases List.mem_append.1 hy with hy | hy
              · exact hx3 y hy hby
              · simp at hy; subst hy; exact absurd hby hb⟩
    · intro x hx y hy
      rcases List.mem_append.1 hx with hx | hx
      · exact hD x hx y (by simp [hy])
      · simp at hx; subst hx; exact hL.1 y hy
theorem pairsTo_sorted (S : Nat) : ∀ l, (pairsTo S l).Pairwise (fun x c => x.1 ≤ c.1)
  | 0 => by simp [pairsTo]
  | l + 1 => by
    rw [pairsTo_step, List.pairwise_append]
    refine ⟨pairsTo_sorted S l, ?_, fun x hx c hc => ?_⟩
    · unfold rowTo
      rw [List.pairwise_map]
      exact List.pairwise_of_forall (fun _ _ => Nat.le_refl _)
    · have h1 := mem_pairsTo hx; have h2 := mem_rowTo hc; omega
theorem mem_pairsTo' {S l : Nat} {c : Nat × Nat} (h1 : c.1 < l) (h2 : c.1 < c.2) (h3 : c.2 < S) : c ∈ pairsTo S l := by
  unfold pairsTo rowTo
  refine List.mem_flatMap.2 ⟨c.1, by simpa using h1, List.mem_map.2 ⟨c.2, by rw [List.mem_range'_1]; omega, rfl⟩⟩
theorem byB_in {b : BarD} {p : Nat} {s : Scn} {l r : Nat} (hp : p < 2 ^ b.slots.toNat) (h : byB b p s l r = true) : (l, r) ∈ pairsTo b.slots.toNat b.slots.toNat := by
  have h1 := byB_lt h
  have h2 : p.testBit r = true := by unfold byB at h; simp only [Bool.and_eq_true] at h; exact h.1.1.2
  have h3 := bit_lt hp h2
  exact mem_pairsTo' (by simp; omega) h1 h3
theorem best_of (b : BarD) (p : Nat) (s : Scn) : BestOf b p s (pairsTo b.slots.toNat b.slots.toNat) (best b p s) := by
  have := bestOf_fold b p s (pairsTo b.slots.toNat b.slots.toNat) [] none (fun c hc => by cases hc) (fun x hx => by cases hx) (pairsTo_sorted _ _)
  unfold best; simpa using this
theorem best_none {b : BarD} {p : Nat} {s : Scn} (hp : p < 2 ^ b.slots.toNat) : best b p s = none ↔ ∀ l r, byB b p s l r = false := by
  have h := best_of b p s
  constructor
  · intro e l r
    rw [e] at h
    cases hb : byB b p s l r
    · rfl
    · have := h (l, r) (byB_in hp hb); rw [← hb]; exact this
  · intro hn
    cases e : best b p s with
    | none => rfl
    | some x => rw [e] at h; have := h.2.1; rw [hn] at this; cases this
theorem best_some {b : BarD} {p : Nat} {s : Scn} {x : Nat × Nat} (hp : p < 2 ^ b.slots.toNat) : best b p s = some x ↔ byB b p s x.1 x.2 = true ∧ ∀ l r, byB b p s l r = true → bef p (l, r) x = false := by
  have h := best_of b p s
  constructor
  · intro e
    rw [e] at h
    exact ⟨h.2.1, fun l r hb => h.2.2 (l, r) (byB_in hp hb) hb⟩
  · rintro ⟨h1, h2⟩
    cases e : best b p s with
    | none => rw [(best_none hp).1 e] at h1; cases h1
    | some y =>
      rw [e] at h
      have e1 := h.2.2 x (byB_in hp h1) h1
      have e2 := h2 y.1 y.2 h.2.1
      rw [bef_antisymm e2 e1]
theorem pairsP_nil {b : BarD} {p : Nat} {s : Scn} (hV : Valid b) (hO : OkS s) (hp : p < 2 ^ b.slots.toNat) : pairsP b p s = [] ↔ best b p s = none := by
  rw [best_none hp, List.eq_nil_iff_forall_not_mem]
  constructor
  · intro h l r
    cases hb : byB b p s l r
    · rfl
    · exact absurd ((mem_pairsP hV hO hp _ l r).2 ⟨hb, rfl⟩) (h _)
  · rintro h ⟨n, l, r⟩ hm
    have := ((mem_pairsP hV hO hp n l r).1 hm).1
    rw [h] at this; cases this
end Go.BarM
