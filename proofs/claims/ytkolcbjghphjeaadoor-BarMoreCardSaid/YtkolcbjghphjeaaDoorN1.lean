/- Plain laws on plans: the program's order, the first that takes a set, the best one. -/
import Derived.Test.YtkolcbjghphjeaaDoorB16
namespace Go.Proofs.YtkolcbjghphjeaaDoor
open Go Go.Sy Go.BarM
/-- Before, in the program's order of plans. -/
def Lx (p q : Nat) : Prop := pc p < pc q ∨ (pc p = pc q ∧ p < q)
theorem Lx.irrefl {p : Nat} (h : Lx p p) : False := by unfold Lx at h; omega
theorem Lx.tri (p q : Nat) : Lx p q ∨ p = q ∨ Lx q p := by unfold Lx; omega
theorem Lx.asymm {p q : Nat} (h : Lx p q) (k : Lx q p) : False := by unfold Lx at *; omega
theorem plansL_sorted (b : BarD) : (plansL b).Pairwise Lx := by
  unfold plansL restM
  rw [List.pairwise_flatMap]
  constructor
  · intro k _
    unfold rowF
    have h1 : ((List.range' 0 (2 ^ b.slots.toNat - 0)).filter (good b k)).Pairwise (· < ·) := List.Pairwise.filter _ List.pairwise_lt_range'
    refine List.Pairwise.imp_of_mem ?_ h1
    intro p q hp hq hpq
    have e1 := (List.mem_filter.1 hp).2
    have e2 := (List.mem_filter.1 hq).2
    unfold good at e1 e2
    simp only [Bool.and_eq_true, decide_eq_true_eq] at e1 e2
    exact .inr ⟨by omega, hpq⟩
  · refine List.Pairwise.imp ?_ (List.pairwise_lt_range' (s := 0) (n := topM b + 1 - 0))
    intro i j hij p hp q hq
    unfold rowF at hp hq
    have e1 := (List.mem_filter.1 hp).2
    have e2 := (List.mem_filter.1 hq).2
    unfold good at e1 e2
    simp only [Bool.and_eq_true, decide_eq_true_eq] at e1 e2
    exact .inl (by omega)
theorem plansL_nodup (b : BarD) : (plansL b).Nodup := by
  have h := plansL_sorted b
  unfold List.Nodup
  exact h.imp fun {p q} hpq e => by subst e; exact hpq.irrefl
/-- The plan with the fewest slots that takes a set. -/
structure IsFew (b : BarD) (set p : Nat) : Prop where
  plan : isPlan b p = true
  takes : takesB b set p = true
  least : ∀ q, isPlan b q = true → takesB b set q = true → p = q ∨ Lx p q
theorem IsFew.uniq {b : BarD} {set p q : Nat} (h : IsFew b set p) (k : IsFew b set q) : p = q := by
  rcases h.least q k.plan k.takes with e | e
  · exact e
  · rcases k.least p h.plan h.takes with e' | e'
    · exact e'.symm
    · exact (e.asymm e').elim
theorem firstP_some {b : BarD} (hV : Valid b) {set p : Nat} (h : firstP b set = some p) : IsFew b set p := by
  unfold firstP at h
  obtain ⟨h1, la, lb, h2, h3⟩ := List.find?_eq_some_iff_append.1 h
  have hm : p ∈ plansL b := by rw [h2]; simp
  refine ⟨(mem_plansL hV).1 hm, h1, fun q hq hqt => ?_⟩
  have hs := plansL_sorted b
  rw [h2, List.pairwise_append, List.pairwise_cons] at hs
  have hqm : q ∈ la ++ p :: lb := by rw [← h2]; exact (mem_plansL hV).2 hq
  rcases List.mem_append.1 hqm with hqa | hqb
  · have := h3 q hqa; rw [hqt] at this; cases this
  · rcases List.mem_cons.1 hqb with e | e
    · exact .inl e.symm
    · exact .inr (hs.2.1.1 q e)
theorem firstP_none {b : BarD} (hV : Valid b) {set : Nat} : firstP b set = none ↔ ∀ q, isPlan b q = true → takesB b set q = false := by
  unfold firstP
  rw [List.find?_eq_none]
  constructor
  · intro h q hq; simpa using h q ((mem_plansL hV).2 hq)
  · intro h q hq; rw [h q ((mem_plansL hV).1 hq)]; simp
theorem firstP_iff {b : BarD} (hV : Valid b) {set p : Nat} : firstP b set = some p ↔ IsFew b set p := by
  constructor
  · exact firstP_some hV
  · intro h
    cases hf : firstP b set with
    | none => have := (firstP_none hV).1 hf p h.plan; rw [h.takes] at this; cases this
    | some q => rw [(firstP_some hV hf).uniq h]
/-- Plans, by rising numbers. -/
def plansR (b : BarD) : List Nat := (List.range (2 ^ b.slots.toNat)).filter (isPlan b)
theorem isPlan_bd {b : BarD} {p : Nat} (h : isPlan b p = true) : p < 2 ^ b.slots.toNat := ((isPlan_iff b p).1 h).1
theorem mem_plansR {b : BarD} {p : Nat} : p ∈ plansR b ↔ isPlan b p = true := by
  unfold plansR
  rw [List.mem_filter, List.mem_range]
  exact ⟨fun h => h.2, fun h => ⟨isPlan_bd h, h⟩⟩
theorem plansR_nodup (b : BarD) : (plansR b).Nodup := List.Pairwise.filter _ List.nodup_range
theorem plans_perm {b : BarD} (hV : Valid b) : (plansL b).Perm (plansR b) :=
  (List.perm_ext_iff_of_nodup (plansL_nodup b) (plansR_nodup b)).2 fun p => by rw [mem_plansL hV, mem_plansR]
/-- Plans that take a set, by rising numbers. -/
def refL (b : BarD) (set : Nat) : List Nat := (List.range (2 ^ b.slots.toNat)).filter fun p => isPlan b p && takesB b set p
theorem refL_eq (b : BarD) (set : Nat) : refL b set = (plansR b).filter (takesB b set) := by
  unfold refL plansR; rw [List.filter_filter]; congr 1; funext p; exact Bool.and_comm _ _
theorem mem_refL {b : BarD} {set p : Nat} : p ∈ refL b set ↔ isPlan b p = true ∧ takesB b set p = true := by
  rw [refL_eq, List.mem_filter, mem_plansR]
theorem cnt_ref {b : BarD} (hV : Valid b) (set : Nat) : cntK b set (plansL b).length = (refL b set).length := by
  unfold cntK
  rw [List.take_length, (plans_perm hV).countP_eq, refL_eq, List.countP_eq_length_filter]
theorem zero_plan {b : BarD} (hV : Valid b) : isPlan b 0 = true := by
  rw [isPlan_iff]
  have := hV.m1
  refine ⟨Nat.pow_pos (by omega), by rw [pc_zero]; exact this, fun k _ => ?_⟩
  rw [Nat.zero_testBit]; simp
/-- One plan is better than another: it takes more scenes, or as many and comes before. -/
def Bt (b : BarD) (p q : Nat) : Prop := pc (taken b q) < pc (taken b p) ∨ (pc (taken b q) = pc (taken b p) ∧ Lx p q)
structure IsMost (b : BarD) (p : Nat) : Prop where
  plan : isPlan b p = true
  best : ∀ q, isPlan b q = true → p = q ∨ Bt b p q
theorem IsMost.uniq {b : BarD} {p q : Nat} (h : IsMost b p) (k : IsMost b q) : p = q := by
  rcases h.best q k.plan with e | e
  · exact e
  · rcases k.best p h.plan with e' | e'
    · exact e'.symm
    · unfold Bt Lx at *; omega
theorem most_fold (b : BarD) : ∀ (L D : List Nat) (m : Nat), (D ++ L).Pairwise Lx → m ∈ D → (∀ q ∈ D, m = q ∨ Bt b m q) →
    (L.foldl (fun m p => if pc (taken b m) < pc (taken b p) then p else m) m) ∈ D ++ L ∧ ∀ q ∈ D ++ L, (L.foldl (fun m p => if pc (taken b m) < pc (taken b p) then p else m) m) = q ∨ Bt b (L.foldl (fun m p => if pc (taken b m) < pc (taken b p) then p else m) m) q
  | [], D, m, _, hm, h => by rw [List.append_nil]; exact ⟨hm, h⟩
  | y :: L, D, m, hs, hm, h => by
    have e : D ++ y :: L = (D ++ [y]) ++ L := by simp
    rw [List.foldl_cons]
    rw [e] at hs ⊢
    refine most_fold b L (D ++ [y]) _ hs ?_ ?_
    · split
      · simp
      · simp [hm]
    · have hd : ∀ q ∈ D, Lx q y := fun q hq => by
        have h2 := (List.pairwise_append.1 hs).1
        exact (List.pairwise_append.1 h2).2.2 q hq y (by simp)
      intro q hq
      rcases List.mem_append.1 hq with hq | hq
      · split
        · rename_i hlt
          right; left
          rcases h q hq with e | e
          · subst e; exact hlt
          · unfold Bt at e; omega
        · exact h q hq
      · simp at hq; subst hq
        split
        · exact .inl rfl
        · rename_i hge
          have := hd m hm
          unfold Bt
          right
          by_cases h1 : pc (taken b q) < pc (taken b m)
          · exact .inl h1
          · exact .inr ⟨by omega, this⟩
theorem plansL_head {b : BarD} (hV : Valid b) : ∃ L, plansL b = 0 :: L := by
  have h0 := (mem_plansL hV).2 (zero_plan hV)
  cases hp : plansL b with
  | nil => rw [hp] at h0; cases h0
  | cons x L =>
    have hs := plansL_sorted b
    rw [hp, List.pairwise_cons] at hs
    rw [hp] at h0
    rcases List.mem_cons.1 h0 with e | e
    · exact ⟨L, by rw [e]⟩
    · have := hs.1 0 e
      unfold Lx at this; rw [pc_zero] at this; omega
theorem bst_most {b : BarD} (hV : Valid b) : IsMost b (bstK b (plansL b).length) := by
  obtain ⟨L, hL⟩ := plansL_head hV
  have hk : bstK b (plansL b).length = L.foldl (fun m p => if pc (taken b m) < pc (taken b p) then p else m) 0 := by
    unfold bstK
    rw [List.take_length, hL, List.foldl_cons]
    congr 1
    simp
  have hs := plansL_sorted b
  rw [hL] at hs
  have h := most_fold b L [0] 0 hs (by simp) (fun q hq => by simp at hq; exact .inl hq.symm)
  rw [hk]
  refine ⟨(mem_plansL hV).1 (by rw [hL]; exact h.1), fun q hq => h.2 q (by have := (mem_plansL hV).2 hq; rw [hL] at this; exact this)⟩
/-- Does a plan take a set of scenes? -/
theorem takenTo_bit (b : BarD) (p : Nat) : ∀ (k i : Nat), k ≤ b.scenes.length → (takenTo b p k).testBit i = (decide (i < k) && match b.scenes[i]? with | some s => (best b p s).isSome | none => false)
  | 0, i, _ => by rw [takenTo_zero]; simp
  | k + 1, i, h => by
    obtain ⟨s, hs⟩ := scn_of (l := b.scenes) (i := k) (by omega)
    have ih := takenTo_bit b p k i (by omega)
    have hlt := takenTo_lt b p k
    rw [takenTo_step b p k s hs]
    by_cases hb : (best b p s).isSome = true
    · rw [if_pos hb, ← taken_or, Nat.testBit_or, ih, Nat.testBit_two_pow]
      by_cases hik : i = k
      · subst hik; rw [hs]; simp [hb]
      · by_cases hk : i < k
        · have : i < k + 1 := by omega
          simp [hk, this, Ne.symm hik]
        · have : ¬ i < k + 1 := by omega
          simp [hk, this, Ne.symm hik]
    · rw [if_neg hb, ih]
      by_cases hik : i = k
      · subst hik; rw [hs]; simp at hb; simp [hb]
      · by_cases hk : i < k
        · have : i < k + 1 := by omega
          simp [hk, this]
        · have : ¬ i < k + 1 := by omega
          simp [hk, this]
end Go.Proofs.YtkolcbjghphjeaaDoor
