/- Plain laws on plans: why no plan takes all scenes. -/
import Derived.Test.YtkolcbjghphjeaaDoorN4
namespace Go.Proofs.YtkolcbjghphjeaaDoor
open Go Go.Sy Go.BarM
/-- The bar with some of its scenes alone. -/
def subB (b : BarD) (l : List Nat) : BarD := { b with scenes := l.filterMap (b.scenes[·]?) }
theorem best_congr {b x : BarD} (h1 : x.slots = b.slots) (h2 : x.pitch = b.pitch) (p : Nat) (s : Scn) : best x p s = best b p s := by
  have e1 : byB x p s = byB b p s := by funext l r; unfold byB; rw [h2]
  have e2 : upd x p s = upd b p s := by funext o c; unfold upd; rw [e1]
  unfold best; rw [h1, e2]
theorem plan_congr {b x : BarD} (h1 : x.slots = b.slots) (h2 : x.broken = b.broken) (h3 : x.most = b.most) (p : Nat) : isPlan x p = isPlan b p := by
  unfold isPlan; rw [h1, h2, h3]
theorem sub_valid {b : BarD} (hV : Valid b) {l : List Nat} (hl : l.length ≤ 10) : Valid (subB b l) :=
  ⟨hV.s1, hV.s2, hV.p1, hV.p2, hV.k1, hV.k2, hV.m1, hV.m2, Nat.le_trans (List.length_filterMap_le _ _) hl, fun s hs => by
    obtain ⟨i, _, h⟩ := List.mem_filterMap.1 hs
    exact hV.sc s (List.mem_of_getElem? h)⟩
theorem takes_all {x : BarD} {p : Nat} : takesB x (allS x) p = true ↔ ∀ s ∈ x.scenes, (best x p s).isSome = true := by
  rw [takesB_iff]
  constructor
  · intro h s hs
    obtain ⟨j, hj⟩ := List.getElem?_of_mem hs
    have := h j (by rw [Nat.testBit_two_pow_sub_one]; exact decide_eq_true (len_of hj))
    rw [taken_bit, hj] at this; exact this
  · intro h j hj
    rw [Nat.testBit_two_pow_sub_one, decide_eq_true_eq] at hj
    obtain ⟨s, hs⟩ := scn_of hj
    rw [taken_bit, hs]; exact h s (List.mem_of_getElem? hs)
theorem takes_one {b : BarD} {p i : Nat} {s : Scn} (hs : b.scenes[i]? = some s) : takesB b (2 ^ i) p = true ↔ (best b p s).isSome = true := by
  rw [takesB_iff]
  constructor
  · intro h
    have := h i (by rw [Nat.testBit_two_pow]; simp)
    rw [taken_bit, hs] at this; exact this
  · intro h j hj
    rw [Nat.testBit_two_pow, decide_eq_true_eq] at hj
    subst hj; rw [taken_bit, hs]; exact h
theorem takes_two {b : BarD} {p i k : Nat} {s t : Scn} (hs : b.scenes[i]? = some s) (ht : b.scenes[k]? = some t) : takesB b (2 ^ i ||| 2 ^ k) p = true ↔ (best b p s).isSome = true ∧ (best b p t).isSome = true := by
  rw [takesB_iff]
  constructor
  · intro h
    have h1 := h i (by rw [Nat.testBit_or, Nat.testBit_two_pow]; simp)
    have h2 := h k (by rw [Nat.testBit_or, Nat.testBit_two_pow, Nat.testBit_two_pow]; simp)
    rw [taken_bit, hs] at h1; rw [taken_bit, ht] at h2; exact ⟨h1, h2⟩
  · intro h j hj
    rw [Nat.testBit_or, Nat.testBit_two_pow, Nat.testBit_two_pow, Bool.or_eq_true, decide_eq_true_eq, decide_eq_true_eq] at hj
    rcases hj with hj | hj
    · subst hj; rw [taken_bit, hs]; exact h.1
    · subst hj; rw [taken_bit, ht]; exact h.2
theorem can_of {b x : BarD} (hV : Valid b) (hx : Valid x) {set : Nat} (h1 : ∀ p, isPlan x p = isPlan b p) (h2 : ∀ p, takesB x (allS x) p = true ↔ takesB b set p = true) : decide (fewE x = 0) = !neverB b set := by
  have e : (firstP x (allS x)).isSome = (firstP b set).isSome := by
    cases hf : firstP b set with
    | none =>
      have : firstP x (allS x) = none := (firstP_none hx).2 fun q hq => by
        have := (firstP_none hV).1 hf q (by rw [← h1]; exact hq)
        cases ht : takesB x (allS x) q
        · rfl
        · rw [(h2 q).1 ht] at this; cases this
      rw [this]
    | some f =>
      cases hg : firstP x (allS x) with
      | some g => rfl
      | none =>
        have hf' := firstP_some hV hf
        have := (firstP_none hx).1 hg f (by rw [h1]; exact hf'.plan)
        rw [(h2 f).2 hf'.takes] at this; cases this
  unfold neverB fewE
  rw [(okBar_iff x).2 hx, e]
  cases (firstP b set).isSome <;> simp
theorem can_one {b : BarD} (hV : Valid b) {i : Nat} {s : Scn} (hs : b.scenes[i]? = some s) : decide (fewE (subB b [i]) = 0) = !neverB b (2 ^ i) := by
  refine can_of hV (sub_valid hV (by simp)) (fun p => plan_congr (b := b) (x := subB b [i]) rfl rfl rfl p) fun p => ?_
  rw [takes_all, takes_one hs]
  have e : (subB b [i]).scenes = [s] := by simp [subB, hs]
  rw [e]
  simp only [List.mem_singleton, forall_eq]
  rw [best_congr (b := b) (x := subB b [i]) rfl rfl]
theorem can_two {b : BarD} (hV : Valid b) {i k : Nat} {s t : Scn} (hs : b.scenes[i]? = some s) (ht : b.scenes[k]? = some t) : decide (fewE (subB b [i, k]) = 0) = !neverB b (2 ^ i ||| 2 ^ k) := by
  refine can_of hV (sub_valid hV (by simp)) (fun p => plan_congr (b := b) (x := subB b [i, k]) rfl rfl rfl p) fun p => ?_
  rw [takes_all, takes_two hs ht]
  have e : (subB b [i, k]).scenes = [s, t] := by simp [subB, hs, ht]
  rw [e, ← best_congr (b := b) (x := subB b [i, k]) rfl rfl, ← best_congr (b := b) (x := subB b [i, k]) rfl rfl]
  constructor
  · intro h; exact ⟨h s (by simp), h t (by simp)⟩
  · rintro ⟨h1, h2⟩ z hz
    rcases List.mem_cons.1 hz with rfl | hz
    · exact h1
    · simp at hz; subst hz; exact h2
theorem never_bit {b : BarD} (hV : Valid b) {set : Nat} (h : neverB b set = true) {q : Nat} (hq : isPlan b q = true) : takesB b set q = false := by
  unfold neverB at h
  refine (firstP_none hV).1 ?_ q hq
  cases hf : firstP b set with
  | none => rfl
  | some f => rw [hf] at h; simp at h
theorem one_some {b : BarD} {i : Nat} (h : oneB b = some i) : i < b.scenes.length ∧ neverB b (2 ^ i) = true ∧ ∀ j, j < i → neverB b (2 ^ j) = false := by
  unfold oneB at h
  rw [List.find?_eq_some_iff_getElem] at h
  obtain ⟨h1, k, hk, e, h2⟩ := h
  rw [List.getElem_range] at e
  subst e
  rw [List.length_range] at hk
  refine ⟨hk, h1, fun j hj => ?_⟩
  have := h2 j hj
  rw [List.getElem_range] at this
  simpa using this
theorem one_none {b : BarD} (h : oneB b = none) : ∀ j, j < b.scenes.length → neverB b (2 ^ j) = false := by
  unfold oneB at h
  rw [List.find?_eq_none] at h
  intro j hj
  simpa using h j (by simpa using hj)
def LexP (x y : Nat × Nat) : Prop := x.1 < y.1 ∨ (x.1 = y.1 ∧ x.2 < y.2)
theorem pairsTo_lex (S : Nat) : ∀ l, (pairsTo S l).Pairwise LexP
  | 0 => by simp [pairsTo]
  | l + 1 => by
    rw [pairsTo_step, List.pairwise_append]
    refine ⟨pairsTo_lex S l, ?_, fun x hx c hc => ?_⟩
    · unfold rowTo
      rw [List.pairwise_map]
      exact List.Pairwise.imp (fun h => .inr ⟨rfl, h⟩) List.pairwise_lt_range'
    · have h1 := mem_pairsTo hx; have h2 := mem_rowTo hc; left; omega
theorem two_some {b : BarD} {i k : Nat} (h : twoB b = some (i, k)) : i < k ∧ k < b.scenes.length ∧ neverB b (2 ^ i ||| 2 ^ k) = true ∧ ∀ j m, j < m → m < b.scenes.length → (j < i ∨ (j = i ∧ m < k)) → neverB b (2 ^ j ||| 2 ^ m) = false := by
  unfold twoB at h
  rw [List.find?_eq_some_iff_append] at h
  obtain ⟨h1, la, lb, e, h2⟩ := h
  have hm := mem_pairsTo (show (i, k) ∈ pairsTo b.scenes.length b.scenes.length by rw [e]; simp)
  refine ⟨hm.2.1, hm.2.2, h1, fun j m hjm hm2 hlex => ?_⟩
  have hj := mem_pairsTo' (S := b.scenes.length) (l := b.scenes.length) (c := (j, m)) (by simp; omega) hjm hm2
  have hs := pairsTo_lex b.scenes.length b.scenes.length
  rw [e, List.pairwise_append, List.pairwise_cons] at hs
  rw [e] at hj
  rcases List.mem_append.1 hj with hj | hj
  · simpa using h2 _ hj
  · rcases List.mem_cons.1 hj with hj | hj
    · simp only [Prod.mk.injEq] at hj; omega
    · have := hs.2.1.1 _ hj; unfold LexP at this; simp only at this; omega
theorem two_none {b : BarD} (h : twoB b = none) : ∀ j m, j < m → m < b.scenes.length → neverB b (2 ^ j ||| 2 ^ m) = false := by
  unfold twoB at h
  rw [List.find?_eq_none] at h
  intro j m hjm hm
  simpa using h _ (mem_pairsTo' (S := b.scenes.length) (l := b.scenes.length) (c := (j, m)) (by simp; omega) hjm hm)
theorem never_len0 {b : BarD} (hV : Valid b) (h : neverB b (allS b) = true) : 0 < b.scenes.length := by
  by_cases hn : b.scenes.length = 0
  · have h1 := never_bit hV h (zero_plan hV)
    have h2 : takesB b (allS b) 0 = true := takesB_iff.2 fun i hi => by
      rw [show allS b = 2 ^ b.scenes.length - 1 from rfl, hn] at hi; simp at hi
    rw [h2] at h1; cases h1
  · omega
/-- The cells of scenes. -/
def encS (L : List Scn) : List Value := L.flatMap fun s => [.int .i64 s.least, .int .i64 s.most, .int .i64 s.calm]
theorem encS_get : ∀ (L : List Scn) (k j : Nat) (s : Scn), L[k]? = some s → j < 3 → (encS L)[k * 3 + j]? = [Value.int .i64 s.least, .int .i64 s.most, .int .i64 s.calm][j]?
  | [], k, j, y, h, _ => by simp at h
  | x :: L, 0, j, y, h, hj => by
    simp at h; subst h
    unfold encS; rw [List.flatMap_cons, Nat.zero_mul, Nat.zero_add, List.getElem?_append_left (by simpa using hj)]
  | x :: L, k + 1, j, y, h, hj => by
    have ih := encS_get L k j y (by simpa using h) hj
    unfold encS at *
    rw [List.flatMap_cons, List.getElem?_append_right (by simp; omega), ← ih]
    congr 1; simp; omega
theorem encS_len (L : List Scn) : (encS L).length = L.length * 3 := by
  induction L with
  | nil => rfl
  | cons x L ih => unfold encS at *; rw [List.flatMap_cons, List.length_append, ih]; simp; omega
theorem scAt_of {w u : World} {oa : Option Addr} {cap : Nat} {L : List Scn} {X H : List (Nat × Obj)} (ho : OwnSl 39 3 (.slice oa L.length cap) L.length (encS L) X) (hh : Hp u [] H w) (hX : ∀ x ∈ X, x ∈ H) : ScAt w oa L := fun i s hi => by
  rcases ho.2 with ⟨e, h0, _⟩ | ⟨B, cp, cur, e, e2, h3, h4, h5, h6⟩
  · have := len_of hi; omega
  · cases e
    refine ⟨B, 0, cur, 39, (0, 0), rfl, hh.get _ (hX (B, .cells cur 39 (0, 0)) (by rw [e2]; simp)), ?_⟩
    have hil := len_of hi
    have g : ∀ j, j < 3 → cur[i * 3 + j]? = [Value.int .i64 s.least, .int .i64 s.most, .int .i64 s.calm][j]? := fun j hj => by
      rw [← encS_get L i j s hi hj, ← h6, List.getElem?_take_of_lt (by omega), Array.getElem?_toList]
    have g0 := g 0 (by omega); have g1 := g 1 (by omega); have g2 := g 2 (by omega)
    rw [Nat.zero_add]
    simp only [cellsAt, Nat.add_zero] at *
    rw [g0]; simp only [List.getElem?_cons_zero]
    rw [g1]; simp only [List.getElem?_cons_zero, List.getElem?_cons_succ]
    rw [show i * 3 + 1 + 1 = i * 3 + 2 from rfl, g2]; rfl
theorem encS_snoc (L : List Scn) (s : Scn) : encS (L ++ [s]) = encS L ++ [.int .i64 s.least, .int .i64 s.most, .int .i64 s.calm] := by
  unfold encS; rw [List.flatMap_append]; rfl
def subs (b : BarD) (l : List Nat) (k : Nat) : List Scn := (l.take k).filterMap (b.scenes[·]?)
theorem subs_zero (b : BarD) (l : List Nat) : subs b l 0 = [] := by simp [subs]
theorem subs_step {b : BarD} {l : List Nat} {k i : Nat} {s : Scn} (hi : l[k]? = some i) (hs : b.scenes[i]? = some s) : subs b l (k + 1) = subs b l k ++ [s] := by
  unfold subs; rw [List.take_add_one, hi, List.filterMap_append]; simp [hs]
theorem subs_all (b : BarD) (l : List Nat) : subs b l l.length = (subB b l).scenes := by unfold subs subB; rw [List.take_length]
theorem subB_len {b : BarD} : ∀ {l : List Nat}, (∀ i ∈ l, i < b.scenes.length) → (subB b l).scenes.length = l.length
  | [], _ => rfl
  | x :: l, h => by
    obtain ⟨s, hs⟩ := scn_of (h x (by simp))
    have ih := subB_len (l := l) (fun i hi => h i (by simp [hi]))
    unfold subB at *
    simp only [List.filterMap_cons, hs, List.length_cons]
    simp only at ih; omega
end Go.Proofs.YtkolcbjghphjeaaDoor
