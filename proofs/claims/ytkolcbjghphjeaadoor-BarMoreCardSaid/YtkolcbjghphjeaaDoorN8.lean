/- Plain laws on plans: a bar with less. -/
import Derived.Test.YtkolcbjghphjeaaDoorN7
import Derived.Test.YtkolcbjghphjeaaDoorE10
namespace Go.Proofs.YtkolcbjghphjeaaDoor
open Go Go.Sy Go.BarM
theorem pc_mono : ∀ {n u t : Nat}, u < 2 ^ n → t < 2 ^ n → n < 32 → (∀ i, u.testBit i = true → t.testBit i = true) → pc u ≤ pc t
  | 0, u, t, hu, ht, _, _ => by have : u = 0 := by omega
                                subst this; simp [pc_zero]
  | n + 1, u, t, hu, ht, hn, h => by
    have h1 := pc_top n u hu (by omega)
    have h2 := pc_top n t ht (by omega)
    have hp := Nat.two_pow_pos n
    have ih := pc_mono (n := n) (u := u % 2 ^ n) (t := t % 2 ^ n) (Nat.mod_lt _ hp) (Nat.mod_lt _ hp) (by omega) (fun i hi => by
      rw [Nat.testBit_mod_two_pow, Bool.and_eq_true] at hi ⊢
      exact ⟨hi.1, h i hi.2⟩)
    have h3 := h n
    rw [h1, h2]
    cases hb : u.testBit n
    · simp; omega
    · rw [h3 hb]; simp; exact ih
/-- A bar that can do no more than another. -/
structure Less (b x : BarD) : Prop where
  valid : Valid x
  slots : x.slots = b.slots
  len : x.scenes.length = b.scenes.length
  plan : ∀ p, isPlan x p = true → isPlan b p = true
  by' : ∀ (i : Nat) (s t : Scn), b.scenes[i]? = some s → x.scenes[i]? = some t → ∀ p l r, byB x p t l r = true → byB b p s l r = true
section
variable {b x : BarD} (hV : Valid b) (h : Less b x)
include h
theorem less_taken {p : Nat} (hp : p < 2 ^ b.slots.toNat) (i : Nat) (hi : (taken x p).testBit i = true) : (taken b p).testBit i = true := by
  rw [taken_bit] at hi ⊢
  cases ht : x.scenes[i]? with
  | none => rw [ht] at hi; cases hi
  | some t =>
    rw [ht] at hi
    have hil := len_of ht
    rw [h.len] at hil
    obtain ⟨s, hs⟩ := scn_of hil
    rw [hs]
    have hp' : p < 2 ^ x.slots.toNat := by rw [h.slots]; exact hp
    show (best b p s).isSome = true
    cases hb : best b p s with
    | some _ => rfl
    | none =>
      have hn : best x p t = none := (best_none hp').2 fun l r => by
        cases hx : byB x p t l r
        · rfl
        · have := h.by' i s t hs ht p l r hx
          rw [(best_none hp).1 hb] at this; cases this
      have hi : (best x p t).isSome = true := hi
      rw [hn] at hi; cases hi
theorem less_andn {p : Nat} (hp : p < 2 ^ b.slots.toNat) : andn (taken x p) (taken b p) = 0 := andn_zero.2 fun i hi => less_taken h hp i hi
theorem less_all : allS x = allS b := by show 2 ^ x.scenes.length - 1 = 2 ^ b.scenes.length - 1; rw [h.len]
theorem less_takes {p : Nat} (hp : p < 2 ^ b.slots.toNat) (ht : takesB x (allS x) p = true) : takesB b (allS b) p = true := by
  rw [less_all h, takesB_iff] at ht
  exact takesB_iff.2 fun i hi => less_taken h hp i (ht i hi)
include hV
theorem less_few {r : Nat} (hr : firstP x (allS x) = some r) : ∃ p, firstP b (allS b) = some p ∧ pc p ≤ pc r := by
  have h1 := firstP_some h.valid hr
  have hb := h.plan r h1.plan
  have ht := less_takes h (isPlan_bd hb) h1.takes
  cases hf : firstP b (allS b) with
  | none => have := (firstP_none hV).1 hf r hb; rw [ht] at this; cases this
  | some p => exact ⟨p, rfl, (lx_le ((firstP_some hV hf).least r hb ht)).1⟩
theorem less_cnt : cntK x (allS x) (plansL x).length ≤ cntK b (allS b) (plansL b).length := by
  rw [cnt_ref hV, cnt_ref h.valid]
  unfold refL
  rw [h.slots, ← List.countP_eq_length_filter, ← List.countP_eq_length_filter]
  refine List.countP_mono_left fun p hp hq => ?_
  rw [List.mem_range] at hp
  rw [Bool.and_eq_true] at hq ⊢
  exact ⟨h.plan p hq.1, less_takes h hp hq.2⟩
theorem less_most : pc (taken x (bstK x (plansL x).length)) ≤ pc (taken b (bstK b (plansL b).length)) := by
  have hn := hV.n
  have h1 := bst_most h.valid; have h2 := bst_most hV
  generalize bstK x (plansL x).length = k at *
  generalize bstK b (plansL b).length = m at *
  have hk := h.plan k h1.plan
  have hkb := isPlan_bd hk
  have a := (bt_le (h2.best k hk)).1
  have c := pc_mono (n := b.scenes.length) (u := taken x k) (t := taken b k) (by rw [← h.len]; exact taken_lt x k) (taken_lt b k) (by omega) (fun i hi => less_taken h hkb i hi)
  omega
end
theorem by_less {b x : BarD} {s t : Scn} (hp : x.pitch = b.pitch) (h1 : s.least ≤ t.least) (h2 : t.most ≤ s.most) (h3 : t.calm ≤ s.calm) {p l r : Nat} (h : byB x p t l r = true) : byB b p s l r = true := by
  unfold byB at *
  rw [hp] at h
  simp only [Bool.and_eq_true, decide_eq_true_eq] at h ⊢
  obtain ⟨⟨⟨⟨a1, a2⟩, a3⟩, a4, a5⟩, a6⟩ := h
  exact ⟨⟨⟨⟨a1, a2⟩, a3⟩, by omega, by omega⟩, by omega⟩
/-- One slot broken more. -/
theorem less_broken {b : BarD} (hV : Valid b) {j : Nat} (hj : j < b.slots.toNat) : Less b { b with broken := ((b.broken.toNat ||| 2 ^ j : Nat) : Int) } := by
  have hk1 := hV.k1; have hk2 := hV.k2
  have hpw2 := cast_pow b.slots.toNat
  have hor := @Nat.or_lt_two_pow b.broken.toNat (2 ^ j) b.slots.toNat (by omega) (Nat.pow_lt_pow_right (by omega) hj)
  refine ⟨⟨hV.s1, hV.s2, hV.p1, hV.p2, Int.natCast_nonneg _, by show ((b.broken.toNat ||| 2 ^ j : Nat) : Int) ≤ 2 ^ b.slots.toNat - 1; rw [← hpw2]; omega, hV.m1, hV.m2, hV.n, hV.sc⟩, rfl, rfl, fun p hp => ?_, fun i s t hs ht p l r h => ?_⟩
  · rw [isPlan_iff] at hp ⊢
    refine ⟨hp.1, hp.2.1, fun k hk hc => hp.2.2 k hk ⟨hc.1, ?_⟩⟩
    show ((b.broken.toNat ||| 2 ^ j : Nat) : Int).toNat.testBit k = true
    rw [Int.toNat_natCast, Nat.testBit_or, hc.2]; rfl
  · have e : t = s := by
      have ht : b.scenes[i]? = some t := ht
      rw [hs] at ht; exact (Option.some.inj ht).symm
    subst e
    exact by_less (b := b) (x := { b with broken := ((b.broken.toNat ||| 2 ^ j : Nat) : Int) }) rfl (Int.le_refl _) (Int.le_refl _) (Int.le_refl _) h
/-- Fewer pictures. -/
theorem less_pics {b : BarD} (hV : Valid b) {m : Int} (h0 : 0 ≤ m) (hm : m ≤ b.most) : Less b { b with most := m } := by
  have h2 := hV.m2
  refine ⟨⟨hV.s1, hV.s2, hV.p1, hV.p2, hV.k1, hV.k2, h0, Int.le_trans hm h2, hV.n, hV.sc⟩, rfl, rfl, fun p hp => ?_, fun i s t hs ht p l r h => ?_⟩
  · rw [isPlan_iff] at hp ⊢
    exact ⟨hp.1, Int.le_trans hp.2.1 hm, hp.2.2⟩
  · have e : t = s := by
      have ht : b.scenes[i]? = some t := ht
      rw [hs] at ht; exact (Option.some.inj ht).symm
    subst e
    exact by_less (b := b) (x := { b with most := m }) rfl (Int.le_refl _) (Int.le_refl _) (Int.le_refl _) h
/-- A narrower scene. -/
theorem less_scene {b : BarD} (hV : Valid b) {j : Nat} {s t : Scn} (hs : b.scenes[j]? = some s) (hO : OkS t) (h1 : s.least ≤ t.least) (h2 : t.most ≤ s.most) (h3 : t.calm ≤ s.calm) : Less b { b with scenes := b.scenes.set j t } := by
  refine ⟨⟨hV.s1, hV.s2, hV.p1, hV.p2, hV.k1, hV.k2, hV.m1, hV.m2, by show (b.scenes.set j t).length ≤ 10; rw [List.length_set]; exact hV.n, fun z hz => ?_⟩, rfl, List.length_set, fun p hp => (plan_congr (b := b) (x := { b with scenes := b.scenes.set j t }) rfl rfl rfl p).symm.trans hp, fun i s' t' hs' ht' p l r h => ?_⟩
  · rcases List.mem_or_eq_of_mem_set hz with hz | hz
    · exact hV.sc z hz
    · subst hz; exact hO
  · have ht' : (b.scenes.set j t)[i]? = some t' := ht'
    by_cases hij : j = i
    · subst hij
      rw [List.getElem?_set_self (len_of hs)] at ht'
      cases ht'
      rw [hs] at hs'; cases hs'
      exact by_less (b := b) (x := { b with scenes := b.scenes.set j t }) rfl h1 h2 h3 h
    · rw [List.getElem?_set_ne hij, hs'] at ht'
      cases ht'
      exact by_less (b := b) (x := { b with scenes := b.scenes.set j t }) rfl (Int.le_refl _) (Int.le_refl _) (Int.le_refl _) h
/-- The cells of scenes, in a block. -/
def ScC (cur : Array Value) (L : List Scn) : Prop := L.length * 3 ≤ cur.size ∧ ∀ i s, L[i]? = some s → cur[i * 3]? = some (.int .i64 s.least) ∧ cur[i * 3 + 1]? = some (.int .i64 s.most) ∧ cur[i * 3 + 2]? = some (.int .i64 s.calm)
theorem spl_len (c : Array Value) (off : Nat) (v : Value) (h : off < c.size) : (spl c off [v]).size = c.size := by
  unfold spl; simp; omega
theorem spl_same (c : Array Value) (off : Nat) (v : Value) (h : off < c.size) : (spl c off [v])[off]? = some v := by
  unfold spl
  rw [List.getElem?_toArray, List.append_assoc, List.getElem?_append_right (by simp; omega)]
  have : off - (c.toList.take off).length = 0 := by simp; omega
  rw [this]; rfl
theorem spl_diff (c : Array Value) (off i : Nat) (v : Value) (h : off < c.size) (hi : i ≠ off) : (spl c off [v])[i]? = c[i]? := by
  unfold spl
  rw [List.getElem?_toArray]
  rcases Nat.lt_or_ge i off with hlt | hge
  · rw [List.append_assoc, List.getElem?_append_left (by simp; omega), List.getElem?_take_of_lt hlt, Array.getElem?_toList]
  · rw [List.getElem?_append_right (by simp; omega), List.getElem?_drop, ← Array.getElem?_toList]
    congr 1
    simp; omega
theorem ScC.at {w : World} {B : Nat} {cur : Array Value} {L : List Scn} {T : TypeId} {fr : Nat × Nat} (h : ScC cur L) (hb : w.heap[B]? = some (.cells cur T fr)) : ScAt w (some ⟨B, 0, none⟩) L := fun i s hi => by
  obtain ⟨g0, g1, g2⟩ := h.2 i s hi
  refine ⟨B, 0, cur, T, fr, rfl, hb, ?_⟩
  rw [Nat.zero_add]
  simp only [cellsAt]
  rw [g0]; simp only
  rw [g1]; simp only
  rw [show i * 3 + 1 + 1 = i * 3 + 2 from rfl, g2]
theorem ScC.set {cur : Array Value} {L : List Scn} {j : Nat} {s t : Scn} (h : ScC cur L) (hs : L[j]? = some s) {f : Nat} (hf : f < 3) {v : Int}
    (ht : t = if f = 0 then { s with least := v } else if f = 1 then { s with most := v } else { s with calm := v }) : ScC (spl cur (0 + j * 3 + f) [.int .i64 v]) (L.set j t) := by
  have hj := len_of hs
  have hlt : 0 + j * 3 + f < cur.size := by have := h.1; omega
  refine ⟨by rw [spl_len _ _ _ hlt, List.length_set]; exact h.1, fun i z hi => ?_⟩
  by_cases hij : j = i
  · subst hij
    rw [List.getElem?_set_self hj] at hi
    cases hi
    obtain ⟨g0, g1, g2⟩ := h.2 j s hs
    have key : ∀ q, q < 3 → (spl cur (0 + j * 3 + f) [.int .i64 v])[j * 3 + q]? = if q = f then some (.int .i64 v) else cur[j * 3 + q]? := fun q hq => by
      by_cases e : q = f
      · subst e; rw [if_pos rfl]
        have := spl_same cur (0 + j * 3 + q) (.int .i64 v) hlt
        rw [Nat.zero_add] at this ⊢; exact this
      · rw [if_neg e, spl_diff _ _ _ _ hlt (by omega)]
    have k0 := key 0 (by omega); have k1 := key 1 (by omega); have k2 := key 2 (by omega)
    rw [Nat.add_zero] at k0
    rw [k0, k1, k2, ht]
    match f, hf with
    | 0, _ => exact ⟨rfl, g1, g2⟩
    | 1, _ => exact ⟨g0, rfl, g2⟩
    | 2, _ => exact ⟨g0, g1, rfl⟩
  · rw [List.getElem?_set_ne hij] at hi
    have hil := len_of hi
    obtain ⟨g0, g1, g2⟩ := h.2 i z hi
    rw [spl_diff _ _ _ _ hlt (by omega), spl_diff _ _ _ _ hlt (by omega), spl_diff _ _ _ _ hlt (by omega)]
    exact ⟨g0, g1, g2⟩
end Go.Proofs.YtkolcbjghphjeaaDoor
