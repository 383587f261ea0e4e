/- Lemmas, in order: A canvas that is made; numbers that are drawn. Numbers that are drawn, walked. A canvas that is made, walked. PaintTrue: the law's code returns true. What a law is handed, opened: canvases. Numbers, and slices of them, that a law is handed.. -/
import Derived.Test.YtidieepndphodaaQ22
import Derived.Test.YtidieepndphodaaRows
import Derived.Test.YtidieepndphodaaChecked
import Derived.JoinedOf
import Derived.LaidLaws
import Derived.RowKit
import Derived.RowKitTokens
import Derived.LaidHandle
import Derived.Stop.Joined
import Derived.Lay
import Derived.SizedLaws
import Derived.SevenTiedAt
namespace Go.MatM
open Go Go.Sy Go.Proofs Go.RowKit
/-- The raw numbers, not in blocks of N. -/
def ByAt (w : World) (N : List Nat) (sy : Option Addr) (n : Nat) : Prop := ∀ j, j < n → ∃ blk off c T fr z, sy = some ⟨blk, off, none⟩ ∧ blk ∉ N ∧ w.heap[blk]? = some (.cells c T fr) ∧ c[off + ((j : Nat) : Int).toNat * 1]? = some (.int .u16 z) ∧ 0 ≤ z ∧ z ≤ 65535
theorem ByAt.ext {u w : World} {N : List Nat} {sy : Option Addr} {n : Nat} (h : ByAt u N sy n) (e : Ext N u w) : ByAt w N sy n := fun j hj => by
  obtain ⟨blk, off, c, T, fr, z, h1, h2, h3, h4⟩ := h j hj
  exact ⟨blk, off, c, T, fr, z, h1, h2, e.getM h3 h2, h4⟩
theorem ByAt.of {w : World} {N : List Nat} {sy : Option Addr} {m : List Int} (h : FlatAt w .u16 sy 1 (m.map fun z => [z])) (hb : ∀ z ∈ m, 0 ≤ z ∧ z ≤ 65535) (hN : ∀ x ∈ N, w.heap.size ≤ x) : ByAt w N sy m.length := fun j hj => by
  obtain ⟨blk, off, c, T, fr, h1, h2, h3⟩ := h j [m[j]] (by rw [List.getElem?_map, List.getElem?_eq_getElem hj]; rfl)
  have hlt := (Array.getElem?_eq_some_iff.1 h2).1
  have h4 := (cellsAt_get _ _ _ h3).2 0 _ rfl
  exact ⟨blk, off, c, T, fr, m[j], h1, fun hx => by have := hN _ hx; omega, h2, by rw [Int.toNat_natCast]; exact h4, hb _ (List.getElem_mem hj)⟩
structure DrwAt (w : World) (Bat Bby : Nat) (sy : Option Addr) (ny cy : Nat) : Prop where
  by1 : w.heap[Bby]? = some (.cells #[.slice sy ny cy] 56 (0, 0))
  ne : Bby ∉ [Bat]
  el : ByAt w [Bat] sy ny
  pos : 1 ≤ ny
  top : ny ≤ 9223372036854775807
theorem DrwAt.ext {u w : World} {Bat Bby : Nat} {sy : Option Addr} {ny cy : Nat} (h : DrwAt u Bat Bby sy ny cy) (e : Ext [Bat] u w) : DrwAt w Bat Bby sy ny cy := ⟨e.getM h.by1 h.ne, h.ne, h.el.ext e, h.pos, h.top⟩
abbrev drwV (Bat Bby : Nat) : Value := .func (.func 62) #[] #[ptr Bat 0, ptr Bby 0]
section
variable {α : Type} {F A B C D : List α}
theorem pull1 : (F ++ (A ++ B)).Perm (A ++ (F ++ B)) := by
  rw [← List.append_assoc, ← List.append_assoc]
  exact List.Perm.append_right _ List.perm_append_comm
theorem pull2e : (F ++ (A ++ B)).Perm (B ++ (F ++ A)) := (List.Perm.append_left F List.perm_append_comm).trans pull1
end
theorem ext_new {x y z : World} {B : Nat} (h : Ext [] x y) (k : Ext [B] y z) (hB : x.heap.size ≤ B) : Ext [] x z :=
  ⟨k.os.trans h.os, k.tape.trans h.tape, k.output.trans h.output, Nat.le_trans h.size k.size, fun i hi _ => by
    rw [k.block i (Nat.lt_of_lt_of_le hi h.size) (by rw [List.mem_singleton]; omega)]
    exact h.block i hi (by simp)⟩
theorem AtE.mk3 {u w : World} {M : List Nat} {p q r : Nat × Obj} (e : Ext M u w) (h1 : w.heap[p.1]? = some p.2) (h2 : w.heap[q.1]? = some q.2) (h3 : w.heap[r.1]? = some r.2) : AtE u M [p, q, r] w := ⟨e, fun x hx => by
  simp only [List.mem_cons, List.not_mem_nil, or_false] at hx
  rcases hx with rfl | rfl | rfl
  · exact h1
  · exact h2
  · exact h3⟩
theorem pc_top (m : Nat) : ∀ y : Nat, y < 2 ^ (m + 1) → m < 32 → pc y = pc (y % 2 ^ m) + (if y.testBit m then 1 else 0) := by
  induction m with
  | zero =>
    intro y hy _
    have : y = 0 ∨ y = 1 := by omega
    rcases this with rfl | rfl
    · simp [pc_zero]
    · have := pc_step (n := 1) (by omega)
      simp [pc_zero] at this ⊢; omega
  | succ m ih =>
    intro y hy hm
    have hb : 2 ^ (m + 1 + 1) ≤ 2 ^ 33 := Nat.pow_le_pow_right (by omega) (by omega)
    have h1 := pc_step (n := y) (by omega)
    have h2 := ih (y / 2) (by rw [Nat.pow_succ] at hy; omega) (by omega)
    have h3 := pc_step (n := y % 2 ^ (m + 1)) (by have := Nat.mod_le y (2 ^ (m + 1)); omega)
    have e1 : y % 2 ^ (m + 1) % 2 = y % 2 := Nat.mod_mod_of_dvd _ (by rw [Nat.pow_succ]; exact Nat.dvd_mul_left ..)
    have e2 : y % 2 ^ (m + 1) / 2 = y / 2 % 2 ^ m := by rw [Nat.pow_succ, Nat.mul_comm, Nat.mod_mul_right_div_self]
    have e3 : y.testBit (m + 1) = (y / 2).testBit m := Nat.testBit_succ ..
    rw [e1, e2] at h3
    rw [h1, h2, h3, e3]
    omega
theorem lt_or_add {a k : Nat} (h : a < 2 ^ k) : a ||| 2 ^ k = a + 2 ^ k := by
  have h1 := Nat.two_pow_add_eq_or_of_lt (i := k) h 1
  rw [Nat.mul_one] at h1
  rw [Nat.or_comm, ← h1, Nat.add_comm]
theorem pc_add {s k : Nat} (h : s < 2 ^ k) (hk : k < 31) : pc (s ||| 2 ^ k) = pc s + 1 := by
  rw [lt_or_add h]
  have h1 := pc_top k (s + 2 ^ k) (by rw [Nat.pow_succ]; omega) (by omega)
  have e1 : (s + 2 ^ k) % 2 ^ k = s := by rw [Nat.add_mod_right, Nat.mod_eq_of_lt h]
  have e2 : (s + 2 ^ k).testBit k = true := by
    rw [← lt_or_add h, Nat.testBit_or, Nat.testBit_two_pow]; simp
  rw [e1, e2] at h1; simpa using h1
theorem keepF_congr {s t : Nat} : ∀ (l : List Mk) (i : Nat), (∀ k, i ≤ k → k < i + l.length → s.testBit k = t.testBit k) → keepF s i l = keepF t i l
  | [], _, _ => rfl
  | m :: l, i, h => by
    rw [keepF, keepF, h i (Nat.le_refl _) (by simp), keepF_congr l (i + 1) fun k h1 h2 => h k (by omega) (by simp only [List.length_cons] at h2 ⊢; omega)]
theorem keepL_more {l : List Mk} {s : Nat} (m : Mk) (h : s < 2 ^ l.length) : keepL (l ++ [m]) s = keepL l s ++ [m] := by
  have hg : (l ++ [m])[l.length]? = some m := by rw [List.getElem?_append_right (Nat.le_refl _)]; simp
  have hs := keepL_snoc (s := s) hg
  rw [List.take_of_length_le (by simp), List.take_left, if_neg (by rw [Nat.testBit_lt_two_pow h]; decide)] at hs
  exact hs
theorem keepL_paint {l : List Mk} {s : Nat} (m : Mk) (h : s < 2 ^ l.length) : keepL (l ++ [m]) (s ||| 2 ^ l.length) = keepL l s := by
  have hg : (l ++ [m])[l.length]? = some m := by rw [List.getElem?_append_right (Nat.le_refl _)]; simp
  have hs := keepL_snoc (s := s ||| 2 ^ l.length) hg
  rw [List.take_of_length_le (by simp), List.take_left, if_pos (by rw [Nat.testBit_or, Nat.testBit_two_pow_self, Bool.or_true])] at hs
  rw [hs]
  refine keepF_congr l 0 fun k _ hk => ?_
  rw [Nat.testBit_or, Nat.testBit_two_pow_of_ne (by omega), Bool.or_false]
theorem or_pow_lt {s n : Nat} (h : s < 2 ^ n) : s ||| 2 ^ n < 2 ^ (n + 1) := by
  have h1 : 2 ^ (n + 1) = 2 * 2 ^ n := by rw [Nat.pow_succ]; omega
  exact Nat.or_lt_two_pow (by omega) (by omega)
/-- What is true of a canvas while it is made: without what was painted its rows have the pairs that are. -/
structure MadeC (d : RowsD) (x : Nat × Nat) (sd : Int) (pn : Nat) (ps : List Pr) (sh : List Int) : Prop where
  made : Made (woD d x) ps sh
  hid : d.hid = (((woD d x).l.length : Nat) : Int) + (((woD d x).r.length : Nat) : Int) - 2 * ((ps.length : Nat) : Int)
  x1 : x.1 < 2 ^ d.l.length
  x2 : x.2 < 2 ^ d.r.length
  few : pc x.1 + pc x.2 = pn
  top : pn ≤ 3
  left : sd = 0 → x.2 = 0
  right : sd ≠ 0 → x.1 = 0
  ml : ∀ m ∈ d.l, okM m = true
  mr : ∀ m ∈ d.r, okM m = true
theorem MadeC.nil (lo hi sd : Int) : MadeC ⟨[], [], lo, hi, 0⟩ (0, 0) sd 0 [] [] :=
  ⟨Made.nil _ _ _, rfl, Nat.two_pow_pos _, Nat.two_pow_pos _, by simp [pc_zero], by omega, fun _ => rfl, fun _ => rfl, by simp, by simp⟩
section
variable {d : RowsD} {x : Nat × Nat} {sd : Int} {pn : Nat} {ps : List Pr} {sh : List Int} {s t : Mk} {z : Int}
theorem mem_snoc {l : List Mk} (h : ∀ m ∈ l, okM m = true) (hs : okM s = true) : ∀ m ∈ l ++ [s], okM m = true := fun m hm => by
  rcases List.mem_append.1 hm with h1 | h1
  · exact h m h1
  · rw [List.mem_singleton.1 h1]; exact hs
theorem lt_more {l : List Mk} {y : Nat} (h : y < 2 ^ l.length) : y < 2 ^ (l ++ [s]).length := by
  rw [List.length_append, List.length_singleton]
  exact Nat.lt_trans h (Nat.pow_lt_pow_right (by omega) (by omega))
theorem MadeC.paintL (h : MadeC d x sd pn ps sh) (hs : okM s = true) (h0 : sd = 0) (h3 : pn < 3) (hl : d.l.length ≤ 20) : MadeC { d with l := d.l ++ [s] } (x.1 ||| 2 ^ d.l.length, x.2) sd (pn + 1) ps sh := by
  have e : woD { d with l := d.l ++ [s] } (x.1 ||| 2 ^ d.l.length, x.2) = woD d x := by
    unfold woD; simp only; rw [keepL_paint s h.x1]
  refine ⟨e ▸ h.made, by rw [e]; exact h.hid, ?_, h.x2, ?_, by omega, fun _ => h.left h0, fun h1 => absurd h0 h1, mem_snoc h.ml hs, h.mr⟩
  · show x.1 ||| 2 ^ d.l.length < 2 ^ (d.l ++ [s]).length
    rw [List.length_append, List.length_singleton]; exact or_pow_lt h.x1
  · show pc (x.1 ||| 2 ^ d.l.length) + pc x.2 = pn + 1
    rw [pc_add h.x1 (by omega)]; have := h.few; omega
theorem MadeC.paintR (h : MadeC d x sd pn ps sh) (hs : okM s = true) (h0 : sd ≠ 0) (h3 : pn < 3) (hl : d.r.length ≤ 20) : MadeC { d with r := d.r ++ [s] } (x.1, x.2 ||| 2 ^ d.r.length) sd (pn + 1) ps sh := by
  have e : woD { d with r := d.r ++ [s] } (x.1, x.2 ||| 2 ^ d.r.length) = woD d x := by
    unfold woD; simp only; rw [keepL_paint s h.x2]
  refine ⟨e ▸ h.made, by rw [e]; exact h.hid, h.x1, ?_, ?_, by omega, fun h1 => absurd h1 h0, fun _ => h.right h0, h.ml, mem_snoc h.mr hs⟩
  · show x.2 ||| 2 ^ d.r.length < 2 ^ (d.r ++ [s]).length
    rw [List.length_append, List.length_singleton]; exact or_pow_lt h.x2
  · show pc x.1 + pc (x.2 ||| 2 ^ d.r.length) = pn + 1
    rw [pc_add h.x2 (by omega)]; have := h.few; omega
theorem MadeC.hide (h : MadeC d x sd pn ps sh) (hs : okM s = true) : MadeC { d with l := d.l ++ [s], hid := d.hid + 1 } x sd pn ps sh := by
  have e : (woD { d with l := d.l ++ [s], hid := d.hid + 1 } x).l = (woD d x).l ++ [s] := keepL_more s h.x1
  have er : (woD { d with l := d.l ++ [s], hid := d.hid + 1 } x).r = (woD d x).r := rfl
  refine ⟨h.made.app e (by rw [er, List.append_nil]) rfl rfl (by simpa using hs) (by simp), ?_, lt_more h.x1, h.x2, h.few, h.top, h.left, h.right, mem_snoc h.ml hs, h.mr⟩
  rw [e, er, List.length_append, List.length_singleton]
  have := h.hid
  show d.hid + 1 = _
  omega
theorem MadeC.pair (h : MadeC d x sd pn ps sh) (hs : okM s = true) (ht : okM t = true) (q1 : s.tl ≤ t.th) (q2 : t.tl ≤ s.th) (q3 : s.al - t.ah ≤ z) (q4 : z ≤ s.ah - t.al) (q5 : d.lo ≤ z) (q6 : z ≤ d.hi) :
    MadeC { d with l := d.l ++ [s], r := d.r ++ [t] } x sd pn (ps ++ [((woD d x).l.length, (woD d x).r.length)]) (sh ++ [z]) := by
  have e : (woD { d with l := d.l ++ [s], r := d.r ++ [t] } x).l = (woD d x).l ++ [s] := keepL_more s h.x1
  have er : (woD { d with l := d.l ++ [s], r := d.r ++ [t] } x).r = (woD d x).r ++ [t] := keepL_more t h.x2
  refine ⟨h.made.pair e er rfl rfl hs ht q1 q2 q3 q4 q5 q6, ?_, lt_more h.x1, lt_more h.x2, h.few, h.top, h.left, h.right, mem_snoc h.ml hs, mem_snoc h.mr ht⟩
  rw [e, er, List.length_append, List.length_singleton, List.length_append, List.length_singleton, List.length_append, List.length_singleton]
  have := h.hid
  show d.hid = _
  omega
theorem MadeC.ask (h : MadeC d x sd pn ps sh) : askS d x.1 x.2 = true := by
  have h1 := h.x1; have h2 := h.x2
  unfold askS inS
  rw [Bool.and_eq_true, Bool.and_eq_true, Bool.and_eq_true]
  simp only [decide_eq_true_eq]
  omega
theorem MadeC.is (h : MadeC d x sd pn ps sh) (hV : Valid d) {p : Int} (hp : (pn : Int) ≤ p) : isC d p x = true := by
  have hw : isD (woD d x) = true := by
    rw [isD_iff]
    have hW := woD_valid hV x
    have h1 := le_mos h.made.ch
    have h2 : need (woD d x) ≤ ps.length := (need_iff hW _).2 (by
      have := h.hid
      show _ ≤ d.hid
      omega)
    exact Nat.le_trans h2 h1
  unfold isC oneB
  rw [leftB_isD hV, hw, Bool.and_true, Bool.and_eq_true, Bool.or_eq_true]
  simp only [decide_eq_true_eq]
  refine ⟨?_, by have := h.few; omega⟩
  by_cases h0 : sd = 0
  · exact .inr (h.left h0)
  · exact .inl (h.right h0)
end
/-- What is known while a canvas is made. -/
def MkSt (u : World) (Bat Bby B1 B2 at0 : Nat) (low hig z3 sd : Int) (i : Nat) (tt : Int) (pn xl xr : Nat) (w : World) : Prop :=
  ∃ (ac : Nat) (d : RowsD) (oa ob : Option Addr) (ca cb : Nat) (ps : List Pr) (sh : List Int) (X1 X2 : List (Nat × Obj)), (i : Int) ≤ z3 ∧ ac ≤ at0 + 4 + 12 * i ∧ 1000 ≤ tt ∧ tt ≤ 1000 + 150 * (i : Int) ∧ MadeC d (xl, xr) sd pn ps sh ∧ d.lo = low ∧ d.hi = hig ∧
    d.l.length ≤ i ∧ d.r.length ≤ i ∧ 0 ≤ d.hid ∧ d.hid ≤ i ∧
    OwnSl 54 4 (.slice oa d.l.length ca) d.l.length (encM d.l) X1 ∧ OwnSl 54 4 (.slice ob d.r.length cb) d.r.length (encM d.r) X2 ∧
    Hp u [Bat] ((Bat, .cells #[.int .i64 ((ac : Nat) : Int)] 3) :: (B2, .cells (canV d 0 oa ob ca cb).cells 31) :: (B1, .cells #[drwV Bat Bby] 43) :: (X1 ++ X2)) w
theorem can_cells {d : RowsD} {oa ob : Option Addr} {ca cb n m : Nat} {lo hi hid p : Int} (hn : n = d.l.length) (hm : m = d.r.length) (h1 : lo = d.lo) (h2 : hi = d.hi) (h3 : hid = d.hid) :
    #[Value.slice oa n ca, .slice ob m cb, .int .i64 lo, .int .i64 hi, .int .i64 hid, .int .i64 p] = (canV d p oa ob ca cb).cells := by subst hn; subst hm; subst h1; subst h2; subst h3; rfl
theorem cases_mem {d : RowsD} {p : Int} {x : Nat × Nat} (hi : isC d p x = true) (hs : askS d x.1 x.2 = true) : x ∈ casesL d p := by
  obtain ⟨x1, x2⟩ := x
  have hone := hi
  have hfew := isC_few hi
  unfold isC at hone
  rw [Bool.and_eq_true] at hone
  have hone := hone.1
  unfold oneB at hone
  rw [Bool.or_eq_true, decide_eq_true_eq, decide_eq_true_eq] at hone
  unfold askS inS at hs
  rw [Bool.and_eq_true, Bool.and_eq_true, Bool.and_eq_true] at hs
  simp only [decide_eq_true_eq] at hs
  have e : casesL d p = [(0, 0)].filter (isC d p) ++ (rowL d p 0 (restS (lenR d 0) p 1) ++ rowL d p 1 (restS (lenR d 1) p 1)) := rfl
  rw [e, List.mem_append, List.mem_append]
  have hrest : ∀ (n s : Nat), 0 < s → s < 2 ^ n → ((pc s : Nat) : Int) ≤ p → s ∈ restS n p 1 := fun n s h1 h2 h3 => by
    unfold restS
    rw [List.mem_filter, List.mem_range'_1]
    exact ⟨by omega, decide_eq_true h3⟩
  simp only at hone hs hfew
  rcases Nat.eq_zero_or_pos x1 with h1 | h1
  · rcases Nat.eq_zero_or_pos x2 with h2 | h2
    · subst h1; subst h2
      exact .inl (List.mem_filter.2 ⟨.head _, hi⟩)
    · subst h1
      refine .inr (.inr (List.mem_filter.2 ⟨List.mem_map.2 ⟨x2, hrest _ _ h2 (show x2 < 2 ^ d.r.length by omega) (by omega), rfl⟩, hi⟩))
  · obtain rfl : x2 = 0 := hone.resolve_left (by omega)
    refine .inr (.inl (List.mem_filter.2 ⟨List.mem_map.2 ⟨x1, hrest _ _ h1 (show x1 < 2 ^ d.l.length by omega) (by omega), rfl⟩, hi⟩))
theorem first_fold {y : Nat × Nat} : ∀ (l : List (Nat × Nat)) (f : Fs), (f.n ≠ 0 ∧ rk 0 f.b ≤ rk 0 y) ∨ y ∈ l → rk 0 (l.foldl Fs.add f).b ≤ rk 0 y
  | [], f, h => by
    rcases h with h | h
    · exact h.2
    · cases h
  | x :: l, f, h => by
    have hle : lessB x f.b = true → rk 0 x ≤ rk 0 f.b := fun hl => by
      unfold lessB at hl
      split at hl
      · omega
      · have := of_decide_eq_true hl; omega
    have hge : ¬ lessB x f.b = true → rk 0 f.b ≤ rk 0 x := fun hl => by
      unfold lessB at hl
      split at hl
      · omega
      · have h9 : ¬ (rk 0 x < rk 0 f.b) := fun h8 => hl (decide_eq_true h8)
        omega
    rw [List.foldl_cons]
    refine first_fold l _ ?_
    by_cases hy : y ∈ l
    · exact .inr hy
    · left
      refine ⟨by rw [Fs.add_n]; omega, ?_⟩
      unfold Fs.add
      dsimp only
      by_cases h0 : f.n = 0
      · rw [if_pos h0]
        rcases h with h | h
        · exact absurd h0 h.1
        · rcases List.mem_cons.1 h with h | h
          · rw [h]; exact Nat.le_refl _
          · exact absurd h hy
      · rw [if_neg h0]
        by_cases hl : lessB x f.b = true
        · rw [if_pos hl]
          have := hle hl
          rcases h with h | h
          · omega
          · rcases List.mem_cons.1 h with h | h
            · rw [h]; exact Nat.le_refl _
            · exact absurd h hy
        · rw [if_neg hl]
          have := hge hl
          rcases h with h | h
          · exact h.2
          · rcases List.mem_cons.1 h with h | h
            · rw [h]; exact this
            · exact absurd h hy
theorem first_least {l : List (Nat × Nat)} {y : Nat × Nat} (h : y ∈ l) : pc (firstL l).b.1 + pc (firstL l).b.2 ≤ pc y.1 + pc y.2 := first_fold l _ (.inr h)
theorem side_of {l : List (Nat × Nat)} {y : Nat × Nat} (h : y ∈ l) : sideB y &&& sideS l = sideB y := and_of_sub fun k hk => by
  rw [sideS_bit, List.any_eq_true]; exact ⟨y, h, hk⟩
theorem sideB_pos (y : Nat × Nat) : 0 < sideB y := by unfold sideB; split <;> (try split) <;> omega
theorem join_o {l : List (Nat × Nat)} {y : Nat × Nat} (h : y ∈ l) : y.1 &&& (joinL l).o.1 = y.1 ∧ y.2 &&& (joinL l).o.2 = y.2 :=
  ⟨and_of_sub fun k hk => by rw [joinL_o1, List.any_eq_true]; exact ⟨y, h, hk⟩, and_of_sub fun k hk => by rw [joinL_o2, List.any_eq_true]; exact ⟨y, h, hk⟩⟩
theorem join_a {l : List (Nat × Nat)} {y : Nat × Nat} (h : y ∈ l) : (joinL l).a.1 &&& y.1 = (joinL l).a.1 ∧ (joinL l).a.2 &&& y.2 = (joinL l).a.2 := by
  have hn : l ≠ [] := fun e => by rw [e] at h; cases h
  exact ⟨and_of_sub fun k hk => by rw [joinL_a1 hn, List.all_eq_true] at hk; exact hk y h, and_of_sub fun k hk => by rw [joinL_a2 hn, List.all_eq_true] at hk; exact hk y h⟩
end Go.MatM
namespace Go.Proofs.Ytidieepndphodaa
open Go Go.Sy Go.MatM
theorem p62 (Bat Bby : Nat) (sy : Option Addr) (ny cy at0 : Nat) (u : World) (hD : DrwAt u Bat Bby sy ny cy) (hb : u.heap[Bat]? = some (.cells #[.int .i64 (at0 : Nat)] 3 (0, 0))) (ha : at0 ≤ 100000) (n : Int) (hn : 1 ≤ n ∧ n ≤ 1000000) : Calls Try.prog 62 #[.int .i64 n, ptr Bat 0, ptr Bby 0] u (Ret fun v w' => ∃ z, v = .int .i64 z ∧ 0 ≤ z ∧ z < n ∧ Hp u [Bat] [(Bat, .cells #[.int .i64 ((at0 + 1 : Nat) : Int)] 3)] w') := by
  refine calls_of Try.func62 rfl rfl (fun a hf => ?_)
  have hh := Hp.init1 hb
  have hby := hD.by1
  have hne := hD.ne
  have hpos := hD.pos
  have htop := hD.top
  have hml : (at0 + 1) % ny < ny := Nat.mod_lt _ (by omega)
  obtain ⟨blk, off, c, T, fr, z, rfl, hbn, hbk, hcz, hz0, hz1⟩ := hD.el _ hml
  have hq0 := Int.emod_nonneg (z + 19 * ((at0 + 1 : Nat) : Int)) (show n ≠ 0 by omega)
  have hq1 := Int.emod_lt_of_pos (z + 19 * ((at0 + 1 : Nat) : Int)) (show 0 < n by omega)
  refine sy_sq ?_
  refine o_v hf hh (yv_assign rfl) ?_; clear hf a; intro a hf
  refine o_end ?_
  refine sy_sq ?_
  refine o_v hf hh (y_ld Try.sc_3 rfl) ?_; clear hf a; intro a hf
  refine ops_v hf hh (yv_cast (yv_add rfl rfl (by omega) (by omega)) (intv (b := ((at0 + 1 : Nat) : Int)) (by omega))) (.inl rfl) rfl rfl rfl ?_; clear hf a; intro a hf
  refine o_store hf hh Try.sz_3 fun w hh => ?_
  refine o_end ?_
  refine sy_seq ?_
  refine sy_quiet (C := Hp _ _ _) Try.follows (by kernel_rfl) (hh.drawn _) ?_
  refine oq_v hf (y_ld Try.sc_56 rfl) ?_; clear hf a; intro a hf
  refine oq_v hf (y_ld Try.sc_3 rfl) ?_; clear hf a; intro a hf
  refine oq_v hf (y_ld Try.sc_56 rfl) ?_; clear hf a; intro a hf
  refine oq_v hf (yv_len Try.se_56 rfl) ?_; clear hf a; intro a hf
  refine q_v hf (yv_cast (yv_rem rfl rfl (by omega) (by omega)) (intv (b := (((at0 + 1) % ny : Nat) : Int)) rfl)) (.inl rfl) rfl rfl ?_; clear hf a; intro a hf
  refine oq_v hf (y_ix Try.se_56 rfl rfl) ?_; clear hf a; intro a hf
  refine oq_v hf (y_ld Try.sc_99 rfl) ?_; clear hf a; intro a hf
  first | refine oq_v hf (yv_convx (.inl rfl) (by kernel_rfl) Try.un_3 rfl (by omega) (by simp only [IntKind.top]; omega)) ?_; clear hf a; intro a hf | refine oq_v hf (yv_conv (by kernel_rfl) Try.un_3 rfl) ?_; clear hf a; intro a hf
  refine oq_v hf (y_ld Try.sc_3 rfl) ?_; clear hf a; intro a hf
  refine oq_v hf (y_mul rfl rfl) ?_; clear hf a; intro a hf
  refine oq_v hf (y_add rfl rfl) ?_; clear hf a; intro a hf
  refine oq_v hf (yv_move rfl) ?_; clear hf a; intro a hf
  refine oq_v hf (yv_rem rfl rfl (by omega) (by omega)) ?_; clear hf a; intro a hf
  refine oq_v hf (yv_assign rfl) ?_; clear hf a; intro a hf
  refine q_end fun w hh => ?_
  refine then_n ?_
  refine sy_ret ?_
  refine ret_r hf rfl rfl ?_
  exact ⟨_, rfl, hq0, hq1, hh⟩
theorem p30 (sy : Option Addr) (m : List Int) (cy : Nat) (u : World) (hY : FlatAt u .u16 sy 1 (m.map fun z => [z])) (hm : ∀ z ∈ m, 0 ≤ z ∧ z ≤ 65535) (hp : 1 ≤ m.length) (ht : m.length ≤ 9223372036854775807) : Calls Try.prog 30 #[.slice sy m.length cy] u (Ret fun v w' => ∃ Bat Bby, v = drwV Bat Bby ∧ w'.heap[Bat]? = some (.cells #[.int .i64 ((0 : Nat) : Int)] 3 (0, 0)) ∧ DrwAt w' Bat Bby sy m.length cy ∧ u.heap.size ≤ Bat ∧ Ext [] u w') := by
  refine calls_of Try.func30 rfl rfl (fun a hf => ?_)
  have hh := Hp.init u []
  refine sy_sq ?_
  refine o_box hf hh ?_; clear hf hh a; intro B1 a w hf hh
  refine o_v hf hh (yv_assign rfl) ?_; clear hf a; intro a hf
  refine o_end ?_
  refine sy_sq ?_
  refine o_alloc hf hh Try.ze_3 ?_; clear hf hh a; intro B3 a w hf hh
  refine o_store hf hh Try.sz_3 fun w hh => ?_
  refine o_end ?_
  refine sy_sq ?_
  refine o_v hf hh (yv_makeFunc rfl rfl) ?_; clear hf a; intro a hf
  refine o_v hf hh (yv_assign rfl) ?_; clear hf a; intro a hf
  refine o_end ?_
  refine sy_ret ?_
  refine ret_r hf rfl rfl ?_
  have hnd := hh.nodup
  have hmn := hh.mine (B3, _) (.head _)
  simp only [List.not_mem_nil, or_false] at hmn
  refine ⟨B3, B1, rfl, hh.at (i := 0) rfl, ⟨hh.at (i := 1) rfl, fun h => ?_, (ByAt.of hY hm (N := [B3]) (fun x hx => by rw [List.mem_singleton] at hx; subst hx; exact hmn)).ext (hh.ext.mono (by simp)), hp, ht⟩, hmn, hh.ext⟩
  rw [List.mem_singleton] at h
  subst h
  simp at hnd
theorem p61 (Bat Bby : Nat) (sy : Option Addr) (ny cy at0 : Nat) (u : World) (hD : DrwAt u Bat Bby sy ny cy) (hb : u.heap[Bat]? = some (.cells #[.int .i64 (at0 : Nat)] 3 (0, 0))) (ha : at0 ≤ 99000) (B1 : Nat) (hB1 : u.heap[B1]? = some (.cells #[drwV Bat Bby] 43 (0, 0))) (hB1n : B1 ∉ [Bat]) (n wide : Int) (hn : 0 ≤ n ∧ n ≤ 1000000) (hw : 1 ≤ wide ∧ wide ≤ 1000) : Calls Try.prog 61 #[.int .i64 n, .int .i64 wide, ptr B1 0] u (Ret fun v w' => ∃ lo hi, v = .agg #[.int .i64 lo, .int .i64 hi] ∧ 0 ≤ lo ∧ lo ≤ n ∧ n ≤ hi ∧ hi ≤ n + wide ∧ Hp u [Bat] [(Bat, .cells #[.int .i64 ((at0 + 2 : Nat) : Int)] 3)] w') := by
  refine calls_of Try.func61 rfl rfl (fun a hf => ?_)
  have hh := Hp.init1 hb
  refine sy_sq ?_
  refine o_alloc hf hh Try.ze_27 ?_; clear hf hh a; intro B5 a w hf hh
  refine o_end ?_
  refine sy_seq ?_
  refine sy_treeC (.p 0 (.q 0 1 (.p 2 (.p 6 (.q 0 7 (.p 8 (.e1 3 (.p 4 (.p 5 (.e1 9 (.p 10 (.e1 11 (.e1 12 (.fin)))))))))))))) [[]] [(AtE u [Bat] [], [])] Try.follows (by kernel_rfl) rfl hh (fun w hh => ?_)
  refine mc_p rfl   hf (yv_move rfl) (.inl rfl) rfl rfl ?_; clear hf a; intro a hf
  refine mc_q rfl rfl (AtE.of hh (List.nil_subset _)) hf (y_ld Try.sc_43 rfl) (.inl rfl) rfl rfl ?_; clear hf a; intro a hf
  refine mc_p rfl   hf (yv_move rfl) (.inl rfl) rfl rfl ?_; clear hf a; intro a hf
  refine mc_p rfl   hf (yv_move rfl) (.inl rfl) rfl rfl ?_; clear hf a; intro a hf
  refine mc_q rfl rfl (AtE.of hh (List.nil_subset _)) hf (y_ld Try.sc_43 rfl) (.inl rfl) rfl rfl ?_; clear hf a; intro a hf
  refine mc_p rfl   hf (yv_move rfl) (.inl rfl) rfl rfl ?_; clear hf a; intro a hf
  refine mc_e rfl fun Q1 => ?_
  refine o_call hf Try.en_62 rfl rfl rfl (p62 Bat Bby sy ny cy (at0) _ (hD.ext hh.ext) (hh.get (Bat, .cells #[.int .i64 ((at0 : Nat) : Int)] 3) (by simp)) (by omega) wide (by omega)) ?_; clear hf a; intro v a w hR hf
  obtain ⟨z1, rfl, hz1a, hz1b, hx⟩ := hR; replace hh := hh.swap' (X := [(Bat, .cells #[.int .i64 ((at0 : Nat) : Int)] 3)]) (Z := [(B5, .cells #[.int .i64 0, .int .i64 0] 27)]) (by exact .swap _ _ _) hx; clear hx
  refine ops_end ?_
  refine then_n ⟨⟨fun _ _ => (AtE.of hh (List.nil_subset _)), trivial⟩, ?_⟩
  refine mc_p rfl   hf (y_sub rfl rfl) (.inl rfl) rfl rfl ?_; clear hf a; intro a hf
  refine mc_p rfl   hf (yv_max rfl rfl) (.inl rfl) rfl rfl ?_; clear hf a; intro a hf
  refine mc_e rfl fun Q1 => ?_
  refine o_call hf Try.en_62 rfl rfl rfl (p62 Bat Bby sy ny cy (at0 + 1) _ (hD.ext hh.ext) (hh.get (Bat, .cells #[.int .i64 ((at0 + 1 : Nat) : Int)] 3) (by simp)) (by omega) wide (by omega)) ?_; clear hf a; intro v a w hR hf
  obtain ⟨z2, rfl, hz2a, hz2b, hx⟩ := hR; replace hh := hh.swap' (X := [(Bat, .cells #[.int .i64 ((at0 + 1 : Nat) : Int)] 3)]) (Z := [(B5, .cells #[.int .i64 0, .int .i64 0] 27)]) (by exact .refl _) hx; clear hx
  refine ops_end ?_
  refine then_n ⟨⟨fun _ _ => (AtE.of hh (List.nil_subset _)), trivial⟩, ?_⟩
  refine mc_p rfl   hf (y_add rfl rfl) (.inl rfl) rfl rfl ?_; clear hf a; intro a hf
  refine mc_e rfl fun Q1 => ?_
  refine o_call hf Try.en_27 rfl rfl rfl (p27 _ _ _) ?_; clear hf a; intro v a w hR hf
  obtain ⟨rfl, hx⟩ := hR; replace hh := hh.more hx; clear hx
  refine ops_end ?_
  refine then_n ⟨⟨fun _ _ => (AtE.of hh (List.nil_subset _)), trivial⟩, ?_⟩
  refine mc_e rfl fun Q1 => ?_
  refine o_store hf hh Try.sz_27 fun w hh => ?_
  refine ops_end ?_
  refine then_n ⟨⟨fun _ _ => (AtE.of hh (List.nil_subset _)), trivial⟩, ?_⟩
  refine mc_end ?_
  refine then_n ?_
  refine sy_ret ?_
  refine ret_c (vs := [.agg #[.int .i64 (max 0 (n - z1)), .int .i64 (n + z2)]]) hf ?_ ?_
  · exact ⟨⟨B5, 0, _, 27, (0, 0), rfl, hh.at (i := 1) rfl, .inr ⟨2, _, Try.ag_27, rfl, rfl⟩⟩, trivial⟩
  exact ⟨_, _, rfl, by omega, by omega, by omega, by omega, hh.less (.cons_cons _ (.cons _ (.refl _)))⟩
end Go.Proofs.Ytidieepndphodaa
namespace Go.Proofs.Ytidieepndphodaa
open Go Go.Sy Go.MatM
set_option maxRecDepth 100000 in
set_option maxHeartbeats 4000000 in
theorem p29 (Bat Bby : Nat) (sy : Option Addr) (ny cy at0 : Nat) (u : World) (hD : DrwAt u Bat Bby sy ny cy) (hb : u.heap[Bat]? = some (.cells #[.int .i64 (at0 : Nat)] 3 (0, 0))) (ha : at0 ≤ 1000) : Calls Try.prog 29 #[drwV Bat Bby] u (Ret fun v w' => ∃ d p oa ob ca cb, ∃ x : Nat × Nat, v = .tuple #[canV d p oa ob ca cb, .int .i64 (x.1 : Nat), .int .i64 (x.2 : Nat)] ∧ okCan d p = true ∧ isC d p x = true ∧ askS d x.1 x.2 = true ∧ MkAt w' oa d.l ∧ MkAt w' ob d.r ∧ Ext [Bat] u w') := by
  refine calls_of Try.func29 rfl rfl (fun a hf => ?_)
  have hh := Hp.init1 hb
  refine sy_sq ?_
  refine o_box hf hh ?_; clear hf hh a; intro B1 a w hf hh
  refine o_alloc hf hh Try.ze_31 ?_; clear hf hh a; intro B2 a w hf hh
  refine o_v hf hh (yv_assign rfl) ?_; clear hf a; intro a hf
  refine o_v hf hh (yv_assign rfl) ?_; clear hf a; intro a hf
  refine o_end ?_
  refine sy_seq ?_
  replace hh := hh.perm (List.perm_append_comm (l₁ := [_, _]) (l₂ := [_]))
  have hb1n : B1 ∉ [Bat] := by
    have h := hh.nodup
    rw [List.mem_singleton]
    intro e
    subst e
    simp at h
  refine sy_ops ?_
  refine o_v hf hh (yv_fieldAddr Try.fo_31_0 rfl) ?_; clear hf a; intro a hf
  refine o_v hf hh (yv_assign rfl) ?_; clear hf a; intro a hf
  refine o_end ?_
  refine sy_sq ?_
  refine o_v hf hh (y_ld Try.sc_43 rfl) ?_; clear hf a; intro a hf
  refine o_call hf Try.en_62 rfl rfl rfl (p62 Bat Bby sy ny cy (at0) _ (hD.ext hh.ext) (hh.get (Bat, .cells #[.int .i64 ((at0 : Nat) : Int)] 3) (by simp)) (by omega) 30 (by omega)) ?_; clear hf a; intro v a w hR hf
  obtain ⟨z1, rfl, hz1a, hz1b, hx⟩ := hR; replace hh := hh.swap' (X := [(Bat, .cells #[.int .i64 ((at0 : Nat) : Int)] 3)]) (Z := _) (.refl _) hx; clear hx
  refine o_v hf hh (yv_assign rfl) ?_; clear hf a; intro a hf
  refine o_end ?_
  refine sy_sq ?_
  refine o_v hf hh (yv_move rfl) ?_; clear hf a; intro a hf
  refine o_v hf hh (yv_move rfl) ?_; clear hf a; intro a hf
  refine o_v hf hh (yv_move rfl) ?_; clear hf a; intro a hf
  refine o_v hf hh (y_ld Try.sc_43 rfl) ?_; clear hf a; intro a hf
  refine o_call hf Try.en_62 rfl rfl rfl (p62 Bat Bby sy ny cy (at0 + 1) _ (hD.ext hh.ext) (hh.get (Bat, .cells #[.int .i64 ((at0 + 1 : Nat) : Int)] 3) (by simp)) (by omega) 40 (by omega)) ?_; clear hf a; intro v a w hR hf
  obtain ⟨z2, rfl, hz2a, hz2b, hx⟩ := hR; replace hh := hh.swap' (X := [(Bat, .cells #[.int .i64 ((at0 + 1 : Nat) : Int)] 3)]) (Z := _) (.refl _) hx; clear hx
  refine o_v hf hh (y_add rfl rfl) ?_; clear hf a; intro a hf
  refine o_call hf Try.en_27 rfl rfl rfl (p27 _ _ _) ?_; clear hf a; intro v a w hR hf
  obtain ⟨rfl, hx⟩ := hR; replace hh := hh.more hx; clear hx
  refine o_v hf hh (yv_nilCheck rfl) ?_; clear hf a; intro a hf
  refine o_v hf hh (yv_fieldAddr Try.fo_29_2 rfl) ?_; clear hf a; intro a hf
  refine o_store hf hh Try.sz_27 fun w hh => ?_
  refine o_end ?_
  refine sy_sq ?_
  refine o_v hf hh (yv_makeFunc rfl rfl) ?_; clear hf a; intro a hf
  refine o_v hf hh (yv_assign rfl) ?_; clear hf a; intro a hf
  refine o_end ?_
  refine sy_sq ?_
  refine o_v hf hh (y_ld Try.sc_43 rfl) ?_; clear hf a; intro a hf
  refine o_call hf Try.en_62 rfl rfl rfl (p62 Bat Bby sy ny cy (at0 + 1 + 1) _ (hD.ext hh.ext) (hh.get (Bat, .cells #[.int .i64 ((at0 + 1 + 1 : Nat) : Int)] 3) (by simp)) (by omega) 2 (by omega)) ?_; clear hf a; intro v a w hR hf
  obtain ⟨z3, rfl, hz3a, hz3b, hx⟩ := hR; replace hh := hh.swap' (X := [(Bat, .cells #[.int .i64 ((at0 + 1 + 1 : Nat) : Int)] 3)]) (Z := _) (.refl _) hx; clear hx
  refine o_v hf hh (yv_assign rfl) ?_; clear hf a; intro a hf
  refine o_v hf hh (yv_assign rfl) ?_; clear hf a; intro a hf
  refine o_v hf hh (yv_assign rfl) ?_; clear hf a; intro a hf
  refine o_end ?_
  refine sy_seq ?_
  refine sy_sq ?_
  refine o_v hf hh (y_ld Try.sc_43 rfl) ?_; clear hf a; intro a hf
  refine o_call hf Try.en_62 rfl rfl rfl (p62 Bat Bby sy ny cy (at0 + 1 + 1 + 1) _ (hD.ext hh.ext) (hh.get (Bat, .cells #[.int .i64 ((at0 + 1 + 1 + 1 : Nat) : Int)] 3) (by simp)) (by omega) 6 (by omega)) ?_; clear hf a; intro v a w hR hf
  obtain ⟨z4, rfl, hz4a, hz4b, hx⟩ := hR; replace hh := hh.swap' (X := [(Bat, .cells #[.int .i64 ((at0 + 1 + 1 + 1 : Nat) : Int)] 3)]) (Z := _) (.refl _) hx; clear hx
  refine o_v hf hh (y_add rfl rfl) ?_; clear hf a; intro a hf
  refine o_v hf hh (yv_move rfl) ?_; clear hf a; intro a hf
  refine o_end ?_
  refine sy_block ?_
  refine sy_loopH (σ := Nat × Int × Nat × Nat × Nat) [3, 4, 8, 9, 11, 12, 13, 14, 15, 34, 35, 36, 37, 38, 39, 40, 41, 42, 43, 44, 45, 46, 47, 48, 49, 50, 51, 52, 53, 54, 55, 56, 57, 58, 59, 60, 61, 62, 63, 64, 65, 66, 67, 68, 69, 70, 71, 72, 73, 74, 75, 76, 77, 78, 79, 80, 81, 82, 83, 84, 85, 86, 87, 88, 89, 90, 91, 92, 93, 94, 95, 96, 97, 98, 99, 100, 101, 102, 103, 104, 105, 106, 107, 108, 109, 110, 111, 112, 113, 114, 115, 116, 117, 118, 119, 120, 121, 122, 123, 124, 125, 126, 127, 128, 129, 130, 131, 132, 133, 134, 135, 136, 137, 138, 139, 140, 141, 142, 143, 144, 145, 146, 147, 148, 149, 150, 151, 152, 153, 154, 155, 156, 157, 158, 159, 160, 161, 162, 163, 164, 165, 166, 167, 168, 169] (fun q => [(34, .int .i64 (q.1 : Nat)), (8, .int .i64 q.2.1), (9, .int .i64 ((q.2.2.1 : Nat) : Int)), (3, .int .i64 ((q.2.2.2.1 : Nat) : Int)), (4, .int .i64 ((q.2.2.2.2 : Nat) : Int))]) (fun q => fun w' => MkSt u Bat Bby B1 B2 at0 z1 (z1 + z2) (2 + z4) z3 q.1 q.2.1 q.2.2.1 q.2.2.2.1 q.2.2.2.2 w') (fun q => (2 + z4).toNat - q.1) ((0, 1000, 0, 0, 0)) hf ?_ ?_ ?_
  · repeat' (first | exact True.intro | refine And.intro rfl ?_)
  · exact ⟨at0 + 1 + 1 + 1 + 1, ⟨[], [], z1, z1 + z2, 0⟩, none, none, 0, 0, [], [], [], [], by simp only; omega, by simp only; omega, by simp only; omega, by simp only; omega, MadeC.nil _ _ _, rfl, rfl, Nat.le_refl _, Nat.le_refl _, Int.le_refl _, Int.le_refl _, OwnSl.nil _ _, OwnSl.nil _ _, hh⟩
  ·rintro q a w hq hf
   obtain ⟨i, tt, pn, xl, xr⟩ := q
   simp only at hq hf ⊢
   obtain ⟨ac, d, oa, ob, ca, cb, ps, sh, X1, X2, hi3, hac, ht1, ht2, hMd, hlo, hhi, hll, hlr, hh0, hhm, hO1, hO2, hh⟩ := hq
   have hpt := hMd.top
   refine sy_sq ?_
   refine o_v hf hh (yv_bin rfl rfl rfl) ?_; clear hf a; intro a hf
   refine o_end ?_
   refine sy_seq ?_
   refine sy_cond hf rfl (fun hg7 => ?_) (fun hg7 => ?_)
   ·have hG7 := hg7; try simp only [gS] at hG7
    refine sy_skip ?_
    refine then_n ?_
    refine sy_cut (σ := Int × Nat × Nat × Nat) [3, 4, 8, 9, 11, 12, 13, 14, 15, 36, 37, 38, 39, 40, 41, 42, 43, 44, 45, 46, 47, 48, 49, 50, 51, 52, 53, 54, 55, 56, 57, 58, 59, 60, 61, 62, 63, 64, 65, 66, 67, 68, 69, 70, 71, 72, 73, 74, 75, 76, 77, 78, 79, 80, 81, 82, 83, 84, 85, 86, 87, 88, 89, 90, 91, 92, 93, 94, 95, 96, 97, 98, 99, 100, 101, 102, 103, 104, 105, 106, 107, 108, 109, 110, 111, 112, 113, 114, 115, 116, 117, 118, 119, 120, 121, 122, 123, 124, 125, 126, 127, 128, 129, 130, 131, 132, 133, 134, 135, 136, 137, 138, 139, 140, 141, 142, 143, 144, 145, 146, 147, 148, 149, 150, 151, 152, 153, 154, 155, 156, 157, 158, 159, 160, 161, 162, 163, 164, 165, 166, 167, 168] (fun q => [(8, .int .i64 q.1), (9, .int .i64 ((q.2.1 : Nat) : Int)), (3, .int .i64 ((q.2.2.1 : Nat) : Int)), (4, .int .i64 ((q.2.2.2 : Nat) : Int))]) (fun q => fun w' => MkSt u Bat Bby B1 B2 at0 z1 (z1 + z2) (2 + z4) z3 (i + 1) q.1 q.2.1 q.2.2.1 q.2.2.2 w' ∧ Hp u [Bat] [] w') hf ?_ ?_
    ·refine sy_block ?_
     refine sy_sq ?_
     refine o_v hf hh (yv_move rfl) ?_; clear hf a; intro a hf
     refine o_v hf hh (y_ld Try.sc_43 rfl) ?_; clear hf a; intro a hf
     refine o_call hf Try.en_62 rfl rfl rfl (p62 Bat Bby sy ny cy (ac) _ (hD.ext hh.ext) (hh.get (Bat, .cells #[.int .i64 ((ac : Nat) : Int)] 3) (by simp)) (by omega) 50 (by omega)) ?_; clear hf a; intro v a w hR hf
     obtain ⟨z5, rfl, hz5a, hz5b, hx⟩ := hR; replace hh := hh.swap' (X := [(Bat, .cells #[.int .i64 ((ac : Nat) : Int)] 3)]) (Z := _) (.refl _) hx; clear hx
     refine o_v hf hh (y_add rfl rfl) ?_; clear hf a; intro a hf
     refine o_v hf hh (y_add rfl rfl) ?_; clear hf a; intro a hf
     refine o_v hf hh (yv_assign rfl) ?_; clear hf a; intro a hf
     refine o_end ?_
     refine sy_seq ?_
     obtain ⟨tn, htn⟩ : ∃ z, z = tt + (100 + z5) := ⟨_, rfl⟩
     rw [← htn] at hf
     refine sy_treeC (.p 0 (.p 1 (.p 2 (.p 3 (.q 0 4 (.q 0 5 (.p 6 (.p 7 (.p 8 (.p 9 (.q 0 10 (.p 11 (.p 12 (.p 13 (.p 14 (.q 0 15 (.p 16 (.p 17 (.q 0 20 (.e1 18 (.p 19 (.e1 21 (.p 22 (.p 23 (.p 24 (.fin)))))))))))))))))))))))))) [[]] [(AtE u [Bat] [(B2, .cells (canV d 0 oa ob ca cb).cells 31), (B1, .cells #[drwV Bat Bby] 43)], [])] Try.follows (by kernel_rfl) rfl hh (fun w hh => ?_)
     refine mc_p rfl   hf (yv_move rfl) (.inl rfl) rfl rfl ?_; clear hf a; intro a hf
     refine mc_p rfl   hf (yv_nilCheck rfl) (.inl rfl) rfl rfl ?_; clear hf a; intro a hf
     refine mc_p rfl   hf (yv_fieldAddr Try.fo_29_2 rfl) (.inl rfl) rfl rfl ?_; clear hf a; intro a hf
     refine mc_p rfl   hf (yv_fieldAddr Try.fo_27_0 rfl) (.inl rfl) rfl rfl ?_; clear hf a; intro a hf
     refine mc_q rfl rfl (AtE.mk2 hh.ext (hh.at (i := 1) rfl) (hh.at (i := 2) rfl)) hf (y_ld Try.sc_3 rfl) (.inl rfl) rfl rfl ?_; clear hf a; intro a hf
     refine mc_q rfl rfl (AtE.mk2 hh.ext (hh.at (i := 1) rfl) (hh.at (i := 2) rfl)) hf (y_ld Try.sc_43 rfl) (.inl rfl) rfl rfl ?_; clear hf a; intro a hf
     refine mc_p rfl   hf (yv_move rfl) (.inl rfl) rfl rfl ?_; clear hf a; intro a hf
     refine mc_p rfl   hf (yv_nilCheck rfl) (.inl rfl) rfl rfl ?_; clear hf a; intro a hf
     refine mc_p rfl   hf (yv_fieldAddr Try.fo_29_2 rfl) (.inl rfl) rfl rfl ?_; clear hf a; intro a hf
     refine mc_p rfl   hf (yv_fieldAddr Try.fo_27_1 rfl) (.inl rfl) rfl rfl ?_; clear hf a; intro a hf
     refine mc_q rfl rfl (AtE.mk2 hh.ext (hh.at (i := 1) rfl) (hh.at (i := 2) rfl)) hf (y_ld Try.sc_3 rfl) (.inl rfl) rfl rfl ?_; clear hf a; intro a hf
     refine mc_p rfl   hf (yv_move rfl) (.inl rfl) rfl rfl ?_; clear hf a; intro a hf
     refine mc_p rfl   hf (yv_nilCheck rfl) (.inl rfl) rfl rfl ?_; clear hf a; intro a hf
     refine mc_p rfl   hf (yv_fieldAddr Try.fo_29_2 rfl) (.inl rfl) rfl rfl ?_; clear hf a; intro a hf
     refine mc_p rfl   hf (yv_fieldAddr Try.fo_27_0 rfl) (.inl rfl) rfl rfl ?_; clear hf a; intro a hf
     refine mc_q rfl rfl (AtE.mk2 hh.ext (hh.at (i := 1) rfl) (hh.at (i := 2) rfl)) hf (y_ld Try.sc_3 rfl) (.inl rfl) rfl rfl ?_; clear hf a; intro a hf
     refine mc_p rfl   hf (y_sub rfl rfl) (.inl rfl) rfl rfl ?_; clear hf a; intro a hf
     refine mc_p rfl   hf (y_add rfl rfl) (.inl rfl) rfl rfl ?_; clear hf a; intro a hf
     refine mc_q rfl rfl (AtE.mk2 hh.ext (hh.at (i := 1) rfl) (hh.at (i := 2) rfl)) hf (y_ld Try.sc_43 rfl) (.inl rfl) rfl rfl ?_; clear hf a; intro a hf
     refine mc_e rfl fun Q1 => ?_
     refine o_call hf Try.en_62 rfl rfl rfl (p62 Bat Bby sy ny cy (ac + 1) _ (hD.ext hh.ext) (hh.get (Bat, .cells #[.int .i64 ((ac + 1 : Nat) : Int)] 3) (by simp)) (by omega) (d.hi - d.lo + 1) (by omega)) ?_; clear hf a; intro v a w hR hf
     obtain ⟨z6, rfl, hz6a, hz6b, hx⟩ := hR; replace hh := hh.swap' (X := [(Bat, .cells #[.int .i64 ((ac + 1 : Nat) : Int)] 3)]) (Z := _) (.refl _) hx; clear hx
     refine ops_end ?_
     refine then_n ⟨⟨fun _ _ => (AtE.mk2 hh.ext (hh.at (i := 1) rfl) (hh.at (i := 2) rfl)), trivial⟩, ?_⟩
     refine mc_p rfl   hf (y_add rfl rfl) (.inl rfl) rfl rfl ?_; clear hf a; intro a hf
     refine mc_e rfl fun Q1 => ?_
     refine o_call hf Try.en_62 rfl rfl rfl (p62 Bat Bby sy ny cy (ac + 1 + 1) _ (hD.ext hh.ext) (hh.get (Bat, .cells #[.int .i64 ((ac + 1 + 1 : Nat) : Int)] 3) (by simp)) (by omega) 3 (by omega)) ?_; clear hf a; intro v a w hR hf
     obtain ⟨z7, rfl, hz7a, hz7b, hx⟩ := hR; replace hh := hh.swap' (X := [(Bat, .cells #[.int .i64 ((ac + 1 + 1 : Nat) : Int)] 3)]) (Z := _) (.refl _) hx; clear hx
     refine ops_end ?_
     refine then_n ⟨⟨fun _ _ => (AtE.mk2 hh.ext (hh.at (i := 1) rfl) (hh.at (i := 2) rfl)), trivial⟩, ?_⟩
     refine mc_p rfl   hf (y_mul rfl rfl) (.inl rfl) rfl rfl ?_; clear hf a; intro a hf
     refine mc_p rfl   hf (yv_assign rfl) (.inl rfl) rfl rfl ?_; clear hf a; intro a hf
     refine mc_p rfl   hf (yv_assign rfl) (.inl rfl) rfl rfl ?_; clear hf a; intro a hf
     refine mc_end ?_
     refine then_n ?_
     refine sy_seq ?_
     obtain ⟨sf, hsf⟩ : ∃ z, z = d.lo + z6 := ⟨_, rfl⟩
     obtain ⟨tv, htv⟩ : ∃ z, z = z7 * 40 := ⟨_, rfl⟩
     rw [← hsf, ← htv] at hf
     refine sy_ops ?_
     refine o_v hf hh (yv_move rfl) ?_; clear hf a; intro a hf
     refine o_v hf hh (yv_move rfl) ?_; clear hf a; intro a hf
     refine o_call hf Try.en_61 rfl rfl rfl (p61 Bat Bby sy ny cy (ac + 1 + 1 + 1) _ (hD.ext hh.ext) (hh.get (Bat, .cells #[.int .i64 ((ac + 1 + 1 + 1 : Nat) : Int)] 3) (by simp)) (by omega) B1 (hh.get (B1, .cells #[drwV Bat Bby] 43) (by simp)) hb1n tn 6 (by omega) (by omega)) ?_; clear hf a; intro v a w hR hf
     obtain ⟨l1, h1, rfl, g1a, g1b, g1c, g1d, hx⟩ := hR; replace hh := hh.swap' (X := [(Bat, .cells #[.int .i64 ((ac + 1 + 1 + 1 : Nat) : Int)] 3)]) (Z := _) (.refl _) hx; clear hx
     refine o_v hf hh (yv_move rfl) ?_; clear hf a; intro a hf
     refine o_v hf hh (yv_move rfl) ?_; clear hf a; intro a hf
     refine o_call hf Try.en_61 rfl rfl rfl (p61 Bat Bby sy ny cy (ac + 1 + 1 + 1 + 2) _ (hD.ext hh.ext) (hh.get (Bat, .cells #[.int .i64 ((ac + 1 + 1 + 1 + 2 : Nat) : Int)] 3) (by simp)) (by omega) B1 (hh.get (B1, .cells #[drwV Bat Bby] 43) (by simp)) hb1n tv 9 (by omega) (by omega)) ?_; clear hf a; intro v a w hR hf
     obtain ⟨l2, h2, rfl, g2a, g2b, g2c, g2d, hx⟩ := hR; replace hh := hh.swap' (X := [(Bat, .cells #[.int .i64 ((ac + 1 + 1 + 1 + 2 : Nat) : Int)] 3)]) (Z := _) (.refl _) hx; clear hx
     refine o_v hf hh (yv_buildS Try.bs_54 rfl rfl) ?_; clear hf a; intro a hf
     refine o_v hf hh (yv_move rfl) ?_; clear hf a; intro a hf
     refine o_v hf hh (yv_move rfl) ?_; clear hf a; intro a hf
     refine o_v hf hh (yv_move rfl) ?_; clear hf a; intro a hf
     refine o_v hf hh (y_sub rfl rfl) ?_; clear hf a; intro a hf
     refine o_call hf Try.en_61 rfl rfl rfl (p61 Bat Bby sy ny cy (ac + 1 + 1 + 1 + 2 + 2) _ (hD.ext hh.ext) (hh.get (Bat, .cells #[.int .i64 ((ac + 1 + 1 + 1 + 2 + 2 : Nat) : Int)] 3) (by simp)) (by omega) B1 (hh.get (B1, .cells #[drwV Bat Bby] 43) (by simp)) hb1n (tn - sf) 6 (by omega) (by omega)) ?_; clear hf a; intro v a w hR hf
     obtain ⟨l3, h3, rfl, g3a, g3b, g3c, g3d, hx⟩ := hR; replace hh := hh.swap' (X := [(Bat, .cells #[.int .i64 ((ac + 1 + 1 + 1 + 2 + 2 : Nat) : Int)] 3)]) (Z := _) (.refl _) hx; clear hx
     refine o_v hf hh (yv_move rfl) ?_; clear hf a; intro a hf
     refine o_v hf hh (yv_move rfl) ?_; clear hf a; intro a hf
     refine o_call hf Try.en_61 rfl rfl rfl (p61 Bat Bby sy ny cy (ac + 1 + 1 + 1 + 2 + 2 + 2) _ (hD.ext hh.ext) (hh.get (Bat, .cells #[.int .i64 ((ac + 1 + 1 + 1 + 2 + 2 + 2 : Nat) : Int)] 3) (by simp)) (by omega) B1 (hh.get (B1, .cells #[drwV Bat Bby] 43) (by simp)) hb1n tv 9 (by omega) (by omega)) ?_; clear hf a; intro v a w hR hf
     obtain ⟨l4, h4, rfl, g4a, g4b, g4c, g4d, hx⟩ := hR; replace hh := hh.swap' (X := [(Bat, .cells #[.int .i64 ((ac + 1 + 1 + 1 + 2 + 2 + 2 : Nat) : Int)] 3)]) (Z := _) (.refl _) hx; clear hx
     refine o_v hf hh (yv_buildS Try.bs_54 rfl rfl) ?_; clear hf a; intro a hf
     refine o_alloc hf hh Try.ze_54 ?_; clear hf hh a; intro B13 a w hf hh
     refine o_alloc hf hh Try.ze_54 ?_; clear hf hh a; intro B14 a w hf hh
     refine o_store hf hh Try.sz_54 fun w hh => ?_
     refine o_store hf hh Try.sz_54 fun w hh => ?_
     refine o_end ?_
     refine sy_seq ?_
     replace hh : Hp u [Bat] ((B14, .cells (mkV (Mk.mk l3 h3 l4 h4)).cells 54) :: (B13, .cells (mkV (Mk.mk l1 h1 l2 h2)).cells 54) :: (Bat, .cells #[.int .i64 ((ac + 1 + 1 + 1 + 2 + 2 + 2 + 2 : Nat) : Int)] 3) :: (B2, .cells (canV d 0 oa ob ca cb).cells 31) :: (B1, .cells #[drwV Bat Bby] 43) :: (X1 ++ X2)) w := hh
     replace hh := hh.perm (List.perm_middle (l₁ := [_, _]))
     refine sy_ops ?_
     refine o_v hf hh (y_ld Try.sc_43 rfl) ?_; clear hf a; intro a hf
     refine o_call hf Try.en_62 rfl rfl rfl (p62 Bat Bby sy ny cy (ac + 1 + 1 + 1 + 2 + 2 + 2 + 2) _ (hD.ext hh.ext) (hh.get (Bat, .cells #[.int .i64 ((ac + 1 + 1 + 1 + 2 + 2 + 2 + 2 : Nat) : Int)] 3) (by simp)) (by omega) 6 (by omega)) ?_; clear hf a; intro v a w hR hf
     obtain ⟨z8, rfl, hz8a, hz8b, hx⟩ := hR; replace hh := hh.swap' (X := [(Bat, .cells #[.int .i64 ((ac + 1 + 1 + 1 + 2 + 2 + 2 + 2 : Nat) : Int)] 3)]) (Z := _) (.refl _) hx; clear hx
     refine o_v hf hh (yv_assign rfl) ?_; clear hf a; intro a hf
     refine o_end ?_
     refine sy_block ?_
     refine sy_seq ?_
     have hma : okM (Mk.mk l1 h1 l2 h2) = true := okM_iff.2 ⟨by simp only; omega, by simp only; omega, by simp only; omega, by simp only; omega, by simp only; omega, by simp only; omega⟩
     have hmb : okM (Mk.mk l3 h3 l4 h4) = true := okM_iff.2 ⟨by simp only; omega, by simp only; omega, by simp only; omega, by simp only; omega, by simp only; omega, by simp only; omega⟩
     replace hh : Hp u [Bat] ([(Bat, .cells #[.int .i64 ((ac + 1 + 1 + 1 + 2 + 2 + 2 + 2 + 1 : Nat) : Int)] 3), (B14, .cells (mkV (Mk.mk l3 h3 l4 h4)).cells 54), (B13, .cells (mkV (Mk.mk l1 h1 l2 h2)).cells 54), (B2, .cells (canV d 0 oa ob ca cb).cells 31), (B1, .cells #[drwV Bat Bby] 43)] ++ (X1 ++ X2)) w := hh
     refine sy_ops ?_
     refine o_v hf hh (yv_move rfl) ?_; clear hf a; intro a hf
     refine o_v hf hh (yv_bin rfl rfl rfl) ?_; clear hf a; intro a hf
     refine o_v hf hh (yv_move rfl) ?_; clear hf a; intro a hf
     refine guard_split hf (t := 105) rfl (fun hg17 => ?_) (fun hg17 => ?_)
     ·have hG17 := hg17; try simp only [gS] at hG17
      refine o_v hf hh (yv_move rfl) ?_; clear hf a; intro a hf
      refine o_v hf hh (yv_bin rfl rfl rfl) ?_; clear hf a; intro a hf
      refine o_v hf hh (y_pt rfl rfl) ?_; clear hf a; intro a hf
      refine o_v hf hh (yv_assign rfl) ?_; clear hf a; intro a hf
      refine o_end ?_
      refine sy_cond hf rfl (fun hg19 => ?_) (fun hg19 => ?_)
      ·have hG19 := hg19; try simp only [gS] at hG19
       refine sy_sq ?_
       refine o_v hf hh (yv_move rfl) ?_; clear hf a; intro a hf
       refine ops_v hf hh (yv_cast (yv_add rfl rfl (by omega) (by omega)) (intv (b := ((pn + 1 : Nat) : Int)) (by omega))) (.inl rfl) rfl rfl rfl ?_; clear hf a; intro a hf
       refine o_v hf hh (yv_assign rfl) ?_; clear hf a; intro a hf
       refine o_end ?_
       refine sy_sq ?_
       refine o_v hf hh (yv_move rfl) ?_; clear hf a; intro a hf
       refine o_v hf hh (yv_bin rfl rfl rfl) ?_; clear hf a; intro a hf
       refine o_end ?_
       refine sy_cond hf rfl (fun hg22 => ?_) (fun hg22 => ?_)
       ·have hG22 := hg22; try simp only [gS] at hG22
        refine sy_seq ?_
        obtain ⟨q1, hq1⟩ : ∃ q : Nat, q = 2 ^ d.l.length := ⟨_, rfl⟩
        have hqb : q1 ≤ 1024 := hq1 ▸ pow_le_10 (by omega)
        have hxl := hMd.x1
        simp only at hxl
        rw [← hq1] at hxl
        refine sy_ops ?_
        refine o_v hf hh (yv_move rfl) ?_; clear hf a; intro a hf
        refine o_v hf hh (yv_move rfl) ?_; clear hf a; intro a hf
        refine o_v hf hh (yv_nilCheck rfl) ?_; clear hf a; intro a hf
        refine o_v hf hh (yv_fieldAddr Try.fo_29_0 rfl) ?_; clear hf a; intro a hf
        refine o_v hf hh (y_ld Try.sc_25 rfl) ?_; clear hf a; intro a hf
        refine o_v hf hh (yv_len Try.se_25 rfl) ?_; clear hf a; intro a hf
        refine o_v hf hh (yv_cast (yv_shl1 (.inl rfl) rfl rfl (by omega) (by omega)) (intv (b := ((q1 : Nat) : Int)) (by rw [hq1]; exact shl_one))) ?_; clear hf a; intro a hf
        refine o_v hf hh (yv_cast (yv_or (.inl rfl) rfl rfl (by omega) (by simp only [IntKind.top]; omega) (by omega) (by simp only [IntKind.top]; omega)) (intv (b := ((xl ||| q1 : Nat) : Int)) rfl)) ?_; clear hf a; intro a hf
        refine o_v hf hh (yv_assign rfl) ?_; clear hf a; intro a hf
        refine o_end ?_
        refine sy_treeC (.p 0 (.p 1 (.p 2 (.p 3 (.q 0 4 (.q 0 5 (.e1 6 (.e1 7 (.p 8 (.p 9 (.e1 10 (.fin)))))))))))) [[10]] [(AtE u [Bat] [(B2, .cells (canV d 0 oa ob ca cb).cells 31), (B13, .cells (mkV (Mk.mk l1 h1 l2 h2)).cells 54)], [10])] Try.follows (by kernel_rfl) rfl hh (fun w hh => ?_)
        refine mc_p rfl   hf (yv_move rfl) (.inl rfl) rfl rfl ?_; clear hf a; intro a hf
        refine mc_p rfl   hf (yv_move rfl) (.inl rfl) rfl rfl ?_; clear hf a; intro a hf
        refine mc_p rfl   hf (yv_nilCheck rfl) (.inl rfl) rfl rfl ?_; clear hf a; intro a hf
        refine mc_p rfl   hf (yv_fieldAddr Try.fo_29_0 rfl) (.inl rfl) rfl rfl ?_; clear hf a; intro a hf
        refine mc_q rfl rfl (AtE.mk2 hh.ext (hh.get (B2, .cells (canV d 0 oa ob ca cb).cells 31) (by simp)) (hh.get (B13, .cells (mkV (Mk.mk l1 h1 l2 h2)).cells 54) (by simp))) hf (y_ld Try.sc_25 rfl) (.inl rfl) rfl rfl ?_; clear hf a; intro a hf
        refine mc_q rfl rfl (AtE.mk2 hh.ext (hh.get (B2, .cells (canV d 0 oa ob ca cb).cells 31) (by simp)) (hh.get (B13, .cells (mkV (Mk.mk l1 h1 l2 h2)).cells 54) (by simp))) hf (y_lds Try.ag_54 rfl) (.inl rfl) rfl rfl ?_; clear hf a; intro a hf
        refine mc_e rfl fun Q1 => ?_
        refine ops_buildSl hf hh Try.bl_25_1 rfl rfl (.inl rfl) rfl ?_; clear hf hh; clear a; intro B127 a w hf hh
        refine ops_end ?_
        refine then_n ⟨⟨fun _ _ => (AtE.mk2 hh.ext (hh.get (B2, .cells (canV d 0 oa ob ca cb).cells 31) (by simp)) (hh.get (B13, .cells (mkV (Mk.mk l1 h1 l2 h2)).cells 54) (by simp))), trivial⟩, ?_⟩
        refine mc_e rfl fun Q1 => ?_
        refine ops_append (e := 54) (size := 4) (xs := encM d.l) (X := X1) (Z := _) (m := d.l.length) (q := 1) hf (hh.perm (.cons _ (pull1 (F := [_, _, _, _, _])))) Try.eb_25 rfl rfl hO1 rfl rfl rfl (by simp only [maxLen]; omega) (by omega) (.inl rfl) rfl ?_
        clear hf hh a; intro v1 X1n a w hO1n hf hh
        replace hh := hh.perm (pull1 (F := [_, _, _, _, _])).symm
        obtain ⟨oan, can, rfl⟩ := OwnSl_val hO1n
        refine ops_end ?_
        refine then_n ⟨⟨fun _ _ => (AtE.mk2 hh.ext (hh.get (B2, .cells (canV d 0 oa ob ca cb).cells 31) (by simp)) (hh.get (B13, .cells (mkV (Mk.mk l1 h1 l2 h2)).cells 54) (by simp))), trivial⟩, ?_⟩
        refine mc_p rfl   hf (yv_nilCheck rfl) (.inl rfl) rfl rfl ?_; clear hf a; intro a hf
        refine mc_p rfl   hf (yv_fieldAddr Try.fo_29_0 rfl) (.inl rfl) rfl rfl ?_; clear hf a; intro a hf
        refine mc_e rfl fun Q1 => ?_
        refine o_store hf hh Try.sz_25 fun w hh => ?_
        refine ops_end ?_
        refine then_n ⟨⟨fun h => Bool.noConfusion (show true = false from h), trivial⟩, ?_⟩
        refine mc_end ?_
        refine blk_n ?_
        refine blk_n ?_
        refine then_n ?_
        first
          | (have hmn := hMd.pair (z := sf) hma hmb (by simp only; omega) (by simp only; omega) (by simp only; omega) (by simp only; omega) (by omega) (by omega)
             refine ⟨(tn, pn, xl, xr), ⟨⟨ac + 1 + 1 + 1 + 2 + 2 + 2 + 2 + 1, { d with l := d.l ++ [(Mk.mk l1 h1 l2 h2)], r := d.r ++ [(Mk.mk l3 h3 l4 h4)] }, oan, obn, can, cbn, _, _, X1n, X2n, by omega, by omega, by omega, by omega, hmn, hlo, hhi, ?_, ?_, ?_, ?_, ?_, ?_, ?_⟩, hh.less (List.nil_sublist _)⟩, hf.head ⟨rfl, rfl, rfl, rfl, True.intro⟩ (Keep.cons rfl (Keep.cons rfl (Keep.cons rfl (Keep.cons rfl (Keep.cons rfl (Keep.cons rfl (Keep.cons rfl (Keep.cons rfl (Keep.cons rfl (Keep.cons rfl (Keep.cons rfl (Keep.cons rfl (Keep.cons rfl (Keep.cons rfl (Keep.cons rfl (Keep.cons rfl (Keep.cons rfl (Keep.cons rfl (Keep.cons rfl (Keep.cons rfl (Keep.cons rfl (Keep.cons rfl (Keep.cons rfl (Keep.cons rfl (Keep.cons rfl (Keep.cons rfl (Keep.cons rfl (Keep.cons rfl (Keep.cons rfl (Keep.cons rfl (Keep.cons rfl (Keep.cons rfl (Keep.cons rfl (Keep.cons rfl (Keep.cons rfl (Keep.cons rfl (Keep.cons rfl (Keep.cons rfl (Keep.cons rfl (Keep.cons rfl (Keep.cons rfl (Keep.cons rfl (Keep.cons rfl (Keep.cons rfl (Keep.cons rfl (Keep.cons rfl (Keep.cons rfl (Keep.cons rfl (Keep.cons rfl (Keep.cons rfl (Keep.cons rfl (Keep.cons rfl (Keep.cons rfl (Keep.cons rfl (Keep.cons rfl (Keep.cons rfl (Keep.cons rfl (Keep.cons rfl (Keep.cons rfl (Keep.cons rfl (Keep.cons rfl (Keep.cons rfl (Keep.cons rfl (Keep.cons rfl (Keep.cons rfl (Keep.cons rfl (Keep.cons rfl (Keep.cons rfl (Keep.cons rfl (Keep.cons rfl (Keep.cons rfl (Keep.cons rfl (Keep.cons rfl (Keep.cons rfl (Keep.cons rfl (Keep.cons rfl (Keep.cons rfl (Keep.cons rfl (Keep.cons rfl (Keep.cons rfl (Keep.cons rfl (Keep.cons rfl (Keep.cons rfl (Keep.base))))))))))))))))))))))))))))))))))))))))))))))))))))))))))))))))))))))))))))))))))))⟩
             · simp only [List.length_append, List.length_singleton]; omega
             · simp only [List.length_append, List.length_singleton]; omega
             · simp only; omega
             · simp only; omega
             · show OwnSl 54 4 (.slice oan (d.l ++ [(Mk.mk l1 h1 l2 h2)]).length can) (d.l ++ [(Mk.mk l1 h1 l2 h2)]).length (encM (d.l ++ [(Mk.mk l1 h1 l2 h2)])) X1n; rw [List.length_append, encM_app]; exact hO1n
             · show OwnSl 54 4 (.slice obn (d.r ++ [(Mk.mk l3 h3 l4 h4)]).length cbn) (d.r ++ [(Mk.mk l3 h3 l4 h4)]).length (encM (d.r ++ [(Mk.mk l3 h3 l4 h4)])) X2n; rw [List.length_append, encM_app]; exact hO2n
             · rw [← can_cells (d := { d with l := d.l ++ [(Mk.mk l1 h1 l2 h2)], r := d.r ++ [(Mk.mk l3 h3 l4 h4)] }) (oa := oan) (ob := obn) (ca := can) (cb := cbn) (n := d.l.length + 1) (m := d.r.length + 1) (lo := d.lo) (hi := d.hi) (hid := d.hid) (by simp) (by simp) rfl rfl rfl]; exact hh.less (.cons_cons _ (.cons _ (.cons _ (.refl _)))))
          | (have hmn := (hq1 ▸ hMd.paintL hma (by omega) (by omega) (by omega) : MadeC { d with l := d.l ++ [(Mk.mk l1 h1 l2 h2)] } (xl ||| q1, xr) z3 (pn + 1) ps sh)
             refine ⟨(tn, pn + 1, xl ||| q1, xr), ⟨⟨ac + 1 + 1 + 1 + 2 + 2 + 2 + 2 + 1, { d with l := d.l ++ [(Mk.mk l1 h1 l2 h2)] }, oan, ob, can, cb, ps, sh, X1n, X2, by omega, by omega, by omega, by omega, hmn, hlo, hhi, ?_, ?_, ?_, ?_, ?_, ?_, ?_⟩, hh.less (List.nil_sublist _)⟩, hf.head ⟨rfl, rfl, rfl, rfl, True.intro⟩ (Keep.cons rfl (Keep.cons rfl (Keep.cons rfl (Keep.cons rfl (Keep.cons rfl (Keep.cons rfl (Keep.cons rfl (Keep.cons rfl (Keep.cons rfl (Keep.cons rfl (Keep.cons rfl (Keep.cons rfl (Keep.cons rfl (Keep.cons rfl (Keep.cons rfl (Keep.cons rfl (Keep.cons rfl (Keep.cons rfl (Keep.cons rfl (Keep.cons rfl (Keep.cons rfl (Keep.cons rfl (Keep.cons rfl (Keep.cons rfl (Keep.cons rfl (Keep.cons rfl (Keep.cons rfl (Keep.cons rfl (Keep.cons rfl (Keep.cons rfl (Keep.cons rfl (Keep.cons rfl (Keep.cons rfl (Keep.cons rfl (Keep.cons rfl (Keep.cons rfl (Keep.cons rfl (Keep.cons rfl (Keep.cons rfl (Keep.cons rfl (Keep.cons rfl (Keep.cons rfl (Keep.cons rfl (Keep.cons rfl (Keep.cons rfl (Keep.cons rfl (Keep.cons rfl (Keep.cons rfl (Keep.cons rfl (Keep.cons rfl (Keep.cons rfl (Keep.cons rfl (Keep.cons rfl (Keep.cons rfl (Keep.cons rfl (Keep.cons rfl (Keep.cons rfl (Keep.cons rfl (Keep.cons rfl (Keep.cons rfl (Keep.cons rfl (Keep.cons rfl (Keep.cons rfl (Keep.cons rfl (Keep.cons rfl (Keep.cons rfl (Keep.cons rfl (Keep.cons rfl (Keep.cons rfl (Keep.cons rfl (Keep.cons rfl (Keep.cons rfl (Keep.cons rfl (Keep.cons rfl (Keep.cons rfl (Keep.cons rfl (Keep.cons rfl (Keep.cons rfl (Keep.cons rfl (Keep.cons rfl (Keep.cons rfl (Keep.cons rfl (Keep.cons rfl (Keep.base))))))))))))))))))))))))))))))))))))))))))))))))))))))))))))))))))))))))))))))))))))⟩
             · simp only [List.length_append, List.length_singleton]; omega
             · simp only; omega
             · simp only; omega
             · simp only; omega
             · show OwnSl 54 4 (.slice oan (d.l ++ [(Mk.mk l1 h1 l2 h2)]).length can) (d.l ++ [(Mk.mk l1 h1 l2 h2)]).length (encM (d.l ++ [(Mk.mk l1 h1 l2 h2)])) X1n; rw [List.length_append, encM_app]; exact hO1n
             · exact hO2
             · rw [← can_cells (d := { d with l := d.l ++ [(Mk.mk l1 h1 l2 h2)] }) (oa := oan) (ob := ob) (ca := can) (cb := cb) (n := d.l.length + 1) (m := d.r.length) (lo := d.lo) (hi := d.hi) (hid := d.hid) (by simp) (by simp) rfl rfl rfl]; exact hh.less (.cons_cons _ (.cons _ (.cons _ (.refl _)))))
          | (have hmn := (hq2 ▸ hMd.paintR hmb (by omega) (by omega) (by omega) : MadeC { d with r := d.r ++ [(Mk.mk l3 h3 l4 h4)] } (xl, xr ||| q2) z3 (pn + 1) ps sh)
             refine ⟨(tn, pn + 1, xl, xr ||| q2), ⟨⟨ac + 1 + 1 + 1 + 2 + 2 + 2 + 2 + 1, { d with r := d.r ++ [(Mk.mk l3 h3 l4 h4)] }, oa, obn, ca, cbn, ps, sh, X1, X2n, by omega, by omega, by omega, by omega, hmn, hlo, hhi, ?_, ?_, ?_, ?_, ?_, ?_, ?_⟩, hh.less (List.nil_sublist _)⟩, hf.head ⟨rfl, rfl, rfl, rfl, True.intro⟩ (Keep.cons rfl (Keep.cons rfl (Keep.cons rfl (Keep.cons rfl (Keep.cons rfl (Keep.cons rfl (Keep.cons rfl (Keep.cons rfl (Keep.cons rfl (Keep.cons rfl (Keep.cons rfl (Keep.cons rfl (Keep.cons rfl (Keep.cons rfl (Keep.cons rfl (Keep.cons rfl (Keep.cons rfl (Keep.cons rfl (Keep.cons rfl (Keep.cons rfl (Keep.cons rfl (Keep.cons rfl (Keep.cons rfl (Keep.cons rfl (Keep.cons rfl (Keep.cons rfl (Keep.cons rfl (Keep.cons rfl (Keep.cons rfl (Keep.cons rfl (Keep.cons rfl (Keep.cons rfl (Keep.cons rfl (Keep.cons rfl (Keep.cons rfl (Keep.cons rfl (Keep.cons rfl (Keep.cons rfl (Keep.cons rfl (Keep.cons rfl (Keep.cons rfl (Keep.cons rfl (Keep.cons rfl (Keep.cons rfl (Keep.cons rfl (Keep.cons rfl (Keep.cons rfl (Keep.cons rfl (Keep.cons rfl (Keep.cons rfl (Keep.cons rfl (Keep.cons rfl (Keep.cons rfl (Keep.cons rfl (Keep.cons rfl (Keep.cons rfl (Keep.cons rfl (Keep.cons rfl (Keep.cons rfl (Keep.cons rfl (Keep.cons rfl (Keep.cons rfl (Keep.cons rfl (Keep.cons rfl (Keep.cons rfl (Keep.cons rfl (Keep.cons rfl (Keep.cons rfl (Keep.cons rfl (Keep.cons rfl (Keep.cons rfl (Keep.cons rfl (Keep.cons rfl (Keep.cons rfl (Keep.cons rfl (Keep.cons rfl (Keep.cons rfl (Keep.cons rfl (Keep.cons rfl (Keep.cons rfl (Keep.cons rfl (Keep.cons rfl (Keep.cons rfl (Keep.base))))))))))))))))))))))))))))))))))))))))))))))))))))))))))))))))))))))))))))))))))))⟩
             · simp only; omega
             · simp only [List.length_append, List.length_singleton]; omega
             · simp only; omega
             · simp only; omega
             · exact hO1
             · show OwnSl 54 4 (.slice obn (d.r ++ [(Mk.mk l3 h3 l4 h4)]).length cbn) (d.r ++ [(Mk.mk l3 h3 l4 h4)]).length (encM (d.r ++ [(Mk.mk l3 h3 l4 h4)])) X2n; rw [List.length_append, encM_app]; exact hO2n
             · rw [← can_cells (d := { d with r := d.r ++ [(Mk.mk l3 h3 l4 h4)] }) (oa := oa) (ob := obn) (ca := ca) (cb := cbn) (n := d.l.length) (m := d.r.length + 1) (lo := d.lo) (hi := d.hi) (hid := d.hid) (by simp) (by simp) rfl rfl rfl]; exact hh.less (.cons_cons _ (.cons _ (.cons _ (.refl _)))))
          | (have hmn := hMd.hide hma
             refine ⟨(tn, pn, xl, xr), ⟨⟨ac + 1 + 1 + 1 + 2 + 2 + 2 + 2 + 1, { d with l := d.l ++ [(Mk.mk l1 h1 l2 h2)], hid := d.hid + 1 }, oan, ob, can, cb, ps, sh, X1n, X2, by omega, by omega, by omega, by omega, hmn, hlo, hhi, ?_, ?_, ?_, ?_, ?_, ?_, ?_⟩, hh.less (List.nil_sublist _)⟩, hf.head ⟨rfl, rfl, rfl, rfl, True.intro⟩ (Keep.cons rfl (Keep.cons rfl (Keep.cons rfl (Keep.cons rfl (Keep.cons rfl (Keep.cons rfl (Keep.cons rfl (Keep.cons rfl (Keep.cons rfl (Keep.cons rfl (Keep.cons rfl (Keep.cons rfl (Keep.cons rfl (Keep.cons rfl (Keep.cons rfl (Keep.cons rfl (Keep.cons rfl (Keep.cons rfl (Keep.cons rfl (Keep.cons rfl (Keep.cons rfl (Keep.cons rfl (Keep.cons rfl (Keep.cons rfl (Keep.cons rfl (Keep.cons rfl (Keep.cons rfl (Keep.cons rfl (Keep.cons rfl (Keep.cons rfl (Keep.cons rfl (Keep.cons rfl (Keep.cons rfl (Keep.cons rfl (Keep.cons rfl (Keep.cons rfl (Keep.cons rfl (Keep.cons rfl (Keep.cons rfl (Keep.cons rfl (Keep.cons rfl (Keep.cons rfl (Keep.cons rfl (Keep.cons rfl (Keep.cons rfl (Keep.cons rfl (Keep.cons rfl (Keep.cons rfl (Keep.cons rfl (Keep.cons rfl (Keep.cons rfl (Keep.cons rfl (Keep.cons rfl (Keep.cons rfl (Keep.cons rfl (Keep.cons rfl (Keep.cons rfl (Keep.cons rfl (Keep.cons rfl (Keep.cons rfl (Keep.cons rfl (Keep.cons rfl (Keep.cons rfl (Keep.cons rfl (Keep.cons rfl (Keep.cons rfl (Keep.cons rfl (Keep.cons rfl (Keep.cons rfl (Keep.cons rfl (Keep.cons rfl (Keep.cons rfl (Keep.cons rfl (Keep.cons rfl (Keep.cons rfl (Keep.cons rfl (Keep.cons rfl (Keep.cons rfl (Keep.cons rfl (Keep.cons rfl (Keep.cons rfl (Keep.cons rfl (Keep.cons rfl (Keep.base))))))))))))))))))))))))))))))))))))))))))))))))))))))))))))))))))))))))))))))))))))⟩
             · simp only [List.length_append, List.length_singleton]; omega
             · simp only; omega
             · show 0 ≤ d.hid + 1; omega
             · show d.hid + 1 ≤ _; omega
             · show OwnSl 54 4 (.slice oan (d.l ++ [(Mk.mk l1 h1 l2 h2)]).length can) (d.l ++ [(Mk.mk l1 h1 l2 h2)]).length (encM (d.l ++ [(Mk.mk l1 h1 l2 h2)])) X1n; rw [List.length_append, encM_app]; exact hO1n
             · exact hO2
             · rw [← can_cells (d := { d with l := d.l ++ [(Mk.mk l1 h1 l2 h2)], hid := d.hid + 1 }) (oa := oan) (ob := ob) (ca := can) (cb := cb) (n := d.l.length + 1) (m := d.r.length) (lo := d.lo) (hi := d.hi) (hid := d.hid + 1) (by simp) (by simp) rfl rfl rfl]; exact hh.less (.cons_cons _ (.cons _ (.cons _ (.refl _)))))
       ·have hG22 := hg22; try simp only [gS] at hG22
        refine sy_seq ?_
        obtain ⟨q2, hq2⟩ : ∃ q : Nat, q = 2 ^ d.r.length := ⟨_, rfl⟩
        have hqb : q2 ≤ 1024 := hq2 ▸ pow_le_10 (by omega)
        have hxr := hMd.x2
        simp only at hxr
        rw [← hq2] at hxr
        refine sy_ops ?_
        refine o_v hf hh (yv_move rfl) ?_; clear hf a; intro a hf
        refine o_v hf hh (yv_move rfl) ?_; clear hf a; intro a hf
        refine o_v hf hh (yv_nilCheck rfl) ?_; clear hf a; intro a hf
        refine o_v hf hh (yv_fieldAddr Try.fo_29_1 rfl) ?_; clear hf a; intro a hf
        refine o_v hf hh (y_ld Try.sc_25 rfl) ?_; clear hf a; intro a hf
        refine o_v hf hh (yv_len Try.se_25 rfl) ?_; clear hf a; intro a hf
        refine o_v hf hh (yv_cast (yv_shl1 (.inl rfl) rfl rfl (by omega) (by omega)) (intv (b := ((q2 : Nat) : Int)) (by rw [hq2]; exact shl_one))) ?_; clear hf a; intro a hf
        refine o_v hf hh (yv_cast (yv_or (.inl rfl) rfl rfl (by omega) (by simp only [IntKind.top]; omega) (by omega) (by simp only [IntKind.top]; omega)) (intv (b := ((xr ||| q2 : Nat) : Int)) rfl)) ?_; clear hf a; intro a hf
        refine o_v hf hh (yv_assign rfl) ?_; clear hf a; intro a hf
        refine o_end ?_
        refine sy_treeC (.p 0 (.p 1 (.p 2 (.p 3 (.q 0 4 (.q 0 5 (.e1 6 (.e1 7 (.p 8 (.p 9 (.e1 10 (.fin)))))))))))) [[10]] [(AtE u [Bat] [(B2, .cells (canV d 0 oa ob ca cb).cells 31), (B14, .cells (mkV (Mk.mk l3 h3 l4 h4)).cells 54)], [10])] Try.follows (by kernel_rfl) rfl hh (fun w hh => ?_)
        refine mc_p rfl   hf (yv_move rfl) (.inl rfl) rfl rfl ?_; clear hf a; intro a hf
        refine mc_p rfl   hf (yv_move rfl) (.inl rfl) rfl rfl ?_; clear hf a; intro a hf
        refine mc_p rfl   hf (yv_nilCheck rfl) (.inl rfl) rfl rfl ?_; clear hf a; intro a hf
        refine mc_p rfl   hf (yv_fieldAddr Try.fo_29_1 rfl) (.inl rfl) rfl rfl ?_; clear hf a; intro a hf
        refine mc_q rfl rfl (AtE.mk2 hh.ext (hh.get (B2, .cells (canV d 0 oa ob ca cb).cells 31) (by simp)) (hh.get (B14, .cells (mkV (Mk.mk l3 h3 l4 h4)).cells 54) (by simp))) hf (y_ld Try.sc_25 rfl) (.inl rfl) rfl rfl ?_; clear hf a; intro a hf
        refine mc_q rfl rfl (AtE.mk2 hh.ext (hh.get (B2, .cells (canV d 0 oa ob ca cb).cells 31) (by simp)) (hh.get (B14, .cells (mkV (Mk.mk l3 h3 l4 h4)).cells 54) (by simp))) hf (y_lds Try.ag_54 rfl) (.inl rfl) rfl rfl ?_; clear hf a; intro a hf
        refine mc_e rfl fun Q1 => ?_
        refine ops_buildSl hf hh Try.bl_25_1 rfl rfl (.inl rfl) rfl ?_; clear hf hh; clear a; intro B145 a w hf hh
        refine ops_end ?_
        refine then_n ⟨⟨fun _ _ => (AtE.mk2 hh.ext (hh.get (B2, .cells (canV d 0 oa ob ca cb).cells 31) (by simp)) (hh.get (B14, .cells (mkV (Mk.mk l3 h3 l4 h4)).cells 54) (by simp))), trivial⟩, ?_⟩
        refine mc_e rfl fun Q1 => ?_
        refine ops_append (e := 54) (size := 4) (xs := encM d.r) (X := X2) (Z := _) (m := d.r.length) (q := 1) hf (hh.perm (.cons _ (pull2e (F := [_, _, _, _, _])))) Try.eb_25 rfl rfl hO2 rfl rfl rfl (by simp only [maxLen]; omega) (by omega) (.inl rfl) rfl ?_
        clear hf hh a; intro v2 X2n a w hO2n hf hh
        replace hh := hh.perm (pull2e (F := [_, _, _, _, _])).symm
        obtain ⟨obn, cbn, rfl⟩ := OwnSl_val hO2n
        refine ops_end ?_
        refine then_n ⟨⟨fun _ _ => (AtE.mk2 hh.ext (hh.get (B2, .cells (canV d 0 oa ob ca cb).cells 31) (by simp)) (hh.get (B14, .cells (mkV (Mk.mk l3 h3 l4 h4)).cells 54) (by simp))), trivial⟩, ?_⟩
        refine mc_p rfl   hf (yv_nilCheck rfl) (.inl rfl) rfl rfl ?_; clear hf a; intro a hf
        refine mc_p rfl   hf (yv_fieldAddr Try.fo_29_1 rfl) (.inl rfl) rfl rfl ?_; clear hf a; intro a hf
        refine mc_e rfl fun Q1 => ?_
        refine o_store hf hh Try.sz_25 fun w hh => ?_
        refine ops_end ?_
        refine then_n ⟨⟨fun h => Bool.noConfusion (show true = false from h), trivial⟩, ?_⟩
        refine mc_end ?_
        refine blk_n ?_
        refine blk_n ?_
        refine then_n ?_
        first
          | (have hmn := hMd.pair (z := sf) hma hmb (by simp only; omega) (by simp only; omega) (by simp only; omega) (by simp only; omega) (by omega) (by omega)
             refine ⟨(tn, pn, xl, xr), ⟨⟨ac + 1 + 1 + 1 + 2 + 2 + 2 + 2 + 1, { d with l := d.l ++ [(Mk.mk l1 h1 l2 h2)], r := d.r ++ [(Mk.mk l3 h3 l4 h4)] }, oan, obn, can, cbn, _, _, X1n, X2n, by omega, by omega, by omega, by omega, hmn, hlo, hhi, ?_, ?_, ?_, ?_, ?_, ?_, ?_⟩, hh.less (List.nil_sublist _)⟩, hf.head ⟨rfl, rfl, rfl, rfl, True.intro⟩ (Keep.cons rfl (Keep.cons rfl (Keep.cons rfl (Keep.cons rfl (Keep.cons rfl (Keep.cons rfl (Keep.cons rfl (Keep.cons rfl (Keep.cons rfl (Keep.cons rfl (Keep.cons rfl (Keep.cons rfl (Keep.cons rfl (Keep.cons rfl (Keep.cons rfl (Keep.cons rfl (Keep.cons rfl (Keep.cons rfl (Keep.cons rfl (Keep.cons rfl (Keep.cons rfl (Keep.cons rfl (Keep.cons rfl (Keep.cons rfl (Keep.cons rfl (Keep.cons rfl (Keep.cons rfl (Keep.cons rfl (Keep.cons rfl (Keep.cons rfl (Keep.cons rfl (Keep.cons rfl (Keep.cons rfl (Keep.cons rfl (Keep.cons rfl (Keep.cons rfl (Keep.cons rfl (Keep.cons rfl (Keep.cons rfl (Keep.cons rfl (Keep.cons rfl (Keep.cons rfl (Keep.cons rfl (Keep.cons rfl (Keep.cons rfl (Keep.cons rfl (Keep.cons rfl (Keep.cons rfl (Keep.cons rfl (Keep.cons rfl (Keep.cons rfl (Keep.cons rfl (Keep.cons rfl (Keep.cons rfl (Keep.cons rfl (Keep.cons rfl (Keep.cons rfl (Keep.cons rfl (Keep.cons rfl (Keep.cons rfl (Keep.cons rfl (Keep.cons rfl (Keep.cons rfl (Keep.cons rfl (Keep.cons rfl (Keep.cons rfl (Keep.cons rfl (Keep.cons rfl (Keep.cons rfl (Keep.cons rfl (Keep.cons rfl (Keep.cons rfl (Keep.cons rfl (Keep.cons rfl (Keep.cons rfl (Keep.cons rfl (Keep.cons rfl (Keep.cons rfl (Keep.cons rfl (Keep.cons rfl (Keep.cons rfl (Keep.cons rfl (Keep.cons rfl (Keep.base))))))))))))))))))))))))))))))))))))))))))))))))))))))))))))))))))))))))))))))))))))⟩
             · simp only [List.length_append, List.length_singleton]; omega
             · simp only [List.length_append, List.length_singleton]; omega
             · simp only; omega
             · simp only; omega
             · show OwnSl 54 4 (.slice oan (d.l ++ [(Mk.mk l1 h1 l2 h2)]).length can) (d.l ++ [(Mk.mk l1 h1 l2 h2)]).length (encM (d.l ++ [(Mk.mk l1 h1 l2 h2)])) X1n; rw [List.length_append, encM_app]; exact hO1n
             · show OwnSl 54 4 (.slice obn (d.r ++ [(Mk.mk l3 h3 l4 h4)]).length cbn) (d.r ++ [(Mk.mk l3 h3 l4 h4)]).length (encM (d.r ++ [(Mk.mk l3 h3 l4 h4)])) X2n; rw [List.length_append, encM_app]; exact hO2n
             · rw [← can_cells (d := { d with l := d.l ++ [(Mk.mk l1 h1 l2 h2)], r := d.r ++ [(Mk.mk l3 h3 l4 h4)] }) (oa := oan) (ob := obn) (ca := can) (cb := cbn) (n := d.l.length + 1) (m := d.r.length + 1) (lo := d.lo) (hi := d.hi) (hid := d.hid) (by simp) (by simp) rfl rfl rfl]; exact hh.less (.cons_cons _ (.cons _ (.cons _ (.refl _)))))
          | (have hmn := (hq1 ▸ hMd.paintL hma (by omega) (by omega) (by omega) : MadeC { d with l := d.l ++ [(Mk.mk l1 h1 l2 h2)] } (xl ||| q1, xr) z3 (pn + 1) ps sh)
             refine ⟨(tn, pn + 1, xl ||| q1, xr), ⟨⟨ac + 1 + 1 + 1 + 2 + 2 + 2 + 2 + 1, { d with l := d.l ++ [(Mk.mk l1 h1 l2 h2)] }, oan, ob, can, cb, ps, sh, X1n, X2, by omega, by omega, by omega, by omega, hmn, hlo, hhi, ?_, ?_, ?_, ?_, ?_, ?_, ?_⟩, hh.less (List.nil_sublist _)⟩, hf.head ⟨rfl, rfl, rfl, rfl, True.intro⟩ (Keep.cons rfl (Keep.cons rfl (Keep.cons rfl (Keep.cons rfl (Keep.cons rfl (Keep.cons rfl (Keep.cons rfl (Keep.cons rfl (Keep.cons rfl (Keep.cons rfl (Keep.cons rfl (Keep.cons rfl (Keep.cons rfl (Keep.cons rfl (Keep.cons rfl (Keep.cons rfl (Keep.cons rfl (Keep.cons rfl (Keep.cons rfl (Keep.cons rfl (Keep.cons rfl (Keep.cons rfl (Keep.cons rfl (Keep.cons rfl (Keep.cons rfl (Keep.cons rfl (Keep.cons rfl (Keep.cons rfl (Keep.cons rfl (Keep.cons rfl (Keep.cons rfl (Keep.cons rfl (Keep.cons rfl (Keep.cons rfl (Keep.cons rfl (Keep.cons rfl (Keep.cons rfl (Keep.cons rfl (Keep.cons rfl (Keep.cons rfl (Keep.cons rfl (Keep.cons rfl (Keep.cons rfl (Keep.cons rfl (Keep.cons rfl (Keep.cons rfl (Keep.cons rfl (Keep.cons rfl (Keep.cons rfl (Keep.cons rfl (Keep.cons rfl (Keep.cons rfl (Keep.cons rfl (Keep.cons rfl (Keep.cons rfl (Keep.cons rfl (Keep.cons rfl (Keep.cons rfl (Keep.cons rfl (Keep.cons rfl (Keep.cons rfl (Keep.cons rfl (Keep.cons rfl (Keep.cons rfl (Keep.cons rfl (Keep.cons rfl (Keep.cons rfl (Keep.cons rfl (Keep.cons rfl (Keep.cons rfl (Keep.cons rfl (Keep.cons rfl (Keep.cons rfl (Keep.cons rfl (Keep.cons rfl (Keep.cons rfl (Keep.cons rfl (Keep.cons rfl (Keep.cons rfl (Keep.cons rfl (Keep.cons rfl (Keep.cons rfl (Keep.cons rfl (Keep.base))))))))))))))))))))))))))))))))))))))))))))))))))))))))))))))))))))))))))))))))))))⟩
             · simp only [List.length_append, List.length_singleton]; omega
             · simp only; omega
             · simp only; omega
             · simp only; omega
             · show OwnSl 54 4 (.slice oan (d.l ++ [(Mk.mk l1 h1 l2 h2)]).length can) (d.l ++ [(Mk.mk l1 h1 l2 h2)]).length (encM (d.l ++ [(Mk.mk l1 h1 l2 h2)])) X1n; rw [List.length_append, encM_app]; exact hO1n
             · exact hO2
             · rw [← can_cells (d := { d with l := d.l ++ [(Mk.mk l1 h1 l2 h2)] }) (oa := oan) (ob := ob) (ca := can) (cb := cb) (n := d.l.length + 1) (m := d.r.length) (lo := d.lo) (hi := d.hi) (hid := d.hid) (by simp) (by simp) rfl rfl rfl]; exact hh.less (.cons_cons _ (.cons _ (.cons _ (.refl _)))))
          | (have hmn := (hq2 ▸ hMd.paintR hmb (by omega) (by omega) (by omega) : MadeC { d with r := d.r ++ [(Mk.mk l3 h3 l4 h4)] } (xl, xr ||| q2) z3 (pn + 1) ps sh)
             refine ⟨(tn, pn + 1, xl, xr ||| q2), ⟨⟨ac + 1 + 1 + 1 + 2 + 2 + 2 + 2 + 1, { d with r := d.r ++ [(Mk.mk l3 h3 l4 h4)] }, oa, obn, ca, cbn, ps, sh, X1, X2n, by omega, by omega, by omega, by omega, hmn, hlo, hhi, ?_, ?_, ?_, ?_, ?_, ?_, ?_⟩, hh.less (List.nil_sublist _)⟩, hf.head ⟨rfl, rfl, rfl, rfl, True.intro⟩ (Keep.cons rfl (Keep.cons rfl (Keep.cons rfl (Keep.cons rfl (Keep.cons rfl (Keep.cons rfl (Keep.cons rfl (Keep.cons rfl (Keep.cons rfl (Keep.cons rfl (Keep.cons rfl (Keep.cons rfl (Keep.cons rfl (Keep.cons rfl (Keep.cons rfl (Keep.cons rfl (Keep.cons rfl (Keep.cons rfl (Keep.cons rfl (Keep.cons rfl (Keep.cons rfl (Keep.cons rfl (Keep.cons rfl (Keep.cons rfl (Keep.cons rfl (Keep.cons rfl (Keep.cons rfl (Keep.cons rfl (Keep.cons rfl (Keep.cons rfl (Keep.cons rfl (Keep.cons rfl (Keep.cons rfl (Keep.cons rfl (Keep.cons rfl (Keep.cons rfl (Keep.cons rfl (Keep.cons rfl (Keep.cons rfl (Keep.cons rfl (Keep.cons rfl (Keep.cons rfl (Keep.cons rfl (Keep.cons rfl (Keep.cons rfl (Keep.cons rfl (Keep.cons rfl (Keep.cons rfl (Keep.cons rfl (Keep.cons rfl (Keep.cons rfl (Keep.cons rfl (Keep.cons rfl (Keep.cons rfl (Keep.cons rfl (Keep.cons rfl (Keep.cons rfl (Keep.cons rfl (Keep.cons rfl (Keep.cons rfl (Keep.cons rfl (Keep.cons rfl (Keep.cons rfl (Keep.cons rfl (Keep.cons rfl (Keep.cons rfl (Keep.cons rfl (Keep.cons rfl (Keep.cons rfl (Keep.cons rfl (Keep.cons rfl (Keep.cons rfl (Keep.cons rfl (Keep.cons rfl (Keep.cons rfl (Keep.cons rfl (Keep.cons rfl (Keep.cons rfl (Keep.cons rfl (Keep.cons rfl (Keep.cons rfl (Keep.cons rfl (Keep.cons rfl (Keep.base))))))))))))))))))))))))))))))))))))))))))))))))))))))))))))))))))))))))))))))))))))⟩
             · simp only; omega
             · simp only [List.length_append, List.length_singleton]; omega
             · simp only; omega
             · simp only; omega
             · exact hO1
             · show OwnSl 54 4 (.slice obn (d.r ++ [(Mk.mk l3 h3 l4 h4)]).length cbn) (d.r ++ [(Mk.mk l3 h3 l4 h4)]).length (encM (d.r ++ [(Mk.mk l3 h3 l4 h4)])) X2n; rw [List.length_append, encM_app]; exact hO2n
             · rw [← can_cells (d := { d with r := d.r ++ [(Mk.mk l3 h3 l4 h4)] }) (oa := oa) (ob := obn) (ca := ca) (cb := cbn) (n := d.l.length) (m := d.r.length + 1) (lo := d.lo) (hi := d.hi) (hid := d.hid) (by simp) (by simp) rfl rfl rfl]; exact hh.less (.cons_cons _ (.cons _ (.cons _ (.refl _)))))
          | (have hmn := hMd.hide hma
             refine ⟨(tn, pn, xl, xr), ⟨⟨ac + 1 + 1 + 1 + 2 + 2 + 2 + 2 + 1, { d with l := d.l ++ [(Mk.mk l1 h1 l2 h2)], hid := d.hid + 1 }, oan, ob, can, cb, ps, sh, X1n, X2, by omega, by omega, by omega, by omega, hmn, hlo, hhi, ?_, ?_, ?_, ?_, ?_, ?_, ?_⟩, hh.less (List.nil_sublist _)⟩, hf.head ⟨rfl, rfl, rfl, rfl, True.intro⟩ (Keep.cons rfl (Keep.cons rfl (Keep.cons rfl (Keep.cons rfl (Keep.cons rfl (Keep.cons rfl (Keep.cons rfl (Keep.cons rfl (Keep.cons rfl (Keep.cons rfl (Keep.cons rfl (Keep.cons rfl (Keep.cons rfl (Keep.cons rfl (Keep.cons rfl (Keep.cons rfl (Keep.cons rfl (Keep.cons rfl (Keep.cons rfl (Keep.cons rfl (Keep.cons rfl (Keep.cons rfl (Keep.cons rfl (Keep.cons rfl (Keep.cons rfl (Keep.cons rfl (Keep.cons rfl (Keep.cons rfl (Keep.cons rfl (Keep.cons rfl (Keep.cons rfl (Keep.cons rfl (Keep.cons rfl (Keep.cons rfl (Keep.cons rfl (Keep.cons rfl (Keep.cons rfl (Keep.cons rfl (Keep.cons rfl (Keep.cons rfl (Keep.cons rfl (Keep.cons rfl (Keep.cons rfl (Keep.cons rfl (Keep.cons rfl (Keep.cons rfl (Keep.cons rfl (Keep.cons rfl (Keep.cons rfl (Keep.cons rfl (Keep.cons rfl (Keep.cons rfl (Keep.cons rfl (Keep.cons rfl (Keep.cons rfl (Keep.cons rfl (Keep.cons rfl (Keep.cons rfl (Keep.cons rfl (Keep.cons rfl (Keep.cons rfl (Keep.cons rfl (Keep.cons rfl (Keep.cons rfl (Keep.cons rfl (Keep.cons rfl (Keep.cons rfl (Keep.cons rfl (Keep.cons rfl (Keep.cons rfl (Keep.cons rfl (Keep.cons rfl (Keep.cons rfl (Keep.cons rfl (Keep.cons rfl (Keep.cons rfl (Keep.cons rfl (Keep.cons rfl (Keep.cons rfl (Keep.cons rfl (Keep.cons rfl (Keep.cons rfl (Keep.cons rfl (Keep.base))))))))))))))))))))))))))))))))))))))))))))))))))))))))))))))))))))))))))))))))))))⟩
             · simp only [List.length_append, List.length_singleton]; omega
             · simp only; omega
             · show 0 ≤ d.hid + 1; omega
             · show d.hid + 1 ≤ _; omega
             · show OwnSl 54 4 (.slice oan (d.l ++ [(Mk.mk l1 h1 l2 h2)]).length can) (d.l ++ [(Mk.mk l1 h1 l2 h2)]).length (encM (d.l ++ [(Mk.mk l1 h1 l2 h2)])) X1n; rw [List.length_append, encM_app]; exact hO1n
             · exact hO2
             · rw [← can_cells (d := { d with l := d.l ++ [(Mk.mk l1 h1 l2 h2)], hid := d.hid + 1 }) (oa := oan) (ob := ob) (ca := can) (cb := cb) (n := d.l.length + 1) (m := d.r.length) (lo := d.lo) (hi := d.hi) (hid := d.hid + 1) (by simp) (by simp) rfl rfl rfl]; exact hh.less (.cons_cons _ (.cons _ (.cons _ (.refl _)))))
      ·have hG19 := hg19; try simp only [gS] at hG19
       refine sy_sq ?_
       refine o_v hf hh (yv_move rfl) ?_; clear hf a; intro a hf
       refine o_v hf hh (yv_bin rfl rfl rfl) ?_; clear hf a; intro a hf
       refine o_v hf hh (yv_assign rfl) ?_; clear hf a; intro a hf
       refine o_end ?_
       refine sy_cond hf rfl (fun hg30 => ?_) (fun hg30 => ?_)
       ·have hG30 := hg30; try simp only [gS] at hG30
        refine sy_sq ?_
        refine o_v hf hh (yv_move rfl) ?_; clear hf a; intro a hf
        refine o_v hf hh (yv_nilCheck rfl) ?_; clear hf a; intro a hf
        refine o_v hf hh (yv_fieldAddr Try.fo_29_3 rfl) ?_; clear hf a; intro a hf
        refine o_v hf hh (y_ld Try.sc_3 rfl) ?_; clear hf a; intro a hf
        refine o_v hf hh (y_add rfl rfl) ?_; clear hf a; intro a hf
        refine o_v hf hh (yv_nilCheck rfl) ?_; clear hf a; intro a hf
        refine o_v hf hh (yv_fieldAddr Try.fo_29_3 rfl) ?_; clear hf a; intro a hf
        refine o_store hf hh Try.sz_3 fun w hh => ?_
        refine o_end ?_
        replace hh : Hp u [Bat] ([(Bat, .cells #[.int .i64 ((ac + 1 + 1 + 1 + 2 + 2 + 2 + 2 + 1 : Nat) : Int)] 3), (B14, .cells (mkV (Mk.mk l3 h3 l4 h4)).cells 54), (B13, .cells (mkV (Mk.mk l1 h1 l2 h2)).cells 54), (B2, .cells (canV { d with hid := d.hid + 1 } 0 oa ob ca cb).cells 31), (B1, .cells #[drwV Bat Bby] 43)] ++ (X1 ++ X2)) w := hh
        refine sy_treeC (.p 0 (.p 1 (.p 2 (.p 3 (.q 0 4 (.q 0 5 (.e1 6 (.e1 7 (.p 8 (.p 9 (.e1 10 (.fin)))))))))))) [[10]] [(AtE u [Bat] [(B2, .cells (canV { d with hid := d.hid + 1 } 0 oa ob ca cb).cells 31), (B13, .cells (mkV (Mk.mk l1 h1 l2 h2)).cells 54)], [10])] Try.follows (by kernel_rfl) rfl hh (fun w hh => ?_)
        refine mc_p rfl   hf (yv_move rfl) (.inl rfl) rfl rfl ?_; clear hf a; intro a hf
        refine mc_p rfl   hf (yv_move rfl) (.inl rfl) rfl rfl ?_; clear hf a; intro a hf
        refine mc_p rfl   hf (yv_nilCheck rfl) (.inl rfl) rfl rfl ?_; clear hf a; intro a hf
        refine mc_p rfl   hf (yv_fieldAddr Try.fo_29_0 rfl) (.inl rfl) rfl rfl ?_; clear hf a; intro a hf
        refine mc_q rfl rfl (AtE.mk2 hh.ext (hh.get (B2, .cells (canV { d with hid := d.hid + 1 } 0 oa ob ca cb).cells 31) (by simp)) (hh.get (B13, .cells (mkV (Mk.mk l1 h1 l2 h2)).cells 54) (by simp))) hf (y_ld Try.sc_25 rfl) (.inl rfl) rfl rfl ?_; clear hf a; intro a hf
        refine mc_q rfl rfl (AtE.mk2 hh.ext (hh.get (B2, .cells (canV { d with hid := d.hid + 1 } 0 oa ob ca cb).cells 31) (by simp)) (hh.get (B13, .cells (mkV (Mk.mk l1 h1 l2 h2)).cells 54) (by simp))) hf (y_lds Try.ag_54 rfl) (.inl rfl) rfl rfl ?_; clear hf a; intro a hf
        refine mc_e rfl fun Q1 => ?_
        refine ops_buildSl hf hh Try.bl_25_1 rfl rfl (.inl rfl) rfl ?_; clear hf hh; clear a; intro B165 a w hf hh
        refine ops_end ?_
        refine then_n ⟨⟨fun _ _ => (AtE.mk2 hh.ext (hh.get (B2, .cells (canV { d with hid := d.hid + 1 } 0 oa ob ca cb).cells 31) (by simp)) (hh.get (B13, .cells (mkV (Mk.mk l1 h1 l2 h2)).cells 54) (by simp))), trivial⟩, ?_⟩
        refine mc_e rfl fun Q1 => ?_
        refine ops_append (e := 54) (size := 4) (xs := encM d.l) (X := X1) (Z := _) (m := d.l.length) (q := 1) hf (hh.perm (.cons _ (pull1 (F := [_, _, _, _, _])))) Try.eb_25 rfl rfl hO1 rfl rfl rfl (by simp only [maxLen]; omega) (by omega) (.inl rfl) rfl ?_
        clear hf hh a; intro v1 X1n a w hO1n hf hh
        replace hh := hh.perm (pull1 (F := [_, _, _, _, _])).symm
        obtain ⟨oan, can, rfl⟩ := OwnSl_val hO1n
        refine ops_end ?_
        refine then_n ⟨⟨fun _ _ => (AtE.mk2 hh.ext (hh.get (B2, .cells (canV { d with hid := d.hid + 1 } 0 oa ob ca cb).cells 31) (by simp)) (hh.get (B13, .cells (mkV (Mk.mk l1 h1 l2 h2)).cells 54) (by simp))), trivial⟩, ?_⟩
        refine mc_p rfl   hf (yv_nilCheck rfl) (.inl rfl) rfl rfl ?_; clear hf a; intro a hf
        refine mc_p rfl   hf (yv_fieldAddr Try.fo_29_0 rfl) (.inl rfl) rfl rfl ?_; clear hf a; intro a hf
        refine mc_e rfl fun Q1 => ?_
        refine o_store hf hh Try.sz_25 fun w hh => ?_
        refine ops_end ?_
        refine then_n ⟨⟨fun h => Bool.noConfusion (show true = false from h), trivial⟩, ?_⟩
        refine mc_end ?_
        refine blk_n ?_
        refine blk_n ?_
        refine then_n ?_
        first
          | (have hmn := hMd.pair (z := sf) hma hmb (by simp only; omega) (by simp only; omega) (by simp only; omega) (by simp only; omega) (by omega) (by omega)
             refine ⟨(tn, pn, xl, xr), ⟨⟨ac + 1 + 1 + 1 + 2 + 2 + 2 + 2 + 1, { d with l := d.l ++ [(Mk.mk l1 h1 l2 h2)], r := d.r ++ [(Mk.mk l3 h3 l4 h4)] }, oan, obn, can, cbn, _, _, X1n, X2n, by omega, by omega, by omega, by omega, hmn, hlo, hhi, ?_, ?_, ?_, ?_, ?_, ?_, ?_⟩, hh.less (List.nil_sublist _)⟩, hf.head ⟨rfl, rfl, rfl, rfl, True.intro⟩ (Keep.cons rfl (Keep.cons rfl (Keep.cons rfl (Keep.cons rfl (Keep.cons rfl (Keep.cons rfl (Keep.cons rfl (Keep.cons rfl (Keep.cons rfl (Keep.cons rfl (Keep.cons rfl (Keep.cons rfl (Keep.cons rfl (Keep.cons rfl (Keep.cons rfl (Keep.cons rfl (Keep.cons rfl (Keep.cons rfl (Keep.cons rfl (Keep.cons rfl (Keep.cons rfl (Keep.cons rfl (Keep.cons rfl (Keep.cons rfl (Keep.cons rfl (Keep.cons rfl (Keep.cons rfl (Keep.cons rfl (Keep.cons rfl (Keep.cons rfl (Keep.cons rfl (Keep.cons rfl (Keep.cons rfl (Keep.cons rfl (Keep.cons rfl (Keep.cons rfl (Keep.cons rfl (Keep.cons rfl (Keep.cons rfl (Keep.cons rfl (Keep.cons rfl (Keep.cons rfl (Keep.cons rfl (Keep.cons rfl (Keep.cons rfl (Keep.cons rfl (Keep.cons rfl (Keep.cons rfl (Keep.cons rfl (Keep.cons rfl (Keep.cons rfl (Keep.cons rfl (Keep.cons rfl (Keep.cons rfl (Keep.cons rfl (Keep.cons rfl (Keep.cons rfl (Keep.cons rfl (Keep.cons rfl (Keep.cons rfl (Keep.cons rfl (Keep.cons rfl (Keep.cons rfl (Keep.cons rfl (Keep.cons rfl (Keep.cons rfl (Keep.cons rfl (Keep.cons rfl (Keep.cons rfl (Keep.cons rfl (Keep.cons rfl (Keep.cons rfl (Keep.cons rfl (Keep.cons rfl (Keep.cons rfl (Keep.cons rfl (Keep.cons rfl (Keep.cons rfl (Keep.cons rfl (Keep.base))))))))))))))))))))))))))))))))))))))))))))))))))))))))))))))))))))))))))))))))⟩
             · simp only [List.length_append, List.length_singleton]; omega
             · simp only [List.length_append, List.length_singleton]; omega
             · simp only; omega
             · simp only; omega
             · show OwnSl 54 4 (.slice oan (d.l ++ [(Mk.mk l1 h1 l2 h2)]).length can) (d.l ++ [(Mk.mk l1 h1 l2 h2)]).length (encM (d.l ++ [(Mk.mk l1 h1 l2 h2)])) X1n; rw [List.length_append, encM_app]; exact hO1n
             · show OwnSl 54 4 (.slice obn (d.r ++ [(Mk.mk l3 h3 l4 h4)]).length cbn) (d.r ++ [(Mk.mk l3 h3 l4 h4)]).length (encM (d.r ++ [(Mk.mk l3 h3 l4 h4)])) X2n; rw [List.length_append, encM_app]; exact hO2n
             · rw [← can_cells (d := { d with l := d.l ++ [(Mk.mk l1 h1 l2 h2)], r := d.r ++ [(Mk.mk l3 h3 l4 h4)] }) (oa := oan) (ob := obn) (ca := can) (cb := cbn) (n := d.l.length + 1) (m := d.r.length + 1) (lo := d.lo) (hi := d.hi) (hid := d.hid) (by simp) (by simp) rfl rfl rfl]; exact hh.less (.cons_cons _ (.cons _ (.cons _ (.refl _)))))
          | (have hmn := (hq1 ▸ hMd.paintL hma (by omega) (by omega) (by omega) : MadeC { d with l := d.l ++ [(Mk.mk l1 h1 l2 h2)] } (xl ||| q1, xr) z3 (pn + 1) ps sh)
             refine ⟨(tn, pn + 1, xl ||| q1, xr), ⟨⟨ac + 1 + 1 + 1 + 2 + 2 + 2 + 2 + 1, { d with l := d.l ++ [(Mk.mk l1 h1 l2 h2)] }, oan, ob, can, cb, ps, sh, X1n, X2, by omega, by omega, by omega, by omega, hmn, hlo, hhi, ?_, ?_, ?_, ?_, ?_, ?_, ?_⟩, hh.less (List.nil_sublist _)⟩, hf.head ⟨rfl, rfl, rfl, rfl, True.intro⟩ (Keep.cons rfl (Keep.cons rfl (Keep.cons rfl (Keep.cons rfl (Keep.cons rfl (Keep.cons rfl (Keep.cons rfl (Keep.cons rfl (Keep.cons rfl (Keep.cons rfl (Keep.cons rfl (Keep.cons rfl (Keep.cons rfl (Keep.cons rfl (Keep.cons rfl (Keep.cons rfl (Keep.cons rfl (Keep.cons rfl (Keep.cons rfl (Keep.cons rfl (Keep.cons rfl (Keep.cons rfl (Keep.cons rfl (Keep.cons rfl (Keep.cons rfl (Keep.cons rfl (Keep.cons rfl (Keep.cons rfl (Keep.cons rfl (Keep.cons rfl (Keep.cons rfl (Keep.cons rfl (Keep.cons rfl (Keep.cons rfl (Keep.cons rfl (Keep.cons rfl (Keep.cons rfl (Keep.cons rfl (Keep.cons rfl (Keep.cons rfl (Keep.cons rfl (Keep.cons rfl (Keep.cons rfl (Keep.cons rfl (Keep.cons rfl (Keep.cons rfl (Keep.cons rfl (Keep.cons rfl (Keep.cons rfl (Keep.cons rfl (Keep.cons rfl (Keep.cons rfl (Keep.cons rfl (Keep.cons rfl (Keep.cons rfl (Keep.cons rfl (Keep.cons rfl (Keep.cons rfl (Keep.cons rfl (Keep.cons rfl (Keep.cons rfl (Keep.cons rfl (Keep.cons rfl (Keep.cons rfl (Keep.cons rfl (Keep.cons rfl (Keep.cons rfl (Keep.cons rfl (Keep.cons rfl (Keep.cons rfl (Keep.cons rfl (Keep.cons rfl (Keep.cons rfl (Keep.cons rfl (Keep.cons rfl (Keep.cons rfl (Keep.cons rfl (Keep.cons rfl (Keep.cons rfl (Keep.base))))))))))))))))))))))))))))))))))))))))))))))))))))))))))))))))))))))))))))))))⟩
             · simp only [List.length_append, List.length_singleton]; omega
             · simp only; omega
             · simp only; omega
             · simp only; omega
             · show OwnSl 54 4 (.slice oan (d.l ++ [(Mk.mk l1 h1 l2 h2)]).length can) (d.l ++ [(Mk.mk l1 h1 l2 h2)]).length (encM (d.l ++ [(Mk.mk l1 h1 l2 h2)])) X1n; rw [List.length_append, encM_app]; exact hO1n
             · exact hO2
             · rw [← can_cells (d := { d with l := d.l ++ [(Mk.mk l1 h1 l2 h2)] }) (oa := oan) (ob := ob) (ca := can) (cb := cb) (n := d.l.length + 1) (m := d.r.length) (lo := d.lo) (hi := d.hi) (hid := d.hid) (by simp) (by simp) rfl rfl rfl]; exact hh.less (.cons_cons _ (.cons _ (.cons _ (.refl _)))))
          | (have hmn := (hq2 ▸ hMd.paintR hmb (by omega) (by omega) (by omega) : MadeC { d with r := d.r ++ [(Mk.mk l3 h3 l4 h4)] } (xl, xr ||| q2) z3 (pn + 1) ps sh)
             refine ⟨(tn, pn + 1, xl, xr ||| q2), ⟨⟨ac + 1 + 1 + 1 + 2 + 2 + 2 + 2 + 1, { d with r := d.r ++ [(Mk.mk l3 h3 l4 h4)] }, oa, obn, ca, cbn, ps, sh, X1, X2n, by omega, by omega, by omega, by omega, hmn, hlo, hhi, ?_, ?_, ?_, ?_, ?_, ?_, ?_⟩, hh.less (List.nil_sublist _)⟩, hf.head ⟨rfl, rfl, rfl, rfl, True.intro⟩ (Keep.cons rfl (Keep.cons rfl (Keep.cons rfl (Keep.cons rfl (Keep.cons rfl (Keep.cons rfl (Keep.cons rfl (Keep.cons rfl (Keep.cons rfl (Keep.cons rfl (Keep.cons rfl (Keep.cons rfl (Keep.cons rfl (Keep.cons rfl (Keep.cons rfl (Keep.cons rfl (Keep.cons rfl (Keep.cons rfl (Keep.cons rfl (Keep.cons rfl (Keep.cons rfl (Keep.cons rfl (Keep.cons rfl (Keep.cons rfl (Keep.cons rfl (Keep.cons rfl (Keep.cons rfl (Keep.cons rfl (Keep.cons rfl (Keep.cons rfl (Keep.cons rfl (Keep.cons rfl (Keep.cons rfl (Keep.cons rfl (Keep.cons rfl (Keep.cons rfl (Keep.cons rfl (Keep.cons rfl (Keep.cons rfl (Keep.cons rfl (Keep.cons rfl (Keep.cons rfl (Keep.cons rfl (Keep.cons rfl (Keep.cons rfl (Keep.cons rfl (Keep.cons rfl (Keep.cons rfl (Keep.cons rfl (Keep.cons rfl (Keep.cons rfl (Keep.cons rfl (Keep.cons rfl (Keep.cons rfl (Keep.cons rfl (Keep.cons rfl (Keep.cons rfl (Keep.cons rfl (Keep.cons rfl (Keep.cons rfl (Keep.cons rfl (Keep.cons rfl (Keep.cons rfl (Keep.cons rfl (Keep.cons rfl (Keep.cons rfl (Keep.cons rfl (Keep.cons rfl (Keep.cons rfl (Keep.cons rfl (Keep.cons rfl (Keep.cons rfl (Keep.cons rfl (Keep.cons rfl (Keep.cons rfl (Keep.cons rfl (Keep.cons rfl (Keep.cons rfl (Keep.cons rfl (Keep.base))))))))))))))))))))))))))))))))))))))))))))))))))))))))))))))))))))))))))))))))⟩
             · simp only; omega
             · simp only [List.length_append, List.length_singleton]; omega
             · simp only; omega
             · simp only; omega
             · exact hO1
             · show OwnSl 54 4 (.slice obn (d.r ++ [(Mk.mk l3 h3 l4 h4)]).length cbn) (d.r ++ [(Mk.mk l3 h3 l4 h4)]).length (encM (d.r ++ [(Mk.mk l3 h3 l4 h4)])) X2n; rw [List.length_append, encM_app]; exact hO2n
             · rw [← can_cells (d := { d with r := d.r ++ [(Mk.mk l3 h3 l4 h4)] }) (oa := oa) (ob := obn) (ca := ca) (cb := cbn) (n := d.l.length) (m := d.r.length + 1) (lo := d.lo) (hi := d.hi) (hid := d.hid) (by simp) (by simp) rfl rfl rfl]; exact hh.less (.cons_cons _ (.cons _ (.cons _ (.refl _)))))
          | (have hmn := hMd.hide hma
             refine ⟨(tn, pn, xl, xr), ⟨⟨ac + 1 + 1 + 1 + 2 + 2 + 2 + 2 + 1, { d with l := d.l ++ [(Mk.mk l1 h1 l2 h2)], hid := d.hid + 1 }, oan, ob, can, cb, ps, sh, X1n, X2, by omega, by omega, by omega, by omega, hmn, hlo, hhi, ?_, ?_, ?_, ?_, ?_, ?_, ?_⟩, hh.less (List.nil_sublist _)⟩, hf.head ⟨rfl, rfl, rfl, rfl, True.intro⟩ (Keep.cons rfl (Keep.cons rfl (Keep.cons rfl (Keep.cons rfl (Keep.cons rfl (Keep.cons rfl (Keep.cons rfl (Keep.cons rfl (Keep.cons rfl (Keep.cons rfl (Keep.cons rfl (Keep.cons rfl (Keep.cons rfl (Keep.cons rfl (Keep.cons rfl (Keep.cons rfl (Keep.cons rfl (Keep.cons rfl (Keep.cons rfl (Keep.cons rfl (Keep.cons rfl (Keep.cons rfl (Keep.cons rfl (Keep.cons rfl (Keep.cons rfl (Keep.cons rfl (Keep.cons rfl (Keep.cons rfl (Keep.cons rfl (Keep.cons rfl (Keep.cons rfl (Keep.cons rfl (Keep.cons rfl (Keep.cons rfl (Keep.cons rfl (Keep.cons rfl (Keep.cons rfl (Keep.cons rfl (Keep.cons rfl (Keep.cons rfl (Keep.cons rfl (Keep.cons rfl (Keep.cons rfl (Keep.cons rfl (Keep.cons rfl (Keep.cons rfl (Keep.cons rfl (Keep.cons rfl (Keep.cons rfl (Keep.cons rfl (Keep.cons rfl (Keep.cons rfl (Keep.cons rfl (Keep.cons rfl (Keep.cons rfl (Keep.cons rfl (Keep.cons rfl (Keep.cons rfl (Keep.cons rfl (Keep.cons rfl (Keep.cons rfl (Keep.cons rfl (Keep.cons rfl (Keep.cons rfl (Keep.cons rfl (Keep.cons rfl (Keep.cons rfl (Keep.cons rfl (Keep.cons rfl (Keep.cons rfl (Keep.cons rfl (Keep.cons rfl (Keep.cons rfl (Keep.cons rfl (Keep.cons rfl (Keep.cons rfl (Keep.cons rfl (Keep.cons rfl (Keep.cons rfl (Keep.base))))))))))))))))))))))))))))))))))))))))))))))))))))))))))))))))))))))))))))))))⟩
             · simp only [List.length_append, List.length_singleton]; omega
             · simp only; omega
             · show 0 ≤ d.hid + 1; omega
             · show d.hid + 1 ≤ _; omega
             · show OwnSl 54 4 (.slice oan (d.l ++ [(Mk.mk l1 h1 l2 h2)]).length can) (d.l ++ [(Mk.mk l1 h1 l2 h2)]).length (encM (d.l ++ [(Mk.mk l1 h1 l2 h2)])) X1n; rw [List.length_append, encM_app]; exact hO1n
             · exact hO2
             · rw [← can_cells (d := { d with l := d.l ++ [(Mk.mk l1 h1 l2 h2)], hid := d.hid + 1 }) (oa := oan) (ob := ob) (ca := can) (cb := cb) (n := d.l.length + 1) (m := d.r.length) (lo := d.lo) (hi := d.hi) (hid := d.hid + 1) (by simp) (by simp) rfl rfl rfl]; exact hh.less (.cons_cons _ (.cons _ (.cons _ (.refl _)))))
       ·have hG30 := hg30; try simp only [gS] at hG30
        refine sy_treeC (.p 0 (.p 1 (.p 2 (.p 3 (.p 4 (.q 0 5 (.q 0 6 (.p 9 (.p 10 (.p 11 (.q 0 12 (.q 0 13 (.e2 7 (.e2 8 (.e1 14 (.e1 15 (.p 16 (.p 17 (.e1 18 (.p 19 (.p 20 (.e1 21 (.fin))))))))) 14 (.e1 8 (.e1 15 (.p 16 (.p 17 (.e1 18 (.p 19 (.p 20 (.e1 21 (.fin)))))))))) 14 (.e1 7 (.e1 8 (.e1 15 (.p 16 (.p 17 (.e1 18 (.p 19 (.p 20 (.e1 21 (.fin))))))))))))))))))))))) [[18, 21]] [(AtE u [Bat] [(B2, .cells (canV d 0 oa ob ca cb).cells 31), (B13, .cells (mkV (Mk.mk l1 h1 l2 h2)).cells 54), (B14, .cells (mkV (Mk.mk l3 h3 l4 h4)).cells 54)], [18, 21])] Try.follows (by kernel_rfl) rfl hh (fun w hh => ?_)
        refine mc_p rfl   hf (yv_move rfl) (.inl rfl) rfl rfl ?_; clear hf a; intro a hf
        refine mc_p rfl   hf (yv_move rfl) (.inl rfl) rfl rfl ?_; clear hf a; intro a hf
        refine mc_p rfl   hf (yv_move rfl) (.inl rfl) rfl rfl ?_; clear hf a; intro a hf
        refine mc_p rfl   hf (yv_nilCheck rfl) (.inl rfl) rfl rfl ?_; clear hf a; intro a hf
        refine mc_p rfl   hf (yv_fieldAddr Try.fo_29_0 rfl) (.inl rfl) rfl rfl ?_; clear hf a; intro a hf
        refine mc_q rfl rfl (AtE.mk3 hh.ext (hh.get (B2, .cells (canV d 0 oa ob ca cb).cells 31) (by simp)) (hh.get (B13, .cells (mkV (Mk.mk l1 h1 l2 h2)).cells 54) (by simp)) (hh.get (B14, .cells (mkV (Mk.mk l3 h3 l4 h4)).cells 54) (by simp))) hf (y_ld Try.sc_25 rfl) (.inl rfl) rfl rfl ?_; clear hf a; intro a hf
        refine mc_q rfl rfl (AtE.mk3 hh.ext (hh.get (B2, .cells (canV d 0 oa ob ca cb).cells 31) (by simp)) (hh.get (B13, .cells (mkV (Mk.mk l1 h1 l2 h2)).cells 54) (by simp)) (hh.get (B14, .cells (mkV (Mk.mk l3 h3 l4 h4)).cells 54) (by simp))) hf (y_lds Try.ag_54 rfl) (.inl rfl) rfl rfl ?_; clear hf a; intro a hf
        refine mc_p rfl   hf (yv_move rfl) (.inl rfl) rfl rfl ?_; clear hf a; intro a hf
        refine mc_p rfl   hf (yv_nilCheck rfl) (.inl rfl) rfl rfl ?_; clear hf a; intro a hf
        refine mc_p rfl   hf (yv_fieldAddr Try.fo_29_1 rfl) (.inl rfl) rfl rfl ?_; clear hf a; intro a hf
        refine mc_q rfl rfl (AtE.mk3 hh.ext (hh.get (B2, .cells (canV d 0 oa ob ca cb).cells 31) (by simp)) (hh.get (B13, .cells (mkV (Mk.mk l1 h1 l2 h2)).cells 54) (by simp)) (hh.get (B14, .cells (mkV (Mk.mk l3 h3 l4 h4)).cells 54) (by simp))) hf (y_ld Try.sc_25 rfl) (.inl rfl) rfl rfl ?_; clear hf a; intro a hf
        refine mc_q rfl rfl (AtE.mk3 hh.ext (hh.get (B2, .cells (canV d 0 oa ob ca cb).cells 31) (by simp)) (hh.get (B13, .cells (mkV (Mk.mk l1 h1 l2 h2)).cells 54) (by simp)) (hh.get (B14, .cells (mkV (Mk.mk l3 h3 l4 h4)).cells 54) (by simp))) hf (y_lds Try.ag_54 rfl) (.inl rfl) rfl rfl ?_; clear hf a; intro a hf
        refine ⟨?_, ?_⟩
        ·refine mc_e rfl fun Q1 => ?_
         refine ops_buildSl hf hh Try.bl_25_1 rfl rfl (.inl rfl) rfl ?_; clear hf hh; clear a; intro B89 a w hf hh
         refine ops_end ?_
         refine then_n ⟨⟨fun _ _ => (AtE.mk3 hh.ext (hh.get (B2, .cells (canV d 0 oa ob ca cb).cells 31) (by simp)) (hh.get (B13, .cells (mkV (Mk.mk l1 h1 l2 h2)).cells 54) (by simp)) (hh.get (B14, .cells (mkV (Mk.mk l3 h3 l4 h4)).cells 54) (by simp))), trivial⟩, ?_⟩
         refine ⟨?_, ?_⟩
         ·refine mc_e rfl fun Q1 => ?_
          first
            | (refine ops_append (e := 54) (size := 4) (xs := encM d.l) (X := X1) (Z := _) (m := d.l.length) (q := 1) hf (hh.perm (.cons _ (pull1 (F := [_, _, _, _, _])))) Try.eb_25 rfl rfl hO1 rfl rfl rfl (by simp only [maxLen]; omega) (by omega) (.inl rfl) rfl ?_)
            | (refine ops_append (e := 54) (size := 4) (xs := encM d.l) (X := X1) (Z := _) (m := d.l.length) (q := 1) hf ((hh.perm (.swap _ _ _)).perm (.cons _ (pull1 (F := [_, _, _, _, _, _])))) Try.eb_25 rfl rfl hO1 rfl rfl rfl (by simp only [maxLen]; omega) (by omega) (.inl rfl) rfl ?_)
            | (refine ops_append (e := 54) (size := 4) (xs := encM d.l) (X := X1) (Z := _) (m := d.l.length) (q := 1) hf (hh.perm (.cons _ (pull1 (F := [_, _, _, _, _, _])))) Try.eb_25 rfl rfl hO1 rfl rfl rfl (by simp only [maxLen]; omega) (by omega) (.inl rfl) rfl ?_)
          clear hf hh a; intro v1 X1n a w hO1n hf hh
          first
            | replace hh := hh.perm (pull1 (F := [_, _, _, _, _, _])).symm
            | replace hh := hh.perm (pull1 (F := [_, _, _, _, _])).symm
          obtain ⟨oan, can, rfl⟩ := OwnSl_val hO1n
          refine ops_end ?_
          refine then_n ⟨⟨fun _ _ => (AtE.mk3 hh.ext (hh.get (B2, .cells (canV d 0 oa ob ca cb).cells 31) (by simp)) (hh.get (B13, .cells (mkV (Mk.mk l1 h1 l2 h2)).cells 54) (by simp)) (hh.get (B14, .cells (mkV (Mk.mk l3 h3 l4 h4)).cells 54) (by simp))), trivial⟩, ?_⟩
          refine mc_e rfl fun Q1 => ?_
          refine ops_buildSl hf hh Try.bl_25_1 rfl rfl (.inl rfl) rfl ?_; clear hf hh; clear a; intro B96 a w hf hh
          refine ops_end ?_
          refine then_n ⟨⟨fun _ _ => (AtE.mk3 hh.ext (hh.get (B2, .cells (canV d 0 oa ob ca cb).cells 31) (by simp)) (hh.get (B13, .cells (mkV (Mk.mk l1 h1 l2 h2)).cells 54) (by simp)) (hh.get (B14, .cells (mkV (Mk.mk l3 h3 l4 h4)).cells 54) (by simp))), trivial⟩, ?_⟩
          refine mc_e rfl fun Q1 => ?_
          refine ops_append (e := 54) (size := 4) (xs := encM d.r) (X := X2) (Z := _) (m := d.r.length) (q := 1) hf (hh.perm (.cons _ (pull2e (F := [_, _, _, _, _])))) Try.eb_25 rfl rfl hO2 rfl rfl rfl (by simp only [maxLen]; omega) (by omega) (.inl rfl) rfl ?_
          clear hf hh a; intro v2 X2n a w hO2n hf hh
          replace hh := hh.perm (pull2e (F := [_, _, _, _, _])).symm
          obtain ⟨obn, cbn, rfl⟩ := OwnSl_val hO2n
          refine ops_end ?_
          refine then_n ⟨⟨fun _ _ => (AtE.mk3 hh.ext (hh.get (B2, .cells (canV d 0 oa ob ca cb).cells 31) (by simp)) (hh.get (B13, .cells (mkV (Mk.mk l1 h1 l2 h2)).cells 54) (by simp)) (hh.get (B14, .cells (mkV (Mk.mk l3 h3 l4 h4)).cells 54) (by simp))), trivial⟩, ?_⟩
          refine mc_p rfl   hf (yv_nilCheck rfl) (.inl rfl) rfl rfl ?_; clear hf a; intro a hf
          refine mc_p rfl   hf (yv_fieldAddr Try.fo_29_0 rfl) (.inl rfl) rfl rfl ?_; clear hf a; intro a hf
          refine mc_e rfl fun Q1 => ?_
          refine o_store hf hh Try.sz_25 fun w hh => ?_
          refine ops_end ?_
          refine then_n ⟨⟨fun h => Bool.noConfusion (show true = false from h), trivial⟩, ?_⟩
          refine mc_p rfl   hf (yv_nilCheck rfl) (.inl rfl) rfl rfl ?_; clear hf a; intro a hf
          refine mc_p rfl   hf (yv_fieldAddr Try.fo_29_1 rfl) (.inl rfl) rfl rfl ?_; clear hf a; intro a hf
          refine mc_e rfl fun Q1 => ?_
          refine o_store hf hh Try.sz_25 fun w hh => ?_
          refine ops_end ?_
          refine then_n ⟨⟨fun h => Bool.noConfusion (show true = false from h), trivial⟩, ?_⟩
          refine mc_end ?_
          refine blk_n ?_
          refine blk_n ?_
          refine then_n ?_
          first
            | (have hmn := hMd.pair (z := sf) hma hmb (by simp only; omega) (by simp only; omega) (by simp only; omega) (by simp only; omega) (by omega) (by omega)
               refine ⟨(tn, pn, xl, xr), ⟨⟨ac + 1 + 1 + 1 + 2 + 2 + 2 + 2 + 1, { d with l := d.l ++ [(Mk.mk l1 h1 l2 h2)], r := d.r ++ [(Mk.mk l3 h3 l4 h4)] }, oan, obn, can, cbn, _, _, X1n, X2n, by omega, by omega, by omega, by omega, hmn, hlo, hhi, ?_, ?_, ?_, ?_, ?_, ?_, ?_⟩, hh.less (List.nil_sublist _)⟩, hf.head ⟨rfl, rfl, rfl, rfl, True.intro⟩ (Keep.cons rfl (Keep.cons rfl (Keep.cons rfl (Keep.cons rfl (Keep.cons rfl (Keep.cons rfl (Keep.cons rfl (Keep.cons rfl (Keep.cons rfl (Keep.cons rfl (Keep.cons rfl (Keep.cons rfl (Keep.cons rfl (Keep.cons rfl (Keep.cons rfl (Keep.cons rfl (Keep.cons rfl (Keep.cons rfl (Keep.cons rfl (Keep.cons rfl (Keep.cons rfl (Keep.cons rfl (Keep.cons rfl (Keep.cons rfl (Keep.cons rfl (Keep.cons rfl (Keep.cons rfl (Keep.cons rfl (Keep.cons rfl (Keep.cons rfl (Keep.cons rfl (Keep.cons rfl (Keep.cons rfl (Keep.cons rfl (Keep.cons rfl (Keep.cons rfl (Keep.cons rfl (Keep.cons rfl (Keep.cons rfl (Keep.cons rfl (Keep.cons rfl (Keep.cons rfl (Keep.cons rfl (Keep.cons rfl (Keep.cons rfl (Keep.cons rfl (Keep.cons rfl (Keep.cons rfl (Keep.cons rfl (Keep.cons rfl (Keep.cons rfl (Keep.cons rfl (Keep.cons rfl (Keep.cons rfl (Keep.cons rfl (Keep.cons rfl (Keep.cons rfl (Keep.cons rfl (Keep.cons rfl (Keep.cons rfl (Keep.cons rfl (Keep.cons rfl (Keep.cons rfl (Keep.cons rfl (Keep.cons rfl (Keep.cons rfl (Keep.cons rfl (Keep.cons rfl (Keep.cons rfl (Keep.cons rfl (Keep.cons rfl (Keep.cons rfl (Keep.cons rfl (Keep.cons rfl (Keep.cons rfl (Keep.cons rfl (Keep.cons rfl (Keep.cons rfl (Keep.cons rfl (Keep.cons rfl (Keep.cons rfl (Keep.cons rfl (Keep.base)))))))))))))))))))))))))))))))))))))))))))))))))))))))))))))))))))))))))))))))))))⟩
               · simp only [List.length_append, List.length_singleton]; omega
               · simp only [List.length_append, List.length_singleton]; omega
               · simp only; omega
               · simp only; omega
               · show OwnSl 54 4 (.slice oan (d.l ++ [(Mk.mk l1 h1 l2 h2)]).length can) (d.l ++ [(Mk.mk l1 h1 l2 h2)]).length (encM (d.l ++ [(Mk.mk l1 h1 l2 h2)])) X1n; rw [List.length_append, encM_app]; exact hO1n
               · show OwnSl 54 4 (.slice obn (d.r ++ [(Mk.mk l3 h3 l4 h4)]).length cbn) (d.r ++ [(Mk.mk l3 h3 l4 h4)]).length (encM (d.r ++ [(Mk.mk l3 h3 l4 h4)])) X2n; rw [List.length_append, encM_app]; exact hO2n
               · rw [← can_cells (d := { d with l := d.l ++ [(Mk.mk l1 h1 l2 h2)], r := d.r ++ [(Mk.mk l3 h3 l4 h4)] }) (oa := oan) (ob := obn) (ca := can) (cb := cbn) (n := d.l.length + 1) (m := d.r.length + 1) (lo := d.lo) (hi := d.hi) (hid := d.hid) (by simp) (by simp) rfl rfl rfl]; exact hh.less (.cons_cons _ (.cons _ (.cons _ (.refl _)))))
            | (have hmn := (hq1 ▸ hMd.paintL hma (by omega) (by omega) (by omega) : MadeC { d with l := d.l ++ [(Mk.mk l1 h1 l2 h2)] } (xl ||| q1, xr) z3 (pn + 1) ps sh)
               refine ⟨(tn, pn + 1, xl ||| q1, xr), ⟨⟨ac + 1 + 1 + 1 + 2 + 2 + 2 + 2 + 1, { d with l := d.l ++ [(Mk.mk l1 h1 l2 h2)] }, oan, ob, can, cb, ps, sh, X1n, X2, by omega, by omega, by omega, by omega, hmn, hlo, hhi, ?_, ?_, ?_, ?_, ?_, ?_, ?_⟩, hh.less (List.nil_sublist _)⟩, hf.head ⟨rfl, rfl, rfl, rfl, True.intro⟩ (Keep.cons rfl (Keep.cons rfl (Keep.cons rfl (Keep.cons rfl (Keep.cons rfl (Keep.cons rfl (Keep.cons rfl (Keep.cons rfl (Keep.cons rfl (Keep.cons rfl (Keep.cons rfl (Keep.cons rfl (Keep.cons rfl (Keep.cons rfl (Keep.cons rfl (Keep.cons rfl (Keep.cons rfl (Keep.cons rfl (Keep.cons rfl (Keep.cons rfl (Keep.cons rfl (Keep.cons rfl (Keep.cons rfl (Keep.cons rfl (Keep.cons rfl (Keep.cons rfl (Keep.cons rfl (Keep.cons rfl (Keep.cons rfl (Keep.cons rfl (Keep.cons rfl (Keep.cons rfl (Keep.cons rfl (Keep.cons rfl (Keep.cons rfl (Keep.cons rfl (Keep.cons rfl (Keep.cons rfl (Keep.cons rfl (Keep.cons rfl (Keep.cons rfl (Keep.cons rfl (Keep.cons rfl (Keep.cons rfl (Keep.cons rfl (Keep.cons rfl (Keep.cons rfl (Keep.cons rfl (Keep.cons rfl (Keep.cons rfl (Keep.cons rfl (Keep.cons rfl (Keep.cons rfl (Keep.cons rfl (Keep.cons rfl (Keep.cons rfl (Keep.cons rfl (Keep.cons rfl (Keep.cons rfl (Keep.cons rfl (Keep.cons rfl (Keep.cons rfl (Keep.cons rfl (Keep.cons rfl (Keep.cons rfl (Keep.cons rfl (Keep.cons rfl (Keep.cons rfl (Keep.cons rfl (Keep.cons rfl (Keep.cons rfl (Keep.cons rfl (Keep.cons rfl (Keep.cons rfl (Keep.cons rfl (Keep.cons rfl (Keep.cons rfl (Keep.cons rfl (Keep.cons rfl (Keep.cons rfl (Keep.cons rfl (Keep.cons rfl (Keep.base)))))))))))))))))))))))))))))))))))))))))))))))))))))))))))))))))))))))))))))))))))⟩
               · simp only [List.length_append, List.length_singleton]; omega
               · simp only; omega
               · simp only; omega
               · simp only; omega
               · show OwnSl 54 4 (.slice oan (d.l ++ [(Mk.mk l1 h1 l2 h2)]).length can) (d.l ++ [(Mk.mk l1 h1 l2 h2)]).length (encM (d.l ++ [(Mk.mk l1 h1 l2 h2)])) X1n; rw [List.length_append, encM_app]; exact hO1n
               · exact hO2
               · rw [← can_cells (d := { d with l := d.l ++ [(Mk.mk l1 h1 l2 h2)] }) (oa := oan) (ob := ob) (ca := can) (cb := cb) (n := d.l.length + 1) (m := d.r.length) (lo := d.lo) (hi := d.hi) (hid := d.hid) (by simp) (by simp) rfl rfl rfl]; exact hh.less (.cons_cons _ (.cons _ (.cons _ (.refl _)))))
            | (have hmn := (hq2 ▸ hMd.paintR hmb (by omega) (by omega) (by omega) : MadeC { d with r := d.r ++ [(Mk.mk l3 h3 l4 h4)] } (xl, xr ||| q2) z3 (pn + 1) ps sh)
               refine ⟨(tn, pn + 1, xl, xr ||| q2), ⟨⟨ac + 1 + 1 + 1 + 2 + 2 + 2 + 2 + 1, { d with r := d.r ++ [(Mk.mk l3 h3 l4 h4)] }, oa, obn, ca, cbn, ps, sh, X1, X2n, by omega, by omega, by omega, by omega, hmn, hlo, hhi, ?_, ?_, ?_, ?_, ?_, ?_, ?_⟩, hh.less (List.nil_sublist _)⟩, hf.head ⟨rfl, rfl, rfl, rfl, True.intro⟩ (Keep.cons rfl (Keep.cons rfl (Keep.cons rfl (Keep.cons rfl (Keep.cons rfl (Keep.cons rfl (Keep.cons rfl (Keep.cons rfl (Keep.cons rfl (Keep.cons rfl (Keep.cons rfl (Keep.cons rfl (Keep.cons rfl (Keep.cons rfl (Keep.cons rfl (Keep.cons rfl (Keep.cons rfl (Keep.cons rfl (Keep.cons rfl (Keep.cons rfl (Keep.cons rfl (Keep.cons rfl (Keep.cons rfl (Keep.cons rfl (Keep.cons rfl (Keep.cons rfl (Keep.cons rfl (Keep.cons rfl (Keep.cons rfl (Keep.cons rfl (Keep.cons rfl (Keep.cons rfl (Keep.cons rfl (Keep.cons rfl (Keep.cons rfl (Keep.cons rfl (Keep.cons rfl (Keep.cons rfl (Keep.cons rfl (Keep.cons rfl (Keep.cons rfl (Keep.cons rfl (Keep.cons rfl (Keep.cons rfl (Keep.cons rfl (Keep.cons rfl (Keep.cons rfl (Keep.cons rfl (Keep.cons rfl (Keep.cons rfl (Keep.cons rfl (Keep.cons rfl (Keep.cons rfl (Keep.cons rfl (Keep.cons rfl (Keep.cons rfl (Keep.cons rfl (Keep.cons rfl (Keep.cons rfl (Keep.cons rfl (Keep.cons rfl (Keep.cons rfl (Keep.cons rfl (Keep.cons rfl (Keep.cons rfl (Keep.cons rfl (Keep.cons rfl (Keep.cons rfl (Keep.cons rfl (Keep.cons rfl (Keep.cons rfl (Keep.cons rfl (Keep.cons rfl (Keep.cons rfl (Keep.cons rfl (Keep.cons rfl (Keep.cons rfl (Keep.cons rfl (Keep.cons rfl (Keep.cons rfl (Keep.cons rfl (Keep.cons rfl (Keep.base)))))))))))))))))))))))))))))))))))))))))))))))))))))))))))))))))))))))))))))))))))⟩
               · simp only; omega
               · simp only [List.length_append, List.length_singleton]; omega
               · simp only; omega
               · simp only; omega
               · exact hO1
               · show OwnSl 54 4 (.slice obn (d.r ++ [(Mk.mk l3 h3 l4 h4)]).length cbn) (d.r ++ [(Mk.mk l3 h3 l4 h4)]).length (encM (d.r ++ [(Mk.mk l3 h3 l4 h4)])) X2n; rw [List.length_append, encM_app]; exact hO2n
               · rw [← can_cells (d := { d with r := d.r ++ [(Mk.mk l3 h3 l4 h4)] }) (oa := oa) (ob := obn) (ca := ca) (cb := cbn) (n := d.l.length) (m := d.r.length + 1) (lo := d.lo) (hi := d.hi) (hid := d.hid) (by simp) (by simp) rfl rfl rfl]; exact hh.less (.cons_cons _ (.cons _ (.cons _ (.refl _)))))
            | (have hmn := hMd.hide hma
               refine ⟨(tn, pn, xl, xr), ⟨⟨ac + 1 + 1 + 1 + 2 + 2 + 2 + 2 + 1, { d with l := d.l ++ [(Mk.mk l1 h1 l2 h2)], hid := d.hid + 1 }, oan, ob, can, cb, ps, sh, X1n, X2, by omega, by omega, by omega, by omega, hmn, hlo, hhi, ?_, ?_, ?_, ?_, ?_, ?_, ?_⟩, hh.less (List.nil_sublist _)⟩, hf.head ⟨rfl, rfl, rfl, rfl, True.intro⟩ (Keep.cons rfl (Keep.cons rfl (Keep.cons rfl (Keep.cons rfl (Keep.cons rfl (Keep.cons rfl (Keep.cons rfl (Keep.cons rfl (Keep.cons rfl (Keep.cons rfl (Keep.cons rfl (Keep.cons rfl (Keep.cons rfl (Keep.cons rfl (Keep.cons rfl (Keep.cons rfl (Keep.cons rfl (Keep.cons rfl (Keep.cons rfl (Keep.cons rfl (Keep.cons rfl (Keep.cons rfl (Keep.cons rfl (Keep.cons rfl (Keep.cons rfl (Keep.cons rfl (Keep.cons rfl (Keep.cons rfl (Keep.cons rfl (Keep.cons rfl (Keep.cons rfl (Keep.cons rfl (Keep.cons rfl (Keep.cons rfl (Keep.cons rfl (Keep.cons rfl (Keep.cons rfl (Keep.cons rfl (Keep.cons rfl (Keep.cons rfl (Keep.cons rfl (Keep.cons rfl (Keep.cons rfl (Keep.cons rfl (Keep.cons rfl (Keep.cons rfl (Keep.cons rfl (Keep.cons rfl (Keep.cons rfl (Keep.cons rfl (Keep.cons rfl (Keep.cons rfl (Keep.cons rfl (Keep.cons rfl (Keep.cons rfl (Keep.cons rfl (Keep.cons rfl (Keep.cons rfl (Keep.cons rfl (Keep.cons rfl (Keep.cons rfl (Keep.cons rfl (Keep.cons rfl (Keep.cons rfl (Keep.cons rfl (Keep.cons rfl (Keep.cons rfl (Keep.cons rfl (Keep.cons rfl (Keep.cons rfl (Keep.cons rfl (Keep.cons rfl (Keep.cons rfl (Keep.cons rfl (Keep.cons rfl (Keep.cons rfl (Keep.cons rfl (Keep.cons rfl (Keep.cons rfl (Keep.cons rfl (Keep.cons rfl (Keep.cons rfl (Keep.base)))))))))))))))))))))))))))))))))))))))))))))))))))))))))))))))))))))))))))))))))))⟩
               · simp only [List.length_append, List.length_singleton]; omega
               · simp only; omega
               · show 0 ≤ d.hid + 1; omega
               · show d.hid + 1 ≤ _; omega
               · show OwnSl 54 4 (.slice oan (d.l ++ [(Mk.mk l1 h1 l2 h2)]).length can) (d.l ++ [(Mk.mk l1 h1 l2 h2)]).length (encM (d.l ++ [(Mk.mk l1 h1 l2 h2)])) X1n; rw [List.length_append, encM_app]; exact hO1n
               · exact hO2
               · rw [← can_cells (d := { d with l := d.l ++ [(Mk.mk l1 h1 l2 h2)], hid := d.hid + 1 }) (oa := oan) (ob := ob) (ca := can) (cb := cb) (n := d.l.length + 1) (m := d.r.length) (lo := d.lo) (hi := d.hi) (hid := d.hid + 1) (by simp) (by simp) rfl rfl rfl]; exact hh.less (.cons_cons _ (.cons _ (.cons _ (.refl _)))))
         ·refine mc_e rfl fun Q1 => ?_
          refine ops_buildSl hf hh Try.bl_25_1 rfl rfl (.inl rfl) rfl ?_; clear hf hh; clear a; intro B96 a w hf hh
          refine ops_end ?_
          refine then_n ⟨⟨fun _ _ => (AtE.mk3 hh.ext (hh.get (B2, .cells (canV d 0 oa ob ca cb).cells 31) (by simp)) (hh.get (B13, .cells (mkV (Mk.mk l1 h1 l2 h2)).cells 54) (by simp)) (hh.get (B14, .cells (mkV (Mk.mk l3 h3 l4 h4)).cells 54) (by simp))), trivial⟩, ?_⟩
          refine mc_e rfl fun Q1 => ?_
          first
            | (refine ops_append (e := 54) (size := 4) (xs := encM d.l) (X := X1) (Z := _) (m := d.l.length) (q := 1) hf (hh.perm (.cons _ (pull1 (F := [_, _, _, _, _])))) Try.eb_25 rfl rfl hO1 rfl rfl rfl (by simp only [maxLen]; omega) (by omega) (.inl rfl) rfl ?_)
            | (refine ops_append (e := 54) (size := 4) (xs := encM d.l) (X := X1) (Z := _) (m := d.l.length) (q := 1) hf ((hh.perm (.swap _ _ _)).perm (.cons _ (pull1 (F := [_, _, _, _, _, _])))) Try.eb_25 rfl rfl hO1 rfl rfl rfl (by simp only [maxLen]; omega) (by omega) (.inl rfl) rfl ?_)
            | (refine ops_append (e := 54) (size := 4) (xs := encM d.l) (X := X1) (Z := _) (m := d.l.length) (q := 1) hf (hh.perm (.cons _ (pull1 (F := [_, _, _, _, _, _])))) Try.eb_25 rfl rfl hO1 rfl rfl rfl (by simp only [maxLen]; omega) (by omega) (.inl rfl) rfl ?_)
          clear hf hh a; intro v1 X1n a w hO1n hf hh
          first
            | replace hh := hh.perm (pull1 (F := [_, _, _, _, _, _])).symm
            | replace hh := hh.perm (pull1 (F := [_, _, _, _, _])).symm
          obtain ⟨oan, can, rfl⟩ := OwnSl_val hO1n
          refine ops_end ?_
          refine then_n ⟨⟨fun _ _ => (AtE.mk3 hh.ext (hh.get (B2, .cells (canV d 0 oa ob ca cb).cells 31) (by simp)) (hh.get (B13, .cells (mkV (Mk.mk l1 h1 l2 h2)).cells 54) (by simp)) (hh.get (B14, .cells (mkV (Mk.mk l3 h3 l4 h4)).cells 54) (by simp))), trivial⟩, ?_⟩
          refine mc_e rfl fun Q1 => ?_
          refine ops_append (e := 54) (size := 4) (xs := encM d.r) (X := X2) (Z := _) (m := d.r.length) (q := 1) hf (hh.perm (.cons _ (pull2e (F := [_, _, _, _, _])))) Try.eb_25 rfl rfl hO2 rfl rfl rfl (by simp only [maxLen]; omega) (by omega) (.inl rfl) rfl ?_
          clear hf hh a; intro v2 X2n a w hO2n hf hh
          replace hh := hh.perm (pull2e (F := [_, _, _, _, _])).symm
          obtain ⟨obn, cbn, rfl⟩ := OwnSl_val hO2n
          refine ops_end ?_
          refine then_n ⟨⟨fun _ _ => (AtE.mk3 hh.ext (hh.get (B2, .cells (canV d 0 oa ob ca cb).cells 31) (by simp)) (hh.get (B13, .cells (mkV (Mk.mk l1 h1 l2 h2)).cells 54) (by simp)) (hh.get (B14, .cells (mkV (Mk.mk l3 h3 l4 h4)).cells 54) (by simp))), trivial⟩, ?_⟩
          refine mc_p rfl   hf (yv_nilCheck rfl) (.inl rfl) rfl rfl ?_; clear hf a; intro a hf
          refine mc_p rfl   hf (yv_fieldAddr Try.fo_29_0 rfl) (.inl rfl) rfl rfl ?_; clear hf a; intro a hf
          refine mc_e rfl fun Q1 => ?_
          refine o_store hf hh Try.sz_25 fun w hh => ?_
          refine ops_end ?_
          refine then_n ⟨⟨fun h => Bool.noConfusion (show true = false from h), trivial⟩, ?_⟩
          refine mc_p rfl   hf (yv_nilCheck rfl) (.inl rfl) rfl rfl ?_; clear hf a; intro a hf
          refine mc_p rfl   hf (yv_fieldAddr Try.fo_29_1 rfl) (.inl rfl) rfl rfl ?_; clear hf a; intro a hf
          refine mc_e rfl fun Q1 => ?_
          refine o_store hf hh Try.sz_25 fun w hh => ?_
          refine ops_end ?_
          refine then_n ⟨⟨fun h => Bool.noConfusion (show true = false from h), trivial⟩, ?_⟩
          refine mc_end ?_
          refine blk_n ?_
          refine blk_n ?_
          refine then_n ?_
          first
            | (have hmn := hMd.pair (z := sf) hma hmb (by simp only; omega) (by simp only; omega) (by simp only; omega) (by simp only; omega) (by omega) (by omega)
               refine ⟨(tn, pn, xl, xr), ⟨⟨ac + 1 + 1 + 1 + 2 + 2 + 2 + 2 + 1, { d with l := d.l ++ [(Mk.mk l1 h1 l2 h2)], r := d.r ++ [(Mk.mk l3 h3 l4 h4)] }, oan, obn, can, cbn, _, _, X1n, X2n, by omega, by omega, by omega, by omega, hmn, hlo, hhi, ?_, ?_, ?_, ?_, ?_, ?_, ?_⟩, hh.less (List.nil_sublist _)⟩, hf.head ⟨rfl, rfl, rfl, rfl, True.intro⟩ (Keep.cons rfl (Keep.cons rfl (Keep.cons rfl (Keep.cons rfl (Keep.cons rfl (Keep.cons rfl (Keep.cons rfl (Keep.cons rfl (Keep.cons rfl (Keep.cons rfl (Keep.cons rfl (Keep.cons rfl (Keep.cons rfl (Keep.cons rfl (Keep.cons rfl (Keep.cons rfl (Keep.cons rfl (Keep.cons rfl (Keep.cons rfl (Keep.cons rfl (Keep.cons rfl (Keep.cons rfl (Keep.cons rfl (Keep.cons rfl (Keep.cons rfl (Keep.cons rfl (Keep.cons rfl (Keep.cons rfl (Keep.cons rfl (Keep.cons rfl (Keep.cons rfl (Keep.cons rfl (Keep.cons rfl (Keep.cons rfl (Keep.cons rfl (Keep.cons rfl (Keep.cons rfl (Keep.cons rfl (Keep.cons rfl (Keep.cons rfl (Keep.cons rfl (Keep.cons rfl (Keep.cons rfl (Keep.cons rfl (Keep.cons rfl (Keep.cons rfl (Keep.cons rfl (Keep.cons rfl (Keep.cons rfl (Keep.cons rfl (Keep.cons rfl (Keep.cons rfl (Keep.cons rfl (Keep.cons rfl (Keep.cons rfl (Keep.cons rfl (Keep.cons rfl (Keep.cons rfl (Keep.cons rfl (Keep.cons rfl (Keep.cons rfl (Keep.cons rfl (Keep.cons rfl (Keep.cons rfl (Keep.cons rfl (Keep.cons rfl (Keep.cons rfl (Keep.cons rfl (Keep.cons rfl (Keep.cons rfl (Keep.cons rfl (Keep.cons rfl (Keep.cons rfl (Keep.cons rfl (Keep.cons rfl (Keep.cons rfl (Keep.cons rfl (Keep.cons rfl (Keep.cons rfl (Keep.cons rfl (Keep.cons rfl (Keep.cons rfl (Keep.base)))))))))))))))))))))))))))))))))))))))))))))))))))))))))))))))))))))))))))))))))))⟩
               · simp only [List.length_append, List.length_singleton]; omega
               · simp only [List.length_append, List.length_singleton]; omega
               · simp only; omega
               · simp only; omega
               · show OwnSl 54 4 (.slice oan (d.l ++ [(Mk.mk l1 h1 l2 h2)]).length can) (d.l ++ [(Mk.mk l1 h1 l2 h2)]).length (encM (d.l ++ [(Mk.mk l1 h1 l2 h2)])) X1n; rw [List.length_append, encM_app]; exact hO1n
               · show OwnSl 54 4 (.slice obn (d.r ++ [(Mk.mk l3 h3 l4 h4)]).length cbn) (d.r ++ [(Mk.mk l3 h3 l4 h4)]).length (encM (d.r ++ [(Mk.mk l3 h3 l4 h4)])) X2n; rw [List.length_append, encM_app]; exact hO2n
               · rw [← can_cells (d := { d with l := d.l ++ [(Mk.mk l1 h1 l2 h2)], r := d.r ++ [(Mk.mk l3 h3 l4 h4)] }) (oa := oan) (ob := obn) (ca := can) (cb := cbn) (n := d.l.length + 1) (m := d.r.length + 1) (lo := d.lo) (hi := d.hi) (hid := d.hid) (by simp) (by simp) rfl rfl rfl]; exact hh.less (.cons_cons _ (.cons _ (.cons _ (.refl _)))))
            | (have hmn := (hq1 ▸ hMd.paintL hma (by omega) (by omega) (by omega) : MadeC { d with l := d.l ++ [(Mk.mk l1 h1 l2 h2)] } (xl ||| q1, xr) z3 (pn + 1) ps sh)
               refine ⟨(tn, pn + 1, xl ||| q1, xr), ⟨⟨ac + 1 + 1 + 1 + 2 + 2 + 2 + 2 + 1, { d with l := d.l ++ [(Mk.mk l1 h1 l2 h2)] }, oan, ob, can, cb, ps, sh, X1n, X2, by omega, by omega, by omega, by omega, hmn, hlo, hhi, ?_, ?_, ?_, ?_, ?_, ?_, ?_⟩, hh.less (List.nil_sublist _)⟩, hf.head ⟨rfl, rfl, rfl, rfl, True.intro⟩ (Keep.cons rfl (Keep.cons rfl (Keep.cons rfl (Keep.cons rfl (Keep.cons rfl (Keep.cons rfl (Keep.cons rfl (Keep.cons rfl (Keep.cons rfl (Keep.cons rfl (Keep.cons rfl (Keep.cons rfl (Keep.cons rfl (Keep.cons rfl (Keep.cons rfl (Keep.cons rfl (Keep.cons rfl (Keep.cons rfl (Keep.cons rfl (Keep.cons rfl (Keep.cons rfl (Keep.cons rfl (Keep.cons rfl (Keep.cons rfl (Keep.cons rfl (Keep.cons rfl (Keep.cons rfl (Keep.cons rfl (Keep.cons rfl (Keep.cons rfl (Keep.cons rfl (Keep.cons rfl (Keep.cons rfl (Keep.cons rfl (Keep.cons rfl (Keep.cons rfl (Keep.cons rfl (Keep.cons rfl (Keep.cons rfl (Keep.cons rfl (Keep.cons rfl (Keep.cons rfl (Keep.cons rfl (Keep.cons rfl (Keep.cons rfl (Keep.cons rfl (Keep.cons rfl (Keep.cons rfl (Keep.cons rfl (Keep.cons rfl (Keep.cons rfl (Keep.cons rfl (Keep.cons rfl (Keep.cons rfl (Keep.cons rfl (Keep.cons rfl (Keep.cons rfl (Keep.cons rfl (Keep.cons rfl (Keep.cons rfl (Keep.cons rfl (Keep.cons rfl (Keep.cons rfl (Keep.cons rfl (Keep.cons rfl (Keep.cons rfl (Keep.cons rfl (Keep.cons rfl (Keep.cons rfl (Keep.cons rfl (Keep.cons rfl (Keep.cons rfl (Keep.cons rfl (Keep.cons rfl (Keep.cons rfl (Keep.cons rfl (Keep.cons rfl (Keep.cons rfl (Keep.cons rfl (Keep.cons rfl (Keep.cons rfl (Keep.cons rfl (Keep.base)))))))))))))))))))))))))))))))))))))))))))))))))))))))))))))))))))))))))))))))))))⟩
               · simp only [List.length_append, List.length_singleton]; omega
               · simp only; omega
               · simp only; omega
               · simp only; omega
               · show OwnSl 54 4 (.slice oan (d.l ++ [(Mk.mk l1 h1 l2 h2)]).length can) (d.l ++ [(Mk.mk l1 h1 l2 h2)]).length (encM (d.l ++ [(Mk.mk l1 h1 l2 h2)])) X1n; rw [List.length_append, encM_app]; exact hO1n
               · exact hO2
               · rw [← can_cells (d := { d with l := d.l ++ [(Mk.mk l1 h1 l2 h2)] }) (oa := oan) (ob := ob) (ca := can) (cb := cb) (n := d.l.length + 1) (m := d.r.length) (lo := d.lo) (hi := d.hi) (hid := d.hid) (by simp) (by simp) rfl rfl rfl]; exact hh.less (.cons_cons _ (.cons _ (.cons _ (.refl _)))))
            | (have hmn := (hq2 ▸ hMd.paintR hmb (by omega) (by omega) (by omega) : MadeC { d with r := d.r ++ [(Mk.mk l3 h3 l4 h4)] } (xl, xr ||| q2) z3 (pn + 1) ps sh)
               refine ⟨(tn, pn + 1, xl, xr ||| q2), ⟨⟨ac + 1 + 1 + 1 + 2 + 2 + 2 + 2 + 1, { d with r := d.r ++ [(Mk.mk l3 h3 l4 h4)] }, oa, obn, ca, cbn, ps, sh, X1, X2n, by omega, by omega, by omega, by omega, hmn, hlo, hhi, ?_, ?_, ?_, ?_, ?_, ?_, ?_⟩, hh.less (List.nil_sublist _)⟩, hf.head ⟨rfl, rfl, rfl, rfl, True.intro⟩ (Keep.cons rfl (Keep.cons rfl (Keep.cons rfl (Keep.cons rfl (Keep.cons rfl (Keep.cons rfl (Keep.cons rfl (Keep.cons rfl (Keep.cons rfl (Keep.cons rfl (Keep.cons rfl (Keep.cons rfl (Keep.cons rfl (Keep.cons rfl (Keep.cons rfl (Keep.cons rfl (Keep.cons rfl (Keep.cons rfl (Keep.cons rfl (Keep.cons rfl (Keep.cons rfl (Keep.cons rfl (Keep.cons rfl (Keep.cons rfl (Keep.cons rfl (Keep.cons rfl (Keep.cons rfl (Keep.cons rfl (Keep.cons rfl (Keep.cons rfl (Keep.cons rfl (Keep.cons rfl (Keep.cons rfl (Keep.cons rfl (Keep.cons rfl (Keep.cons rfl (Keep.cons rfl (Keep.cons rfl (Keep.cons rfl (Keep.cons rfl (Keep.cons rfl (Keep.cons rfl (Keep.cons rfl (Keep.cons rfl (Keep.cons rfl (Keep.cons rfl (Keep.cons rfl (Keep.cons rfl (Keep.cons rfl (Keep.cons rfl (Keep.cons rfl (Keep.cons rfl (Keep.cons rfl (Keep.cons rfl (Keep.cons rfl (Keep.cons rfl (Keep.cons rfl (Keep.cons rfl (Keep.cons rfl (Keep.cons rfl (Keep.cons rfl (Keep.cons rfl (Keep.cons rfl (Keep.cons rfl (Keep.cons rfl (Keep.cons rfl (Keep.cons rfl (Keep.cons rfl (Keep.cons rfl (Keep.cons rfl (Keep.cons rfl (Keep.cons rfl (Keep.cons rfl (Keep.cons rfl (Keep.cons rfl (Keep.cons rfl (Keep.cons rfl (Keep.cons rfl (Keep.cons rfl (Keep.cons rfl (Keep.cons rfl (Keep.cons rfl (Keep.base)))))))))))))))))))))))))))))))))))))))))))))))))))))))))))))))))))))))))))))))))))⟩
               · simp only; omega
               · simp only [List.length_append, List.length_singleton]; omega
               · simp only; omega
               · simp only; omega
               · exact hO1
               · show OwnSl 54 4 (.slice obn (d.r ++ [(Mk.mk l3 h3 l4 h4)]).length cbn) (d.r ++ [(Mk.mk l3 h3 l4 h4)]).length (encM (d.r ++ [(Mk.mk l3 h3 l4 h4)])) X2n; rw [List.length_append, encM_app]; exact hO2n
               · rw [← can_cells (d := { d with r := d.r ++ [(Mk.mk l3 h3 l4 h4)] }) (oa := oa) (ob := obn) (ca := ca) (cb := cbn) (n := d.l.length) (m := d.r.length + 1) (lo := d.lo) (hi := d.hi) (hid := d.hid) (by simp) (by simp) rfl rfl rfl]; exact hh.less (.cons_cons _ (.cons _ (.cons _ (.refl _)))))
            | (have hmn := hMd.hide hma
               refine ⟨(tn, pn, xl, xr), ⟨⟨ac + 1 + 1 + 1 + 2 + 2 + 2 + 2 + 1, { d with l := d.l ++ [(Mk.mk l1 h1 l2 h2)], hid := d.hid + 1 }, oan, ob, can, cb, ps, sh, X1n, X2, by omega, by omega, by omega, by omega, hmn, hlo, hhi, ?_, ?_, ?_, ?_, ?_, ?_, ?_⟩, hh.less (List.nil_sublist _)⟩, hf.head ⟨rfl, rfl, rfl, rfl, True.intro⟩ (Keep.cons rfl (Keep.cons rfl (Keep.cons rfl (Keep.cons rfl (Keep.cons rfl (Keep.cons rfl (Keep.cons rfl (Keep.cons rfl (Keep.cons rfl (Keep.cons rfl (Keep.cons rfl (Keep.cons rfl (Keep.cons rfl (Keep.cons rfl (Keep.cons rfl (Keep.cons rfl (Keep.cons rfl (Keep.cons rfl (Keep.cons rfl (Keep.cons rfl (Keep.cons rfl (Keep.cons rfl (Keep.cons rfl (Keep.cons rfl (Keep.cons rfl (Keep.cons rfl (Keep.cons rfl (Keep.cons rfl (Keep.cons rfl (Keep.cons rfl (Keep.cons rfl (Keep.cons rfl (Keep.cons rfl (Keep.cons rfl (Keep.cons rfl (Keep.cons rfl (Keep.cons rfl (Keep.cons rfl (Keep.cons rfl (Keep.cons rfl (Keep.cons rfl (Keep.cons rfl (Keep.cons rfl (Keep.cons rfl (Keep.cons rfl (Keep.cons rfl (Keep.cons rfl (Keep.cons rfl (Keep.cons rfl (Keep.cons rfl (Keep.cons rfl (Keep.cons rfl (Keep.cons rfl (Keep.cons rfl (Keep.cons rfl (Keep.cons rfl (Keep.cons rfl (Keep.cons rfl (Keep.cons rfl (Keep.cons rfl (Keep.cons rfl (Keep.cons rfl (Keep.cons rfl (Keep.cons rfl (Keep.cons rfl (Keep.cons rfl (Keep.cons rfl (Keep.cons rfl (Keep.cons rfl (Keep.cons rfl (Keep.cons rfl (Keep.cons rfl (Keep.cons rfl (Keep.cons rfl (Keep.cons rfl (Keep.cons rfl (Keep.cons rfl (Keep.cons rfl (Keep.cons rfl (Keep.cons rfl (Keep.cons rfl (Keep.cons rfl (Keep.base)))))))))))))))))))))))))))))))))))))))))))))))))))))))))))))))))))))))))))))))))))⟩
               · simp only [List.length_append, List.length_singleton]; omega
               · simp only; omega
               · show 0 ≤ d.hid + 1; omega
               · show d.hid + 1 ≤ _; omega
               · show OwnSl 54 4 (.slice oan (d.l ++ [(Mk.mk l1 h1 l2 h2)]).length can) (d.l ++ [(Mk.mk l1 h1 l2 h2)]).length (encM (d.l ++ [(Mk.mk l1 h1 l2 h2)])) X1n; rw [List.length_append, encM_app]; exact hO1n
               · exact hO2
               · rw [← can_cells (d := { d with l := d.l ++ [(Mk.mk l1 h1 l2 h2)], hid := d.hid + 1 }) (oa := oan) (ob := ob) (ca := can) (cb := cb) (n := d.l.length + 1) (m := d.r.length) (lo := d.lo) (hi := d.hi) (hid := d.hid + 1) (by simp) (by simp) rfl rfl rfl]; exact hh.less (.cons_cons _ (.cons _ (.cons _ (.refl _)))))
        ·refine mc_e rfl fun Q1 => ?_
         refine ops_buildSl hf hh Try.bl_25_1 rfl rfl (.inl rfl) rfl ?_; clear hf hh; clear a; intro B96 a w hf hh
         refine ops_end ?_
         refine then_n ⟨⟨fun _ _ => (AtE.mk3 hh.ext (hh.get (B2, .cells (canV d 0 oa ob ca cb).cells 31) (by simp)) (hh.get (B13, .cells (mkV (Mk.mk l1 h1 l2 h2)).cells 54) (by simp)) (hh.get (B14, .cells (mkV (Mk.mk l3 h3 l4 h4)).cells 54) (by simp))), trivial⟩, ?_⟩
         refine mc_e rfl fun Q1 => ?_
         refine ops_buildSl hf hh Try.bl_25_1 rfl rfl (.inl rfl) rfl ?_; clear hf hh; clear a; intro B89 a w hf hh
         refine ops_end ?_
         refine then_n ⟨⟨fun _ _ => (AtE.mk3 hh.ext (hh.get (B2, .cells (canV d 0 oa ob ca cb).cells 31) (by simp)) (hh.get (B13, .cells (mkV (Mk.mk l1 h1 l2 h2)).cells 54) (by simp)) (hh.get (B14, .cells (mkV (Mk.mk l3 h3 l4 h4)).cells 54) (by simp))), trivial⟩, ?_⟩
         refine mc_e rfl fun Q1 => ?_
         first
           | (refine ops_append (e := 54) (size := 4) (xs := encM d.l) (X := X1) (Z := _) (m := d.l.length) (q := 1) hf (hh.perm (.cons _ (pull1 (F := [_, _, _, _, _])))) Try.eb_25 rfl rfl hO1 rfl rfl rfl (by simp only [maxLen]; omega) (by omega) (.inl rfl) rfl ?_)
           | (refine ops_append (e := 54) (size := 4) (xs := encM d.l) (X := X1) (Z := _) (m := d.l.length) (q := 1) hf ((hh.perm (.swap _ _ _)).perm (.cons _ (pull1 (F := [_, _, _, _, _, _])))) Try.eb_25 rfl rfl hO1 rfl rfl rfl (by simp only [maxLen]; omega) (by omega) (.inl rfl) rfl ?_)
           | (refine ops_append (e := 54) (size := 4) (xs := encM d.l) (X := X1) (Z := _) (m := d.l.length) (q := 1) hf (hh.perm (.cons _ (pull1 (F := [_, _, _, _, _, _])))) Try.eb_25 rfl rfl hO1 rfl rfl rfl (by simp only [maxLen]; omega) (by omega) (.inl rfl) rfl ?_)
         clear hf hh a; intro v1 X1n a w hO1n hf hh
         first
           | replace hh := hh.perm (pull1 (F := [_, _, _, _, _, _])).symm
           | replace hh := hh.perm (pull1 (F := [_, _, _, _, _])).symm
         obtain ⟨oan, can, rfl⟩ := OwnSl_val hO1n
         refine ops_end ?_
         refine then_n ⟨⟨fun _ _ => (AtE.mk3 hh.ext (hh.get (B2, .cells (canV d 0 oa ob ca cb).cells 31) (by simp)) (hh.get (B13, .cells (mkV (Mk.mk l1 h1 l2 h2)).cells 54) (by simp)) (hh.get (B14, .cells (mkV (Mk.mk l3 h3 l4 h4)).cells 54) (by simp))), trivial⟩, ?_⟩
         refine mc_e rfl fun Q1 => ?_
         refine ops_append (e := 54) (size := 4) (xs := encM d.r) (X := X2) (Z := _) (m := d.r.length) (q := 1) hf (hh.perm (.cons _ (pull2e (F := [_, _, _, _, _])))) Try.eb_25 rfl rfl hO2 rfl rfl rfl (by simp only [maxLen]; omega) (by omega) (.inl rfl) rfl ?_
         clear hf hh a; intro v2 X2n a w hO2n hf hh
         replace hh := hh.perm (pull2e (F := [_, _, _, _, _])).symm
         obtain ⟨obn, cbn, rfl⟩ := OwnSl_val hO2n
         refine ops_end ?_
         refine then_n ⟨⟨fun _ _ => (AtE.mk3 hh.ext (hh.get (B2, .cells (canV d 0 oa ob ca cb).cells 31) (by simp)) (hh.get (B13, .cells (mkV (Mk.mk l1 h1 l2 h2)).cells 54) (by simp)) (hh.get (B14, .cells (mkV (Mk.mk l3 h3 l4 h4)).cells 54) (by simp))), trivial⟩, ?_⟩
         refine mc_p rfl   hf (yv_nilCheck rfl) (.inl rfl) rfl rfl ?_; clear hf a; intro a hf
         refine mc_p rfl   hf (yv_fieldAddr Try.fo_29_0 rfl) (.inl rfl) rfl rfl ?_; clear hf a; intro a hf
         refine mc_e rfl fun Q1 => ?_
         refine o_store hf hh Try.sz_25 fun w hh => ?_
         refine ops_end ?_
         refine then_n ⟨⟨fun h => Bool.noConfusion (show true = false from h), trivial⟩, ?_⟩
         refine mc_p rfl   hf (yv_nilCheck rfl) (.inl rfl) rfl rfl ?_; clear hf a; intro a hf
         refine mc_p rfl   hf (yv_fieldAddr Try.fo_29_1 rfl) (.inl rfl) rfl rfl ?_; clear hf a; intro a hf
         refine mc_e rfl fun Q1 => ?_
         refine o_store hf hh Try.sz_25 fun w hh => ?_
         refine ops_end ?_
         refine then_n ⟨⟨fun h => Bool.noConfusion (show true = false from h), trivial⟩, ?_⟩
         refine mc_end ?_
         refine blk_n ?_
         refine blk_n ?_
         refine then_n ?_
         first
           | (have hmn := hMd.pair (z := sf) hma hmb (by simp only; omega) (by simp only; omega) (by simp only; omega) (by simp only; omega) (by omega) (by omega)
              refine ⟨(tn, pn, xl, xr), ⟨⟨ac + 1 + 1 + 1 + 2 + 2 + 2 + 2 + 1, { d with l := d.l ++ [(Mk.mk l1 h1 l2 h2)], r := d.r ++ [(Mk.mk l3 h3 l4 h4)] }, oan, obn, can, cbn, _, _, X1n, X2n, by omega, by omega, by omega, by omega, hmn, hlo, hhi, ?_, ?_, ?_, ?_, ?_, ?_, ?_⟩, hh.less (List.nil_sublist _)⟩, hf.head ⟨rfl, rfl, rfl, rfl, True.intro⟩ (Keep.cons rfl (Keep.cons rfl (Keep.cons rfl (Keep.cons rfl (Keep.cons rfl (Keep.cons rfl (Keep.cons rfl (Keep.cons rfl (Keep.cons rfl (Keep.cons rfl (Keep.cons rfl (Keep.cons rfl (Keep.cons rfl (Keep.cons rfl (Keep.cons rfl (Keep.cons rfl (Keep.cons rfl (Keep.cons rfl (Keep.cons rfl (Keep.cons rfl (Keep.cons rfl (Keep.cons rfl (Keep.cons rfl (Keep.cons rfl (Keep.cons rfl (Keep.cons rfl (Keep.cons rfl (Keep.cons rfl (Keep.cons rfl (Keep.cons rfl (Keep.cons rfl (Keep.cons rfl (Keep.cons rfl (Keep.cons rfl (Keep.cons rfl (Keep.cons rfl (Keep.cons rfl (Keep.cons rfl (Keep.cons rfl (Keep.cons rfl (Keep.cons rfl (Keep.cons rfl (Keep.cons rfl (Keep.cons rfl (Keep.cons rfl (Keep.cons rfl (Keep.cons rfl (Keep.cons rfl (Keep.cons rfl (Keep.cons rfl (Keep.cons rfl (Keep.cons rfl (Keep.cons rfl (Keep.cons rfl (Keep.cons rfl (Keep.cons rfl (Keep.cons rfl (Keep.cons rfl (Keep.cons rfl (Keep.cons rfl (Keep.cons rfl (Keep.cons rfl (Keep.cons rfl (Keep.cons rfl (Keep.cons rfl (Keep.cons rfl (Keep.cons rfl (Keep.cons rfl (Keep.cons rfl (Keep.cons rfl (Keep.cons rfl (Keep.cons rfl (Keep.cons rfl (Keep.cons rfl (Keep.cons rfl (Keep.cons rfl (Keep.cons rfl (Keep.cons rfl (Keep.cons rfl (Keep.cons rfl (Keep.cons rfl (Keep.cons rfl (Keep.base)))))))))))))))))))))))))))))))))))))))))))))))))))))))))))))))))))))))))))))))))))⟩
              · simp only [List.length_append, List.length_singleton]; omega
              · simp only [List.length_append, List.length_singleton]; omega
              · simp only; omega
              · simp only; omega
              · show OwnSl 54 4 (.slice oan (d.l ++ [(Mk.mk l1 h1 l2 h2)]).length can) (d.l ++ [(Mk.mk l1 h1 l2 h2)]).length (encM (d.l ++ [(Mk.mk l1 h1 l2 h2)])) X1n; rw [List.length_append, encM_app]; exact hO1n
              · show OwnSl 54 4 (.slice obn (d.r ++ [(Mk.mk l3 h3 l4 h4)]).length cbn) (d.r ++ [(Mk.mk l3 h3 l4 h4)]).length (encM (d.r ++ [(Mk.mk l3 h3 l4 h4)])) X2n; rw [List.length_append, encM_app]; exact hO2n
              · rw [← can_cells (d := { d with l := d.l ++ [(Mk.mk l1 h1 l2 h2)], r := d.r ++ [(Mk.mk l3 h3 l4 h4)] }) (oa := oan) (ob := obn) (ca := can) (cb := cbn) (n := d.l.length + 1) (m := d.r.length + 1) (lo := d.lo) (hi := d.hi) (hid := d.hid) (by simp) (by simp) rfl rfl rfl]; exact hh.less (.cons_cons _ (.cons _ (.cons _ (.refl _)))))
           | (have hmn := (hq1 ▸ hMd.paintL hma (by omega) (by omega) (by omega) : MadeC { d with l := d.l ++ [(Mk.mk l1 h1 l2 h2)] } (xl ||| q1, xr) z3 (pn + 1) ps sh)
              refine ⟨(tn, pn + 1, xl ||| q1, xr), ⟨⟨ac + 1 + 1 + 1 + 2 + 2 + 2 + 2 + 1, { d with l := d.l ++ [(Mk.mk l1 h1 l2 h2)] }, oan, ob, can, cb, ps, sh, X1n, X2, by omega, by omega, by omega, by omega, hmn, hlo, hhi, ?_, ?_, ?_, ?_, ?_, ?_, ?_⟩, hh.less (List.nil_sublist _)⟩, hf.head ⟨rfl, rfl, rfl, rfl, True.intro⟩ (Keep.cons rfl (Keep.cons rfl (Keep.cons rfl (Keep.cons rfl (Keep.cons rfl (Keep.cons rfl (Keep.cons rfl (Keep.cons rfl (Keep.cons rfl (Keep.cons rfl (Keep.cons rfl (Keep.cons rfl (Keep.cons rfl (Keep.cons rfl (Keep.cons rfl (Keep.cons rfl (Keep.cons rfl (Keep.cons rfl (Keep.cons rfl (Keep.cons rfl (Keep.cons rfl (Keep.cons rfl (Keep.cons rfl (Keep.cons rfl (Keep.cons rfl (Keep.cons rfl (Keep.cons rfl (Keep.cons rfl (Keep.cons rfl (Keep.cons rfl (Keep.cons rfl (Keep.cons rfl (Keep.cons rfl (Keep.cons rfl (Keep.cons rfl (Keep.cons rfl (Keep.cons rfl (Keep.cons rfl (Keep.cons rfl (Keep.cons rfl (Keep.cons rfl (Keep.cons rfl (Keep.cons rfl (Keep.cons rfl (Keep.cons rfl (Keep.cons rfl (Keep.cons rfl (Keep.cons rfl (Keep.cons rfl (Keep.cons rfl (Keep.cons rfl (Keep.cons rfl (Keep.cons rfl (Keep.cons rfl (Keep.cons rfl (Keep.cons rfl (Keep.cons rfl (Keep.cons rfl (Keep.cons rfl (Keep.cons rfl (Keep.cons rfl (Keep.cons rfl (Keep.cons rfl (Keep.cons rfl (Keep.cons rfl (Keep.cons rfl (Keep.cons rfl (Keep.cons rfl (Keep.cons rfl (Keep.cons rfl (Keep.cons rfl (Keep.cons rfl (Keep.cons rfl (Keep.cons rfl (Keep.cons rfl (Keep.cons rfl (Keep.cons rfl (Keep.cons rfl (Keep.cons rfl (Keep.cons rfl (Keep.cons rfl (Keep.cons rfl (Keep.base)))))))))))))))))))))))))))))))))))))))))))))))))))))))))))))))))))))))))))))))))))⟩
              · simp only [List.length_append, List.length_singleton]; omega
              · simp only; omega
              · simp only; omega
              · simp only; omega
              · show OwnSl 54 4 (.slice oan (d.l ++ [(Mk.mk l1 h1 l2 h2)]).length can) (d.l ++ [(Mk.mk l1 h1 l2 h2)]).length (encM (d.l ++ [(Mk.mk l1 h1 l2 h2)])) X1n; rw [List.length_append, encM_app]; exact hO1n
              · exact hO2
              · rw [← can_cells (d := { d with l := d.l ++ [(Mk.mk l1 h1 l2 h2)] }) (oa := oan) (ob := ob) (ca := can) (cb := cb) (n := d.l.length + 1) (m := d.r.length) (lo := d.lo) (hi := d.hi) (hid := d.hid) (by simp) (by simp) rfl rfl rfl]; exact hh.less (.cons_cons _ (.cons _ (.cons _ (.refl _)))))
           | (have hmn := (hq2 ▸ hMd.paintR hmb (by omega) (by omega) (by omega) : MadeC { d with r := d.r ++ [(Mk.mk l3 h3 l4 h4)] } (xl, xr ||| q2) z3 (pn + 1) ps sh)
              refine ⟨(tn, pn + 1, xl, xr ||| q2), ⟨⟨ac + 1 + 1 + 1 + 2 + 2 + 2 + 2 + 1, { d with r := d.r ++ [(Mk.mk l3 h3 l4 h4)] }, oa, obn, ca, cbn, ps, sh, X1, X2n, by omega, by omega, by omega, by omega, hmn, hlo, hhi, ?_, ?_, ?_, ?_, ?_, ?_, ?_⟩, hh.less (List.nil_sublist _)⟩, hf.head ⟨rfl, rfl, rfl, rfl, True.intro⟩ (Keep.cons rfl (Keep.cons rfl (Keep.cons rfl (Keep.cons rfl (Keep.cons rfl (Keep.cons rfl (Keep.cons rfl (Keep.cons rfl (Keep.cons rfl (Keep.cons rfl (Keep.cons rfl (Keep.cons rfl (Keep.cons rfl (Keep.cons rfl (Keep.cons rfl (Keep.cons rfl (Keep.cons rfl (Keep.cons rfl (Keep.cons rfl (Keep.cons rfl (Keep.cons rfl (Keep.cons rfl (Keep.cons rfl (Keep.cons rfl (Keep.cons rfl (Keep.cons rfl (Keep.cons rfl (Keep.cons rfl (Keep.cons rfl (Keep.cons rfl (Keep.cons rfl (Keep.cons rfl (Keep.cons rfl (Keep.cons rfl (Keep.cons rfl (Keep.cons rfl (Keep.cons rfl (Keep.cons rfl (Keep.cons rfl (Keep.cons rfl (Keep.cons rfl (Keep.cons rfl (Keep.cons rfl (Keep.cons rfl (Keep.cons rfl (Keep.cons rfl (Keep.cons rfl (Keep.cons rfl (Keep.cons rfl (Keep.cons rfl (Keep.cons rfl (Keep.cons rfl (Keep.cons rfl (Keep.cons rfl (Keep.cons rfl (Keep.cons rfl (Keep.cons rfl (Keep.cons rfl (Keep.cons rfl (Keep.cons rfl (Keep.cons rfl (Keep.cons rfl (Keep.cons rfl (Keep.cons rfl (Keep.cons rfl (Keep.cons rfl (Keep.cons rfl (Keep.cons rfl (Keep.cons rfl (Keep.cons rfl (Keep.cons rfl (Keep.cons rfl (Keep.cons rfl (Keep.cons rfl (Keep.cons rfl (Keep.cons rfl (Keep.cons rfl (Keep.cons rfl (Keep.cons rfl (Keep.cons rfl (Keep.cons rfl (Keep.cons rfl (Keep.base)))))))))))))))))))))))))))))))))))))))))))))))))))))))))))))))))))))))))))))))))))⟩
              · simp only; omega
              · simp only [List.length_append, List.length_singleton]; omega
              · simp only; omega
              · simp only; omega
              · exact hO1
              · show OwnSl 54 4 (.slice obn (d.r ++ [(Mk.mk l3 h3 l4 h4)]).length cbn) (d.r ++ [(Mk.mk l3 h3 l4 h4)]).length (encM (d.r ++ [(Mk.mk l3 h3 l4 h4)])) X2n; rw [List.length_append, encM_app]; exact hO2n
              · rw [← can_cells (d := { d with r := d.r ++ [(Mk.mk l3 h3 l4 h4)] }) (oa := oa) (ob := obn) (ca := ca) (cb := cbn) (n := d.l.length) (m := d.r.length + 1) (lo := d.lo) (hi := d.hi) (hid := d.hid) (by simp) (by simp) rfl rfl rfl]; exact hh.less (.cons_cons _ (.cons _ (.cons _ (.refl _)))))
           | (have hmn := hMd.hide hma
              refine ⟨(tn, pn, xl, xr), ⟨⟨ac + 1 + 1 + 1 + 2 + 2 + 2 + 2 + 1, { d with l := d.l ++ [(Mk.mk l1 h1 l2 h2)], hid := d.hid + 1 }, oan, ob, can, cb, ps, sh, X1n, X2, by omega, by omega, by omega, by omega, hmn, hlo, hhi, ?_, ?_, ?_, ?_, ?_, ?_, ?_⟩, hh.less (List.nil_sublist _)⟩, hf.head ⟨rfl, rfl, rfl, rfl, True.intro⟩ (Keep.cons rfl (Keep.cons rfl (Keep.cons rfl (Keep.cons rfl (Keep.cons rfl (Keep.cons rfl (Keep.cons rfl (Keep.cons rfl (Keep.cons rfl (Keep.cons rfl (Keep.cons rfl (Keep.cons rfl (Keep.cons rfl (Keep.cons rfl (Keep.cons rfl (Keep.cons rfl (Keep.cons rfl (Keep.cons rfl (Keep.cons rfl (Keep.cons rfl (Keep.cons rfl (Keep.cons rfl (Keep.cons rfl (Keep.cons rfl (Keep.cons rfl (Keep.cons rfl (Keep.cons rfl (Keep.cons rfl (Keep.cons rfl (Keep.cons rfl (Keep.cons rfl (Keep.cons rfl (Keep.cons rfl (Keep.cons rfl (Keep.cons rfl (Keep.cons rfl (Keep.cons rfl (Keep.cons rfl (Keep.cons rfl (Keep.cons rfl (Keep.cons rfl (Keep.cons rfl (Keep.cons rfl (Keep.cons rfl (Keep.cons rfl (Keep.cons rfl (Keep.cons rfl (Keep.cons rfl (Keep.cons rfl (Keep.cons rfl (Keep.cons rfl (Keep.cons rfl (Keep.cons rfl (Keep.cons rfl (Keep.cons rfl (Keep.cons rfl (Keep.cons rfl (Keep.cons rfl (Keep.cons rfl (Keep.cons rfl (Keep.cons rfl (Keep.cons rfl (Keep.cons rfl (Keep.cons rfl (Keep.cons rfl (Keep.cons rfl (Keep.cons rfl (Keep.cons rfl (Keep.cons rfl (Keep.cons rfl (Keep.cons rfl (Keep.cons rfl (Keep.cons rfl (Keep.cons rfl (Keep.cons rfl (Keep.cons rfl (Keep.cons rfl (Keep.cons rfl (Keep.cons rfl (Keep.cons rfl (Keep.cons rfl (Keep.cons rfl (Keep.base)))))))))))))))))))))))))))))))))))))))))))))))))))))))))))))))))))))))))))))))))))⟩
              · simp only [List.length_append, List.length_singleton]; omega
              · simp only; omega
              · show 0 ≤ d.hid + 1; omega
              · show d.hid + 1 ≤ _; omega
              · show OwnSl 54 4 (.slice oan (d.l ++ [(Mk.mk l1 h1 l2 h2)]).length can) (d.l ++ [(Mk.mk l1 h1 l2 h2)]).length (encM (d.l ++ [(Mk.mk l1 h1 l2 h2)])) X1n; rw [List.length_append, encM_app]; exact hO1n
              · exact hO2
              · rw [← can_cells (d := { d with l := d.l ++ [(Mk.mk l1 h1 l2 h2)], hid := d.hid + 1 }) (oa := oan) (ob := ob) (ca := can) (cb := cb) (n := d.l.length + 1) (m := d.r.length) (lo := d.lo) (hi := d.hi) (hid := d.hid + 1) (by simp) (by simp) rfl rfl rfl]; exact hh.less (.cons_cons _ (.cons _ (.cons _ (.refl _)))))
     ·have hG17 := hg17; try simp only [gS] at hG17
      refine o_off hf ?_; clear hf a; intro a hf
      refine o_off hf ?_; clear hf a; intro a hf
      refine o_v hf hh (y_pf rfl rfl) ?_; clear hf a; intro a hf
      refine o_v hf hh (yv_assign rfl) ?_; clear hf a; intro a hf
      refine o_end ?_
      refine c_f hf ?_
      refine sy_sq ?_
      refine o_v hf hh (yv_move rfl) ?_; clear hf a; intro a hf
      refine o_v hf hh (yv_bin rfl rfl rfl) ?_; clear hf a; intro a hf
      refine o_v hf hh (yv_assign rfl) ?_; clear hf a; intro a hf
      refine o_end ?_
      refine sy_cond hf rfl (fun hg39 => ?_) (fun hg39 => ?_)
      ·have hG39 := hg39; try simp only [gS] at hG39
       refine sy_sq ?_
       refine o_v hf hh (yv_move rfl) ?_; clear hf a; intro a hf
       refine o_v hf hh (yv_nilCheck rfl) ?_; clear hf a; intro a hf
       refine o_v hf hh (yv_fieldAddr Try.fo_29_3 rfl) ?_; clear hf a; intro a hf
       refine o_v hf hh (y_ld Try.sc_3 rfl) ?_; clear hf a; intro a hf
       refine o_v hf hh (y_add rfl rfl) ?_; clear hf a; intro a hf
       refine o_v hf hh (yv_nilCheck rfl) ?_; clear hf a; intro a hf
       refine o_v hf hh (yv_fieldAddr Try.fo_29_3 rfl) ?_; clear hf a; intro a hf
       refine o_store hf hh Try.sz_3 fun w hh => ?_
       refine o_end ?_
       replace hh : Hp u [Bat] ([(Bat, .cells #[.int .i64 ((ac + 1 + 1 + 1 + 2 + 2 + 2 + 2 + 1 : Nat) : Int)] 3), (B14, .cells (mkV (Mk.mk l3 h3 l4 h4)).cells 54), (B13, .cells (mkV (Mk.mk l1 h1 l2 h2)).cells 54), (B2, .cells (canV { d with hid := d.hid + 1 } 0 oa ob ca cb).cells 31), (B1, .cells #[drwV Bat Bby] 43)] ++ (X1 ++ X2)) w := hh
       refine sy_treeC (.p 0 (.p 1 (.p 2 (.p 3 (.q 0 4 (.q 0 5 (.e1 6 (.e1 7 (.p 8 (.p 9 (.e1 10 (.fin)))))))))))) [[10]] [(AtE u [Bat] [(B2, .cells (canV { d with hid := d.hid + 1 } 0 oa ob ca cb).cells 31), (B13, .cells (mkV (Mk.mk l1 h1 l2 h2)).cells 54)], [10])] Try.follows (by kernel_rfl) rfl hh (fun w hh => ?_)
       refine mc_p rfl   hf (yv_move rfl) (.inl rfl) rfl rfl ?_; clear hf a; intro a hf
       refine mc_p rfl   hf (yv_move rfl) (.inl rfl) rfl rfl ?_; clear hf a; intro a hf
       refine mc_p rfl   hf (yv_nilCheck rfl) (.inl rfl) rfl rfl ?_; clear hf a; intro a hf
       refine mc_p rfl   hf (yv_fieldAddr Try.fo_29_0 rfl) (.inl rfl) rfl rfl ?_; clear hf a; intro a hf
       refine mc_q rfl rfl (AtE.mk2 hh.ext (hh.get (B2, .cells (canV { d with hid := d.hid + 1 } 0 oa ob ca cb).cells 31) (by simp)) (hh.get (B13, .cells (mkV (Mk.mk l1 h1 l2 h2)).cells 54) (by simp))) hf (y_ld Try.sc_25 rfl) (.inl rfl) rfl rfl ?_; clear hf a; intro a hf
       refine mc_q rfl rfl (AtE.mk2 hh.ext (hh.get (B2, .cells (canV { d with hid := d.hid + 1 } 0 oa ob ca cb).cells 31) (by simp)) (hh.get (B13, .cells (mkV (Mk.mk l1 h1 l2 h2)).cells 54) (by simp))) hf (y_lds Try.ag_54 rfl) (.inl rfl) rfl rfl ?_; clear hf a; intro a hf
       refine mc_e rfl fun Q1 => ?_
       refine ops_buildSl hf hh Try.bl_25_1 rfl rfl (.inl rfl) rfl ?_; clear hf hh; clear a; intro B165 a w hf hh
       refine ops_end ?_
       refine then_n ⟨⟨fun _ _ => (AtE.mk2 hh.ext (hh.get (B2, .cells (canV { d with hid := d.hid + 1 } 0 oa ob ca cb).cells 31) (by simp)) (hh.get (B13, .cells (mkV (Mk.mk l1 h1 l2 h2)).cells 54) (by simp))), trivial⟩, ?_⟩
       refine mc_e rfl fun Q1 => ?_
       refine ops_append (e := 54) (size := 4) (xs := encM d.l) (X := X1) (Z := _) (m := d.l.length) (q := 1) hf (hh.perm (.cons _ (pull1 (F := [_, _, _, _, _])))) Try.eb_25 rfl rfl hO1 rfl rfl rfl (by simp only [maxLen]; omega) (by omega) (.inl rfl) rfl ?_
       clear hf hh a; intro v1 X1n a w hO1n hf hh
       replace hh := hh.perm (pull1 (F := [_, _, _, _, _])).symm
       obtain ⟨oan, can, rfl⟩ := OwnSl_val hO1n
       refine ops_end ?_
       refine then_n ⟨⟨fun _ _ => (AtE.mk2 hh.ext (hh.get (B2, .cells (canV { d with hid := d.hid + 1 } 0 oa ob ca cb).cells 31) (by simp)) (hh.get (B13, .cells (mkV (Mk.mk l1 h1 l2 h2)).cells 54) (by simp))), trivial⟩, ?_⟩
       refine mc_p rfl   hf (yv_nilCheck rfl) (.inl rfl) rfl rfl ?_; clear hf a; intro a hf
       refine mc_p rfl   hf (yv_fieldAddr Try.fo_29_0 rfl) (.inl rfl) rfl rfl ?_; clear hf a; intro a hf
       refine mc_e rfl fun Q1 => ?_
       refine o_store hf hh Try.sz_25 fun w hh => ?_
       refine ops_end ?_
       refine then_n ⟨⟨fun h => Bool.noConfusion (show true = false from h), trivial⟩, ?_⟩
       refine mc_end ?_
       refine blk_n ?_
       refine blk_n ?_
       refine then_n ?_
       first
         | (have hmn := hMd.pair (z := sf) hma hmb (by simp only; omega) (by simp only; omega) (by simp only; omega) (by simp only; omega) (by omega) (by omega)
            refine ⟨(tn, pn, xl, xr), ⟨⟨ac + 1 + 1 + 1 + 2 + 2 + 2 + 2 + 1, { d with l := d.l ++ [(Mk.mk l1 h1 l2 h2)], r := d.r ++ [(Mk.mk l3 h3 l4 h4)] }, oan, obn, can, cbn, _, _, X1n, X2n, by omega, by omega, by omega, by omega, hmn, hlo, hhi, ?_, ?_, ?_, ?_, ?_, ?_, ?_⟩, hh.less (List.nil_sublist _)⟩, hf.head ⟨rfl, rfl, rfl, rfl, True.intro⟩ (Keep.cons rfl (Keep.cons rfl (Keep.cons rfl (Keep.cons rfl (Keep.cons rfl (Keep.cons rfl (Keep.cons rfl (Keep.cons rfl (Keep.cons rfl (Keep.cons rfl (Keep.cons rfl (Keep.cons rfl (Keep.cons rfl (Keep.cons rfl (Keep.cons rfl (Keep.cons rfl (Keep.cons rfl (Keep.cons rfl (Keep.cons rfl (Keep.cons rfl (Keep.cons rfl (Keep.cons rfl (Keep.cons rfl (Keep.cons rfl (Keep.cons rfl (Keep.cons rfl (Keep.cons rfl (Keep.cons rfl (Keep.cons rfl (Keep.cons rfl (Keep.cons rfl (Keep.cons rfl (Keep.cons rfl (Keep.cons rfl (Keep.cons rfl (Keep.cons rfl (Keep.cons rfl (Keep.cons rfl (Keep.cons rfl (Keep.cons rfl (Keep.cons rfl (Keep.cons rfl (Keep.cons rfl (Keep.cons rfl (Keep.cons rfl (Keep.cons rfl (Keep.cons rfl (Keep.cons rfl (Keep.cons rfl (Keep.cons rfl (Keep.cons rfl (Keep.cons rfl (Keep.cons rfl (Keep.cons rfl (Keep.cons rfl (Keep.cons rfl (Keep.cons rfl (Keep.cons rfl (Keep.cons rfl (Keep.cons rfl (Keep.cons rfl (Keep.cons rfl (Keep.cons rfl (Keep.cons rfl (Keep.cons rfl (Keep.cons rfl (Keep.cons rfl (Keep.cons rfl (Keep.cons rfl (Keep.cons rfl (Keep.cons rfl (Keep.cons rfl (Keep.cons rfl (Keep.cons rfl (Keep.cons rfl (Keep.cons rfl (Keep.cons rfl (Keep.cons rfl (Keep.cons rfl (Keep.base))))))))))))))))))))))))))))))))))))))))))))))))))))))))))))))))))))))))))))))))⟩
            · simp only [List.length_append, List.length_singleton]; omega
            · simp only [List.length_append, List.length_singleton]; omega
            · simp only; omega
            · simp only; omega
            · show OwnSl 54 4 (.slice oan (d.l ++ [(Mk.mk l1 h1 l2 h2)]).length can) (d.l ++ [(Mk.mk l1 h1 l2 h2)]).length (encM (d.l ++ [(Mk.mk l1 h1 l2 h2)])) X1n; rw [List.length_append, encM_app]; exact hO1n
            · show OwnSl 54 4 (.slice obn (d.r ++ [(Mk.mk l3 h3 l4 h4)]).length cbn) (d.r ++ [(Mk.mk l3 h3 l4 h4)]).length (encM (d.r ++ [(Mk.mk l3 h3 l4 h4)])) X2n; rw [List.length_append, encM_app]; exact hO2n
            · rw [← can_cells (d := { d with l := d.l ++ [(Mk.mk l1 h1 l2 h2)], r := d.r ++ [(Mk.mk l3 h3 l4 h4)] }) (oa := oan) (ob := obn) (ca := can) (cb := cbn) (n := d.l.length + 1) (m := d.r.length + 1) (lo := d.lo) (hi := d.hi) (hid := d.hid) (by simp) (by simp) rfl rfl rfl]; exact hh.less (.cons_cons _ (.cons _ (.cons _ (.refl _)))))
         | (have hmn := (hq1 ▸ hMd.paintL hma (by omega) (by omega) (by omega) : MadeC { d with l := d.l ++ [(Mk.mk l1 h1 l2 h2)] } (xl ||| q1, xr) z3 (pn + 1) ps sh)
            refine ⟨(tn, pn + 1, xl ||| q1, xr), ⟨⟨ac + 1 + 1 + 1 + 2 + 2 + 2 + 2 + 1, { d with l := d.l ++ [(Mk.mk l1 h1 l2 h2)] }, oan, ob, can, cb, ps, sh, X1n, X2, by omega, by omega, by omega, by omega, hmn, hlo, hhi, ?_, ?_, ?_, ?_, ?_, ?_, ?_⟩, hh.less (List.nil_sublist _)⟩, hf.head ⟨rfl, rfl, rfl, rfl, True.intro⟩ (Keep.cons rfl (Keep.cons rfl (Keep.cons rfl (Keep.cons rfl (Keep.cons rfl (Keep.cons rfl (Keep.cons rfl (Keep.cons rfl (Keep.cons rfl (Keep.cons rfl (Keep.cons rfl (Keep.cons rfl (Keep.cons rfl (Keep.cons rfl (Keep.cons rfl (Keep.cons rfl (Keep.cons rfl (Keep.cons rfl (Keep.cons rfl (Keep.cons rfl (Keep.cons rfl (Keep.cons rfl (Keep.cons rfl (Keep.cons rfl (Keep.cons rfl (Keep.cons rfl (Keep.cons rfl (Keep.cons rfl (Keep.cons rfl (Keep.cons rfl (Keep.cons rfl (Keep.cons rfl (Keep.cons rfl (Keep.cons rfl (Keep.cons rfl (Keep.cons rfl (Keep.cons rfl (Keep.cons rfl (Keep.cons rfl (Keep.cons rfl (Keep.cons rfl (Keep.cons rfl (Keep.cons rfl (Keep.cons rfl (Keep.cons rfl (Keep.cons rfl (Keep.cons rfl (Keep.cons rfl (Keep.cons rfl (Keep.cons rfl (Keep.cons rfl (Keep.cons rfl (Keep.cons rfl (Keep.cons rfl (Keep.cons rfl (Keep.cons rfl (Keep.cons rfl (Keep.cons rfl (Keep.cons rfl (Keep.cons rfl (Keep.cons rfl (Keep.cons rfl (Keep.cons rfl (Keep.cons rfl (Keep.cons rfl (Keep.cons rfl (Keep.cons rfl (Keep.cons rfl (Keep.cons rfl (Keep.cons rfl (Keep.cons rfl (Keep.cons rfl (Keep.cons rfl (Keep.cons rfl (Keep.cons rfl (Keep.cons rfl (Keep.cons rfl (Keep.cons rfl (Keep.cons rfl (Keep.base))))))))))))))))))))))))))))))))))))))))))))))))))))))))))))))))))))))))))))))))⟩
            · simp only [List.length_append, List.length_singleton]; omega
            · simp only; omega
            · simp only; omega
            · simp only; omega
            · show OwnSl 54 4 (.slice oan (d.l ++ [(Mk.mk l1 h1 l2 h2)]).length can) (d.l ++ [(Mk.mk l1 h1 l2 h2)]).length (encM (d.l ++ [(Mk.mk l1 h1 l2 h2)])) X1n; rw [List.length_append, encM_app]; exact hO1n
            · exact hO2
            · rw [← can_cells (d := { d with l := d.l ++ [(Mk.mk l1 h1 l2 h2)] }) (oa := oan) (ob := ob) (ca := can) (cb := cb) (n := d.l.length + 1) (m := d.r.length) (lo := d.lo) (hi := d.hi) (hid := d.hid) (by simp) (by simp) rfl rfl rfl]; exact hh.less (.cons_cons _ (.cons _ (.cons _ (.refl _)))))
         | (have hmn := (hq2 ▸ hMd.paintR hmb (by omega) (by omega) (by omega) : MadeC { d with r := d.r ++ [(Mk.mk l3 h3 l4 h4)] } (xl, xr ||| q2) z3 (pn + 1) ps sh)
            refine ⟨(tn, pn + 1, xl, xr ||| q2), ⟨⟨ac + 1 + 1 + 1 + 2 + 2 + 2 + 2 + 1, { d with r := d.r ++ [(Mk.mk l3 h3 l4 h4)] }, oa, obn, ca, cbn, ps, sh, X1, X2n, by omega, by omega, by omega, by omega, hmn, hlo, hhi, ?_, ?_, ?_, ?_, ?_, ?_, ?_⟩, hh.less (List.nil_sublist _)⟩, hf.head ⟨rfl, rfl, rfl, rfl, True.intro⟩ (Keep.cons rfl (Keep.cons rfl (Keep.cons rfl (Keep.cons rfl (Keep.cons rfl (Keep.cons rfl (Keep.cons rfl (Keep.cons rfl (Keep.cons rfl (Keep.cons rfl (Keep.cons rfl (Keep.cons rfl (Keep.cons rfl (Keep.cons rfl (Keep.cons rfl (Keep.cons rfl (Keep.cons rfl (Keep.cons rfl (Keep.cons rfl (Keep.cons rfl (Keep.cons rfl (Keep.cons rfl (Keep.cons rfl (Keep.cons rfl (Keep.cons rfl (Keep.cons rfl (Keep.cons rfl (Keep.cons rfl (Keep.cons rfl (Keep.cons rfl (Keep.cons rfl (Keep.cons rfl (Keep.cons rfl (Keep.cons rfl (Keep.cons rfl (Keep.cons rfl (Keep.cons rfl (Keep.cons rfl (Keep.cons rfl (Keep.cons rfl (Keep.cons rfl (Keep.cons rfl (Keep.cons rfl (Keep.cons rfl (Keep.cons rfl (Keep.cons rfl (Keep.cons rfl (Keep.cons rfl (Keep.cons rfl (Keep.cons rfl (Keep.cons rfl (Keep.cons rfl (Keep.cons rfl (Keep.cons rfl (Keep.cons rfl (Keep.cons rfl (Keep.cons rfl (Keep.cons rfl (Keep.cons rfl (Keep.cons rfl (Keep.cons rfl (Keep.cons rfl (Keep.cons rfl (Keep.cons rfl (Keep.cons rfl (Keep.cons rfl (Keep.cons rfl (Keep.cons rfl (Keep.cons rfl (Keep.cons rfl (Keep.cons rfl (Keep.cons rfl (Keep.cons rfl (Keep.cons rfl (Keep.cons rfl (Keep.cons rfl (Keep.cons rfl (Keep.cons rfl (Keep.cons rfl (Keep.base))))))))))))))))))))))))))))))))))))))))))))))))))))))))))))))))))))))))))))))))⟩
            · simp only; omega
            · simp only [List.length_append, List.length_singleton]; omega
            · simp only; omega
            · simp only; omega
            · exact hO1
            · show OwnSl 54 4 (.slice obn (d.r ++ [(Mk.mk l3 h3 l4 h4)]).length cbn) (d.r ++ [(Mk.mk l3 h3 l4 h4)]).length (encM (d.r ++ [(Mk.mk l3 h3 l4 h4)])) X2n; rw [List.length_append, encM_app]; exact hO2n
            · rw [← can_cells (d := { d with r := d.r ++ [(Mk.mk l3 h3 l4 h4)] }) (oa := oa) (ob := obn) (ca := ca) (cb := cbn) (n := d.l.length) (m := d.r.length + 1) (lo := d.lo) (hi := d.hi) (hid := d.hid) (by simp) (by simp) rfl rfl rfl]; exact hh.less (.cons_cons _ (.cons _ (.cons _ (.refl _)))))
         | (have hmn := hMd.hide hma
            refine ⟨(tn, pn, xl, xr), ⟨⟨ac + 1 + 1 + 1 + 2 + 2 + 2 + 2 + 1, { d with l := d.l ++ [(Mk.mk l1 h1 l2 h2)], hid := d.hid + 1 }, oan, ob, can, cb, ps, sh, X1n, X2, by omega, by omega, by omega, by omega, hmn, hlo, hhi, ?_, ?_, ?_, ?_, ?_, ?_, ?_⟩, hh.less (List.nil_sublist _)⟩, hf.head ⟨rfl, rfl, rfl, rfl, True.intro⟩ (Keep.cons rfl (Keep.cons rfl (Keep.cons rfl (Keep.cons rfl (Keep.cons rfl (Keep.cons rfl (Keep.cons rfl (Keep.cons rfl (Keep.cons rfl (Keep.cons rfl (Keep.cons rfl (Keep.cons rfl (Keep.cons rfl (Keep.cons rfl (Keep.cons rfl (Keep.cons rfl (Keep.cons rfl (Keep.cons rfl (Keep.cons rfl (Keep.cons rfl (Keep.cons rfl (Keep.cons rfl (Keep.cons rfl (Keep.cons rfl (Keep.cons rfl (Keep.cons rfl (Keep.cons rfl (Keep.cons rfl (Keep.cons rfl (Keep.cons rfl (Keep.cons rfl (Keep.cons rfl (Keep.cons rfl (Keep.cons rfl (Keep.cons rfl (Keep.cons rfl (Keep.cons rfl (Keep.cons rfl (Keep.cons rfl (Keep.cons rfl (Keep.cons rfl (Keep.cons rfl (Keep.cons rfl (Keep.cons rfl (Keep.cons rfl (Keep.cons rfl (Keep.cons rfl (Keep.cons rfl (Keep.cons rfl (Keep.cons rfl (Keep.cons rfl (Keep.cons rfl (Keep.cons rfl (Keep.cons rfl (Keep.cons rfl (Keep.cons rfl (Keep.cons rfl (Keep.cons rfl (Keep.cons rfl (Keep.cons rfl (Keep.cons rfl (Keep.cons rfl (Keep.cons rfl (Keep.cons rfl (Keep.cons rfl (Keep.cons rfl (Keep.cons rfl (Keep.cons rfl (Keep.cons rfl (Keep.cons rfl (Keep.cons rfl (Keep.cons rfl (Keep.cons rfl (Keep.cons rfl (Keep.cons rfl (Keep.cons rfl (Keep.cons rfl (Keep.cons rfl (Keep.cons rfl (Keep.base))))))))))))))))))))))))))))))))))))))))))))))))))))))))))))))))))))))))))))))))⟩
            · simp only [List.length_append, List.length_singleton]; omega
            · simp only; omega
            · show 0 ≤ d.hid + 1; omega
            · show d.hid + 1 ≤ _; omega
            · show OwnSl 54 4 (.slice oan (d.l ++ [(Mk.mk l1 h1 l2 h2)]).length can) (d.l ++ [(Mk.mk l1 h1 l2 h2)]).length (encM (d.l ++ [(Mk.mk l1 h1 l2 h2)])) X1n; rw [List.length_append, encM_app]; exact hO1n
            · exact hO2
            · rw [← can_cells (d := { d with l := d.l ++ [(Mk.mk l1 h1 l2 h2)], hid := d.hid + 1 }) (oa := oan) (ob := ob) (ca := can) (cb := cb) (n := d.l.length + 1) (m := d.r.length) (lo := d.lo) (hi := d.hi) (hid := d.hid + 1) (by simp) (by simp) rfl rfl rfl]; exact hh.less (.cons_cons _ (.cons _ (.cons _ (.refl _)))))
      ·have hG39 := hg39; try simp only [gS] at hG39
       refine sy_treeC (.p 0 (.p 1 (.p 2 (.p 3 (.p 4 (.q 0 5 (.q 0 6 (.p 9 (.p 10 (.p 11 (.q 0 12 (.q 0 13 (.e2 7 (.e2 8 (.e1 14 (.e1 15 (.p 16 (.p 17 (.e1 18 (.p 19 (.p 20 (.e1 21 (.fin))))))))) 14 (.e1 8 (.e1 15 (.p 16 (.p 17 (.e1 18 (.p 19 (.p 20 (.e1 21 (.fin)))))))))) 14 (.e1 7 (.e1 8 (.e1 15 (.p 16 (.p 17 (.e1 18 (.p 19 (.p 20 (.e1 21 (.fin))))))))))))))))))))))) [[18, 21]] [(AtE u [Bat] [(B2, .cells (canV d 0 oa ob ca cb).cells 31), (B13, .cells (mkV (Mk.mk l1 h1 l2 h2)).cells 54), (B14, .cells (mkV (Mk.mk l3 h3 l4 h4)).cells 54)], [18, 21])] Try.follows (by kernel_rfl) rfl hh (fun w hh => ?_)
       refine mc_p rfl   hf (yv_move rfl) (.inl rfl) rfl rfl ?_; clear hf a; intro a hf
       refine mc_p rfl   hf (yv_move rfl) (.inl rfl) rfl rfl ?_; clear hf a; intro a hf
       refine mc_p rfl   hf (yv_move rfl) (.inl rfl) rfl rfl ?_; clear hf a; intro a hf
       refine mc_p rfl   hf (yv_nilCheck rfl) (.inl rfl) rfl rfl ?_; clear hf a; intro a hf
       refine mc_p rfl   hf (yv_fieldAddr Try.fo_29_0 rfl) (.inl rfl) rfl rfl ?_; clear hf a; intro a hf
       refine mc_q rfl rfl (AtE.mk3 hh.ext (hh.get (B2, .cells (canV d 0 oa ob ca cb).cells 31) (by simp)) (hh.get (B13, .cells (mkV (Mk.mk l1 h1 l2 h2)).cells 54) (by simp)) (hh.get (B14, .cells (mkV (Mk.mk l3 h3 l4 h4)).cells 54) (by simp))) hf (y_ld Try.sc_25 rfl) (.inl rfl) rfl rfl ?_; clear hf a; intro a hf
       refine mc_q rfl rfl (AtE.mk3 hh.ext (hh.get (B2, .cells (canV d 0 oa ob ca cb).cells 31) (by simp)) (hh.get (B13, .cells (mkV (Mk.mk l1 h1 l2 h2)).cells 54) (by simp)) (hh.get (B14, .cells (mkV (Mk.mk l3 h3 l4 h4)).cells 54) (by simp))) hf (y_lds Try.ag_54 rfl) (.inl rfl) rfl rfl ?_; clear hf a; intro a hf
       refine mc_p rfl   hf (yv_move rfl) (.inl rfl) rfl rfl ?_; clear hf a; intro a hf
       refine mc_p rfl   hf (yv_nilCheck rfl) (.inl rfl) rfl rfl ?_; clear hf a; intro a hf
       refine mc_p rfl   hf (yv_fieldAddr Try.fo_29_1 rfl) (.inl rfl) rfl rfl ?_; clear hf a; intro a hf
       refine mc_q rfl rfl (AtE.mk3 hh.ext (hh.get (B2, .cells (canV d 0 oa ob ca cb).cells 31) (by simp)) (hh.get (B13, .cells (mkV (Mk.mk l1 h1 l2 h2)).cells 54) (by simp)) (hh.get (B14, .cells (mkV (Mk.mk l3 h3 l4 h4)).cells 54) (by simp))) hf (y_ld Try.sc_25 rfl) (.inl rfl) rfl rfl ?_; clear hf a; intro a hf
       refine mc_q rfl rfl (AtE.mk3 hh.ext (hh.get (B2, .cells (canV d 0 oa ob ca cb).cells 31) (by simp)) (hh.get (B13, .cells (mkV (Mk.mk l1 h1 l2 h2)).cells 54) (by simp)) (hh.get (B14, .cells (mkV (Mk.mk l3 h3 l4 h4)).cells 54) (by simp))) hf (y_lds Try.ag_54 rfl) (.inl rfl) rfl rfl ?_; clear hf a; intro a hf
       refine ⟨?_, ?_⟩
       ·refine mc_e rfl fun Q1 => ?_
        refine ops_buildSl hf hh Try.bl_25_1 rfl rfl (.inl rfl) rfl ?_; clear hf hh; clear a; intro B89 a w hf hh
        refine ops_end ?_
        refine then_n ⟨⟨fun _ _ => (AtE.mk3 hh.ext (hh.get (B2, .cells (canV d 0 oa ob ca cb).cells 31) (by simp)) (hh.get (B13, .cells (mkV (Mk.mk l1 h1 l2 h2)).cells 54) (by simp)) (hh.get (B14, .cells (mkV (Mk.mk l3 h3 l4 h4)).cells 54) (by simp))), trivial⟩, ?_⟩
        refine ⟨?_, ?_⟩
        ·refine mc_e rfl fun Q1 => ?_
         first
           | (refine ops_append (e := 54) (size := 4) (xs := encM d.l) (X := X1) (Z := _) (m := d.l.length) (q := 1) hf (hh.perm (.cons _ (pull1 (F := [_, _, _, _, _])))) Try.eb_25 rfl rfl hO1 rfl rfl rfl (by simp only [maxLen]; omega) (by omega) (.inl rfl) rfl ?_)
           | (refine ops_append (e := 54) (size := 4) (xs := encM d.l) (X := X1) (Z := _) (m := d.l.length) (q := 1) hf ((hh.perm (.swap _ _ _)).perm (.cons _ (pull1 (F := [_, _, _, _, _, _])))) Try.eb_25 rfl rfl hO1 rfl rfl rfl (by simp only [maxLen]; omega) (by omega) (.inl rfl) rfl ?_)
           | (refine ops_append (e := 54) (size := 4) (xs := encM d.l) (X := X1) (Z := _) (m := d.l.length) (q := 1) hf (hh.perm (.cons _ (pull1 (F := [_, _, _, _, _, _])))) Try.eb_25 rfl rfl hO1 rfl rfl rfl (by simp only [maxLen]; omega) (by omega) (.inl rfl) rfl ?_)
         clear hf hh a; intro v1 X1n a w hO1n hf hh
         first
           | replace hh := hh.perm (pull1 (F := [_, _, _, _, _, _])).symm
           | replace hh := hh.perm (pull1 (F := [_, _, _, _, _])).symm
         obtain ⟨oan, can, rfl⟩ := OwnSl_val hO1n
         refine ops_end ?_
         refine then_n ⟨⟨fun _ _ => (AtE.mk3 hh.ext (hh.get (B2, .cells (canV d 0 oa ob ca cb).cells 31) (by simp)) (hh.get (B13, .cells (mkV (Mk.mk l1 h1 l2 h2)).cells 54) (by simp)) (hh.get (B14, .cells (mkV (Mk.mk l3 h3 l4 h4)).cells 54) (by simp))), trivial⟩, ?_⟩
         refine mc_e rfl fun Q1 => ?_
         refine ops_buildSl hf hh Try.bl_25_1 rfl rfl (.inl rfl) rfl ?_; clear hf hh; clear a; intro B96 a w hf hh
         refine ops_end ?_
         refine then_n ⟨⟨fun _ _ => (AtE.mk3 hh.ext (hh.get (B2, .cells (canV d 0 oa ob ca cb).cells 31) (by simp)) (hh.get (B13, .cells (mkV (Mk.mk l1 h1 l2 h2)).cells 54) (by simp)) (hh.get (B14, .cells (mkV (Mk.mk l3 h3 l4 h4)).cells 54) (by simp))), trivial⟩, ?_⟩
         refine mc_e rfl fun Q1 => ?_
         refine ops_append (e := 54) (size := 4) (xs := encM d.r) (X := X2) (Z := _) (m := d.r.length) (q := 1) hf (hh.perm (.cons _ (pull2e (F := [_, _, _, _, _])))) Try.eb_25 rfl rfl hO2 rfl rfl rfl (by simp only [maxLen]; omega) (by omega) (.inl rfl) rfl ?_
         clear hf hh a; intro v2 X2n a w hO2n hf hh
         replace hh := hh.perm (pull2e (F := [_, _, _, _, _])).symm
         obtain ⟨obn, cbn, rfl⟩ := OwnSl_val hO2n
         refine ops_end ?_
         refine then_n ⟨⟨fun _ _ => (AtE.mk3 hh.ext (hh.get (B2, .cells (canV d 0 oa ob ca cb).cells 31) (by simp)) (hh.get (B13, .cells (mkV (Mk.mk l1 h1 l2 h2)).cells 54) (by simp)) (hh.get (B14, .cells (mkV (Mk.mk l3 h3 l4 h4)).cells 54) (by simp))), trivial⟩, ?_⟩
         refine mc_p rfl   hf (yv_nilCheck rfl) (.inl rfl) rfl rfl ?_; clear hf a; intro a hf
         refine mc_p rfl   hf (yv_fieldAddr Try.fo_29_0 rfl) (.inl rfl) rfl rfl ?_; clear hf a; intro a hf
         refine mc_e rfl fun Q1 => ?_
         refine o_store hf hh Try.sz_25 fun w hh => ?_
         refine ops_end ?_
         refine then_n ⟨⟨fun h => Bool.noConfusion (show true = false from h), trivial⟩, ?_⟩
         refine mc_p rfl   hf (yv_nilCheck rfl) (.inl rfl) rfl rfl ?_; clear hf a; intro a hf
         refine mc_p rfl   hf (yv_fieldAddr Try.fo_29_1 rfl) (.inl rfl) rfl rfl ?_; clear hf a; intro a hf
         refine mc_e rfl fun Q1 => ?_
         refine o_store hf hh Try.sz_25 fun w hh => ?_
         refine ops_end ?_
         refine then_n ⟨⟨fun h => Bool.noConfusion (show true = false from h), trivial⟩, ?_⟩
         refine mc_end ?_
         refine blk_n ?_
         refine blk_n ?_
         refine then_n ?_
         first
           | (have hmn := hMd.pair (z := sf) hma hmb (by simp only; omega) (by simp only; omega) (by simp only; omega) (by simp only; omega) (by omega) (by omega)
              refine ⟨(tn, pn, xl, xr), ⟨⟨ac + 1 + 1 + 1 + 2 + 2 + 2 + 2 + 1, { d with l := d.l ++ [(Mk.mk l1 h1 l2 h2)], r := d.r ++ [(Mk.mk l3 h3 l4 h4)] }, oan, obn, can, cbn, _, _, X1n, X2n, by omega, by omega, by omega, by omega, hmn, hlo, hhi, ?_, ?_, ?_, ?_, ?_, ?_, ?_⟩, hh.less (List.nil_sublist _)⟩, hf.head ⟨rfl, rfl, rfl, rfl, True.intro⟩ (Keep.cons rfl (Keep.cons rfl (Keep.cons rfl (Keep.cons rfl (Keep.cons rfl (Keep.cons rfl (Keep.cons rfl (Keep.cons rfl (Keep.cons rfl (Keep.cons rfl (Keep.cons rfl (Keep.cons rfl (Keep.cons rfl (Keep.cons rfl (Keep.cons rfl (Keep.cons rfl (Keep.cons rfl (Keep.cons rfl (Keep.cons rfl (Keep.cons rfl (Keep.cons rfl (Keep.cons rfl (Keep.cons rfl (Keep.cons rfl (Keep.cons rfl (Keep.cons rfl (Keep.cons rfl (Keep.cons rfl (Keep.cons rfl (Keep.cons rfl (Keep.cons rfl (Keep.cons rfl (Keep.cons rfl (Keep.cons rfl (Keep.cons rfl (Keep.cons rfl (Keep.cons rfl (Keep.cons rfl (Keep.cons rfl (Keep.cons rfl (Keep.cons rfl (Keep.cons rfl (Keep.cons rfl (Keep.cons rfl (Keep.cons rfl (Keep.cons rfl (Keep.cons rfl (Keep.cons rfl (Keep.cons rfl (Keep.cons rfl (Keep.cons rfl (Keep.cons rfl (Keep.cons rfl (Keep.cons rfl (Keep.cons rfl (Keep.cons rfl (Keep.cons rfl (Keep.cons rfl (Keep.cons rfl (Keep.cons rfl (Keep.cons rfl (Keep.cons rfl (Keep.cons rfl (Keep.cons rfl (Keep.cons rfl (Keep.cons rfl (Keep.cons rfl (Keep.cons rfl (Keep.cons rfl (Keep.cons rfl (Keep.cons rfl (Keep.cons rfl (Keep.cons rfl (Keep.cons rfl (Keep.cons rfl (Keep.cons rfl (Keep.cons rfl (Keep.cons rfl (Keep.cons rfl (Keep.cons rfl (Keep.cons rfl (Keep.cons rfl (Keep.base)))))))))))))))))))))))))))))))))))))))))))))))))))))))))))))))))))))))))))))))))))⟩
              · simp only [List.length_append, List.length_singleton]; omega
              · simp only [List.length_append, List.length_singleton]; omega
              · simp only; omega
              · simp only; omega
              · show OwnSl 54 4 (.slice oan (d.l ++ [(Mk.mk l1 h1 l2 h2)]).length can) (d.l ++ [(Mk.mk l1 h1 l2 h2)]).length (encM (d.l ++ [(Mk.mk l1 h1 l2 h2)])) X1n; rw [List.length_append, encM_app]; exact hO1n
              · show OwnSl 54 4 (.slice obn (d.r ++ [(Mk.mk l3 h3 l4 h4)]).length cbn) (d.r ++ [(Mk.mk l3 h3 l4 h4)]).length (encM (d.r ++ [(Mk.mk l3 h3 l4 h4)])) X2n; rw [List.length_append, encM_app]; exact hO2n
              · rw [← can_cells (d := { d with l := d.l ++ [(Mk.mk l1 h1 l2 h2)], r := d.r ++ [(Mk.mk l3 h3 l4 h4)] }) (oa := oan) (ob := obn) (ca := can) (cb := cbn) (n := d.l.length + 1) (m := d.r.length + 1) (lo := d.lo) (hi := d.hi) (hid := d.hid) (by simp) (by simp) rfl rfl rfl]; exact hh.less (.cons_cons _ (.cons _ (.cons _ (.refl _)))))
           | (have hmn := (hq1 ▸ hMd.paintL hma (by omega) (by omega) (by omega) : MadeC { d with l := d.l ++ [(Mk.mk l1 h1 l2 h2)] } (xl ||| q1, xr) z3 (pn + 1) ps sh)
              refine ⟨(tn, pn + 1, xl ||| q1, xr), ⟨⟨ac + 1 + 1 + 1 + 2 + 2 + 2 + 2 + 1, { d with l := d.l ++ [(Mk.mk l1 h1 l2 h2)] }, oan, ob, can, cb, ps, sh, X1n, X2, by omega, by omega, by omega, by omega, hmn, hlo, hhi, ?_, ?_, ?_, ?_, ?_, ?_, ?_⟩, hh.less (List.nil_sublist _)⟩, hf.head ⟨rfl, rfl, rfl, rfl, True.intro⟩ (Keep.cons rfl (Keep.cons rfl (Keep.cons rfl (Keep.cons rfl (Keep.cons rfl (Keep.cons rfl (Keep.cons rfl (Keep.cons rfl (Keep.cons rfl (Keep.cons rfl (Keep.cons rfl (Keep.cons rfl (Keep.cons rfl (Keep.cons rfl (Keep.cons rfl (Keep.cons rfl (Keep.cons rfl (Keep.cons rfl (Keep.cons rfl (Keep.cons rfl (Keep.cons rfl (Keep.cons rfl (Keep.cons rfl (Keep.cons rfl (Keep.cons rfl (Keep.cons rfl (Keep.cons rfl (Keep.cons rfl (Keep.cons rfl (Keep.cons rfl (Keep.cons rfl (Keep.cons rfl (Keep.cons rfl (Keep.cons rfl (Keep.cons rfl (Keep.cons rfl (Keep.cons rfl (Keep.cons rfl (Keep.cons rfl (Keep.cons rfl (Keep.cons rfl (Keep.cons rfl (Keep.cons rfl (Keep.cons rfl (Keep.cons rfl (Keep.cons rfl (Keep.cons rfl (Keep.cons rfl (Keep.cons rfl (Keep.cons rfl (Keep.cons rfl (Keep.cons rfl (Keep.cons rfl (Keep.cons rfl (Keep.cons rfl (Keep.cons rfl (Keep.cons rfl (Keep.cons rfl (Keep.cons rfl (Keep.cons rfl (Keep.cons rfl (Keep.cons rfl (Keep.cons rfl (Keep.cons rfl (Keep.cons rfl (Keep.cons rfl (Keep.cons rfl (Keep.cons rfl (Keep.cons rfl (Keep.cons rfl (Keep.cons rfl (Keep.cons rfl (Keep.cons rfl (Keep.cons rfl (Keep.cons rfl (Keep.cons rfl (Keep.cons rfl (Keep.cons rfl (Keep.cons rfl (Keep.cons rfl (Keep.cons rfl (Keep.cons rfl (Keep.base)))))))))))))))))))))))))))))))))))))))))))))))))))))))))))))))))))))))))))))))))))⟩
              · simp only [List.length_append, List.length_singleton]; omega
              · simp only; omega
              · simp only; omega
              · simp only; omega
              · show OwnSl 54 4 (.slice oan (d.l ++ [(Mk.mk l1 h1 l2 h2)]).length can) (d.l ++ [(Mk.mk l1 h1 l2 h2)]).length (encM (d.l ++ [(Mk.mk l1 h1 l2 h2)])) X1n; rw [List.length_append, encM_app]; exact hO1n
              · exact hO2
              · rw [← can_cells (d := { d with l := d.l ++ [(Mk.mk l1 h1 l2 h2)] }) (oa := oan) (ob := ob) (ca := can) (cb := cb) (n := d.l.length + 1) (m := d.r.length) (lo := d.lo) (hi := d.hi) (hid := d.hid) (by simp) (by simp) rfl rfl rfl]; exact hh.less (.cons_cons _ (.cons _ (.cons _ (.refl _)))))
           | (have hmn := (hq2 ▸ hMd.paintR hmb (by omega) (by omega) (by omega) : MadeC { d with r := d.r ++ [(Mk.mk l3 h3 l4 h4)] } (xl, xr ||| q2) z3 (pn + 1) ps sh)
              refine ⟨(tn, pn + 1, xl, xr ||| q2), ⟨⟨ac + 1 + 1 + 1 + 2 + 2 + 2 + 2 + 1, { d with r := d.r ++ [(Mk.mk l3 h3 l4 h4)] }, oa, obn, ca, cbn, ps, sh, X1, X2n, by omega, by omega, by omega, by omega, hmn, hlo, hhi, ?_, ?_, ?_, ?_, ?_, ?_, ?_⟩, hh.less (List.nil_sublist _)⟩, hf.head ⟨rfl, rfl, rfl, rfl, True.intro⟩ (Keep.cons rfl (Keep.cons rfl (Keep.cons rfl (Keep.cons rfl (Keep.cons rfl (Keep.cons rfl (Keep.cons rfl (Keep.cons rfl (Keep.cons rfl (Keep.cons rfl (Keep.cons rfl (Keep.cons rfl (Keep.cons rfl (Keep.cons rfl (Keep.cons rfl (Keep.cons rfl (Keep.cons rfl (Keep.cons rfl (Keep.cons rfl (Keep.cons rfl (Keep.cons rfl (Keep.cons rfl (Keep.cons rfl (Keep.cons rfl (Keep.cons rfl (Keep.cons rfl (Keep.cons rfl (Keep.cons rfl (Keep.cons rfl (Keep.cons rfl (Keep.cons rfl (Keep.cons rfl (Keep.cons rfl (Keep.cons rfl (Keep.cons rfl (Keep.cons rfl (Keep.cons rfl (Keep.cons rfl (Keep.cons rfl (Keep.cons rfl (Keep.cons rfl (Keep.cons rfl (Keep.cons rfl (Keep.cons rfl (Keep.cons rfl (Keep.cons rfl (Keep.cons rfl (Keep.cons rfl (Keep.cons rfl (Keep.cons rfl (Keep.cons rfl (Keep.cons rfl (Keep.cons rfl (Keep.cons rfl (Keep.cons rfl (Keep.cons rfl (Keep.cons rfl (Keep.cons rfl (Keep.cons rfl (Keep.cons rfl (Keep.cons rfl (Keep.cons rfl (Keep.cons rfl (Keep.cons rfl (Keep.cons rfl (Keep.cons rfl (Keep.cons rfl (Keep.cons rfl (Keep.cons rfl (Keep.cons rfl (Keep.cons rfl (Keep.cons rfl (Keep.cons rfl (Keep.cons rfl (Keep.cons rfl (Keep.cons rfl (Keep.cons rfl (Keep.cons rfl (Keep.cons rfl (Keep.cons rfl (Keep.cons rfl (Keep.cons rfl (Keep.base)))))))))))))))))))))))))))))))))))))))))))))))))))))))))))))))))))))))))))))))))))⟩
              · simp only; omega
              · simp only [List.length_append, List.length_singleton]; omega
              · simp only; omega
              · simp only; omega
              · exact hO1
              · show OwnSl 54 4 (.slice obn (d.r ++ [(Mk.mk l3 h3 l4 h4)]).length cbn) (d.r ++ [(Mk.mk l3 h3 l4 h4)]).length (encM (d.r ++ [(Mk.mk l3 h3 l4 h4)])) X2n; rw [List.length_append, encM_app]; exact hO2n
              · rw [← can_cells (d := { d with r := d.r ++ [(Mk.mk l3 h3 l4 h4)] }) (oa := oa) (ob := obn) (ca := ca) (cb := cbn) (n := d.l.length) (m := d.r.length + 1) (lo := d.lo) (hi := d.hi) (hid := d.hid) (by simp) (by simp) rfl rfl rfl]; exact hh.less (.cons_cons _ (.cons _ (.cons _ (.refl _)))))
           | (have hmn := hMd.hide hma
              refine ⟨(tn, pn, xl, xr), ⟨⟨ac + 1 + 1 + 1 + 2 + 2 + 2 + 2 + 1, { d with l := d.l ++ [(Mk.mk l1 h1 l2 h2)], hid := d.hid + 1 }, oan, ob, can, cb, ps, sh, X1n, X2, by omega, by omega, by omega, by omega, hmn, hlo, hhi, ?_, ?_, ?_, ?_, ?_, ?_, ?_⟩, hh.less (List.nil_sublist _)⟩, hf.head ⟨rfl, rfl, rfl, rfl, True.intro⟩ (Keep.cons rfl (Keep.cons rfl (Keep.cons rfl (Keep.cons rfl (Keep.cons rfl (Keep.cons rfl (Keep.cons rfl (Keep.cons rfl (Keep.cons rfl (Keep.cons rfl (Keep.cons rfl (Keep.cons rfl (Keep.cons rfl (Keep.cons rfl (Keep.cons rfl (Keep.cons rfl (Keep.cons rfl (Keep.cons rfl (Keep.cons rfl (Keep.cons rfl (Keep.cons rfl (Keep.cons rfl (Keep.cons rfl (Keep.cons rfl (Keep.cons rfl (Keep.cons rfl (Keep.cons rfl (Keep.cons rfl (Keep.cons rfl (Keep.cons rfl (Keep.cons rfl (Keep.cons rfl (Keep.cons rfl (Keep.cons rfl (Keep.cons rfl (Keep.cons rfl (Keep.cons rfl (Keep.cons rfl (Keep.cons rfl (Keep.cons rfl (Keep.cons rfl (Keep.cons rfl (Keep.cons rfl (Keep.cons rfl (Keep.cons rfl (Keep.cons rfl (Keep.cons rfl (Keep.cons rfl (Keep.cons rfl (Keep.cons rfl (Keep.cons rfl (Keep.cons rfl (Keep.cons rfl (Keep.cons rfl (Keep.cons rfl (Keep.cons rfl (Keep.cons rfl (Keep.cons rfl (Keep.cons rfl (Keep.cons rfl (Keep.cons rfl (Keep.cons rfl (Keep.cons rfl (Keep.cons rfl (Keep.cons rfl (Keep.cons rfl (Keep.cons rfl (Keep.cons rfl (Keep.cons rfl (Keep.cons rfl (Keep.cons rfl (Keep.cons rfl (Keep.cons rfl (Keep.cons rfl (Keep.cons rfl (Keep.cons rfl (Keep.cons rfl (Keep.cons rfl (Keep.cons rfl (Keep.cons rfl (Keep.cons rfl (Keep.cons rfl (Keep.base)))))))))))))))))))))))))))))))))))))))))))))))))))))))))))))))))))))))))))))))))))⟩
              · simp only [List.length_append, List.length_singleton]; omega
              · simp only; omega
              · show 0 ≤ d.hid + 1; omega
              · show d.hid + 1 ≤ _; omega
              · show OwnSl 54 4 (.slice oan (d.l ++ [(Mk.mk l1 h1 l2 h2)]).length can) (d.l ++ [(Mk.mk l1 h1 l2 h2)]).length (encM (d.l ++ [(Mk.mk l1 h1 l2 h2)])) X1n; rw [List.length_append, encM_app]; exact hO1n
              · exact hO2
              · rw [← can_cells (d := { d with l := d.l ++ [(Mk.mk l1 h1 l2 h2)], hid := d.hid + 1 }) (oa := oan) (ob := ob) (ca := can) (cb := cb) (n := d.l.length + 1) (m := d.r.length) (lo := d.lo) (hi := d.hi) (hid := d.hid + 1) (by simp) (by simp) rfl rfl rfl]; exact hh.less (.cons_cons _ (.cons _ (.cons _ (.refl _)))))
        ·refine mc_e rfl fun Q1 => ?_
         refine ops_buildSl hf hh Try.bl_25_1 rfl rfl (.inl rfl) rfl ?_; clear hf hh; clear a; intro B96 a w hf hh
         refine ops_end ?_
         refine then_n ⟨⟨fun _ _ => (AtE.mk3 hh.ext (hh.get (B2, .cells (canV d 0 oa ob ca cb).cells 31) (by simp)) (hh.get (B13, .cells (mkV (Mk.mk l1 h1 l2 h2)).cells 54) (by simp)) (hh.get (B14, .cells (mkV (Mk.mk l3 h3 l4 h4)).cells 54) (by simp))), trivial⟩, ?_⟩
         refine mc_e rfl fun Q1 => ?_
         first
           | (refine ops_append (e := 54) (size := 4) (xs := encM d.l) (X := X1) (Z := _) (m := d.l.length) (q := 1) hf (hh.perm (.cons _ (pull1 (F := [_, _, _, _, _])))) Try.eb_25 rfl rfl hO1 rfl rfl rfl (by simp only [maxLen]; omega) (by omega) (.inl rfl) rfl ?_)
           | (refine ops_append (e := 54) (size := 4) (xs := encM d.l) (X := X1) (Z := _) (m := d.l.length) (q := 1) hf ((hh.perm (.swap _ _ _)).perm (.cons _ (pull1 (F := [_, _, _, _, _, _])))) Try.eb_25 rfl rfl hO1 rfl rfl rfl (by simp only [maxLen]; omega) (by omega) (.inl rfl) rfl ?_)
           | (refine ops_append (e := 54) (size := 4) (xs := encM d.l) (X := X1) (Z := _) (m := d.l.length) (q := 1) hf (hh.perm (.cons _ (pull1 (F := [_, _, _, _, _, _])))) Try.eb_25 rfl rfl hO1 rfl rfl rfl (by simp only [maxLen]; omega) (by omega) (.inl rfl) rfl ?_)
         clear hf hh a; intro v1 X1n a w hO1n hf hh
         first
           | replace hh := hh.perm (pull1 (F := [_, _, _, _, _, _])).symm
           | replace hh := hh.perm (pull1 (F := [_, _, _, _, _])).symm
         obtain ⟨oan, can, rfl⟩ := OwnSl_val hO1n
         refine ops_end ?_
         refine then_n ⟨⟨fun _ _ => (AtE.mk3 hh.ext (hh.get (B2, .cells (canV d 0 oa ob ca cb).cells 31) (by simp)) (hh.get (B13, .cells (mkV (Mk.mk l1 h1 l2 h2)).cells 54) (by simp)) (hh.get (B14, .cells (mkV (Mk.mk l3 h3 l4 h4)).cells 54) (by simp))), trivial⟩, ?_⟩
         refine mc_e rfl fun Q1 => ?_
         refine ops_append (e := 54) (size := 4) (xs := encM d.r) (X := X2) (Z := _) (m := d.r.length) (q := 1) hf (hh.perm (.cons _ (pull2e (F := [_, _, _, _, _])))) Try.eb_25 rfl rfl hO2 rfl rfl rfl (by simp only [maxLen]; omega) (by omega) (.inl rfl) rfl ?_
         clear hf hh a; intro v2 X2n a w hO2n hf hh
         replace hh := hh.perm (pull2e (F := [_, _, _, _, _])).symm
         obtain ⟨obn, cbn, rfl⟩ := OwnSl_val hO2n
         refine ops_end ?_
         refine then_n ⟨⟨fun _ _ => (AtE.mk3 hh.ext (hh.get (B2, .cells (canV d 0 oa ob ca cb).cells 31) (by simp)) (hh.get (B13, .cells (mkV (Mk.mk l1 h1 l2 h2)).cells 54) (by simp)) (hh.get (B14, .cells (mkV (Mk.mk l3 h3 l4 h4)).cells 54) (by simp))), trivial⟩, ?_⟩
         refine mc_p rfl   hf (yv_nilCheck rfl) (.inl rfl) rfl rfl ?_; clear hf a; intro a hf
         refine mc_p rfl   hf (yv_fieldAddr Try.fo_29_0 rfl) (.inl rfl) rfl rfl ?_; clear hf a; intro a hf
         refine mc_e rfl fun Q1 => ?_
         refine o_store hf hh Try.sz_25 fun w hh => ?_
         refine ops_end ?_
         refine then_n ⟨⟨fun h => Bool.noConfusion (show true = false from h), trivial⟩, ?_⟩
         refine mc_p rfl   hf (yv_nilCheck rfl) (.inl rfl) rfl rfl ?_; clear hf a; intro a hf
         refine mc_p rfl   hf (yv_fieldAddr Try.fo_29_1 rfl) (.inl rfl) rfl rfl ?_; clear hf a; intro a hf
         refine mc_e rfl fun Q1 => ?_
         refine o_store hf hh Try.sz_25 fun w hh => ?_
         refine ops_end ?_
         refine then_n ⟨⟨fun h => Bool.noConfusion (show true = false from h), trivial⟩, ?_⟩
         refine mc_end ?_
         refine blk_n ?_
         refine blk_n ?_
         refine then_n ?_
         first
           | (have hmn := hMd.pair (z := sf) hma hmb (by simp only; omega) (by simp only; omega) (by simp only; omega) (by simp only; omega) (by omega) (by omega)
              refine ⟨(tn, pn, xl, xr), ⟨⟨ac + 1 + 1 + 1 + 2 + 2 + 2 + 2 + 1, { d with l := d.l ++ [(Mk.mk l1 h1 l2 h2)], r := d.r ++ [(Mk.mk l3 h3 l4 h4)] }, oan, obn, can, cbn, _, _, X1n, X2n, by omega, by omega, by omega, by omega, hmn, hlo, hhi, ?_, ?_, ?_, ?_, ?_, ?_, ?_⟩, hh.less (List.nil_sublist _)⟩, hf.head ⟨rfl, rfl, rfl, rfl, True.intro⟩ (Keep.cons rfl (Keep.cons rfl (Keep.cons rfl (Keep.cons rfl (Keep.cons rfl (Keep.cons rfl (Keep.cons rfl (Keep.cons rfl (Keep.cons rfl (Keep.cons rfl (Keep.cons rfl (Keep.cons rfl (Keep.cons rfl (Keep.cons rfl (Keep.cons rfl (Keep.cons rfl (Keep.cons rfl (Keep.cons rfl (Keep.cons rfl (Keep.cons rfl (Keep.cons rfl (Keep.cons rfl (Keep.cons rfl (Keep.cons rfl (Keep.cons rfl (Keep.cons rfl (Keep.cons rfl (Keep.cons rfl (Keep.cons rfl (Keep.cons rfl (Keep.cons rfl (Keep.cons rfl (Keep.cons rfl (Keep.cons rfl (Keep.cons rfl (Keep.cons rfl (Keep.cons rfl (Keep.cons rfl (Keep.cons rfl (Keep.cons rfl (Keep.cons rfl (Keep.cons rfl (Keep.cons rfl (Keep.cons rfl (Keep.cons rfl (Keep.cons rfl (Keep.cons rfl (Keep.cons rfl (Keep.cons rfl (Keep.cons rfl (Keep.cons rfl (Keep.cons rfl (Keep.cons rfl (Keep.cons rfl (Keep.cons rfl (Keep.cons rfl (Keep.cons rfl (Keep.cons rfl (Keep.cons rfl (Keep.cons rfl (Keep.cons rfl (Keep.cons rfl (Keep.cons rfl (Keep.cons rfl (Keep.cons rfl (Keep.cons rfl (Keep.cons rfl (Keep.cons rfl (Keep.cons rfl (Keep.cons rfl (Keep.cons rfl (Keep.cons rfl (Keep.cons rfl (Keep.cons rfl (Keep.cons rfl (Keep.cons rfl (Keep.cons rfl (Keep.cons rfl (Keep.cons rfl (Keep.cons rfl (Keep.cons rfl (Keep.cons rfl (Keep.base)))))))))))))))))))))))))))))))))))))))))))))))))))))))))))))))))))))))))))))))))))⟩
              · simp only [List.length_append, List.length_singleton]; omega
              · simp only [List.length_append, List.length_singleton]; omega
              · simp only; omega
              · simp only; omega
              · show OwnSl 54 4 (.slice oan (d.l ++ [(Mk.mk l1 h1 l2 h2)]).length can) (d.l ++ [(Mk.mk l1 h1 l2 h2)]).length (encM (d.l ++ [(Mk.mk l1 h1 l2 h2)])) X1n; rw [List.length_append, encM_app]; exact hO1n
              · show OwnSl 54 4 (.slice obn (d.r ++ [(Mk.mk l3 h3 l4 h4)]).length cbn) (d.r ++ [(Mk.mk l3 h3 l4 h4)]).length (encM (d.r ++ [(Mk.mk l3 h3 l4 h4)])) X2n; rw [List.length_append, encM_app]; exact hO2n
              · rw [← can_cells (d := { d with l := d.l ++ [(Mk.mk l1 h1 l2 h2)], r := d.r ++ [(Mk.mk l3 h3 l4 h4)] }) (oa := oan) (ob := obn) (ca := can) (cb := cbn) (n := d.l.length + 1) (m := d.r.length + 1) (lo := d.lo) (hi := d.hi) (hid := d.hid) (by simp) (by simp) rfl rfl rfl]; exact hh.less (.cons_cons _ (.cons _ (.cons _ (.refl _)))))
           | (have hmn := (hq1 ▸ hMd.paintL hma (by omega) (by omega) (by omega) : MadeC { d with l := d.l ++ [(Mk.mk l1 h1 l2 h2)] } (xl ||| q1, xr) z3 (pn + 1) ps sh)
              refine ⟨(tn, pn + 1, xl ||| q1, xr), ⟨⟨ac + 1 + 1 + 1 + 2 + 2 + 2 + 2 + 1, { d with l := d.l ++ [(Mk.mk l1 h1 l2 h2)] }, oan, ob, can, cb, ps, sh, X1n, X2, by omega, by omega, by omega, by omega, hmn, hlo, hhi, ?_, ?_, ?_, ?_, ?_, ?_, ?_⟩, hh.less (List.nil_sublist _)⟩, hf.head ⟨rfl, rfl, rfl, rfl, True.intro⟩ (Keep.cons rfl (Keep.cons rfl (Keep.cons rfl (Keep.cons rfl (Keep.cons rfl (Keep.cons rfl (Keep.cons rfl (Keep.cons rfl (Keep.cons rfl (Keep.cons rfl (Keep.cons rfl (Keep.cons rfl (Keep.cons rfl (Keep.cons rfl (Keep.cons rfl (Keep.cons rfl (Keep.cons rfl (Keep.cons rfl (Keep.cons rfl (Keep.cons rfl (Keep.cons rfl (Keep.cons rfl (Keep.cons rfl (Keep.cons rfl (Keep.cons rfl (Keep.cons rfl (Keep.cons rfl (Keep.cons rfl (Keep.cons rfl (Keep.cons rfl (Keep.cons rfl (Keep.cons rfl (Keep.cons rfl (Keep.cons rfl (Keep.cons rfl (Keep.cons rfl (Keep.cons rfl (Keep.cons rfl (Keep.cons rfl (Keep.cons rfl (Keep.cons rfl (Keep.cons rfl (Keep.cons rfl (Keep.cons rfl (Keep.cons rfl (Keep.cons rfl (Keep.cons rfl (Keep.cons rfl (Keep.cons rfl (Keep.cons rfl (Keep.cons rfl (Keep.cons rfl (Keep.cons rfl (Keep.cons rfl (Keep.cons rfl (Keep.cons rfl (Keep.cons rfl (Keep.cons rfl (Keep.cons rfl (Keep.cons rfl (Keep.cons rfl (Keep.cons rfl (Keep.cons rfl (Keep.cons rfl (Keep.cons rfl (Keep.cons rfl (Keep.cons rfl (Keep.cons rfl (Keep.cons rfl (Keep.cons rfl (Keep.cons rfl (Keep.cons rfl (Keep.cons rfl (Keep.cons rfl (Keep.cons rfl (Keep.cons rfl (Keep.cons rfl (Keep.cons rfl (Keep.cons rfl (Keep.cons rfl (Keep.cons rfl (Keep.cons rfl (Keep.base)))))))))))))))))))))))))))))))))))))))))))))))))))))))))))))))))))))))))))))))))))⟩
              · simp only [List.length_append, List.length_singleton]; omega
              · simp only; omega
              · simp only; omega
              · simp only; omega
              · show OwnSl 54 4 (.slice oan (d.l ++ [(Mk.mk l1 h1 l2 h2)]).length can) (d.l ++ [(Mk.mk l1 h1 l2 h2)]).length (encM (d.l ++ [(Mk.mk l1 h1 l2 h2)])) X1n; rw [List.length_append, encM_app]; exact hO1n
              · exact hO2
              · rw [← can_cells (d := { d with l := d.l ++ [(Mk.mk l1 h1 l2 h2)] }) (oa := oan) (ob := ob) (ca := can) (cb := cb) (n := d.l.length + 1) (m := d.r.length) (lo := d.lo) (hi := d.hi) (hid := d.hid) (by simp) (by simp) rfl rfl rfl]; exact hh.less (.cons_cons _ (.cons _ (.cons _ (.refl _)))))
           | (have hmn := (hq2 ▸ hMd.paintR hmb (by omega) (by omega) (by omega) : MadeC { d with r := d.r ++ [(Mk.mk l3 h3 l4 h4)] } (xl, xr ||| q2) z3 (pn + 1) ps sh)
              refine ⟨(tn, pn + 1, xl, xr ||| q2), ⟨⟨ac + 1 + 1 + 1 + 2 + 2 + 2 + 2 + 1, { d with r := d.r ++ [(Mk.mk l3 h3 l4 h4)] }, oa, obn, ca, cbn, ps, sh, X1, X2n, by omega, by omega, by omega, by omega, hmn, hlo, hhi, ?_, ?_, ?_, ?_, ?_, ?_, ?_⟩, hh.less (List.nil_sublist _)⟩, hf.head ⟨rfl, rfl, rfl, rfl, True.intro⟩ (Keep.cons rfl (Keep.cons rfl (Keep.cons rfl (Keep.cons rfl (Keep.cons rfl (Keep.cons rfl (Keep.cons rfl (Keep.cons rfl (Keep.cons rfl (Keep.cons rfl (Keep.cons rfl (Keep.cons rfl (Keep.cons rfl (Keep.cons rfl (Keep.cons rfl (Keep.cons rfl (Keep.cons rfl (Keep.cons rfl (Keep.cons rfl (Keep.cons rfl (Keep.cons rfl (Keep.cons rfl (Keep.cons rfl (Keep.cons rfl (Keep.cons rfl (Keep.cons rfl (Keep.cons rfl (Keep.cons rfl (Keep.cons rfl (Keep.cons rfl (Keep.cons rfl (Keep.cons rfl (Keep.cons rfl (Keep.cons rfl (Keep.cons rfl (Keep.cons rfl (Keep.cons rfl (Keep.cons rfl (Keep.cons rfl (Keep.cons rfl (Keep.cons rfl (Keep.cons rfl (Keep.cons rfl (Keep.cons rfl (Keep.cons rfl (Keep.cons rfl (Keep.cons rfl (Keep.cons rfl (Keep.cons rfl (Keep.cons rfl (Keep.cons rfl (Keep.cons rfl (Keep.cons rfl (Keep.cons rfl (Keep.cons rfl (Keep.cons rfl (Keep.cons rfl (Keep.cons rfl (Keep.cons rfl (Keep.cons rfl (Keep.cons rfl (Keep.cons rfl (Keep.cons rfl (Keep.cons rfl (Keep.cons rfl (Keep.cons rfl (Keep.cons rfl (Keep.cons rfl (Keep.cons rfl (Keep.cons rfl (Keep.cons rfl (Keep.cons rfl (Keep.cons rfl (Keep.cons rfl (Keep.cons rfl (Keep.cons rfl (Keep.cons rfl (Keep.cons rfl (Keep.cons rfl (Keep.cons rfl (Keep.cons rfl (Keep.cons rfl (Keep.base)))))))))))))))))))))))))))))))))))))))))))))))))))))))))))))))))))))))))))))))))))⟩
              · simp only; omega
              · simp only [List.length_append, List.length_singleton]; omega
              · simp only; omega
              · simp only; omega
              · exact hO1
              · show OwnSl 54 4 (.slice obn (d.r ++ [(Mk.mk l3 h3 l4 h4)]).length cbn) (d.r ++ [(Mk.mk l3 h3 l4 h4)]).length (encM (d.r ++ [(Mk.mk l3 h3 l4 h4)])) X2n; rw [List.length_append, encM_app]; exact hO2n
              · rw [← can_cells (d := { d with r := d.r ++ [(Mk.mk l3 h3 l4 h4)] }) (oa := oa) (ob := obn) (ca := ca) (cb := cbn) (n := d.l.length) (m := d.r.length + 1) (lo := d.lo) (hi := d.hi) (hid := d.hid) (by simp) (by simp) rfl rfl rfl]; exact hh.less (.cons_cons _ (.cons _ (.cons _ (.refl _)))))
           | (have hmn := hMd.hide hma
              refine ⟨(tn, pn, xl, xr), ⟨⟨ac + 1 + 1 + 1 + 2 + 2 + 2 + 2 + 1, { d with l := d.l ++ [(Mk.mk l1 h1 l2 h2)], hid := d.hid + 1 }, oan, ob, can, cb, ps, sh, X1n, X2, by omega, by omega, by omega, by omega, hmn, hlo, hhi, ?_, ?_, ?_, ?_, ?_, ?_, ?_⟩, hh.less (List.nil_sublist _)⟩, hf.head ⟨rfl, rfl, rfl, rfl, True.intro⟩ (Keep.cons rfl (Keep.cons rfl (Keep.cons rfl (Keep.cons rfl (Keep.cons rfl (Keep.cons rfl (Keep.cons rfl (Keep.cons rfl (Keep.cons rfl (Keep.cons rfl (Keep.cons rfl (Keep.cons rfl (Keep.cons rfl (Keep.cons rfl (Keep.cons rfl (Keep.cons rfl (Keep.cons rfl (Keep.cons rfl (Keep.cons rfl (Keep.cons rfl (Keep.cons rfl (Keep.cons rfl (Keep.cons rfl (Keep.cons rfl (Keep.cons rfl (Keep.cons rfl (Keep.cons rfl (Keep.cons rfl (Keep.cons rfl (Keep.cons rfl (Keep.cons rfl (Keep.cons rfl (Keep.cons rfl (Keep.cons rfl (Keep.cons rfl (Keep.cons rfl (Keep.cons rfl (Keep.cons rfl (Keep.cons rfl (Keep.cons rfl (Keep.cons rfl (Keep.cons rfl (Keep.cons rfl (Keep.cons rfl (Keep.cons rfl (Keep.cons rfl (Keep.cons rfl (Keep.cons rfl (Keep.cons rfl (Keep.cons rfl (Keep.cons rfl (Keep.cons rfl (Keep.cons rfl (Keep.cons rfl (Keep.cons rfl (Keep.cons rfl (Keep.cons rfl (Keep.cons rfl (Keep.cons rfl (Keep.cons rfl (Keep.cons rfl (Keep.cons rfl (Keep.cons rfl (Keep.cons rfl (Keep.cons rfl (Keep.cons rfl (Keep.cons rfl (Keep.cons rfl (Keep.cons rfl (Keep.cons rfl (Keep.cons rfl (Keep.cons rfl (Keep.cons rfl (Keep.cons rfl (Keep.cons rfl (Keep.cons rfl (Keep.cons rfl (Keep.cons rfl (Keep.cons rfl (Keep.cons rfl (Keep.cons rfl (Keep.cons rfl (Keep.base)))))))))))))))))))))))))))))))))))))))))))))))))))))))))))))))))))))))))))))))))))⟩
              · simp only [List.length_append, List.length_singleton]; omega
              · simp only; omega
              · show 0 ≤ d.hid + 1; omega
              · show d.hid + 1 ≤ _; omega
              · show OwnSl 54 4 (.slice oan (d.l ++ [(Mk.mk l1 h1 l2 h2)]).length can) (d.l ++ [(Mk.mk l1 h1 l2 h2)]).length (encM (d.l ++ [(Mk.mk l1 h1 l2 h2)])) X1n; rw [List.length_append, encM_app]; exact hO1n
              · exact hO2
              · rw [← can_cells (d := { d with l := d.l ++ [(Mk.mk l1 h1 l2 h2)], hid := d.hid + 1 }) (oa := oan) (ob := ob) (ca := can) (cb := cb) (n := d.l.length + 1) (m := d.r.length) (lo := d.lo) (hi := d.hi) (hid := d.hid + 1) (by simp) (by simp) rfl rfl rfl]; exact hh.less (.cons_cons _ (.cons _ (.cons _ (.refl _)))))
       ·refine mc_e rfl fun Q1 => ?_
        refine ops_buildSl hf hh Try.bl_25_1 rfl rfl (.inl rfl) rfl ?_; clear hf hh; clear a; intro B96 a w hf hh
        refine ops_end ?_
        refine then_n ⟨⟨fun _ _ => (AtE.mk3 hh.ext (hh.get (B2, .cells (canV d 0 oa ob ca cb).cells 31) (by simp)) (hh.get (B13, .cells (mkV (Mk.mk l1 h1 l2 h2)).cells 54) (by simp)) (hh.get (B14, .cells (mkV (Mk.mk l3 h3 l4 h4)).cells 54) (by simp))), trivial⟩, ?_⟩
        refine mc_e rfl fun Q1 => ?_
        refine ops_buildSl hf hh Try.bl_25_1 rfl rfl (.inl rfl) rfl ?_; clear hf hh; clear a; intro B89 a w hf hh
        refine ops_end ?_
        refine then_n ⟨⟨fun _ _ => (AtE.mk3 hh.ext (hh.get (B2, .cells (canV d 0 oa ob ca cb).cells 31) (by simp)) (hh.get (B13, .cells (mkV (Mk.mk l1 h1 l2 h2)).cells 54) (by simp)) (hh.get (B14, .cells (mkV (Mk.mk l3 h3 l4 h4)).cells 54) (by simp))), trivial⟩, ?_⟩
        refine mc_e rfl fun Q1 => ?_
        first
          | (refine ops_append (e := 54) (size := 4) (xs := encM d.l) (X := X1) (Z := _) (m := d.l.length) (q := 1) hf (hh.perm (.cons _ (pull1 (F := [_, _, _, _, _])))) Try.eb_25 rfl rfl hO1 rfl rfl rfl (by simp only [maxLen]; omega) (by omega) (.inl rfl) rfl ?_)
          | (refine ops_append (e := 54) (size := 4) (xs := encM d.l) (X := X1) (Z := _) (m := d.l.length) (q := 1) hf ((hh.perm (.swap _ _ _)).perm (.cons _ (pull1 (F := [_, _, _, _, _, _])))) Try.eb_25 rfl rfl hO1 rfl rfl rfl (by simp only [maxLen]; omega) (by omega) (.inl rfl) rfl ?_)
          | (refine ops_append (e := 54) (size := 4) (xs := encM d.l) (X := X1) (Z := _) (m := d.l.length) (q := 1) hf (hh.perm (.cons _ (pull1 (F := [_, _, _, _, _, _])))) Try.eb_25 rfl rfl hO1 rfl rfl rfl (by simp only [maxLen]; omega) (by omega) (.inl rfl) rfl ?_)
        clear hf hh a; intro v1 X1n a w hO1n hf hh
        first
          | replace hh := hh.perm (pull1 (F := [_, _, _, _, _, _])).symm
          | replace hh := hh.perm (pull1 (F := [_, _, _, _, _])).symm
        obtain ⟨oan, can, rfl⟩ := OwnSl_val hO1n
        refine ops_end ?_
        refine then_n ⟨⟨fun _ _ => (AtE.mk3 hh.ext (hh.get (B2, .cells (canV d 0 oa ob ca cb).cells 31) (by simp)) (hh.get (B13, .cells (mkV (Mk.mk l1 h1 l2 h2)).cells 54) (by simp)) (hh.get (B14, .cells (mkV (Mk.mk l3 h3 l4 h4)).cells 54) (by simp))), trivial⟩, ?_⟩
        refine mc_e rfl fun Q1 => ?_
        refine ops_append (e := 54) (size := 4) (xs := encM d.r) (X := X2) (Z := _) (m := d.r.length) (q := 1) hf (hh.perm (.cons _ (pull2e (F := [_, _, _, _, _])))) Try.eb_25 rfl rfl hO2 rfl rfl rfl (by simp only [maxLen]; omega) (by omega) (.inl rfl) rfl ?_
        clear hf hh a; intro v2 X2n a w hO2n hf hh
        replace hh := hh.perm (pull2e (F := [_, _, _, _, _])).symm
        obtain ⟨obn, cbn, rfl⟩ := OwnSl_val hO2n
        refine ops_end ?_
        refine then_n ⟨⟨fun _ _ => (AtE.mk3 hh.ext (hh.get (B2, .cells (canV d 0 oa ob ca cb).cells 31) (by simp)) (hh.get (B13, .cells (mkV (Mk.mk l1 h1 l2 h2)).cells 54) (by simp)) (hh.get (B14, .cells (mkV (Mk.mk l3 h3 l4 h4)).cells 54) (by simp))), trivial⟩, ?_⟩
        refine mc_p rfl   hf (yv_nilCheck rfl) (.inl rfl) rfl rfl ?_; clear hf a; intro a hf
        refine mc_p rfl   hf (yv_fieldAddr Try.fo_29_0 rfl) (.inl rfl) rfl rfl ?_; clear hf a; intro a hf
        refine mc_e rfl fun Q1 => ?_
        refine o_store hf hh Try.sz_25 fun w hh => ?_
        refine ops_end ?_
        refine then_n ⟨⟨fun h => Bool.noConfusion (show true = false from h), trivial⟩, ?_⟩
        refine mc_p rfl   hf (yv_nilCheck rfl) (.inl rfl) rfl rfl ?_; clear hf a; intro a hf
        refine mc_p rfl   hf (yv_fieldAddr Try.fo_29_1 rfl) (.inl rfl) rfl rfl ?_; clear hf a; intro a hf
        refine mc_e rfl fun Q1 => ?_
        refine o_store hf hh Try.sz_25 fun w hh => ?_
        refine ops_end ?_
        refine then_n ⟨⟨fun h => Bool.noConfusion (show true = false from h), trivial⟩, ?_⟩
        refine mc_end ?_
        refine blk_n ?_
        refine blk_n ?_
        refine then_n ?_
        first
          | (have hmn := hMd.pair (z := sf) hma hmb (by simp only; omega) (by simp only; omega) (by simp only; omega) (by simp only; omega) (by omega) (by omega)
             refine ⟨(tn, pn, xl, xr), ⟨⟨ac + 1 + 1 + 1 + 2 + 2 + 2 + 2 + 1, { d with l := d.l ++ [(Mk.mk l1 h1 l2 h2)], r := d.r ++ [(Mk.mk l3 h3 l4 h4)] }, oan, obn, can, cbn, _, _, X1n, X2n, by omega, by omega, by omega, by omega, hmn, hlo, hhi, ?_, ?_, ?_, ?_, ?_, ?_, ?_⟩, hh.less (List.nil_sublist _)⟩, hf.head ⟨rfl, rfl, rfl, rfl, True.intro⟩ (Keep.cons rfl (Keep.cons rfl (Keep.cons rfl (Keep.cons rfl (Keep.cons rfl (Keep.cons rfl (Keep.cons rfl (Keep.cons rfl (Keep.cons rfl (Keep.cons rfl (Keep.cons rfl (Keep.cons rfl (Keep.cons rfl (Keep.cons rfl (Keep.cons rfl (Keep.cons rfl (Keep.cons rfl (Keep.cons rfl (Keep.cons rfl (Keep.cons rfl (Keep.cons rfl (Keep.cons rfl (Keep.cons rfl (Keep.cons rfl (Keep.cons rfl (Keep.cons rfl (Keep.cons rfl (Keep.cons rfl (Keep.cons rfl (Keep.cons rfl (Keep.cons rfl (Keep.cons rfl (Keep.cons rfl (Keep.cons rfl (Keep.cons rfl (Keep.cons rfl (Keep.cons rfl (Keep.cons rfl (Keep.cons rfl (Keep.cons rfl (Keep.cons rfl (Keep.cons rfl (Keep.cons rfl (Keep.cons rfl (Keep.cons rfl (Keep.cons rfl (Keep.cons rfl (Keep.cons rfl (Keep.cons rfl (Keep.cons rfl (Keep.cons rfl (Keep.cons rfl (Keep.cons rfl (Keep.cons rfl (Keep.cons rfl (Keep.cons rfl (Keep.cons rfl (Keep.cons rfl (Keep.cons rfl (Keep.cons rfl (Keep.cons rfl (Keep.cons rfl (Keep.cons rfl (Keep.cons rfl (Keep.cons rfl (Keep.cons rfl (Keep.cons rfl (Keep.cons rfl (Keep.cons rfl (Keep.cons rfl (Keep.cons rfl (Keep.cons rfl (Keep.cons rfl (Keep.cons rfl (Keep.cons rfl (Keep.cons rfl (Keep.cons rfl (Keep.cons rfl (Keep.cons rfl (Keep.cons rfl (Keep.cons rfl (Keep.cons rfl (Keep.base)))))))))))))))))))))))))))))))))))))))))))))))))))))))))))))))))))))))))))))))))))⟩
             · simp only [List.length_append, List.length_singleton]; omega
             · simp only [List.length_append, List.length_singleton]; omega
             · simp only; omega
             · simp only; omega
             · show OwnSl 54 4 (.slice oan (d.l ++ [(Mk.mk l1 h1 l2 h2)]).length can) (d.l ++ [(Mk.mk l1 h1 l2 h2)]).length (encM (d.l ++ [(Mk.mk l1 h1 l2 h2)])) X1n; rw [List.length_append, encM_app]; exact hO1n
             · show OwnSl 54 4 (.slice obn (d.r ++ [(Mk.mk l3 h3 l4 h4)]).length cbn) (d.r ++ [(Mk.mk l3 h3 l4 h4)]).length (encM (d.r ++ [(Mk.mk l3 h3 l4 h4)])) X2n; rw [List.length_append, encM_app]; exact hO2n
             · rw [← can_cells (d := { d with l := d.l ++ [(Mk.mk l1 h1 l2 h2)], r := d.r ++ [(Mk.mk l3 h3 l4 h4)] }) (oa := oan) (ob := obn) (ca := can) (cb := cbn) (n := d.l.length + 1) (m := d.r.length + 1) (lo := d.lo) (hi := d.hi) (hid := d.hid) (by simp) (by simp) rfl rfl rfl]; exact hh.less (.cons_cons _ (.cons _ (.cons _ (.refl _)))))
          | (have hmn := (hq1 ▸ hMd.paintL hma (by omega) (by omega) (by omega) : MadeC { d with l := d.l ++ [(Mk.mk l1 h1 l2 h2)] } (xl ||| q1, xr) z3 (pn + 1) ps sh)
             refine ⟨(tn, pn + 1, xl ||| q1, xr), ⟨⟨ac + 1 + 1 + 1 + 2 + 2 + 2 + 2 + 1, { d with l := d.l ++ [(Mk.mk l1 h1 l2 h2)] }, oan, ob, can, cb, ps, sh, X1n, X2, by omega, by omega, by omega, by omega, hmn, hlo, hhi, ?_, ?_, ?_, ?_, ?_, ?_, ?_⟩, hh.less (List.nil_sublist _)⟩, hf.head ⟨rfl, rfl, rfl, rfl, True.intro⟩ (Keep.cons rfl (Keep.cons rfl (Keep.cons rfl (Keep.cons rfl (Keep.cons rfl (Keep.cons rfl (Keep.cons rfl (Keep.cons rfl (Keep.cons rfl (Keep.cons rfl (Keep.cons rfl (Keep.cons rfl (Keep.cons rfl (Keep.cons rfl (Keep.cons rfl (Keep.cons rfl (Keep.cons rfl (Keep.cons rfl (Keep.cons rfl (Keep.cons rfl (Keep.cons rfl (Keep.cons rfl (Keep.cons rfl (Keep.cons rfl (Keep.cons rfl (Keep.cons rfl (Keep.cons rfl (Keep.cons rfl (Keep.cons rfl (Keep.cons rfl (Keep.cons rfl (Keep.cons rfl (Keep.cons rfl (Keep.cons rfl (Keep.cons rfl (Keep.cons rfl (Keep.cons rfl (Keep.cons rfl (Keep.cons rfl (Keep.cons rfl (Keep.cons rfl (Keep.cons rfl (Keep.cons rfl (Keep.cons rfl (Keep.cons rfl (Keep.cons rfl (Keep.cons rfl (Keep.cons rfl (Keep.cons rfl (Keep.cons rfl (Keep.cons rfl (Keep.cons rfl (Keep.cons rfl (Keep.cons rfl (Keep.cons rfl (Keep.cons rfl (Keep.cons rfl (Keep.cons rfl (Keep.cons rfl (Keep.cons rfl (Keep.cons rfl (Keep.cons rfl (Keep.cons rfl (Keep.cons rfl (Keep.cons rfl (Keep.cons rfl (Keep.cons rfl (Keep.cons rfl (Keep.cons rfl (Keep.cons rfl (Keep.cons rfl (Keep.cons rfl (Keep.cons rfl (Keep.cons rfl (Keep.cons rfl (Keep.cons rfl (Keep.cons rfl (Keep.cons rfl (Keep.cons rfl (Keep.cons rfl (Keep.cons rfl (Keep.cons rfl (Keep.base)))))))))))))))))))))))))))))))))))))))))))))))))))))))))))))))))))))))))))))))))))⟩
             · simp only [List.length_append, List.length_singleton]; omega
             · simp only; omega
             · simp only; omega
             · simp only; omega
             · show OwnSl 54 4 (.slice oan (d.l ++ [(Mk.mk l1 h1 l2 h2)]).length can) (d.l ++ [(Mk.mk l1 h1 l2 h2)]).length (encM (d.l ++ [(Mk.mk l1 h1 l2 h2)])) X1n; rw [List.length_append, encM_app]; exact hO1n
             · exact hO2
             · rw [← can_cells (d := { d with l := d.l ++ [(Mk.mk l1 h1 l2 h2)] }) (oa := oan) (ob := ob) (ca := can) (cb := cb) (n := d.l.length + 1) (m := d.r.length) (lo := d.lo) (hi := d.hi) (hid := d.hid) (by simp) (by simp) rfl rfl rfl]; exact hh.less (.cons_cons _ (.cons _ (.cons _ (.refl _)))))
          | (have hmn := (hq2 ▸ hMd.paintR hmb (by omega) (by omega) (by omega) : MadeC { d with r := d.r ++ [(Mk.mk l3 h3 l4 h4)] } (xl, xr ||| q2) z3 (pn + 1) ps sh)
             refine ⟨(tn, pn + 1, xl, xr ||| q2), ⟨⟨ac + 1 + 1 + 1 + 2 + 2 + 2 + 2 + 1, { d with r := d.r ++ [(Mk.mk l3 h3 l4 h4)] }, oa, obn, ca, cbn, ps, sh, X1, X2n, by omega, by omega, by omega, by omega, hmn, hlo, hhi, ?_, ?_, ?_, ?_, ?_, ?_, ?_⟩, hh.less (List.nil_sublist _)⟩, hf.head ⟨rfl, rfl, rfl, rfl, True.intro⟩ (Keep.cons rfl (Keep.cons rfl (Keep.cons rfl (Keep.cons rfl (Keep.cons rfl (Keep.cons rfl (Keep.cons rfl (Keep.cons rfl (Keep.cons rfl (Keep.cons rfl (Keep.cons rfl (Keep.cons rfl (Keep.cons rfl (Keep.cons rfl (Keep.cons rfl (Keep.cons rfl (Keep.cons rfl (Keep.cons rfl (Keep.cons rfl (Keep.cons rfl (Keep.cons rfl (Keep.cons rfl (Keep.cons rfl (Keep.cons rfl (Keep.cons rfl (Keep.cons rfl (Keep.cons rfl (Keep.cons rfl (Keep.cons rfl (Keep.cons rfl (Keep.cons rfl (Keep.cons rfl (Keep.cons rfl (Keep.cons rfl (Keep.cons rfl (Keep.cons rfl (Keep.cons rfl (Keep.cons rfl (Keep.cons rfl (Keep.cons rfl (Keep.cons rfl (Keep.cons rfl (Keep.cons rfl (Keep.cons rfl (Keep.cons rfl (Keep.cons rfl (Keep.cons rfl (Keep.cons rfl (Keep.cons rfl (Keep.cons rfl (Keep.cons rfl (Keep.cons rfl (Keep.cons rfl (Keep.cons rfl (Keep.cons rfl (Keep.cons rfl (Keep.cons rfl (Keep.cons rfl (Keep.cons rfl (Keep.cons rfl (Keep.cons rfl (Keep.cons rfl (Keep.cons rfl (Keep.cons rfl (Keep.cons rfl (Keep.cons rfl (Keep.cons rfl (Keep.cons rfl (Keep.cons rfl (Keep.cons rfl (Keep.cons rfl (Keep.cons rfl (Keep.cons rfl (Keep.cons rfl (Keep.cons rfl (Keep.cons rfl (Keep.cons rfl (Keep.cons rfl (Keep.cons rfl (Keep.cons rfl (Keep.cons rfl (Keep.cons rfl (Keep.base)))))))))))))))))))))))))))))))))))))))))))))))))))))))))))))))))))))))))))))))))))⟩
             · simp only; omega
             · simp only [List.length_append, List.length_singleton]; omega
             · simp only; omega
             · simp only; omega
             · exact hO1
             · show OwnSl 54 4 (.slice obn (d.r ++ [(Mk.mk l3 h3 l4 h4)]).length cbn) (d.r ++ [(Mk.mk l3 h3 l4 h4)]).length (encM (d.r ++ [(Mk.mk l3 h3 l4 h4)])) X2n; rw [List.length_append, encM_app]; exact hO2n
             · rw [← can_cells (d := { d with r := d.r ++ [(Mk.mk l3 h3 l4 h4)] }) (oa := oa) (ob := obn) (ca := ca) (cb := cbn) (n := d.l.length) (m := d.r.length + 1) (lo := d.lo) (hi := d.hi) (hid := d.hid) (by simp) (by simp) rfl rfl rfl]; exact hh.less (.cons_cons _ (.cons _ (.cons _ (.refl _)))))
          | (have hmn := hMd.hide hma
             refine ⟨(tn, pn, xl, xr), ⟨⟨ac + 1 + 1 + 1 + 2 + 2 + 2 + 2 + 1, { d with l := d.l ++ [(Mk.mk l1 h1 l2 h2)], hid := d.hid + 1 }, oan, ob, can, cb, ps, sh, X1n, X2, by omega, by omega, by omega, by omega, hmn, hlo, hhi, ?_, ?_, ?_, ?_, ?_, ?_, ?_⟩, hh.less (List.nil_sublist _)⟩, hf.head ⟨rfl, rfl, rfl, rfl, True.intro⟩ (Keep.cons rfl (Keep.cons rfl (Keep.cons rfl (Keep.cons rfl (Keep.cons rfl (Keep.cons rfl (Keep.cons rfl (Keep.cons rfl (Keep.cons rfl (Keep.cons rfl (Keep.cons rfl (Keep.cons rfl (Keep.cons rfl (Keep.cons rfl (Keep.cons rfl (Keep.cons rfl (Keep.cons rfl (Keep.cons rfl (Keep.cons rfl (Keep.cons rfl (Keep.cons rfl (Keep.cons rfl (Keep.cons rfl (Keep.cons rfl (Keep.cons rfl (Keep.cons rfl (Keep.cons rfl (Keep.cons rfl (Keep.cons rfl (Keep.cons rfl (Keep.cons rfl (Keep.cons rfl (Keep.cons rfl (Keep.cons rfl (Keep.cons rfl (Keep.cons rfl (Keep.cons rfl (Keep.cons rfl (Keep.cons rfl (Keep.cons rfl (Keep.cons rfl (Keep.cons rfl (Keep.cons rfl (Keep.cons rfl (Keep.cons rfl (Keep.cons rfl (Keep.cons rfl (Keep.cons rfl (Keep.cons rfl (Keep.cons rfl (Keep.cons rfl (Keep.cons rfl (Keep.cons rfl (Keep.cons rfl (Keep.cons rfl (Keep.cons rfl (Keep.cons rfl (Keep.cons rfl (Keep.cons rfl (Keep.cons rfl (Keep.cons rfl (Keep.cons rfl (Keep.cons rfl (Keep.cons rfl (Keep.cons rfl (Keep.cons rfl (Keep.cons rfl (Keep.cons rfl (Keep.cons rfl (Keep.cons rfl (Keep.cons rfl (Keep.cons rfl (Keep.cons rfl (Keep.cons rfl (Keep.cons rfl (Keep.cons rfl (Keep.cons rfl (Keep.cons rfl (Keep.cons rfl (Keep.cons rfl (Keep.cons rfl (Keep.cons rfl (Keep.base)))))))))))))))))))))))))))))))))))))))))))))))))))))))))))))))))))))))))))))))))))⟩
             · simp only [List.length_append, List.length_singleton]; omega
             · simp only; omega
             · show 0 ≤ d.hid + 1; omega
             · show d.hid + 1 ≤ _; omega
             · show OwnSl 54 4 (.slice oan (d.l ++ [(Mk.mk l1 h1 l2 h2)]).length can) (d.l ++ [(Mk.mk l1 h1 l2 h2)]).length (encM (d.l ++ [(Mk.mk l1 h1 l2 h2)])) X1n; rw [List.length_append, encM_app]; exact hO1n
             · exact hO2
             · rw [← can_cells (d := { d with l := d.l ++ [(Mk.mk l1 h1 l2 h2)], hid := d.hid + 1 }) (oa := oan) (ob := ob) (ca := can) (cb := cb) (n := d.l.length + 1) (m := d.r.length) (lo := d.lo) (hi := d.hi) (hid := d.hid + 1) (by simp) (by simp) rfl rfl rfl]; exact hh.less (.cons_cons _ (.cons _ (.cons _ (.refl _)))))
    ·rintro q a w ⟨hq, hh⟩ hf
     obtain ⟨tn, pnn, xln, xrn⟩ := q
     simp only at hq hf
     refine sy_ops ?_
     refine o_v hf hh (y_add rfl rfl) ?_; clear hf a; intro a hf
     refine o_v hf hh (yv_move rfl) ?_; clear hf a; intro a hf
     refine ops_end ?_
     refine then_n ?_
     exact ⟨(i + 1, tn, pnn, xln, xrn), ⟨hq, hf.head ⟨rfl, rfl, rfl, rfl, rfl, True.intro⟩ (Keep.cons rfl (Keep.cons rfl (Keep.app rfl (Keep.rm rfl (Keep.cons rfl (Keep.app rfl (Keep.rm rfl Keep.base)))))))⟩, by simp only; omega⟩
   ·have hG7 := hg7; try simp only [gS] at hG7
    refine sy_exit ?_
    refine then_e ?_
    refine then_e ?_
    refine blk_e ?_
    refine then_n ?_
    refine sy_sq ?_
    refine o_v hf hh (yv_move rfl) ?_; clear hf a; intro a hf
    refine o_v hf hh (y_ld Try.sc_43 rfl) ?_; clear hf a; intro a hf
    refine o_call hf Try.en_62 rfl rfl rfl (p62 Bat Bby sy ny cy (ac) _ (hD.ext hh.ext) (hh.get (Bat, .cells #[.int .i64 ((ac : Nat) : Int)] 3) (by simp)) (by omega) 2 (by omega)) ?_; clear hf a; intro v a w hR hf
    obtain ⟨z9, rfl, hz9a, hz9b, hx⟩ := hR; replace hh := hh.swap' (X := [(Bat, .cells #[.int .i64 ((ac : Nat) : Int)] 3)]) (Z := _) (.refl _) hx; clear hx
    refine o_v hf hh (y_add rfl rfl) ?_; clear hf a; intro a hf
    refine o_v hf hh (yv_min rfl rfl) ?_; clear hf a; intro a hf
    refine o_v hf hh (yv_fieldAddr Try.fo_31_1 rfl) ?_; clear hf a; intro a hf
    refine o_store hf hh Try.sz_3 fun w hh => ?_
    refine o_end ?_
    refine sy_sq ?_
    refine o_v hf hh (y_lds Try.ag_31 rfl) ?_; clear hf a; intro a hf
    refine o_v hf hh (yv_move rfl) ?_; clear hf a; intro a hf
    refine o_v hf hh (yv_move rfl) ?_; clear hf a; intro a hf
    refine o_store hf hh Try.sz_31 fun w hh => ?_
    refine o_v hf hh (yv_assign rfl) ?_; clear hf a; intro a hf
    refine o_v hf hh (yv_assign rfl) ?_; clear hf a; intro a hf
    refine o_end ?_
    refine sy_ret ?_
    refine ret_c (vs := [canV d (min 3 (((pn : Nat) : Int) + z9)) oa ob ca cb, .int .i64 (xl : Nat), .int .i64 (xr : Nat)]) hf ?_ ?_
    · exact ⟨⟨B2, 0, _, 31, (0, 0), rfl, hh.at (i := 1) rfl, .inr ⟨6, _, Try.ag_31, rfl, rfl⟩⟩, rfl, rfl, trivial⟩
    have hV : Valid d := ⟨by omega, by omega, hMd.ml, hMd.mr, by omega, by omega, by omega, by omega, by omega⟩
    exact ⟨d, min 3 (((pn : Nat) : Int) + z9), oa, ob, ca, cb, (xl, xr), rfl, okCan_mk hV (by omega) (by omega), hMd.is hV (by omega), hMd.ask, mkAt_of hO1 fun x hx => hh.get x (by simp [hx]), mkAt_of hO2 fun x hx => hh.get x (by simp [hx]), hh.ext⟩
end Go.Proofs.Ytidieepndphodaa
namespace Go.Proofs.Ytidieepndphodaa
open Go Go.Sy Go.MatM
set_option maxRecDepth 100000 in
set_option maxHeartbeats 4000000 in
theorem p7 (sy : Option Addr) (m : List Int) (cy : Nat) (u : World) (hY : FlatAt u .u16 sy 1 (m.map fun z => [z])) (hm : ∀ z ∈ m, 0 ≤ z ∧ z ≤ 65535) (ht : m.length ≤ 9223372036854775807) : Calls Try.prog 7 #[.slice sy m.length cy] u (Ret fun v w' => v = .bool true ∧ Ext [] u w') := by
  refine calls_of Try.func7 rfl rfl (fun a hf => ?_)
  have hh := Hp.init u []
  refine sy_sq ?_
  refine o_v hf hh (yv_assign rfl) ?_; clear hf a; intro a hf
  refine o_end ?_
  refine sy_seq ?_
  refine sy_sq ?_
  refine o_v hf hh (yv_move rfl) ?_; clear hf a; intro a hf
  refine o_v hf hh (yv_len Try.se_56 rfl) ?_; clear hf a; intro a hf
  refine o_v hf hh (yv_bin rfl rfl rfl) ?_; clear hf a; intro a hf
  refine o_end ?_
  refine sy_cond hf rfl (fun hg2 => ?_) (fun hg2 => ?_)
  ·have hG2 := hg2; try simp only [gS] at hG2
   refine sy_sq ?_
   refine o_call hf Try.en_17 rfl rfl rfl (p17 _) ?_; clear hf a; intro v a w hR hf
   obtain ⟨rfl, hx⟩ := hR; replace hh := hh.more hx; clear hx
   refine o_v hf hh (yv_assign rfl) ?_; clear hf a; intro a hf
   refine o_end ?_
   refine sy_ret ?_
   refine then_r ?_
   refine ret_r hf rfl rfl ?_
   first
     | exact ⟨rfl, hh.ext⟩
     | exact ⟨rfl, he1.trans hh.ext⟩
  ·have hG2 := hg2; try simp only [gS] at hG2
   refine sy_skip ?_
   refine then_n ?_
   refine sy_sq ?_
   refine o_v hf hh (yv_move rfl) ?_; clear hf a; intro a hf
   refine o_call hf Try.en_30 rfl rfl rfl (p30 sy m cy _ (hY.ext hh.ext) hm (by omega) ht) ?_; clear hf a; intro v a w hR hf
   obtain ⟨Bat, Bby, rfl, hbat, hDr, hBn, hx⟩ := hR; have hBu : u.heap.size ≤ Bat := Nat.le_trans hh.ext.size hBn
   replace hh := hh.more hx; clear hx
   refine o_call hf Try.en_29 rfl rfl rfl (p29 Bat Bby sy m.length cy 0 _ hDr hbat (by omega)) ?_; clear hf a; intro v a w hR hf
   obtain ⟨d, p, oa, ob, ca, cb, x, rfl, hok, his, hask, hA, hB, hx⟩ := hR; have he1 : Ext [] u w := ext_new hh.ext hx hBu
   obtain ⟨u1, rfl⟩ : ∃ z, z = w := ⟨_, rfl⟩
   replace hh := Hp.init u1 []
   obtain ⟨hV, hp0, hp3⟩ := okCan_valid hok
   have hnl := hV.nl; have hnr := hV.nr
   have hbd := askS_bd hV hask
   have hE0 := fitsCE_0 hok hask
   have hfv : fitsCV d p x.1 x.2 = true := by rw [fitsCV_ok hE0]; exact his
   have hCl := casesC_ok hok
   have hC0 := casesE_ok hok
   have hmem := cases_mem his hask
   have hpos : (casesL d p).length ≠ 0 := fun h => by rw [List.length_eq_zero_iff.1 h] at hmem; cases hmem
   obtain ⟨hg0, hv1, hv2, hv3⟩ := vals_ok hok hpos
   have hso := side_of hmem
   have hsp := sideB_pos x
   have hsl := sideS_le (casesL d p)
   have hfl := first_least hmem
   have hfo := firstL_ok fun y hy => casesL_lt (p := p) hV hy
   have hjo := joinL_ok fun y hy => casesL_lt (p := p) hV hy
   obtain ⟨hf1, hf2⟩ := hfo
   obtain ⟨jo1, jo2, ja1, ja2⟩ := hjo
   obtain ⟨hj1, hj2⟩ := join_o hmem
   obtain ⟨hj3, hj4⟩ := join_a hmem
   have hone : x.1 = 0 ∨ x.2 = 0 := by
     have h9 := his
     unfold isC oneB at h9
     rw [Bool.and_eq_true, Bool.or_eq_true, decide_eq_true_eq, decide_eq_true_eq] at h9
     exact h9.1
   have hsd : (sideB x = 1 ∧ x.1 = 0 ∧ x.2 = 0) ∨ (sideB x = 2 ∧ 0 < x.1) ∨ (sideB x = 4 ∧ x.1 = 0 ∧ 0 < x.2) := by
     unfold sideB
     by_cases h1 : x.1 = 0
     · by_cases h2 : x.2 = 0
       · exact .inl ⟨by rw [if_pos h1, if_pos h2], h1, h2⟩
       · exact .inr (.inr ⟨by rw [if_pos h1, if_neg h2], h1, by omega⟩)
     · exact .inr (.inl ⟨by rw [if_neg h1], by omega⟩)
   have hways : 0 < countV (woD d x) := by
     have h9 := his
     unfold isC at h9
     rw [Bool.and_eq_true, Bool.and_eq_true, leftB_cnt hV, decide_eq_true_eq, decide_eq_true_eq] at h9
     exact h9.2.2
   have hce := countE_ok (woD_valid hV x)
   have r1 := pc_le x.1; have r2 := pc_le x.2; have r3 := pc_le (firstL (casesL d p)).b.1; have r4 := pc_le (firstL (casesL d p)).b.2
   refine o_v hf hh (yv_move rfl) ?_; clear hf a; intro a hf
   refine o_v hf hh (yv_extract rfl rfl) ?_; clear hf a; intro a hf
   refine o_v hf hh (yv_extract rfl rfl) ?_; clear hf a; intro a hf
   refine o_v hf hh (yv_extract rfl rfl) ?_; clear hf a; intro a hf
   refine o_alloc hf hh Try.ze_31 ?_; clear hf hh a; intro B3 a w hf hh
   refine o_store hf hh Try.sz_31 fun w hh => ?_
   refine o_v hf hh (yv_assign rfl) ?_; clear hf a; intro a hf
   refine o_v hf hh (yv_assign rfl) ?_; clear hf a; intro a hf
   refine o_end ?_
   refine sy_sq ?_
   refine o_v hf hh (y_lds Try.ag_31 rfl) ?_; clear hf a; intro a hf
   refine o_v hf hh (yv_move rfl) ?_; clear hf a; intro a hf
   refine o_v hf hh (yv_move rfl) ?_; clear hf a; intro a hf
   refine o_call hf Try.en_10 rfl rfl rfl (p10 d p oa ob ca cb _ (hA.ext hh.ext) (hB.ext hh.ext) x.1 x.2) ?_; clear hf a; intro v a w hR hf
   rw [hfv] at hR
   rw [hE0] at hR
   obtain ⟨rfl, hx⟩ := hR; replace hh := hh.more hx; clear hx
   refine o_v hf hh (yv_move rfl) ?_; clear hf a; intro a hf
   refine o_v hf hh (yv_extract rfl rfl) ?_; clear hf a; intro a hf
   refine o_v hf hh (yv_extract rfl rfl) ?_; clear hf a; intro a hf
   refine o_v hf hh (yv_assign rfl) ?_; clear hf a; intro a hf
   refine o_v hf hh (yv_assign rfl) ?_; clear hf a; intro a hf
   refine o_end ?_
   refine sy_sq ?_
   refine o_v hf hh (y_lds Try.ag_31 rfl) ?_; clear hf a; intro a hf
   refine o_call hf Try.en_12 rfl rfl rfl (p12 d p oa ob ca cb _ (hA.ext hh.ext) (hB.ext hh.ext)) ?_; clear hf a; intro v a w hR hf
   rw [hCl] at hR
   rw [hC0] at hR
   obtain ⟨rfl, hx⟩ := hR; replace hh := hh.more hx; clear hx
   refine o_v hf hh (yv_move rfl) ?_; clear hf a; intro a hf
   refine o_v hf hh (yv_extract rfl rfl) ?_; clear hf a; intro a hf
   refine o_v hf hh (yv_extract rfl rfl) ?_; clear hf a; intro a hf
   refine o_v hf hh (yv_assign rfl) ?_; clear hf a; intro a hf
   refine o_v hf hh (yv_assign rfl) ?_; clear hf a; intro a hf
   refine o_end ?_
   refine sy_sq ?_
   refine o_v hf hh (y_lds Try.ag_31 rfl) ?_; clear hf a; intro a hf
   refine o_call hf Try.en_13 rfl rfl rfl (p13 d p oa ob ca cb _ (hA.ext hh.ext) (hB.ext hh.ext)) ?_; clear hf a; intro v a w hR hf
   rw [hv1] at hR
   rw [hg0] at hR
   obtain ⟨rfl, hx⟩ := hR; replace hh := hh.more hx; clear hx
   refine o_v hf hh (yv_move rfl) ?_; clear hf a; intro a hf
   refine o_v hf hh (yv_extract rfl rfl) ?_; clear hf a; intro a hf
   refine o_v hf hh (yv_extract rfl rfl) ?_; clear hf a; intro a hf
   refine o_v hf hh (yv_assign rfl) ?_; clear hf a; intro a hf
   refine o_v hf hh (yv_assign rfl) ?_; clear hf a; intro a hf
   refine o_end ?_
   refine sy_sq ?_
   refine o_v hf hh (y_lds Try.ag_31 rfl) ?_; clear hf a; intro a hf
   refine o_call hf Try.en_14 rfl rfl rfl (p14 d p oa ob ca cb _ (hA.ext hh.ext) (hB.ext hh.ext)) ?_; clear hf a; intro v a w hR hf
   rw [hv2] at hR
   rw [hg0] at hR
   obtain ⟨rfl, hx⟩ := hR; replace hh := hh.more hx; clear hx
   refine o_v hf hh (yv_move rfl) ?_; clear hf a; intro a hf
   refine o_v hf hh (yv_extract rfl rfl) ?_; clear hf a; intro a hf
   refine o_v hf hh (yv_extract rfl rfl) ?_; clear hf a; intro a hf
   refine o_v hf hh (yv_extract rfl rfl) ?_; clear hf a; intro a hf
   refine o_v hf hh (yv_assign rfl) ?_; clear hf a; intro a hf
   refine o_v hf hh (yv_assign rfl) ?_; clear hf a; intro a hf
   refine o_v hf hh (yv_assign rfl) ?_; clear hf a; intro a hf
   refine o_end ?_
   refine sy_sq ?_
   refine o_v hf hh (y_lds Try.ag_31 rfl) ?_; clear hf a; intro a hf
   refine o_call hf Try.en_20 rfl rfl rfl (p20 d p oa ob ca cb _ (hA.ext hh.ext) (hB.ext hh.ext)) ?_; clear hf a; intro v a w hR hf
   rw [hv3] at hR
   rw [hg0] at hR
   obtain ⟨rfl, hx⟩ := hR; replace hh := hh.more hx; clear hx
   refine o_v hf hh (yv_move rfl) ?_; clear hf a; intro a hf
   refine o_v hf hh (yv_extract rfl rfl) ?_; clear hf a; intro a hf
   refine o_v hf hh (yv_extract rfl rfl) ?_; clear hf a; intro a hf
   refine o_v hf hh (yv_extract rfl rfl) ?_; clear hf a; intro a hf
   refine o_v hf hh (yv_assign rfl) ?_; clear hf a; intro a hf
   refine o_v hf hh (yv_assign rfl) ?_; clear hf a; intro a hf
   refine o_v hf hh (yv_assign rfl) ?_; clear hf a; intro a hf
   refine o_end ?_
   refine sy_sq ?_
   refine o_v hf hh (y_lds Try.ag_31 rfl) ?_; clear hf a; intro a hf
   refine o_call hf Try.en_15 rfl rfl rfl (p15 d p oa ob ca cb _ (hA.ext hh.ext) (hB.ext hh.ext)) ?_; clear hf a; intro v a w hR hf
   rw [hv3] at hR
   rw [hg0] at hR
   obtain ⟨rfl, hx⟩ := hR; replace hh := hh.more hx; clear hx
   refine o_v hf hh (yv_move rfl) ?_; clear hf a; intro a hf
   refine o_v hf hh (yv_extract rfl rfl) ?_; clear hf a; intro a hf
   refine o_v hf hh (yv_extract rfl rfl) ?_; clear hf a; intro a hf
   refine o_v hf hh (yv_extract rfl rfl) ?_; clear hf a; intro a hf
   refine o_v hf hh (yv_assign rfl) ?_; clear hf a; intro a hf
   refine o_v hf hh (yv_assign rfl) ?_; clear hf a; intro a hf
   refine o_v hf hh (yv_assign rfl) ?_; clear hf a; intro a hf
   refine o_end ?_
   refine sy_sq ?_
   refine o_v hf hh (yv_assign rfl) ?_; clear hf a; intro a hf
   refine o_end ?_
   refine sy_seq ?_
   refine sy_sq ?_
   refine o_v hf hh (yv_move rfl) ?_; clear hf a; intro a hf
   refine o_v hf hh (yv_bin rfl rfl rfl) ?_; clear hf a; intro a hf
   refine o_end ?_
   refine sy_cond hf rfl (fun hg31 => ?_) (fun hg31 => ?_)
   ·have hG31 := hg31; try simp only [gS] at hG31
    refine sy_ops ?_
    refine o_v hf hh (yv_assign rfl) ?_; clear hf a; intro a hf
    refine o_end ?_
    refine sy_seq ?_
    refine sy_sq ?_
    refine o_v hf hh (yv_move rfl) ?_; clear hf a; intro a hf
    refine o_v hf hh (yv_bin rfl rfl rfl) ?_; clear hf a; intro a hf
    refine o_end ?_
    refine sy_cond hf rfl (fun hg33 => ?_) (fun hg33 => ?_)
    ·have hG33 := hg33; try simp only [gS] at hG33
     refine sy_ops ?_
     refine o_v hf hh (yv_assign rfl) ?_; clear hf a; intro a hf
     refine o_end ?_
     refine sy_seq ?_
     refine sy_sq ?_
     refine o_v hf hh (yv_move rfl) ?_; clear hf a; intro a hf
     refine o_v hf hh (yv_not rfl) ?_; clear hf a; intro a hf
     refine o_v hf hh (yv_move rfl) ?_; clear hf a; intro a hf
     refine o_v hf hh (yv_move rfl) ?_; clear hf a; intro a hf
     refine o_v hf hh (yv_bin rfl rfl rfl) ?_; clear hf a; intro a hf
     refine o_v hf hh (y_pf rfl rfl) ?_; clear hf a; intro a hf
     refine o_v hf hh (yv_move rfl) ?_; clear hf a; intro a hf
     refine o_v hf hh (yv_move rfl) ?_; clear hf a; intro a hf
     refine o_v hf hh (yv_bin rfl rfl rfl) ?_; clear hf a; intro a hf
     refine o_v hf hh (y_pf rfl rfl) ?_; clear hf a; intro a hf
     refine o_v hf hh (yv_move rfl) ?_; clear hf a; intro a hf
     refine o_v hf hh (yv_move rfl) ?_; clear hf a; intro a hf
     refine o_v hf hh (yv_bin rfl rfl rfl) ?_; clear hf a; intro a hf
     refine o_v hf hh (y_pf rfl rfl) ?_; clear hf a; intro a hf
     refine o_v hf hh (yv_move rfl) ?_; clear hf a; intro a hf
     refine o_v hf hh (yv_move rfl) ?_; clear hf a; intro a hf
     refine o_v hf hh (yv_move rfl) ?_; clear hf a; intro a hf
     refine o_v hf hh (yv_cast (yv_and (.inl rfl) rfl rfl (by omega) (by simp only [IntKind.top]; omega) (by omega) (by simp only [IntKind.top]; omega)) (intv (b := ((sideB x : Nat) : Int)) (by
       first
       | (have hk : sideB x = 1 := by omega
          rw [hk] at hso ⊢
          rw [Int.toNat_natCast, Nat.and_comm]
          exact congrArg _ hso)
       | (have hk : sideB x = 2 := by omega
          rw [hk] at hso ⊢
          rw [Int.toNat_natCast, Nat.and_comm]
          exact congrArg _ hso)
       | (have hk : sideB x = 4 := by omega
          rw [hk] at hso ⊢
          rw [Int.toNat_natCast, Nat.and_comm]
          exact congrArg _ hso)))) ?_; clear hf a; intro a hf
     refine o_v hf hh (yv_bin rfl rfl rfl) ?_; clear hf a; intro a hf
     refine o_v hf hh (y_pf rfl rfl) ?_; clear hf a; intro a hf
     refine o_v hf hh (yv_move rfl) ?_; clear hf a; intro a hf
     refine o_v hf hh (yv_move rfl) ?_; clear hf a; intro a hf
     refine o_v hf hh (yv_bin rfl rfl rfl) ?_; clear hf a; intro a hf
     refine o_v hf hh (y_pf rfl rfl) ?_; clear hf a; intro a hf
     refine o_v hf hh (yv_move rfl) ?_; clear hf a; intro a hf
     refine o_v hf hh (yv_move rfl) ?_; clear hf a; intro a hf
     refine o_v hf hh (yv_bin rfl rfl rfl) ?_; clear hf a; intro a hf
     refine o_v hf hh (y_pf rfl rfl) ?_; clear hf a; intro a hf
     refine o_v hf hh (yv_move rfl) ?_; clear hf a; intro a hf
     refine o_v hf hh (yv_move rfl) ?_; clear hf a; intro a hf
     refine o_v hf hh (yv_bin rfl rfl rfl) ?_; clear hf a; intro a hf
     refine o_v hf hh (y_pf rfl rfl) ?_; clear hf a; intro a hf
     refine o_v hf hh (yv_move rfl) ?_; clear hf a; intro a hf
     refine o_v hf hh (yv_move rfl) ?_; clear hf a; intro a hf
     refine o_v hf hh (yv_bin rfl rfl rfl) ?_; clear hf a; intro a hf
     refine o_v hf hh (y_pf rfl rfl) ?_; clear hf a; intro a hf
     refine o_end ?_
     refine c_f hf ?_
     refine sy_skip ?_
     refine then_n ?_
     refine sy_seq ?_
     refine sy_sq ?_
     refine o_v hf hh (yv_move rfl) ?_; clear hf a; intro a hf
     refine o_v hf hh (yv_bin rfl rfl rfl) ?_; clear hf a; intro a hf
     refine o_v hf hh (yv_move rfl) ?_; clear hf a; intro a hf
     refine o_v hf hh (yv_move rfl) ?_; clear hf a; intro a hf
     refine o_v hf hh (yv_bin rfl rfl rfl) ?_; clear hf a; intro a hf
     refine o_v hf hh (y_pf rfl rfl) ?_; clear hf a; intro a hf
     refine o_v hf hh (yv_move rfl) ?_; clear hf a; intro a hf
     refine o_v hf hh (yv_move rfl) ?_; clear hf a; intro a hf
     refine o_call hf Try.en_22 rfl rfl rfl (p22 (firstL (casesL d p)).b.1 (by omega) _) ?_; clear hf a; intro v a w hR hf
     obtain ⟨rfl, hx⟩ := hR; replace hh := hh.more hx; clear hx
     refine o_v hf hh (yv_move rfl) ?_; clear hf a; intro a hf
     refine o_call hf Try.en_22 rfl rfl rfl (p22 (firstL (casesL d p)).b.2 (by omega) _) ?_; clear hf a; intro v a w hR hf
     obtain ⟨rfl, hx⟩ := hR; replace hh := hh.more hx; clear hx
     refine o_v hf hh (y_add rfl rfl) ?_; clear hf a; intro a hf
     refine o_v hf hh (yv_move rfl) ?_; clear hf a; intro a hf
     refine o_call hf Try.en_22 rfl rfl rfl (p22 x.1 (by omega) _) ?_; clear hf a; intro v a w hR hf
     obtain ⟨rfl, hx⟩ := hR; replace hh := hh.more hx; clear hx
     refine o_v hf hh (yv_move rfl) ?_; clear hf a; intro a hf
     refine o_call hf Try.en_22 rfl rfl rfl (p22 x.2 (by omega) _) ?_; clear hf a; intro v a w hR hf
     obtain ⟨rfl, hx⟩ := hR; replace hh := hh.more hx; clear hx
     refine o_v hf hh (y_add rfl rfl) ?_; clear hf a; intro a hf
     refine o_v hf hh (yv_bin rfl rfl rfl) ?_; clear hf a; intro a hf
     refine o_v hf hh (y_pf rfl rfl) ?_; clear hf a; intro a hf
     refine o_v hf hh (yv_move rfl) ?_; clear hf a; intro a hf
     refine o_v hf hh (yv_move rfl) ?_; clear hf a; intro a hf
     refine o_v hf hh (yv_move rfl) ?_; clear hf a; intro a hf
     refine o_v hf hh (yv_cast (yv_andn (.inl rfl) rfl rfl (by omega) (by simp only [IntKind.top]; omega) (by omega) (by simp only [IntKind.top]; omega)) (intv (b := 0) (by rw [Int.toNat_natCast, Int.toNat_natCast, andn_none hj1]; rfl))) ?_; clear hf a; intro a hf
     refine o_v hf hh (yv_bin rfl rfl rfl) ?_; clear hf a; intro a hf
     refine o_v hf hh (y_pf rfl rfl) ?_; clear hf a; intro a hf
     refine o_v hf hh (yv_move rfl) ?_; clear hf a; intro a hf
     refine o_v hf hh (yv_move rfl) ?_; clear hf a; intro a hf
     refine o_v hf hh (yv_move rfl) ?_; clear hf a; intro a hf
     refine o_v hf hh (yv_cast (yv_andn (.inl rfl) rfl rfl (by omega) (by simp only [IntKind.top]; omega) (by omega) (by simp only [IntKind.top]; omega)) (intv (b := 0) (by rw [Int.toNat_natCast, Int.toNat_natCast, andn_none hj2]; rfl))) ?_; clear hf a; intro a hf
     refine o_v hf hh (yv_bin rfl rfl rfl) ?_; clear hf a; intro a hf
     refine o_v hf hh (y_pf rfl rfl) ?_; clear hf a; intro a hf
     refine o_v hf hh (yv_move rfl) ?_; clear hf a; intro a hf
     refine o_v hf hh (yv_move rfl) ?_; clear hf a; intro a hf
     refine o_v hf hh (yv_move rfl) ?_; clear hf a; intro a hf
     refine o_v hf hh (yv_cast (yv_andn (.inl rfl) rfl rfl (by omega) (by simp only [IntKind.top]; omega) (by omega) (by simp only [IntKind.top]; omega)) (intv (b := 0) (by rw [Int.toNat_natCast, Int.toNat_natCast, andn_none hj3]; rfl))) ?_; clear hf a; intro a hf
     refine o_v hf hh (yv_bin rfl rfl rfl) ?_; clear hf a; intro a hf
     refine o_v hf hh (y_pf rfl rfl) ?_; clear hf a; intro a hf
     refine o_v hf hh (yv_move rfl) ?_; clear hf a; intro a hf
     refine o_v hf hh (yv_move rfl) ?_; clear hf a; intro a hf
     refine o_v hf hh (yv_move rfl) ?_; clear hf a; intro a hf
     refine o_v hf hh (yv_cast (yv_andn (.inl rfl) rfl rfl (by omega) (by simp only [IntKind.top]; omega) (by omega) (by simp only [IntKind.top]; omega)) (intv (b := 0) (by rw [Int.toNat_natCast, Int.toNat_natCast, andn_none hj4]; rfl))) ?_; clear hf a; intro a hf
     refine o_v hf hh (yv_bin rfl rfl rfl) ?_; clear hf a; intro a hf
     refine o_v hf hh (y_pf rfl rfl) ?_; clear hf a; intro a hf
     refine o_end ?_
     refine c_f hf ?_
     refine sy_skip ?_
     refine then_n ?_
     refine sy_sq ?_
     refine o_v hf hh (yv_fieldAddr Try.fo_31_0 rfl) ?_; clear hf a; intro a hf
     refine o_v hf hh (y_lds Try.ag_29 rfl) ?_; clear hf a; intro a hf
     refine o_v hf hh (yv_move rfl) ?_; clear hf a; intro a hf
     refine o_v hf hh (yv_move rfl) ?_; clear hf a; intro a hf
     refine o_call hf Try.en_25 rfl rfl rfl (p25 d oa ob ca cb _ (hA.ext hh.ext) (hB.ext hh.ext) (by omega) (by omega) x (by omega) (by omega)) ?_; clear hf a; intro v a w hR hf
     obtain ⟨oc, od, cpa, cpb, XA, XB, rfl, hOA, hOB, hx⟩ := hR; have hA2 := mkAt_of hOA fun x hx2 => hx.get x (by simp [hx2])
     have hB2 := mkAt_of hOB fun x hx2 => hx.get x (by simp [hx2])
     replace hh := (hh.join hx).less (List.sublist_append_right _ _); clear hx
     refine o_call hf Try.en_31 rfl rfl rfl (c17 (woD d x) oc od cpa cpb _ hA2 hB2) ?_; clear hf a; intro v a w hR hf
     rw [hce] at hR
     obtain ⟨rfl, hx⟩ := hR; replace hh := hh.more hx; clear hx
     refine o_v hf hh (yv_move rfl) ?_; clear hf a; intro a hf
     refine o_v hf hh (yv_extract rfl rfl) ?_; clear hf a; intro a hf
     refine o_v hf hh (yv_extract rfl rfl) ?_; clear hf a; intro a hf
     refine o_v hf hh (yv_assign rfl) ?_; clear hf a; intro a hf
     refine o_v hf hh (yv_assign rfl) ?_; clear hf a; intro a hf
     refine o_end ?_
     refine sy_sq ?_
     refine o_v hf hh (yv_move rfl) ?_; clear hf a; intro a hf
     refine o_v hf hh (yv_bin rfl rfl rfl) ?_; clear hf a; intro a hf
     refine o_v hf hh (yv_move rfl) ?_; clear hf a; intro a hf
     refine o_v hf hh (yv_move rfl) ?_; clear hf a; intro a hf
     refine o_v hf hh (yv_bin rfl rfl rfl) ?_; clear hf a; intro a hf
     refine o_v hf hh (y_pt rfl rfl) ?_; clear hf a; intro a hf
     refine o_v hf hh (yv_move rfl) ?_; clear hf a; intro a hf
     refine o_call hf Try.en_17 rfl rfl rfl (p17 _) ?_; clear hf a; intro v a w hR hf
     obtain ⟨rfl, hx⟩ := hR; replace hh := hh.more hx; clear hx
     refine o_v hf hh (y_pt rfl rfl) ?_; clear hf a; intro a hf
     refine o_v hf hh (yv_assign rfl) ?_; clear hf a; intro a hf
     refine o_end ?_
     refine sy_ret ?_
     refine ret_r hf rfl rfl ?_
     first
       | exact ⟨rfl, hh.ext⟩
       | exact ⟨rfl, he1.trans hh.ext⟩
    ·have hG33 := hg33; try simp only [gS] at hG33
     refine sy_skip ?_
     refine then_n ?_
     refine sy_seq ?_
     refine sy_sq ?_
     refine o_v hf hh (yv_move rfl) ?_; clear hf a; intro a hf
     refine o_v hf hh (yv_not rfl) ?_; clear hf a; intro a hf
     refine o_v hf hh (yv_move rfl) ?_; clear hf a; intro a hf
     refine o_v hf hh (yv_move rfl) ?_; clear hf a; intro a hf
     refine o_v hf hh (yv_bin rfl rfl rfl) ?_; clear hf a; intro a hf
     refine o_v hf hh (y_pf rfl rfl) ?_; clear hf a; intro a hf
     refine o_v hf hh (yv_move rfl) ?_; clear hf a; intro a hf
     refine o_v hf hh (yv_move rfl) ?_; clear hf a; intro a hf
     refine o_v hf hh (yv_bin rfl rfl rfl) ?_; clear hf a; intro a hf
     refine o_v hf hh (y_pf rfl rfl) ?_; clear hf a; intro a hf
     refine o_v hf hh (yv_move rfl) ?_; clear hf a; intro a hf
     refine o_v hf hh (yv_move rfl) ?_; clear hf a; intro a hf
     refine o_v hf hh (yv_bin rfl rfl rfl) ?_; clear hf a; intro a hf
     refine o_v hf hh (y_pf rfl rfl) ?_; clear hf a; intro a hf
     refine o_v hf hh (yv_move rfl) ?_; clear hf a; intro a hf
     refine o_v hf hh (yv_move rfl) ?_; clear hf a; intro a hf
     refine o_v hf hh (yv_move rfl) ?_; clear hf a; intro a hf
     refine o_v hf hh (yv_cast (yv_and (.inl rfl) rfl rfl (by omega) (by simp only [IntKind.top]; omega) (by omega) (by simp only [IntKind.top]; omega)) (intv (b := ((sideB x : Nat) : Int)) (by
       first
       | (have hk : sideB x = 1 := by omega
          rw [hk] at hso ⊢
          rw [Int.toNat_natCast, Nat.and_comm]
          exact congrArg _ hso)
       | (have hk : sideB x = 2 := by omega
          rw [hk] at hso ⊢
          rw [Int.toNat_natCast, Nat.and_comm]
          exact congrArg _ hso)
       | (have hk : sideB x = 4 := by omega
          rw [hk] at hso ⊢
          rw [Int.toNat_natCast, Nat.and_comm]
          exact congrArg _ hso)))) ?_; clear hf a; intro a hf
     refine o_v hf hh (yv_bin rfl rfl rfl) ?_; clear hf a; intro a hf
     refine o_v hf hh (y_pf rfl rfl) ?_; clear hf a; intro a hf
     refine o_v hf hh (yv_move rfl) ?_; clear hf a; intro a hf
     refine o_v hf hh (yv_move rfl) ?_; clear hf a; intro a hf
     refine o_v hf hh (yv_bin rfl rfl rfl) ?_; clear hf a; intro a hf
     refine o_v hf hh (y_pf rfl rfl) ?_; clear hf a; intro a hf
     refine o_v hf hh (yv_move rfl) ?_; clear hf a; intro a hf
     refine o_v hf hh (yv_move rfl) ?_; clear hf a; intro a hf
     refine o_v hf hh (yv_bin rfl rfl rfl) ?_; clear hf a; intro a hf
     refine o_v hf hh (y_pf rfl rfl) ?_; clear hf a; intro a hf
     refine o_v hf hh (yv_move rfl) ?_; clear hf a; intro a hf
     refine o_v hf hh (yv_move rfl) ?_; clear hf a; intro a hf
     refine o_v hf hh (yv_bin rfl rfl rfl) ?_; clear hf a; intro a hf
     refine o_v hf hh (y_pf rfl rfl) ?_; clear hf a; intro a hf
     refine o_v hf hh (yv_move rfl) ?_; clear hf a; intro a hf
     refine o_v hf hh (yv_move rfl) ?_; clear hf a; intro a hf
     refine o_v hf hh (yv_bin rfl rfl rfl) ?_; clear hf a; intro a hf
     refine o_v hf hh (y_pf rfl rfl) ?_; clear hf a; intro a hf
     refine o_end ?_
     refine c_f hf ?_
     refine sy_skip ?_
     refine then_n ?_
     refine sy_seq ?_
     refine sy_sq ?_
     refine o_v hf hh (yv_move rfl) ?_; clear hf a; intro a hf
     refine o_v hf hh (yv_bin rfl rfl rfl) ?_; clear hf a; intro a hf
     refine o_v hf hh (yv_move rfl) ?_; clear hf a; intro a hf
     refine o_v hf hh (yv_move rfl) ?_; clear hf a; intro a hf
     refine o_v hf hh (yv_bin rfl rfl rfl) ?_; clear hf a; intro a hf
     refine o_v hf hh (y_pf rfl rfl) ?_; clear hf a; intro a hf
     refine o_v hf hh (yv_move rfl) ?_; clear hf a; intro a hf
     refine o_v hf hh (yv_move rfl) ?_; clear hf a; intro a hf
     refine o_call hf Try.en_22 rfl rfl rfl (p22 (firstL (casesL d p)).b.1 (by omega) _) ?_; clear hf a; intro v a w hR hf
     obtain ⟨rfl, hx⟩ := hR; replace hh := hh.more hx; clear hx
     refine o_v hf hh (yv_move rfl) ?_; clear hf a; intro a hf
     refine o_call hf Try.en_22 rfl rfl rfl (p22 (firstL (casesL d p)).b.2 (by omega) _) ?_; clear hf a; intro v a w hR hf
     obtain ⟨rfl, hx⟩ := hR; replace hh := hh.more hx; clear hx
     refine o_v hf hh (y_add rfl rfl) ?_; clear hf a; intro a hf
     refine o_v hf hh (yv_move rfl) ?_; clear hf a; intro a hf
     refine o_call hf Try.en_22 rfl rfl rfl (p22 x.1 (by omega) _) ?_; clear hf a; intro v a w hR hf
     obtain ⟨rfl, hx⟩ := hR; replace hh := hh.more hx; clear hx
     refine o_v hf hh (yv_move rfl) ?_; clear hf a; intro a hf
     refine o_call hf Try.en_22 rfl rfl rfl (p22 x.2 (by omega) _) ?_; clear hf a; intro v a w hR hf
     obtain ⟨rfl, hx⟩ := hR; replace hh := hh.more hx; clear hx
     refine o_v hf hh (y_add rfl rfl) ?_; clear hf a; intro a hf
     refine o_v hf hh (yv_bin rfl rfl rfl) ?_; clear hf a; intro a hf
     refine o_v hf hh (y_pf rfl rfl) ?_; clear hf a; intro a hf
     refine o_v hf hh (yv_move rfl) ?_; clear hf a; intro a hf
     refine o_v hf hh (yv_move rfl) ?_; clear hf a; intro a hf
     refine o_v hf hh (yv_move rfl) ?_; clear hf a; intro a hf
     refine o_v hf hh (yv_cast (yv_andn (.inl rfl) rfl rfl (by omega) (by simp only [IntKind.top]; omega) (by omega) (by simp only [IntKind.top]; omega)) (intv (b := 0) (by rw [Int.toNat_natCast, Int.toNat_natCast, andn_none hj1]; rfl))) ?_; clear hf a; intro a hf
     refine o_v hf hh (yv_bin rfl rfl rfl) ?_; clear hf a; intro a hf
     refine o_v hf hh (y_pf rfl rfl) ?_; clear hf a; intro a hf
     refine o_v hf hh (yv_move rfl) ?_; clear hf a; intro a hf
     refine o_v hf hh (yv_move rfl) ?_; clear hf a; intro a hf
     refine o_v hf hh (yv_move rfl) ?_; clear hf a; intro a hf
     refine o_v hf hh (yv_cast (yv_andn (.inl rfl) rfl rfl (by omega) (by simp only [IntKind.top]; omega) (by omega) (by simp only [IntKind.top]; omega)) (intv (b := 0) (by rw [Int.toNat_natCast, Int.toNat_natCast, andn_none hj2]; rfl))) ?_; clear hf a; intro a hf
     refine o_v hf hh (yv_bin rfl rfl rfl) ?_; clear hf a; intro a hf
     refine o_v hf hh (y_pf rfl rfl) ?_; clear hf a; intro a hf
     refine o_v hf hh (yv_move rfl) ?_; clear hf a; intro a hf
     refine o_v hf hh (yv_move rfl) ?_; clear hf a; intro a hf
     refine o_v hf hh (yv_move rfl) ?_; clear hf a; intro a hf
     refine o_v hf hh (yv_cast (yv_andn (.inl rfl) rfl rfl (by omega) (by simp only [IntKind.top]; omega) (by omega) (by simp only [IntKind.top]; omega)) (intv (b := 0) (by rw [Int.toNat_natCast, Int.toNat_natCast, andn_none hj3]; rfl))) ?_; clear hf a; intro a hf
     refine o_v hf hh (yv_bin rfl rfl rfl) ?_; clear hf a; intro a hf
     refine o_v hf hh (y_pf rfl rfl) ?_; clear hf a; intro a hf
     refine o_v hf hh (yv_move rfl) ?_; clear hf a; intro a hf
     refine o_v hf hh (yv_move rfl) ?_; clear hf a; intro a hf
     refine o_v hf hh (yv_move rfl) ?_; clear hf a; intro a hf
     refine o_v hf hh (yv_cast (yv_andn (.inl rfl) rfl rfl (by omega) (by simp only [IntKind.top]; omega) (by omega) (by simp only [IntKind.top]; omega)) (intv (b := 0) (by rw [Int.toNat_natCast, Int.toNat_natCast, andn_none hj4]; rfl))) ?_; clear hf a; intro a hf
     refine o_v hf hh (yv_bin rfl rfl rfl) ?_; clear hf a; intro a hf
     refine o_v hf hh (y_pf rfl rfl) ?_; clear hf a; intro a hf
     refine o_end ?_
     refine c_f hf ?_
     refine sy_skip ?_
     refine then_n ?_
     refine sy_sq ?_
     refine o_v hf hh (yv_fieldAddr Try.fo_31_0 rfl) ?_; clear hf a; intro a hf
     refine o_v hf hh (y_lds Try.ag_29 rfl) ?_; clear hf a; intro a hf
     refine o_v hf hh (yv_move rfl) ?_; clear hf a; intro a hf
     refine o_v hf hh (yv_move rfl) ?_; clear hf a; intro a hf
     refine o_call hf Try.en_25 rfl rfl rfl (p25 d oa ob ca cb _ (hA.ext hh.ext) (hB.ext hh.ext) (by omega) (by omega) x (by omega) (by omega)) ?_; clear hf a; intro v a w hR hf
     obtain ⟨oc, od, cpa, cpb, XA, XB, rfl, hOA, hOB, hx⟩ := hR; have hA2 := mkAt_of hOA fun x hx2 => hx.get x (by simp [hx2])
     have hB2 := mkAt_of hOB fun x hx2 => hx.get x (by simp [hx2])
     replace hh := (hh.join hx).less (List.sublist_append_right _ _); clear hx
     refine o_call hf Try.en_31 rfl rfl rfl (c17 (woD d x) oc od cpa cpb _ hA2 hB2) ?_; clear hf a; intro v a w hR hf
     rw [hce] at hR
     obtain ⟨rfl, hx⟩ := hR; replace hh := hh.more hx; clear hx
     refine o_v hf hh (yv_move rfl) ?_; clear hf a; intro a hf
     refine o_v hf hh (yv_extract rfl rfl) ?_; clear hf a; intro a hf
     refine o_v hf hh (yv_extract rfl rfl) ?_; clear hf a; intro a hf
     refine o_v hf hh (yv_assign rfl) ?_; clear hf a; intro a hf
     refine o_v hf hh (yv_assign rfl) ?_; clear hf a; intro a hf
     refine o_end ?_
     refine sy_sq ?_
     refine o_v hf hh (yv_move rfl) ?_; clear hf a; intro a hf
     refine o_v hf hh (yv_bin rfl rfl rfl) ?_; clear hf a; intro a hf
     refine o_v hf hh (yv_move rfl) ?_; clear hf a; intro a hf
     refine o_v hf hh (yv_move rfl) ?_; clear hf a; intro a hf
     refine o_v hf hh (yv_bin rfl rfl rfl) ?_; clear hf a; intro a hf
     refine o_v hf hh (y_pt rfl rfl) ?_; clear hf a; intro a hf
     refine o_v hf hh (yv_move rfl) ?_; clear hf a; intro a hf
     refine o_call hf Try.en_17 rfl rfl rfl (p17 _) ?_; clear hf a; intro v a w hR hf
     obtain ⟨rfl, hx⟩ := hR; replace hh := hh.more hx; clear hx
     refine o_v hf hh (y_pt rfl rfl) ?_; clear hf a; intro a hf
     refine o_v hf hh (yv_assign rfl) ?_; clear hf a; intro a hf
     refine o_end ?_
     refine sy_ret ?_
     refine ret_r hf rfl rfl ?_
     first
       | exact ⟨rfl, hh.ext⟩
       | exact ⟨rfl, he1.trans hh.ext⟩
   ·have hG31 := hg31; try simp only [gS] at hG31
    refine sy_skip ?_
    refine then_n ?_
    refine sy_seq ?_
    refine sy_sq ?_
    refine o_v hf hh (yv_move rfl) ?_; clear hf a; intro a hf
    refine o_v hf hh (yv_bin rfl rfl rfl) ?_; clear hf a; intro a hf
    refine o_end ?_
    refine sy_cond hf rfl (fun hg97 => ?_) (fun hg97 => ?_)
    ·have hG97 := hg97; try simp only [gS] at hG97
     refine sy_ops ?_
     refine o_v hf hh (yv_assign rfl) ?_; clear hf a; intro a hf
     refine o_end ?_
     refine sy_seq ?_
     refine sy_sq ?_
     refine o_v hf hh (yv_move rfl) ?_; clear hf a; intro a hf
     refine o_v hf hh (yv_not rfl) ?_; clear hf a; intro a hf
     refine o_v hf hh (yv_move rfl) ?_; clear hf a; intro a hf
     refine o_v hf hh (yv_move rfl) ?_; clear hf a; intro a hf
     refine o_v hf hh (yv_bin rfl rfl rfl) ?_; clear hf a; intro a hf
     refine o_v hf hh (y_pf rfl rfl) ?_; clear hf a; intro a hf
     refine o_v hf hh (yv_move rfl) ?_; clear hf a; intro a hf
     refine o_v hf hh (yv_move rfl) ?_; clear hf a; intro a hf
     refine o_v hf hh (yv_bin rfl rfl rfl) ?_; clear hf a; intro a hf
     refine o_v hf hh (y_pf rfl rfl) ?_; clear hf a; intro a hf
     refine o_v hf hh (yv_move rfl) ?_; clear hf a; intro a hf
     refine o_v hf hh (yv_move rfl) ?_; clear hf a; intro a hf
     refine o_v hf hh (yv_bin rfl rfl rfl) ?_; clear hf a; intro a hf
     refine o_v hf hh (y_pf rfl rfl) ?_; clear hf a; intro a hf
     refine o_v hf hh (yv_move rfl) ?_; clear hf a; intro a hf
     refine o_v hf hh (yv_move rfl) ?_; clear hf a; intro a hf
     refine o_v hf hh (yv_move rfl) ?_; clear hf a; intro a hf
     refine o_v hf hh (yv_cast (yv_and (.inl rfl) rfl rfl (by omega) (by simp only [IntKind.top]; omega) (by omega) (by simp only [IntKind.top]; omega)) (intv (b := ((sideB x : Nat) : Int)) (by
       first
       | (have hk : sideB x = 1 := by omega
          rw [hk] at hso ⊢
          rw [Int.toNat_natCast, Nat.and_comm]
          exact congrArg _ hso)
       | (have hk : sideB x = 2 := by omega
          rw [hk] at hso ⊢
          rw [Int.toNat_natCast, Nat.and_comm]
          exact congrArg _ hso)
       | (have hk : sideB x = 4 := by omega
          rw [hk] at hso ⊢
          rw [Int.toNat_natCast, Nat.and_comm]
          exact congrArg _ hso)))) ?_; clear hf a; intro a hf
     refine o_v hf hh (yv_bin rfl rfl rfl) ?_; clear hf a; intro a hf
     refine o_v hf hh (y_pf rfl rfl) ?_; clear hf a; intro a hf
     refine o_v hf hh (yv_move rfl) ?_; clear hf a; intro a hf
     refine o_v hf hh (yv_move rfl) ?_; clear hf a; intro a hf
     refine o_v hf hh (yv_bin rfl rfl rfl) ?_; clear hf a; intro a hf
     refine o_v hf hh (y_pf rfl rfl) ?_; clear hf a; intro a hf
     refine o_v hf hh (yv_move rfl) ?_; clear hf a; intro a hf
     refine o_v hf hh (yv_move rfl) ?_; clear hf a; intro a hf
     refine o_v hf hh (yv_bin rfl rfl rfl) ?_; clear hf a; intro a hf
     refine o_v hf hh (y_pf rfl rfl) ?_; clear hf a; intro a hf
     refine o_v hf hh (yv_move rfl) ?_; clear hf a; intro a hf
     refine o_v hf hh (yv_move rfl) ?_; clear hf a; intro a hf
     refine o_v hf hh (yv_bin rfl rfl rfl) ?_; clear hf a; intro a hf
     refine o_v hf hh (y_pf rfl rfl) ?_; clear hf a; intro a hf
     refine o_v hf hh (yv_move rfl) ?_; clear hf a; intro a hf
     refine o_v hf hh (yv_move rfl) ?_; clear hf a; intro a hf
     refine o_v hf hh (yv_bin rfl rfl rfl) ?_; clear hf a; intro a hf
     refine o_v hf hh (y_pf rfl rfl) ?_; clear hf a; intro a hf
     refine o_end ?_
     refine c_f hf ?_
     refine sy_skip ?_
     refine then_n ?_
     refine sy_seq ?_
     refine sy_sq ?_
     refine o_v hf hh (yv_move rfl) ?_; clear hf a; intro a hf
     refine o_v hf hh (yv_bin rfl rfl rfl) ?_; clear hf a; intro a hf
     refine o_v hf hh (yv_move rfl) ?_; clear hf a; intro a hf
     refine o_v hf hh (yv_move rfl) ?_; clear hf a; intro a hf
     refine o_v hf hh (yv_bin rfl rfl rfl) ?_; clear hf a; intro a hf
     refine o_v hf hh (y_pf rfl rfl) ?_; clear hf a; intro a hf
     refine o_v hf hh (yv_move rfl) ?_; clear hf a; intro a hf
     refine o_v hf hh (yv_move rfl) ?_; clear hf a; intro a hf
     refine o_call hf Try.en_22 rfl rfl rfl (p22 (firstL (casesL d p)).b.1 (by omega) _) ?_; clear hf a; intro v a w hR hf
     obtain ⟨rfl, hx⟩ := hR; replace hh := hh.more hx; clear hx
     refine o_v hf hh (yv_move rfl) ?_; clear hf a; intro a hf
     refine o_call hf Try.en_22 rfl rfl rfl (p22 (firstL (casesL d p)).b.2 (by omega) _) ?_; clear hf a; intro v a w hR hf
     obtain ⟨rfl, hx⟩ := hR; replace hh := hh.more hx; clear hx
     refine o_v hf hh (y_add rfl rfl) ?_; clear hf a; intro a hf
     refine o_v hf hh (yv_move rfl) ?_; clear hf a; intro a hf
     refine o_call hf Try.en_22 rfl rfl rfl (p22 x.1 (by omega) _) ?_; clear hf a; intro v a w hR hf
     obtain ⟨rfl, hx⟩ := hR; replace hh := hh.more hx; clear hx
     refine o_v hf hh (yv_move rfl) ?_; clear hf a; intro a hf
     refine o_call hf Try.en_22 rfl rfl rfl (p22 x.2 (by omega) _) ?_; clear hf a; intro v a w hR hf
     obtain ⟨rfl, hx⟩ := hR; replace hh := hh.more hx; clear hx
     refine o_v hf hh (y_add rfl rfl) ?_; clear hf a; intro a hf
     refine o_v hf hh (yv_bin rfl rfl rfl) ?_; clear hf a; intro a hf
     refine o_v hf hh (y_pf rfl rfl) ?_; clear hf a; intro a hf
     refine o_v hf hh (yv_move rfl) ?_; clear hf a; intro a hf
     refine o_v hf hh (yv_move rfl) ?_; clear hf a; intro a hf
     refine o_v hf hh (yv_move rfl) ?_; clear hf a; intro a hf
     refine o_v hf hh (yv_cast (yv_andn (.inl rfl) rfl rfl (by omega) (by simp only [IntKind.top]; omega) (by omega) (by simp only [IntKind.top]; omega)) (intv (b := 0) (by rw [Int.toNat_natCast, Int.toNat_natCast, andn_none hj1]; rfl))) ?_; clear hf a; intro a hf
     refine o_v hf hh (yv_bin rfl rfl rfl) ?_; clear hf a; intro a hf
     refine o_v hf hh (y_pf rfl rfl) ?_; clear hf a; intro a hf
     refine o_v hf hh (yv_move rfl) ?_; clear hf a; intro a hf
     refine o_v hf hh (yv_move rfl) ?_; clear hf a; intro a hf
     refine o_v hf hh (yv_move rfl) ?_; clear hf a; intro a hf
     refine o_v hf hh (yv_cast (yv_andn (.inl rfl) rfl rfl (by omega) (by simp only [IntKind.top]; omega) (by omega) (by simp only [IntKind.top]; omega)) (intv (b := 0) (by rw [Int.toNat_natCast, Int.toNat_natCast, andn_none hj2]; rfl))) ?_; clear hf a; intro a hf
     refine o_v hf hh (yv_bin rfl rfl rfl) ?_; clear hf a; intro a hf
     refine o_v hf hh (y_pf rfl rfl) ?_; clear hf a; intro a hf
     refine o_v hf hh (yv_move rfl) ?_; clear hf a; intro a hf
     refine o_v hf hh (yv_move rfl) ?_; clear hf a; intro a hf
     refine o_v hf hh (yv_move rfl) ?_; clear hf a; intro a hf
     refine o_v hf hh (yv_cast (yv_andn (.inl rfl) rfl rfl (by omega) (by simp only [IntKind.top]; omega) (by omega) (by simp only [IntKind.top]; omega)) (intv (b := 0) (by rw [Int.toNat_natCast, Int.toNat_natCast, andn_none hj3]; rfl))) ?_; clear hf a; intro a hf
     refine o_v hf hh (yv_bin rfl rfl rfl) ?_; clear hf a; intro a hf
     refine o_v hf hh (y_pf rfl rfl) ?_; clear hf a; intro a hf
     refine o_v hf hh (yv_move rfl) ?_; clear hf a; intro a hf
     refine o_v hf hh (yv_move rfl) ?_; clear hf a; intro a hf
     refine o_v hf hh (yv_move rfl) ?_; clear hf a; intro a hf
     refine o_v hf hh (yv_cast (yv_andn (.inl rfl) rfl rfl (by omega) (by simp only [IntKind.top]; omega) (by omega) (by simp only [IntKind.top]; omega)) (intv (b := 0) (by rw [Int.toNat_natCast, Int.toNat_natCast, andn_none hj4]; rfl))) ?_; clear hf a; intro a hf
     refine o_v hf hh (yv_bin rfl rfl rfl) ?_; clear hf a; intro a hf
     refine o_v hf hh (y_pf rfl rfl) ?_; clear hf a; intro a hf
     refine o_end ?_
     refine c_f hf ?_
     refine sy_skip ?_
     refine then_n ?_
     refine sy_sq ?_
     refine o_v hf hh (yv_fieldAddr Try.fo_31_0 rfl) ?_; clear hf a; intro a hf
     refine o_v hf hh (y_lds Try.ag_29 rfl) ?_; clear hf a; intro a hf
     refine o_v hf hh (yv_move rfl) ?_; clear hf a; intro a hf
     refine o_v hf hh (yv_move rfl) ?_; clear hf a; intro a hf
     refine o_call hf Try.en_25 rfl rfl rfl (p25 d oa ob ca cb _ (hA.ext hh.ext) (hB.ext hh.ext) (by omega) (by omega) x (by omega) (by omega)) ?_; clear hf a; intro v a w hR hf
     obtain ⟨oc, od, cpa, cpb, XA, XB, rfl, hOA, hOB, hx⟩ := hR; have hA2 := mkAt_of hOA fun x hx2 => hx.get x (by simp [hx2])
     have hB2 := mkAt_of hOB fun x hx2 => hx.get x (by simp [hx2])
     replace hh := (hh.join hx).less (List.sublist_append_right _ _); clear hx
     refine o_call hf Try.en_31 rfl rfl rfl (c17 (woD d x) oc od cpa cpb _ hA2 hB2) ?_; clear hf a; intro v a w hR hf
     rw [hce] at hR
     obtain ⟨rfl, hx⟩ := hR; replace hh := hh.more hx; clear hx
     refine o_v hf hh (yv_move rfl) ?_; clear hf a; intro a hf
     refine o_v hf hh (yv_extract rfl rfl) ?_; clear hf a; intro a hf
     refine o_v hf hh (yv_extract rfl rfl) ?_; clear hf a; intro a hf
     refine o_v hf hh (yv_assign rfl) ?_; clear hf a; intro a hf
     refine o_v hf hh (yv_assign rfl) ?_; clear hf a; intro a hf
     refine o_end ?_
     refine sy_sq ?_
     refine o_v hf hh (yv_move rfl) ?_; clear hf a; intro a hf
     refine o_v hf hh (yv_bin rfl rfl rfl) ?_; clear hf a; intro a hf
     refine o_v hf hh (yv_move rfl) ?_; clear hf a; intro a hf
     refine o_v hf hh (yv_move rfl) ?_; clear hf a; intro a hf
     refine o_v hf hh (yv_bin rfl rfl rfl) ?_; clear hf a; intro a hf
     refine o_v hf hh (y_pt rfl rfl) ?_; clear hf a; intro a hf
     refine o_v hf hh (yv_move rfl) ?_; clear hf a; intro a hf
     refine o_call hf Try.en_17 rfl rfl rfl (p17 _) ?_; clear hf a; intro v a w hR hf
     obtain ⟨rfl, hx⟩ := hR; replace hh := hh.more hx; clear hx
     refine o_v hf hh (y_pt rfl rfl) ?_; clear hf a; intro a hf
     refine o_v hf hh (yv_assign rfl) ?_; clear hf a; intro a hf
     refine o_end ?_
     refine sy_ret ?_
     refine ret_r hf rfl rfl ?_
     first
       | exact ⟨rfl, hh.ext⟩
       | exact ⟨rfl, he1.trans hh.ext⟩
    ·have hG97 := hg97; try simp only [gS] at hG97
     refine sy_skip ?_
     refine then_n ?_
     refine sy_seq ?_
     refine sy_sq ?_
     refine o_v hf hh (yv_move rfl) ?_; clear hf a; intro a hf
     refine o_v hf hh (yv_not rfl) ?_; clear hf a; intro a hf
     refine o_v hf hh (yv_move rfl) ?_; clear hf a; intro a hf
     refine o_v hf hh (yv_move rfl) ?_; clear hf a; intro a hf
     refine o_v hf hh (yv_bin rfl rfl rfl) ?_; clear hf a; intro a hf
     refine o_v hf hh (y_pf rfl rfl) ?_; clear hf a; intro a hf
     refine o_v hf hh (yv_move rfl) ?_; clear hf a; intro a hf
     refine o_v hf hh (yv_move rfl) ?_; clear hf a; intro a hf
     refine o_v hf hh (yv_bin rfl rfl rfl) ?_; clear hf a; intro a hf
     refine o_v hf hh (y_pf rfl rfl) ?_; clear hf a; intro a hf
     refine o_v hf hh (yv_move rfl) ?_; clear hf a; intro a hf
     refine o_v hf hh (yv_move rfl) ?_; clear hf a; intro a hf
     refine o_v hf hh (yv_bin rfl rfl rfl) ?_; clear hf a; intro a hf
     refine o_v hf hh (y_pf rfl rfl) ?_; clear hf a; intro a hf
     refine o_v hf hh (yv_move rfl) ?_; clear hf a; intro a hf
     refine o_v hf hh (yv_move rfl) ?_; clear hf a; intro a hf
     refine o_v hf hh (yv_move rfl) ?_; clear hf a; intro a hf
     refine o_v hf hh (yv_cast (yv_and (.inl rfl) rfl rfl (by omega) (by simp only [IntKind.top]; omega) (by omega) (by simp only [IntKind.top]; omega)) (intv (b := ((sideB x : Nat) : Int)) (by
       first
       | (have hk : sideB x = 1 := by omega
          rw [hk] at hso ⊢
          rw [Int.toNat_natCast, Nat.and_comm]
          exact congrArg _ hso)
       | (have hk : sideB x = 2 := by omega
          rw [hk] at hso ⊢
          rw [Int.toNat_natCast, Nat.and_comm]
          exact congrArg _ hso)
       | (have hk : sideB x = 4 := by omega
          rw [hk] at hso ⊢
          rw [Int.toNat_natCast, Nat.and_comm]
          exact congrArg _ hso)))) ?_; clear hf a; intro a hf
     refine o_v hf hh (yv_bin rfl rfl rfl) ?_; clear hf a; intro a hf
     refine o_v hf hh (y_pf rfl rfl) ?_; clear hf a; intro a hf
     refine o_v hf hh (yv_move rfl) ?_; clear hf a; intro a hf
     refine o_v hf hh (yv_move rfl) ?_; clear hf a; intro a hf
     refine o_v hf hh (yv_bin rfl rfl rfl) ?_; clear hf a; intro a hf
     refine o_v hf hh (y_pf rfl rfl) ?_; clear hf a; intro a hf
     refine o_v hf hh (yv_move rfl) ?_; clear hf a; intro a hf
     refine o_v hf hh (yv_move rfl) ?_; clear hf a; intro a hf
     refine o_v hf hh (yv_bin rfl rfl rfl) ?_; clear hf a; intro a hf
     refine o_v hf hh (y_pf rfl rfl) ?_; clear hf a; intro a hf
     refine o_v hf hh (yv_move rfl) ?_; clear hf a; intro a hf
     refine o_v hf hh (yv_move rfl) ?_; clear hf a; intro a hf
     refine o_v hf hh (yv_bin rfl rfl rfl) ?_; clear hf a; intro a hf
     refine o_v hf hh (y_pf rfl rfl) ?_; clear hf a; intro a hf
     refine o_v hf hh (yv_move rfl) ?_; clear hf a; intro a hf
     refine o_v hf hh (yv_move rfl) ?_; clear hf a; intro a hf
     refine o_v hf hh (yv_bin rfl rfl rfl) ?_; clear hf a; intro a hf
     refine o_v hf hh (y_pf rfl rfl) ?_; clear hf a; intro a hf
     refine o_end ?_
     refine c_f hf ?_
     refine sy_skip ?_
     refine then_n ?_
     refine sy_seq ?_
     refine sy_sq ?_
     refine o_v hf hh (yv_move rfl) ?_; clear hf a; intro a hf
     refine o_v hf hh (yv_bin rfl rfl rfl) ?_; clear hf a; intro a hf
     refine o_v hf hh (yv_move rfl) ?_; clear hf a; intro a hf
     refine o_v hf hh (yv_move rfl) ?_; clear hf a; intro a hf
     refine o_v hf hh (yv_bin rfl rfl rfl) ?_; clear hf a; intro a hf
     refine o_v hf hh (y_pf rfl rfl) ?_; clear hf a; intro a hf
     refine o_v hf hh (yv_move rfl) ?_; clear hf a; intro a hf
     refine o_v hf hh (yv_move rfl) ?_; clear hf a; intro a hf
     refine o_call hf Try.en_22 rfl rfl rfl (p22 (firstL (casesL d p)).b.1 (by omega) _) ?_; clear hf a; intro v a w hR hf
     obtain ⟨rfl, hx⟩ := hR; replace hh := hh.more hx; clear hx
     refine o_v hf hh (yv_move rfl) ?_; clear hf a; intro a hf
     refine o_call hf Try.en_22 rfl rfl rfl (p22 (firstL (casesL d p)).b.2 (by omega) _) ?_; clear hf a; intro v a w hR hf
     obtain ⟨rfl, hx⟩ := hR; replace hh := hh.more hx; clear hx
     refine o_v hf hh (y_add rfl rfl) ?_; clear hf a; intro a hf
     refine o_v hf hh (yv_move rfl) ?_; clear hf a; intro a hf
     refine o_call hf Try.en_22 rfl rfl rfl (p22 x.1 (by omega) _) ?_; clear hf a; intro v a w hR hf
     obtain ⟨rfl, hx⟩ := hR; replace hh := hh.more hx; clear hx
     refine o_v hf hh (yv_move rfl) ?_; clear hf a; intro a hf
     refine o_call hf Try.en_22 rfl rfl rfl (p22 x.2 (by omega) _) ?_; clear hf a; intro v a w hR hf
     obtain ⟨rfl, hx⟩ := hR; replace hh := hh.more hx; clear hx
     refine o_v hf hh (y_add rfl rfl) ?_; clear hf a; intro a hf
     refine o_v hf hh (yv_bin rfl rfl rfl) ?_; clear hf a; intro a hf
     refine o_v hf hh (y_pf rfl rfl) ?_; clear hf a; intro a hf
     refine o_v hf hh (yv_move rfl) ?_; clear hf a; intro a hf
     refine o_v hf hh (yv_move rfl) ?_; clear hf a; intro a hf
     refine o_v hf hh (yv_move rfl) ?_; clear hf a; intro a hf
     refine o_v hf hh (yv_cast (yv_andn (.inl rfl) rfl rfl (by omega) (by simp only [IntKind.top]; omega) (by omega) (by simp only [IntKind.top]; omega)) (intv (b := 0) (by rw [Int.toNat_natCast, Int.toNat_natCast, andn_none hj1]; rfl))) ?_; clear hf a; intro a hf
     refine o_v hf hh (yv_bin rfl rfl rfl) ?_; clear hf a; intro a hf
     refine o_v hf hh (y_pf rfl rfl) ?_; clear hf a; intro a hf
     refine o_v hf hh (yv_move rfl) ?_; clear hf a; intro a hf
     refine o_v hf hh (yv_move rfl) ?_; clear hf a; intro a hf
     refine o_v hf hh (yv_move rfl) ?_; clear hf a; intro a hf
     refine o_v hf hh (yv_cast (yv_andn (.inl rfl) rfl rfl (by omega) (by simp only [IntKind.top]; omega) (by omega) (by simp only [IntKind.top]; omega)) (intv (b := 0) (by rw [Int.toNat_natCast, Int.toNat_natCast, andn_none hj2]; rfl))) ?_; clear hf a; intro a hf
     refine o_v hf hh (yv_bin rfl rfl rfl) ?_; clear hf a; intro a hf
     refine o_v hf hh (y_pf rfl rfl) ?_; clear hf a; intro a hf
     refine o_v hf hh (yv_move rfl) ?_; clear hf a; intro a hf
     refine o_v hf hh (yv_move rfl) ?_; clear hf a; intro a hf
     refine o_v hf hh (yv_move rfl) ?_; clear hf a; intro a hf
     refine o_v hf hh (yv_cast (yv_andn (.inl rfl) rfl rfl (by omega) (by simp only [IntKind.top]; omega) (by omega) (by simp only [IntKind.top]; omega)) (intv (b := 0) (by rw [Int.toNat_natCast, Int.toNat_natCast, andn_none hj3]; rfl))) ?_; clear hf a; intro a hf
     refine o_v hf hh (yv_bin rfl rfl rfl) ?_; clear hf a; intro a hf
     refine o_v hf hh (y_pf rfl rfl) ?_; clear hf a; intro a hf
     refine o_v hf hh (yv_move rfl) ?_; clear hf a; intro a hf
     refine o_v hf hh (yv_move rfl) ?_; clear hf a; intro a hf
     refine o_v hf hh (yv_move rfl) ?_; clear hf a; intro a hf
     refine o_v hf hh (yv_cast (yv_andn (.inl rfl) rfl rfl (by omega) (by simp only [IntKind.top]; omega) (by omega) (by simp only [IntKind.top]; omega)) (intv (b := 0) (by rw [Int.toNat_natCast, Int.toNat_natCast, andn_none hj4]; rfl))) ?_; clear hf a; intro a hf
     refine o_v hf hh (yv_bin rfl rfl rfl) ?_; clear hf a; intro a hf
     refine o_v hf hh (y_pf rfl rfl) ?_; clear hf a; intro a hf
     refine o_end ?_
     refine c_f hf ?_
     refine sy_skip ?_
     refine then_n ?_
     refine sy_sq ?_
     refine o_v hf hh (yv_fieldAddr Try.fo_31_0 rfl) ?_; clear hf a; intro a hf
     refine o_v hf hh (y_lds Try.ag_29 rfl) ?_; clear hf a; intro a hf
     refine o_v hf hh (yv_move rfl) ?_; clear hf a; intro a hf
     refine o_v hf hh (yv_move rfl) ?_; clear hf a; intro a hf
     refine o_call hf Try.en_25 rfl rfl rfl (p25 d oa ob ca cb _ (hA.ext hh.ext) (hB.ext hh.ext) (by omega) (by omega) x (by omega) (by omega)) ?_; clear hf a; intro v a w hR hf
     obtain ⟨oc, od, cpa, cpb, XA, XB, rfl, hOA, hOB, hx⟩ := hR; have hA2 := mkAt_of hOA fun x hx2 => hx.get x (by simp [hx2])
     have hB2 := mkAt_of hOB fun x hx2 => hx.get x (by simp [hx2])
     replace hh := (hh.join hx).less (List.sublist_append_right _ _); clear hx
     refine o_call hf Try.en_31 rfl rfl rfl (c17 (woD d x) oc od cpa cpb _ hA2 hB2) ?_; clear hf a; intro v a w hR hf
     rw [hce] at hR
     obtain ⟨rfl, hx⟩ := hR; replace hh := hh.more hx; clear hx
     refine o_v hf hh (yv_move rfl) ?_; clear hf a; intro a hf
     refine o_v hf hh (yv_extract rfl rfl) ?_; clear hf a; intro a hf
     refine o_v hf hh (yv_extract rfl rfl) ?_; clear hf a; intro a hf
     refine o_v hf hh (yv_assign rfl) ?_; clear hf a; intro a hf
     refine o_v hf hh (yv_assign rfl) ?_; clear hf a; intro a hf
     refine o_end ?_
     refine sy_sq ?_
     refine o_v hf hh (yv_move rfl) ?_; clear hf a; intro a hf
     refine o_v hf hh (yv_bin rfl rfl rfl) ?_; clear hf a; intro a hf
     refine o_v hf hh (yv_move rfl) ?_; clear hf a; intro a hf
     refine o_v hf hh (yv_move rfl) ?_; clear hf a; intro a hf
     refine o_v hf hh (yv_bin rfl rfl rfl) ?_; clear hf a; intro a hf
     refine o_v hf hh (y_pt rfl rfl) ?_; clear hf a; intro a hf
     refine o_v hf hh (yv_move rfl) ?_; clear hf a; intro a hf
     refine o_call hf Try.en_17 rfl rfl rfl (p17 _) ?_; clear hf a; intro v a w hR hf
     obtain ⟨rfl, hx⟩ := hR; replace hh := hh.more hx; clear hx
     refine o_v hf hh (y_pt rfl rfl) ?_; clear hf a; intro a hf
     refine o_v hf hh (yv_assign rfl) ?_; clear hf a; intro a hf
     refine o_end ?_
     refine sy_ret ?_
     refine ret_r hf rfl rfl ?_
     first
       | exact ⟨rfl, hh.ext⟩
       | exact ⟨rfl, he1.trans hh.ext⟩
end Go.Proofs.Ytidieepndphodaa
namespace Go.Proofs.Ytidieepndphodaa
open Go Go.Sy Go.MatM Go.ChangeShapes Go.WideShapes Go.Deep Go.RowKit
theorem hs31 : Try.prog.underlying 31 = some (.struct (Try.prog.fieldsOf 31)) := by kernel_rfl
theorem fs31 : (Try.prog.fieldsOf 31).map (fun f => (f.offset, f.type)) = #[(0, 29), (5, 3)] := by kernel_rfl
theorem hs29 : Try.prog.underlying 29 = some (.struct (Try.prog.fieldsOf 29)) := by kernel_rfl
theorem fs29 : (Try.prog.fieldsOf 29).map (fun f => (f.offset, f.type)) = #[(0, 25), (1, 25), (2, 27), (4, 3)] := by kernel_rfl
theorem co31 : Try.prog.cellsOf 31 = 6 := by kernel_rfl
theorem co29 : Try.prog.cellsOf 29 = 5 := by kernel_rfl
theorem co25 : Try.prog.cellsOf 25 = 1 := by kernel_rfl
theorem co27 : Try.prog.cellsOf 27 = 2 := by kernel_rfl
theorem co3 : Try.prog.cellsOf 3 = 1 := by kernel_rfl
theorem un25 : Try.prog.underlying 25 = some (.slice 54) := by kernel_rfl
theorem fk54 : flK Try.prog .i64 9 54 = some 4 := by kernel_rfl
theorem fk27 : flK Try.prog .i64 9 27 = some 2 := by kernel_rfl
theorem fk3 : flK Try.prog .i64 9 3 = some 1 := by kernel_rfl
theorem un4 : Try.prog.underlying 4 = some .bool := by kernel_rfl
theorem own : ownKnob Try.prog.godebug = none := by kernel_rfl
def toMk (p : List Int) : Mk := match p with
  | [x, y, z, t] => ⟨x, y, z, t⟩
  | _ => ⟨0, 0, 0, 0⟩
theorem mkAt_flat {W : World} {sa : Option Addr} {l : List (List Int)} (hl : ∀ p ∈ l, p.length = 4) (h : FlatAt W .i64 sa 4 l) : MkAt W sa (l.map toMk) := fun i s hi => by
  rw [List.getElem?_map] at hi
  cases hp : l[i]? with
  | none => rw [hp] at hi; cases hi
  | some p =>
    rw [hp] at hi
    cases hi
    obtain ⟨blk, off, c, T, fr, h1, h2, h3⟩ := h i p hp
    refine ⟨blk, off, c, T, fr, h1, h2, ?_⟩
    rw [h3]
    match p, hl p (List.mem_of_getElem? hp) with
    | [x, y, z, t], _ => rfl
theorem len6 {l : List Value} (h : l.length = 6) : ∃ a b c d e f, l = [a, b, c, d, e, f] := by
  match l, h with
  | [a, b, c, d, e, f], _ => exact ⟨a, b, c, d, e, f, rfl⟩
section
variable {H : Type} {enc : TypeId × Value → H} {W : World} {base : Nat} {spare : Nat → Bool} {held : Bool}
set_option maxRecDepth 100000 in
theorem openCan {r : Reach} {b0 : Nat} {v : Value} {d : DataW H} {p : List MemPlace} (hv : Value.okWide Try.prog W r b0 31 v) (h : DataW.Trod enc Try.prog W base spare held 31 v d p) : ∃ (d : RowsD) (p : Int) (sa sb : Option Addr) (ca cb : Nat), v = canV d p sa sb ca cb ∧ MkAt W sa d.l ∧ MkAt W sb d.r ∧ (-9223372036854775808 ≤ d.hid ∧ d.hid ≤ 9223372036854775807) ∧ (-9223372036854775808 ≤ p ∧ p ≤ 9223372036854775807) ∧ d.l.length ≤ ca ∧ d.r.length ≤ cb := by
  obtain ⟨cs, rfl, hsz⟩ := okWide_struct hs31 hv
  obtain ⟨fuel, h⟩ := h
  obtain ⟨_, hf0⟩ := trod_field hs31 h
  rw [fs31] at hf0
  rw [co31] at hsz
  obtain ⟨l, rfl⟩ : ∃ l : List Value, cs = l.toArray := ⟨cs.toList, by simp⟩
  obtain ⟨c0, c1, c2, c3, c4, c5, rfl⟩ := len6 (by simpa using hsz)
  replace hf0 : ∀ (i o : Nat) (u : TypeId) (c : Nat), (#[(0, 29), (5, 3)] : Array (Nat × TypeId))[i]? = some (o, u) → Try.prog.cellsOf u = c → ∃ n y, DataW.trod enc Try.prog W base spare held n u (([c0, c1, c2, c3, c4, c5].drop o).take c) = some y := hf0
  obtain ⟨_, _, k0⟩ := hf0 0 0 29 5 rfl co29
  obtain ⟨_, _, k1⟩ := hf0 1 5 3 1 rfl co3
  obtain ⟨p3, q3, e4, w4⟩ := trod_fl fk3 k1
  obtain ⟨_, hf⟩ := trod_field hs29 k0
  rw [fs29] at hf
  replace hf : ∀ (i o : Nat) (u : TypeId) (c : Nat), (#[(0, 25), (1, 25), (2, 27), (4, 3)] : Array (Nat × TypeId))[i]? = some (o, u) → Try.prog.cellsOf u = c → ∃ n y, DataW.trod enc Try.prog W base spare held n u (([c0, c1, c2, c3, c4].drop o).take c) = some y := hf
  obtain ⟨_, _, g0⟩ := hf 0 0 25 1 rfl co25
  obtain ⟨_, _, g1⟩ := hf 1 1 25 1 rfl co25
  obtain ⟨_, _, g2⟩ := hf 2 2 27 2 rfl co27
  obtain ⟨_, _, g3⟩ := hf 3 4 3 1 rfl co3
  obtain ⟨l0, sa, ca, e0, _, b0', f0⟩ := trod_slices un25 fk54 (by omega) g0
  have hc0 := trod_cap un25 e0 g0
  obtain ⟨l1, sb, cb, e1, _, b1, f1⟩ := trod_slices un25 fk54 (by omega) g1
  have hc1 := trod_cap un25 e1 g1
  obtain ⟨p2, q2, e2, _⟩ := trod_fl fk27 g2
  obtain ⟨p5, q5, e3, w3⟩ := trod_fl fk3 g3
  obtain ⟨lo, hi, rfl⟩ : ∃ x y, p2 = [x, y] := by
    match p2, q2 with
    | [x, y], _ => exact ⟨x, y, rfl⟩
  obtain ⟨hid, rfl⟩ : ∃ x, p5 = [x] := by
    match p5, q5 with
    | [x], _ => exact ⟨x, rfl⟩
  obtain ⟨pp, rfl⟩ : ∃ x, p3 = [x] := by
    match p3, q3 with
    | [x], _ => exact ⟨x, rfl⟩
  simp at e0 e1 e2 e3 e4
  obtain ⟨rfl, rfl⟩ := e2
  subst e0; subst e1; subst e3; subst e4
  exact ⟨⟨l0.map toMk, l1.map toMk, lo, hi, hid⟩, pp, sa, sb, ca, cb, by simp, mkAt_flat (fun p hp => (b0' p hp).1) f0, mkAt_flat (fun p hp => (b1 p hp).1) f1, wf64 (w3 hid (by simp)), wf64 (w4 pp (by simp)), by simpa using hc0, by simpa using hc1⟩
end
end Go.Proofs.Ytidieepndphodaa
namespace Go.Proofs.Ytidieepndphodaa
open Go Go.Sy Go.MatM
theorem un5 : Try.prog.underlying 5 = some (.int .u8) := by kernel_rfl
theorem un56 : Try.prog.underlying 56 = some (.slice 99) := by kernel_rfl
theorem fk99 : flK Try.prog .u16 9 99 = some 1 := by kernel_rfl
end Go.Proofs.Ytidieepndphodaa
