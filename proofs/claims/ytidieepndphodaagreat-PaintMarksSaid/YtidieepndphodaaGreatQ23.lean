/- Lemmas, in order: Plain laws: a canvas whose rows have changed places. Plain laws: the mark at which it is best to look is the first one with the least that is left. Plain laws: the sets that the law looks at, one by one, are the cases in their order; the first of them. Plain laws: the cases as the document tells them, by how many marks, and as they are found. The cases, as the document tells them, walked. Plain laws: what the document tells of the cases, and what is told. The document's cases, and the first of them. What the document gathers over the cases. The document's Can, Sure, Sides and Lens. The document's Fits and Rest. PaintCases and PaintMarks: the laws' code returns true. What a law is handed, opened: canvases.. -/
import Derived.Test.YtidieepndphodaaGreatQ22
import Derived.Test.YtidieepndphodaaGreatRows
import Derived.Test.YtidieepndphodaaGreatChecked
import Derived.JoinedOf
import Derived.LaidLaws
import Derived.RowKit
import Derived.RowKitTokens
import Derived.LaidHandle
import Derived.Stop.Joined
import Derived.Lay
import Derived.SizedLaws
import Derived.SevenTiedAt
namespace Go.MatM
open Go Go.Sy Go.Proofs Go.RowKit
def sw2 (x : Nat × Nat) : Nat × Nat := (x.2, x.1)
section
variable {d : RowsD} {p : Int}
theorem left_tX (hV : Valid d) (x : Nat × Nat) : leftB (tX d) (sw2 x) = leftB d x := by
  have hV2 : Valid (tX d) := tX_valid hV
  rw [leftB_isD hV, leftB_isD hV2]
  have e : woD (tX d) (sw2 x) = tX (woD d x) := rfl
  rw [e, Bool.eq_iff_iff, isD_iff, isD_iff, need_tX, mos_tX]
theorem is_tX (hV : Valid d) (x : Nat × Nat) : isC (tX d) p (sw2 x) = isC d p x := by
  unfold isC
  rw [left_tX hV]
  have e1 : oneB (sw2 x) = oneB x := by unfold oneB sw2; rw [Bool.or_comm]
  have e2 : decide (((pc (sw2 x).1 : Nat) : Int) + (pc (sw2 x).2 : Nat) ≤ p) = decide (((pc x.1 : Nat) : Int) + (pc x.2 : Nat) ≤ p) := by
    rw [decide_eq_decide]; show ((pc x.2 : Nat) : Int) + (pc x.1 : Nat) ≤ p ↔ _; omega
  rw [e1, e2]
theorem row_tX (hV : Valid d) {i j : Nat} (hij : ∀ s, setX i s = sw2 (setX j s)) (l : List Nat) : rowL (tX d) p i l = (rowL d p j l).map sw2 := by
  unfold rowL
  have e1 : l.map (setX i) = (l.map (setX j)).map sw2 := by rw [List.map_map]; exact List.map_congr_left fun s _ => hij s
  have e2 : (isC (tX d) p ∘ sw2) = isC d p := funext fun x => is_tX hV x
  rw [e1, List.filter_map, e2]
theorem cases_tX (hV : Valid d) : (casesL (tX d) p).Perm ((casesL d p).map sw2) := by
  have h0 : [((0 : Nat), (0 : Nat))].filter (isC (tX d) p) = ([((0 : Nat), (0 : Nat))].filter (isC d p)).map sw2 := by
    have := is_tX (p := p) hV (0, 0)
    rw [List.filter_cons, List.filter_cons, show isC (tX d) p (0, 0) = isC d p (0, 0) from this]
    split <;> rfl
  have e1 : rowL (tX d) p 0 (restS (lenR (tX d) 0) p 1) = (rowL d p 1 (restS (lenR d 1) p 1)).map sw2 := row_tX hV (fun _ => rfl) _
  have e2 : rowL (tX d) p 1 (restS (lenR (tX d) 1) p 1) = (rowL d p 0 (restS (lenR d 0) p 1)).map sw2 := row_tX hV (fun _ => rfl) _
  show ([(0, 0)].filter (isC (tX d) p) ++ (rowL (tX d) p 0 _ ++ rowL (tX d) p 1 _)).Perm (([(0, 0)].filter (isC d p) ++ (rowL d p 0 _ ++ rowL d p 1 _)).map sw2)
  rw [h0, e1, e2, List.map_append, List.map_append]
  exact List.Perm.append_left _ List.perm_append_comm
theorem okCan_tX (h : okCan d p = true) : okCan (tX d) p = true := by
  obtain ⟨hV, h0, h3⟩ := okCan_valid h
  exact okCan_mk (tX_valid hV) h0 h3
theorem turnC_cases (h : okCan d p = true) : casesC (tX d) p = casesC d p := by
  rw [casesC_ok h, casesC_ok (okCan_tX h), (cases_tX (okCan_valid h).1).length_eq, List.length_map]
theorem turnC_gat (h : okCan d p = true) : gatE (tX d) p = gatE d p := by
  unfold gatE
  rw [casesE_ok h, casesE_ok (okCan_tX h), (cases_tX (okCan_valid h).1).length_eq, List.length_map]
theorem any_perm {α : Type} {l m : List α} (h : l.Perm m) (f : α → Bool) : l.any f = m.any f := by
  rw [Bool.eq_iff_iff, List.any_eq_true, List.any_eq_true]
  exact ⟨fun ⟨x, h1, h2⟩ => ⟨x, h.mem_iff.1 h1, h2⟩, fun ⟨x, h1, h2⟩ => ⟨x, h.mem_iff.2 h1, h2⟩⟩
theorem all_perm {α : Type} {l m : List α} (h : l.Perm m) (f : α → Bool) : l.all f = m.all f := by
  rw [Bool.eq_iff_iff, List.all_eq_true, List.all_eq_true]
  exact ⟨fun h1 x hx => h1 x (h.mem_iff.2 hx), fun h1 x hx => h1 x (h.mem_iff.1 hx)⟩
theorem turnC_can (h : okCan d p = true) : (joinV (tX d) p).o = sw2 (joinV d p).o := by
  have hp := cases_tX (p := p) (okCan_valid h).1
  unfold joinV
  rw [turnC_gat h]
  split
  · refine Prod.ext ?_ ?_
    · refine Nat.eq_of_testBit_eq fun k => ?_
      show (joinL (casesL (tX d) p)).o.1.testBit k = (joinL (casesL d p)).o.2.testBit k
      rw [joinL_o1, joinL_o2, any_perm hp, List.any_map]; rfl
    · refine Nat.eq_of_testBit_eq fun k => ?_
      show (joinL (casesL (tX d) p)).o.2.testBit k = (joinL (casesL d p)).o.1.testBit k
      rw [joinL_o1, joinL_o2, any_perm hp, List.any_map]; rfl
  · rfl
theorem turnC_sure (h : okCan d p = true) : (joinV (tX d) p).a = sw2 (joinV d p).a := by
  have hp := cases_tX (p := p) (okCan_valid h).1
  unfold joinV
  rw [turnC_gat h]
  split
  · rename_i hg
    have hn := (gat_pos h).1 hg
    have hm := (gat_pos (okCan_tX h)).1 (by rw [turnC_gat h]; exact hg)
    refine Prod.ext ?_ ?_
    · refine Nat.eq_of_testBit_eq fun k => ?_
      show (joinL (casesL (tX d) p)).a.1.testBit k = (joinL (casesL d p)).a.2.testBit k
      rw [joinL_a1 hm, joinL_a2 hn, all_perm hp, List.all_map]; rfl
    · refine Nat.eq_of_testBit_eq fun k => ?_
      show (joinL (casesL (tX d) p)).a.2.testBit k = (joinL (casesL d p)).a.1.testBit k
      rw [joinL_a1 hn, joinL_a2 hm, all_perm hp, List.all_map]; rfl
  · rfl
/-- Sides that have changed places. -/
def turnS (s : Nat) : Nat := (s &&& 1) ||| 2 * (s &&& 2) ||| (s &&& 4) >>> 1
theorem turnS_or {a b : Nat} (ha : a ≤ 7) (hb : b ≤ 7) : turnS (a ||| b) = turnS a ||| turnS b := by
  have h : ∀ a b : Fin 8, turnS (a.1 ||| b.1) = turnS a.1 ||| turnS b.1 := by decide
  exact h ⟨a, by omega⟩ ⟨b, by omega⟩
theorem sideB_turn {x : Nat × Nat} (h : oneB x = true) : sideB (sw2 x) = turnS (sideB x) := by
  unfold oneB at h
  rw [Bool.or_eq_true, decide_eq_true_eq, decide_eq_true_eq] at h
  unfold sideB sw2
  by_cases h1 : x.1 = 0 <;> by_cases h2 : x.2 = 0
  · simp only [h1, h2, if_true]; decide
  · simp only [h1, h2, if_true, if_false]; decide
  · simp only [h1, h2, if_true, if_false]; decide
  · omega
theorem sideF_turn : ∀ (l : List (Nat × Nat)) (s : Nat), s ≤ 7 → (∀ x ∈ l, oneB x = true) → (l.map sw2).foldl (fun s x => s ||| sideB x) (turnS s) = turnS (l.foldl (fun s x => s ||| sideB x) s)
  | [], _, _, _ => rfl
  | x :: l, s, hs, h => by
    rw [List.map_cons, List.foldl_cons, List.foldl_cons, sideB_turn (h x (.head _)), ← turnS_or hs (sideB_le x)]
    exact sideF_turn l _ (or_le7 hs (sideB_le x)) fun y hy => h y (.tail _ hy)
theorem sideF_bit (k : Nat) : ∀ (l : List (Nat × Nat)) (s : Nat), (l.foldl (fun s x => s ||| sideB x) s).testBit k = (s.testBit k || l.any fun x => (sideB x).testBit k)
  | [], s => by simp
  | x :: l, s => by rw [List.foldl_cons, sideF_bit k l]; simp [Nat.testBit_or, Bool.or_assoc]
theorem sideS_bit (l : List (Nat × Nat)) (k : Nat) : (sideS l).testBit k = l.any fun x => (sideB x).testBit k := by rw [sideS, sideF_bit]; simp
theorem sideS_perm {l m : List (Nat × Nat)} (h : l.Perm m) : sideS l = sideS m := Nat.eq_of_testBit_eq fun k => by rw [sideS_bit, sideS_bit, any_perm h]
theorem cases_is {x : Nat × Nat} (h : x ∈ casesL d p) : isC d p x = true := by
  have e : casesL d p = [(0, 0)].filter (isC d p) ++ (rowL d p 0 (restS (lenR d 0) p 1) ++ rowL d p 1 (restS (lenR d 1) p 1)) := rfl
  rw [e, List.mem_append, List.mem_append] at h
  unfold rowL at h
  rcases h with h | h | h <;> exact (List.mem_filter.1 h).2
theorem turnC_sides (h : okCan d p = true) : sidesV (tX d) p = turnS (sidesV d p) := by
  unfold sidesV
  rw [turnC_gat h]
  split
  · rw [sideS_perm (cases_tX (okCan_valid h).1)]
    exact sideF_turn _ 0 (by omega) fun x hx => by
      have := cases_is hx
      unfold isC at this
      rw [Bool.and_eq_true] at this
      exact this.1
  · rfl
theorem sidesV_le : sidesV d p ≤ 7 := by
  unfold sidesV
  split
  · exact sideS_le _
  · omega
end
end Go.MatM
namespace Go.MatM
open Go Go.Sy Go.Proofs Go.RowKit
section
variable {d : RowsD} {p : Int}
theorem isC_few {x : Nat × Nat} (h : isC d p x = true) : ((pc x.1 : Nat) : Int) + (pc x.2 : Nat) ≤ p := by
  unfold isC at h
  rw [Bool.and_eq_true, Bool.and_eq_true, decide_eq_true_eq] at h
  exact h.2.1
/-- Sets of one row that are cases, and have a mark. -/
def setN (d : RowsD) (p : Int) (row i n : Nat) : Nat := (List.range n).countP fun s => isC d p (setX row s) && s.testBit i
theorem setN_step (row i n : Nat) : setN d p row i (n + 1) = setN d p row i n + if isC d p (setX row n) && n.testBit i then 1 else 0 := by
  unfold setN
  rw [List.range_succ, List.countP_append, List.countP_singleton]
theorem row_yes {row i : Nat} (hr : row < 2) : (rowL d p row (restS (lenR d row) p 1)).countP (fun x => (xAt x row).testBit i) = setN d p row i (2 ^ lenR d row) := by
  have hx : ∀ s, xAt (setX row s) row = s := fun s => by
    rcases (show row = 0 ∨ row = 1 by omega) with rfl | rfl <;> rfl
  unfold rowL restS setN
  rw [List.countP_filter, List.countP_map, List.countP_filter]
  have e : List.range (2 ^ lenR d row) = 0 :: List.range' 1 (2 ^ lenR d row - 1) := by
    have h1 := Nat.two_pow_pos (lenR d row)
    conv => lhs; rw [List.range_eq_range', show 2 ^ lenR d row = (2 ^ lenR d row - 1) + 1 by omega, List.range'_succ]
  rw [e, List.countP_cons, Nat.zero_testBit, Bool.and_false, if_neg (by decide), Nat.add_zero]
  refine List.countP_congr fun s _ => ?_
  simp only [Function.comp, hx, Bool.and_eq_true]
  constructor
  · rintro ⟨⟨h1, h2⟩, _⟩; exact ⟨h2, h1⟩
  · rintro ⟨h1, h2⟩
    refine ⟨⟨h2, h1⟩, ?_⟩
    have h3 := isC_few h1
    have h4 : pc 0 = 0 := pc_zero
    rw [decide_eq_true_eq]
    rcases (show row = 0 ∨ row = 1 by omega) with rfl | rfl <;> (simp only [setX] at h3; simp at h3; omega)
theorem row_no {row j i : Nat} (h : ∀ s, xAt (setX j s) row = 0) (l : List Nat) : (rowL d p j l).countP (fun x => (xAt x row).testBit i) = 0 := by
  unfold rowL
  rw [List.countP_eq_zero]
  intro x hx
  obtain ⟨s, _, rfl⟩ := List.mem_map.1 (List.mem_filter.1 hx).1
  rw [h s, Nat.zero_testBit]; decide
theorem yes_sets {row i : Nat} (hr : row < 2) : yesN (casesL d p) row i = setN d p row i (2 ^ lenR d row) := by
  have e : casesL d p = [(0, 0)].filter (isC d p) ++ (rowL d p 0 (restS (lenR d 0) p 1) ++ rowL d p 1 (restS (lenR d 1) p 1)) := rfl
  have h0 : ([((0 : Nat), (0 : Nat))].filter (isC d p)).countP (fun x => (xAt x row).testBit i) = 0 := by
    rw [List.countP_eq_zero]
    intro x hx
    rw [List.mem_singleton.1 (List.mem_filter.1 hx).1]
    have : xAt (0, 0) row = 0 := by unfold xAt; split <;> rfl
    rw [this, Nat.zero_testBit]; decide
  unfold yesN
  rw [e, List.countP_append, List.countP_append, h0, Nat.zero_add]
  rcases (show row = 0 ∨ row = 1 by omega) with rfl | rfl
  · rw [row_yes (by omega), row_no (fun _ => rfl), Nat.add_zero]
  · rw [row_yes (by omega), row_no (fun _ => rfl), Nat.zero_add]
/-- How many are left at a mark, marks of both rows told one after the other. -/
def atN (d : RowsD) (l : List (Nat × Nat)) (k : Nat) : Nat := if k < d.l.length then toldN l 0 k else toldN l 1 (k - d.l.length)
structure LensI (d : RowsD) (l : List (Nat × Nat)) (K : Nat) (s : Nat × Nat × Nat) : Prop where
  none : K = 0 → s = (0, 0, l.length + 1)
  some : 0 < K → ((s.1 = 2 ∧ s.2.1 < d.l.length ∧ s.2.1 < K) ∨ (s.1 = 4 ∧ s.2.1 < d.r.length ∧ s.2.1 + d.l.length < K)) ∧ atN d l (if s.1 = 4 then s.2.1 + d.l.length else s.2.1) = s.2.2
  best : ∀ k, k < K → s.2.2 < atN d l k ∨ (s.2.2 = atN d l k ∧ (if s.1 = 4 then s.2.1 + d.l.length else s.2.1) ≤ k)
theorem lens_step {l : List (Nat × Nat)} {K : Nat} {s t : Nat × Nat × Nat} (h : LensI d l K s) (ht : t.2.2 = atN d l K) (hle : atN d l K ≤ l.length) (hp : (t.1 = 2 ∧ t.2.1 < d.l.length ∧ t.2.1 = K) ∨ (t.1 = 4 ∧ t.2.1 < d.r.length ∧ t.2.1 + d.l.length = K)) : LensI d l (K + 1) (if t.2.2 < s.2.2 then t else s) := by
  have hpos : (if t.1 = 4 then t.2.1 + d.l.length else t.2.1) = K := by
    rcases hp with ⟨h1, _, h3⟩ | ⟨h1, _, h3⟩
    · rw [if_neg (by omega)]; exact h3
    · rw [if_pos h1]; exact h3
  by_cases hlt : t.2.2 < s.2.2
  · rw [if_pos hlt]
    refine ⟨fun h0 => by omega, fun _ => ⟨?_, ?_⟩, fun k hk => ?_⟩
    · rcases hp with ⟨h1, h2, h3⟩ | ⟨h1, h2, h3⟩
      · exact .inl ⟨h1, h2, by omega⟩
      · exact .inr ⟨h1, h2, by omega⟩
    · rw [hpos]; exact ht.symm
    · rw [hpos]
      by_cases hkK : k = K
      · subst hkK; exact .inr ⟨ht, Nat.le_refl _⟩
      · have := h.best k (by omega)
        exact .inl (by omega)
  · rw [if_neg hlt]
    have hK : 0 < K := by
      by_cases h0 : K = 0
      · have := h.none h0
        rw [this] at hlt
        simp only at hlt; omega
      · omega
    obtain ⟨h1, h2⟩ := h.some hK
    refine ⟨fun h0 => by omega, fun _ => ⟨?_, h2⟩, fun k hk => ?_⟩
    · rcases h1 with h1 | h1
      · exact .inl ⟨h1.1, h1.2.1, by omega⟩
      · exact .inr ⟨h1.1, h1.2.1, by omega⟩
    · by_cases hkK : k = K
      · subst hkK
        have : (if s.1 = 4 then s.2.1 + d.l.length else s.2.1) ≤ k := by
          rcases h1 with h1 | h1
          · rw [if_neg (by omega)]; omega
          · rw [if_pos h1.1]; omega
        by_cases h9 : s.2.2 = atN d l k
        · exact .inr ⟨h9, this⟩
        · exact .inl (by omega)
      · exact h.best k (by omega)
theorem lens_row0 {l : List (Nat × Nat)} : ∀ {i : Nat}, i ≤ d.l.length → LensI d l i (lensR l 0 i (0, 0, l.length + 1))
  | 0, _ => ⟨fun _ => rfl, fun h => by omega, fun k hk => by omega⟩
  | i + 1, hi => by
    have ih := lens_row0 (l := l) (i := i) (by omega)
    have e : atN d l i = toldN l 0 i := by unfold atN; rw [if_pos (by omega)]
    have h := lens_step (t := (2, i, toldN l 0 i)) ih (by rw [e]) (by rw [e]; exact toldN_le l 0 i) (.inl ⟨rfl, by simp only; omega, rfl⟩)
    exact h
theorem lens_row1 {l : List (Nat × Nat)} {s : Nat × Nat × Nat} (hs : LensI d l d.l.length s) : ∀ {i : Nat}, i ≤ d.r.length → LensI d l (d.l.length + i) (lensR l 1 i s)
  | 0, _ => hs
  | i + 1, hi => by
    have ih := lens_row1 hs (i := i) (by omega)
    have e : atN d l (d.l.length + i) = toldN l 1 i := by unfold atN; rw [if_neg (by omega), show d.l.length + i - d.l.length = i by omega]
    have h := lens_step (t := (4, i, toldN l 1 i)) ih (by rw [e]) (by rw [e]; exact toldN_le l 1 i) (.inr ⟨rfl, by simp only; omega, by simp only; omega⟩)
    exact h
theorem lens_best : LensI d (casesL d p) (d.l.length + d.r.length) (lensAt d (casesL d p) 2) := lens_row1 (lens_row0 (Nat.le_refl _)) (Nat.le_refl _)
theorem cases_some (h : 1 < (casesL d p).length) : 0 < d.l.length + d.r.length := by
  rcases Nat.eq_zero_or_pos (d.l.length + d.r.length) with h0 | h0
  · have e : casesL d p = [(0, 0)].filter (isC d p) ++ (rowL d p 0 (restS (lenR d 0) p 1) ++ rowL d p 1 (restS (lenR d 1) p 1)) := rfl
    have hl : lenR d 0 = 0 := by show d.l.length = 0; omega
    have hr : lenR d 1 = 0 := by show d.r.length = 0; omega
    have h1 : restS 0 p 1 = [] := restS_end (by decide)
    rw [e, hl, hr, h1] at h
    have h5 : ([((0 : Nat), (0 : Nat))].filter (isC d p)).length ≤ 1 := List.length_filter_le _ _
    simp only [rowL, List.map_nil, List.filter_nil, List.append_nil] at h
    omega
  · exact h0
theorem lensE_iff (h : okCan d p = true) : lensE d p = 0 ↔ 1 < (casesL d p).length := by
  unfold lensE
  by_cases hg : gatE d p = 0
  · rw [if_pos hg]
    split
    · omega
    · omega
  · rw [if_neg hg]
    have h1 := mt (gat_pos h).2 hg
    have h2 : casesL d p = [] := Classical.not_not.1 h1
    rw [h2]
    simp only [List.length_nil]
    omega
theorem gatE_iff (h : okCan d p = true) : gatE d p = 0 ↔ 0 < (casesL d p).length := by rw [gat_pos h, List.length_pos_iff]
theorem gatE_none (h : okCan d p = true) (hg : gatE d p ≠ 0) : gatE d p = 4 := by
  unfold gatE at hg ⊢
  rw [if_pos (casesE_ok h)] at hg ⊢
  split
  · rfl
  · rename_i h1; rw [if_neg h1] at hg; exact absurd rfl hg
theorem lensE_none (h : okCan d p = true) (hg : lensE d p ≠ 0) : lensE d p = 4 ∧ lensV d p = (0, 0, 0) := by
  refine ⟨?_, by unfold lensV; rw [if_neg hg]⟩
  unfold lensE at hg ⊢
  split
  · rename_i h1; rw [if_pos h1] at hg
    split
    · rfl
    · rename_i h2; rw [if_neg h2] at hg; exact absurd rfl hg
  · rename_i h1; exact gatE_none h h1
/-- What the lens tells is right. -/
theorem lens_told (h : okCan d p = true) (hE : lensE d p = 0) : ∃ row i t : Nat, lensV d p = (ofN row, i, t) ∧ row < 2 ∧ i < lenR d row ∧ toldN (casesL d p) row i = t ∧ ∀ k, k < d.l.length + d.r.length → t < atN d (casesL d p) k ∨ (t = atN d (casesL d p) k ∧ i + row * d.l.length ≤ k) := by
  have hn := (lensE_iff h).1 hE
  have hb := lens_best (d := d) (p := p)
  have hs := cases_some hn
  unfold lensV
  rw [if_pos hE]
  obtain ⟨⟨s1, s2, s3⟩, hlv⟩ : ∃ z, z = lensAt d (casesL d p) 2 := ⟨_, rfl⟩
  rw [← hlv] at hb ⊢
  obtain ⟨h1, h2⟩ := hb.some hs
  simp only at h1 h2
  rcases h1 with ⟨e1, h3, _⟩ | ⟨e1, h3, _⟩
  · subst e1
    refine ⟨0, s2, s3, rfl, by omega, h3, ?_, fun k hk => ?_⟩
    · rw [if_neg (by omega)] at h2
      unfold atN at h2
      rw [if_pos h3] at h2; exact h2
    · have := hb.best k hk
      simp only [if_neg (show ¬ (2 : Nat) = 4 by omega)] at this
      rw [Nat.zero_mul, Nat.add_zero]; exact this
  · subst e1
    refine ⟨1, s2, s3, rfl, by omega, h3, ?_, fun k hk => ?_⟩
    · rw [if_pos rfl] at h2
      unfold atN at h2
      rw [if_neg (by omega), show s2 + d.l.length - d.l.length = s2 by omega] at h2; exact h2
    · have := hb.best k hk
      simp only [if_pos (show (4 : Nat) = 4 from rfl)] at this
      rw [Nat.one_mul]; exact this
end
end Go.MatM
namespace Go.MatM
open Go Go.Sy Go.Proofs Go.RowKit
/-- What the law holds for less. -/
def lawP (x b : Nat × Nat) : Prop := pc x.1 + pc x.2 < pc b.1 + pc b.2 ∨ (pc x.1 + pc x.2 = pc b.1 + pc b.2 ∧ ((b.1 = 0 ∧ 0 < x.1) ∨ (0 < b.1 ∧ 0 < x.1 ∧ x.1 < b.1) ∨ (b.1 = 0 ∧ x.1 = 0 ∧ x.2 < b.2)))
theorem pc_zero_iff {s : Nat} (h : s < 65536) : pc s = 0 ↔ s = 0 := by
  constructor
  · intro h1
    rcases Nat.eq_zero_or_pos s with h2 | h2
    · exact h2
    · have := pc_pos s h2 (by omega); omega
  · rintro rfl; exact pc_zero
theorem law_less {x b : Nat × Nat} (hx : oneB x = true) (hb : oneB b = true) (h1 : x.1 < 65536) (h2 : x.2 < 65536) (h3 : b.1 < 65536) (h4 : b.2 < 65536) : lessB x b = true ↔ lawP x b := by
  unfold oneB at hx hb
  rw [Bool.or_eq_true, decide_eq_true_eq, decide_eq_true_eq] at hx hb
  have p1 := pc_zero_iff h1; have p2 := pc_zero_iff h2; have p3 := pc_zero_iff h3; have p4 := pc_zero_iff h4
  have r0 : ∀ y : Nat × Nat, rk 0 y = pc y.1 + pc y.2 := fun _ => rfl
  have r1 : ∀ y : Nat × Nat, rk 1 y = pc y.2 := fun _ => rfl
  have r2 : ∀ y : Nat × Nat, rk 2 y = y.1 ||| y.2 := fun _ => rfl
  unfold lessB lawP
  by_cases e0 : rk 0 x = rk 0 b
  · rw [if_pos e0]
    rw [r0, r0] at e0
    by_cases e1 : rk 1 x = rk 1 b
    · rw [if_pos e1, decide_eq_true_eq, r2, r2]
      rw [r1, r1] at e1
      rcases hx with hx | hx <;> rcases hb with hb | hb
      · rw [hx, hb, Nat.zero_or, Nat.zero_or]; omega
      · have q1 := p1.2 hx; have q4 := p4.2 hb
        have hx2 : x.2 = 0 := p2.1 (by omega)
        have hb1 : b.1 = 0 := p3.1 (by omega)
        rw [hx, hb, hb1, hx2]; simp
      · have q2 := p2.2 hx; have q3 := p3.2 hb
        have hb2 : b.2 = 0 := p4.1 (by omega)
        have hx1 : x.1 = 0 := p1.1 (by have := p4.2 hb2; omega)
        rw [hx, hb, hx1, hb2]; simp
      · rw [hx, hb, Nat.or_zero, Nat.or_zero]
        have := p2.2 hx; have := p4.2 hb
        omega
    · rw [if_neg e1, decide_eq_true_eq, r1, r1]
      rw [r1, r1] at e1
      rcases hx with hx | hx <;> rcases hb with hb | hb
      · have := p1.2 hx; have := p3.2 hb; omega
      · have := p1.2 hx; have := p4.2 hb; omega
      · have := p2.2 hx; have := p3.2 hb; omega
      · have := p2.2 hx; have := p4.2 hb; omega
  · rw [if_neg e0, decide_eq_true_eq, r0, r0]
    rw [r0, r0] at e0
    omega
section
variable {d : RowsD} {p : Int}
/-- The cases of one row among the first sets. -/
def rowP (d : RowsD) (p : Int) (row s : Nat) : List (Nat × Nat) := ((List.range' 1 (s - 1)).map (setX row)).filter (isC d p)
theorem rowP_one (row : Nat) : rowP d p row 1 = [] := rfl
theorem rowP_step (row : Nat) {s : Nat} (hs : 1 ≤ s) : rowP d p row (s + 1) = rowP d p row s ++ if isC d p (setX row s) then [setX row s] else [] := by
  unfold rowP
  rw [show s + 1 - 1 = (s - 1) + 1 by omega, List.range'_concat, List.map_append, List.filter_append]
  congr 1
  rw [show 1 + 1 * (s - 1) = s by omega, List.map_singleton, List.filter_cons]
  split <;> rfl
theorem rowP_all {row : Nat} (hr : row < 2) : rowP d p row (2 ^ lenR d row) = rowL d p row (restS (lenR d row) p 1) := by
  unfold rowP rowL restS
  rw [List.filter_map, List.filter_map, List.filter_filter]
  refine congrArg _ (List.filter_congr fun s _ => ?_)
  simp only [Function.comp]
  cases h : isC d p (setX row s)
  · rfl
  · have h3 := isC_few h
    have h4 : pc 0 = 0 := pc_zero
    have : fewB p s = true := by
      rw [decide_eq_true_eq]
      rcases (show row = 0 ∨ row = 1 by omega) with rfl | rfl <;> (simp only [setX] at h3; simp at h3; omega)
    rw [this]; rfl
/-- The cases of all rows ahead of one. -/
def accL (d : RowsD) (p : Int) : Nat → List (Nat × Nat)
  | 0 => [(0, 0)].filter (isC d p)
  | row + 1 => accL d p row ++ rowP d p row (2 ^ lenR d row)
theorem accL_all : accL d p 2 = casesL d p := by
  rw [accL, accL, accL, rowP_all (by omega), rowP_all (by omega), List.append_assoc]; rfl
def accP (d : RowsD) (p : Int) (row s : Nat) : List (Nat × Nat) := accL d p row ++ rowP d p row s
theorem accP_one (row : Nat) : accP d p row 1 = accL d p row := List.append_nil _
theorem accP_step (row : Nat) {s : Nat} (hs : 1 ≤ s) : accP d p row (s + 1) = accP d p row s ++ if isC d p (setX row s) then [setX row s] else [] := by
  unfold accP; rw [rowP_step row hs, List.append_assoc]
theorem accP_end (row : Nat) : accP d p row (2 ^ lenR d row) = accL d p (row + 1) := rfl
theorem accL_is : ∀ (row : Nat) {x : Nat × Nat}, x ∈ accL d p row → isC d p x = true
  | 0, x, h => (List.mem_filter.1 h).2
  | row + 1, x, h => by
    rw [accL, List.mem_append] at h
    rcases h with h | h
    · exact accL_is row h
    · exact (List.mem_filter.1 h).2
theorem accP_is {row s : Nat} {x : Nat × Nat} (h : x ∈ accP d p row s) : isC d p x = true := by
  unfold accP at h
  rw [List.mem_append] at h
  rcases h with h | h
  · exact accL_is row h
  · exact (List.mem_filter.1 h).2
theorem accP_lt (hV : Valid d) {row s : Nat} (hr : row < 2) (hs : s ≤ 2 ^ lenR d row) {x : Nat × Nat} (h : x ∈ accP d p row s) : x ∈ casesL d p := by
  have hsub : ∀ row s, s ≤ 2 ^ lenR d row → ∀ x ∈ rowP d p row s, x ∈ rowP d p row (2 ^ lenR d row) := fun row s hs x hx => by
    unfold rowP at hx ⊢
    rw [List.mem_filter] at hx ⊢
    refine ⟨?_, hx.2⟩
    obtain ⟨y, hy, rfl⟩ := List.mem_map.1 hx.1
    refine List.mem_map.2 ⟨y, ?_, rfl⟩
    rw [List.mem_range'_1] at hy ⊢
    omega
  unfold accP at h
  rw [List.mem_append] at h
  rw [← accL_all, accL, accL, List.mem_append, List.mem_append]
  rcases (show row = 0 ∨ row = 1 by omega) with rfl | rfl
  · rcases h with h | h
    · exact .inl (.inl h)
    · exact .inl (.inr (hsub _ _ hs _ h))
  · rcases h with h | h
    · rw [accL, List.mem_append] at h; exact .inl h
    · exact .inr (hsub _ _ hs _ h)
end
end Go.MatM
namespace Go.MatM
open Go Go.Sy Go.Proofs Go.RowKit
def cntX (x : Nat × Nat) : Nat := pc x.1 + pc x.2
section
variable {d : RowsD} {p : Int}
/-- The cases with a number of marks. -/
def refN (d : RowsD) (p : Int) (n : Nat) : List (Nat × Nat) := (casesL d p).filter fun x => decide (cntX x = n)
/-- The cases with fewer marks than some. -/
def refT (d : RowsD) (p : Int) : Nat → List (Nat × Nat)
  | 0 => []
  | n + 1 => refT d p n ++ refN d p n
def refL (d : RowsD) (p : Int) : List (Nat × Nat) := refT d p (p.toNat + 1)
/-- The cases of Left among the first sets. -/
def leftP (d : RowsD) (p : Int) (s : Nat) : List (Nat × Nat) := ((List.range s).map (setX 0)).filter (isC d p)
theorem leftP_step (s : Nat) : leftP d p (s + 1) = leftP d p s ++ if isC d p (s, 0) then [(s, 0)] else [] := by
  unfold leftP
  rw [List.range_succ, List.map_append, List.filter_append]
  congr 1
  rw [List.map_singleton, List.filter_cons]
  show (if isC d p (setX 0 s) = true then _ else _) = _
  rw [show setX 0 s = (s, 0) from rfl]
  split <;> rfl
theorem leftP_all : leftP d p (2 ^ d.l.length) = accL d p 1 := by
  have e : List.range (2 ^ d.l.length) = 0 :: List.range' 1 (2 ^ d.l.length - 1) := by
    have h1 := Nat.two_pow_pos d.l.length
    conv => lhs; rw [List.range_eq_range', show 2 ^ d.l.length = (2 ^ d.l.length - 1) + 1 by omega, List.range'_succ]
  unfold leftP
  rw [e, List.map_cons, show accL d p 1 = [(0, 0)].filter (isC d p) ++ rowP d p 0 (2 ^ d.l.length) from rfl]
  show List.filter (isC d p) ([(0, 0)] ++ _) = _
  rw [List.filter_append]; rfl
/-- In the midst of a number of marks. -/
def midL (d : RowsD) (p : Int) (n s : Nat) : List (Nat × Nat) := refT d p n ++ (leftP d p s).filter fun x => decide (cntX x = n)
def midR (d : RowsD) (p : Int) (n s : Nat) : List (Nat × Nat) := refT d p n ++ (accP d p 1 s).filter fun x => decide (cntX x = n)
theorem midL_zero (n : Nat) : midL d p n 0 = refT d p n := List.append_nil _
theorem midL_step (n s : Nat) : midL d p n (s + 1) = midL d p n s ++ if (decide (pc s = n) && isC d p (s, 0)) = true then [(s, 0)] else [] := by
  have h0 : cntX (s, 0) = pc s := by show pc s + pc 0 = pc s; rw [pc_zero]; rfl
  unfold midL
  rw [leftP_step, List.filter_append, ← List.append_assoc]
  congr 1
  cases h : isC d p (s, 0)
  · rw [if_neg (by decide), if_neg (by simp)]; rfl
  · rw [if_pos rfl, List.filter_cons, h0]
    by_cases h2 : pc s = n
    · rw [if_pos (decide_eq_true h2), if_pos (by simp [h2])]; rfl
    · rw [if_neg (by simp [h2]), if_neg (by simp [h2])]; rfl
theorem midL_all (n : Nat) : midL d p n (2 ^ d.l.length) = midR d p n 1 := by
  unfold midL midR
  rw [leftP_all, accP_one]
theorem midR_step (n : Nat) {s : Nat} (hs : 1 ≤ s) : midR d p n (s + 1) = midR d p n s ++ if (decide (pc s = n) && isC d p (0, s)) = true then [(0, s)] else [] := by
  have h0 : cntX (0, s) = pc s := by show pc 0 + pc s = pc s; rw [pc_zero, Nat.zero_add]
  unfold midR
  rw [accP_step 1 hs, List.filter_append, ← List.append_assoc, show setX 1 s = (0, s) from rfl]
  congr 1
  cases h : isC d p (0, s)
  · rw [if_neg (by decide), if_neg (by simp)]; rfl
  · rw [if_pos rfl, List.filter_cons, h0]
    by_cases h2 : pc s = n
    · rw [if_pos (decide_eq_true h2), if_pos (by simp [h2])]; rfl
    · rw [if_neg (by simp [h2]), if_neg (by simp [h2])]; rfl
theorem midR_all (n : Nat) : midR d p n (2 ^ d.r.length) = refT d p (n + 1) := by
  unfold midR
  rw [refT, refN, ← accL_all]; rfl
theorem refT_perm : ∀ n, (refT d p n).Perm ((casesL d p).filter fun x => decide (cntX x < n))
  | 0 => by
    have : (casesL d p).filter (fun x => decide (cntX x < 0)) = [] := by rw [List.filter_eq_nil_iff]; intro x _; simp
    rw [this]; exact .refl _
  | n + 1 => by
    rw [refT]
    refine ((refT_perm n).append_right _).trans ?_
    have h1 := List.filter_append_perm (fun x => decide (cntX x < n)) ((casesL d p).filter fun x => decide (cntX x < n + 1))
    rw [List.filter_filter, List.filter_filter] at h1
    have e1 : (casesL d p).filter (fun x => decide (cntX x < n) && decide (cntX x < n + 1)) = (casesL d p).filter fun x => decide (cntX x < n) := List.filter_congr fun x _ => by
      rw [Bool.eq_iff_iff]; simp only [Bool.and_eq_true, decide_eq_true_eq]; omega
    have e2 : (casesL d p).filter (fun x => (!decide (cntX x < n)) && decide (cntX x < n + 1)) = refN d p n := List.filter_congr fun x _ => by
      rw [Bool.eq_iff_iff]; simp only [Bool.and_eq_true, Bool.not_eq_true', decide_eq_true_eq, decide_eq_false_iff_not]; omega
    rw [e1, e2] at h1
    exact h1
theorem ref_perm (hp : 0 ≤ p) : (refL d p).Perm (casesL d p) := by
  have h := refT_perm (d := d) (p := p) (p.toNat + 1)
  have e : (casesL d p).filter (fun x => decide (cntX x < p.toNat + 1)) = casesL d p := by
    rw [List.filter_eq_self]
    intro x hx
    have h1 := cases_is hx
    unfold isC at h1
    rw [Bool.and_eq_true, Bool.and_eq_true, decide_eq_true_eq] at h1
    rw [decide_eq_true_eq]
    have := h1.2.1
    unfold cntX; omega
  rw [e] at h
  exact h
theorem ref_len (hp : 0 ≤ p) : (refL d p).length = (casesL d p).length := (ref_perm hp).length_eq
theorem lessB_iff {x y : Nat × Nat} : lessB x y = true ↔ rk 0 x < rk 0 y ∨ (rk 0 x = rk 0 y ∧ (rk 1 x < rk 1 y ∨ (rk 1 x = rk 1 y ∧ rk 2 x < rk 2 y))) := by
  unfold lessB
  split
  · split
    · rw [decide_eq_true_eq]; omega
    · rw [decide_eq_true_eq]; omega
  · rw [decide_eq_true_eq]; omega
theorem first_fold (y : Nat × Nat) : ∀ (l : List (Nat × Nat)) (f : Fs), (f.n ≠ 0 ∧ ¬ lessB y f.b = true) ∨ y ∈ l → ¬ lessB y (l.foldl Fs.add f).b = true
  | [], f, h => by
    rcases h with h | h
    · exact h.2
    · cases h
  | x :: l, f, h => by
    rw [List.foldl_cons]
    refine first_fold y l _ ?_
    by_cases hy : y ∈ l
    · exact .inr hy
    · left
      refine ⟨by rw [Fs.add_n]; omega, ?_⟩
      have hself : ¬ lessB x x = true := by rw [lessB_iff]; omega
      unfold Fs.add
      dsimp only
      by_cases h0 : f.n = 0
      · rw [if_pos h0]
        rcases h with h | h
        · exact absurd h0 h.1
        · rcases List.mem_cons.1 h with h | h
          · rw [h]; exact hself
          · exact absurd h hy
      · rw [if_neg h0]
        by_cases hl : lessB x f.b = true
        · rw [if_pos hl]
          rcases h with h | h
          · intro h9
            have h8 := h.2
            rw [lessB_iff] at h8 h9 hl
            omega
          · rcases List.mem_cons.1 h with h | h
            · rw [h]; exact hself
            · exact absurd h hy
        · rw [if_neg hl]
          rcases h with h | h
          · exact h.2
          · rcases List.mem_cons.1 h with h | h
            · rw [h]; exact hl
            · exact absurd h hy
theorem first_min {l : List (Nat × Nat)} {y : Nat × Nat} (h : y ∈ l) : ¬ lessB y (firstL l).b = true := first_fold y l _ (.inr h)
theorem first_in : ∀ (l : List (Nat × Nat)) (f : Fs), (l.foldl Fs.add f).b ∈ l ∨ (f.n ≠ 0 ∨ l = []) ∧ (l.foldl Fs.add f).b = f.b
  | [], f => .inr ⟨.inr rfl, rfl⟩
  | x :: l, f => by
    rw [List.foldl_cons]
    rcases first_in l (f.add x) with h | ⟨_, h⟩
    · exact .inl (.tail _ h)
    · by_cases h0 : f.n = 0
      · left; rw [h, Fs.add_first h0]; exact .head _
      · by_cases hl : lessB x f.b = true
        · left; rw [h, Fs.add_less h0 hl]; exact .head _
        · right; rw [h, Fs.add_keep h0 (by simpa using hl)]; exact ⟨.inl h0, rfl⟩
theorem first_mem {l : List (Nat × Nat)} (h : l ≠ []) : (firstL l).b ∈ l := by
  rcases first_in l Fs.zero with h1 | ⟨h1, _⟩
  · exact h1
  · rcases h1 with h1 | h1
    · exact absurd rfl h1
    · exact absurd h1 h
theorem refT_len (hV : Valid d) (n : Nat) : (refT d p n).length ≤ 3000 := by
  rw [(refT_perm n).length_eq]
  exact Nat.le_trans (List.length_filter_le _ _) (casesL_len hV)
theorem leftP_len (s : Nat) : (leftP d p s).length ≤ s := by
  unfold leftP
  refine Nat.le_trans (List.length_filter_le _ _) ?_
  rw [List.length_map, List.length_range]; exact Nat.le_refl _
theorem midL_len (hV : Valid d) (n s : Nat) : (midL d p n s).length ≤ 3000 + s := by
  unfold midL
  rw [List.length_append]
  have h1 := refT_len (p := p) hV n
  have h2 := leftP_len (d := d) (p := p) s
  have h3 : ((leftP d p s).filter fun x => decide (cntX x = n)).length ≤ (leftP d p s).length := List.length_filter_le _ _
  omega
theorem midR_len (hV : Valid d) (n s : Nat) : (midR d p n s).length ≤ 5000 + s := by
  unfold midR accP
  rw [List.length_append]
  have h1 := refT_len (p := p) hV n
  have h2 := leftP_len (d := d) (p := p) (2 ^ d.l.length)
  have h4 := pow_le_10 hV.nl
  have h3 : ((accL d p 1 ++ rowP d p 1 s).filter fun x => decide (cntX x = n)).length ≤ (accL d p 1 ++ rowP d p 1 s).length := List.length_filter_le _ _
  have h5 : (rowP d p 1 s).length ≤ s := by
    unfold rowP
    refine Nat.le_trans (List.length_filter_le _ _) ?_
    rw [List.length_map, List.length_range']; omega
  rw [List.length_append] at h3
  rw [leftP_all] at h2
  omega
theorem isC_wys (hV : Valid d) {x : Nat × Nat} (h1 : ((x.1 : Nat) : Int) = 0 ∨ ((x.2 : Nat) : Int) = 0) (h : ((pc x.1 : Nat) : Int) + (pc x.2 : Nat) ≤ p) : isC d p x = decide ((0 : Int) < (((wys (woD d x)).length : Nat) : Int)) := by
  rw [isC_in h1 h, leftB_isD hV]
  have := wys_none (woD d x)
  cases hi : isD (woD d x)
  · rw [hi] at this
    have := this.2 rfl
    rw [this]; rfl
  · rw [hi] at this
    symm; rw [decide_eq_true_eq]
    have h9 : (wys (woD d x)).length ≠ 0 := fun h8 => by have := this.1 h8; cases this
    omega
end
end Go.MatM
namespace Go.Proofs.YtidieepndphodaaGreat
open Go Go.Sy Go.MatM
set_option maxRecDepth 100000
theorem r34 (d : RowsD) (p : Int) (sa sb : Option Addr) (ca cb : Nat) (u : World) (hA : MkAt u sa d.l) (hB : MkAt u sb d.r) (hV : Valid d) (x : Nat × Nat) (hx1 : x.1 < 65536) (hx2 : x.2 < 65536) : Calls Tryz.prog 34 #[canV d p sa sb ca cb, .int .i64 (x.1 : Nat), .int .i64 (x.2 : Nat)] u (Ret fun v w' => v = .bool (isC d p x) ∧ Ext [] u w') := by
  refine calls_of Tryz.func34 rfl rfl (fun a hf => ?_)
  have hh := Hp.init u []
  have q1 := pc_le x.1; have q2 := pc_le x.2
  have hnl := hV.nl; have hnr := hV.nr
  refine sy_sq ?_
  refine o_box hf hh ?_; clear hf hh a; intro B3 a w hf hh
  refine o_v hf hh (yv_assign rfl) ?_; clear hf a; intro a hf
  refine o_end ?_
  refine sy_seq ?_
  refine sy_seq ?_
  refine sy_quiet (C := Hp _ _ _) Tryz.follows (by kernel_rfl) (hh.drawn _) ?_
  refine oq_v hf (yv_move rfl) ?_; clear hf a; intro a hf
  refine oq_v hf (yv_bin rfl rfl rfl) ?_; clear hf a; intro a hf
  refine oq_v hf (yv_move rfl) ?_; clear hf a; intro a hf
  refine guard_splitq hf (t := 9) rfl (fun hg2 => ?_) (fun hg2 => ?_)
  ·have hG2 := hg2; try simp only [gS] at hG2
   refine oq_v hf (yv_move rfl) ?_; clear hf a; intro a hf
   refine oq_v hf (yv_bin rfl rfl rfl) ?_; clear hf a; intro a hf
   refine oq_v hf (y_pt rfl rfl) ?_; clear hf a; intro a hf
   refine oq_v hf (yv_move rfl) ?_; clear hf a; intro a hf
   refine guard_splitq hf (t := 13) rfl (fun hg4 => ?_) (fun hg4 => ?_)
   ·have hG4 := hg4; try simp only [gS] at hG4
    refine oq_off hf ?_; clear hf a; intro a hf
    refine oq_off hf ?_; clear hf a; intro a hf
    refine oq_off hf ?_; clear hf a; intro a hf
    refine oq_off hf ?_; clear hf a; intro a hf
    refine oq_off hf ?_; clear hf a; intro a hf
    refine oq_off hf ?_; clear hf a; intro a hf
    refine oq_off hf ?_; clear hf a; intro a hf
    refine oq_off hf ?_; clear hf a; intro a hf
    refine oq_v hf (y_pt rfl rfl) ?_; clear hf a; intro a hf
    refine q_end fun w hh => ?_
    refine then_n ?_
    refine c_t hf ?_
    refine sy_sq ?_
    refine o_v hf hh (yv_assign rfl) ?_; clear hf a; intro a hf
    refine o_end ?_
    refine sy_ret ?_
    refine then_r ?_
    refine ret_r hf rfl rfl ?_
    first
      | exact ⟨congrArg Value.bool (isC_two (by omega) (by omega)).symm, hh.ext⟩
      | exact ⟨congrArg Value.bool (isC_big (by omega)).symm, hh.ext⟩
      | exact ⟨congrArg Value.bool (isC_wys hV (by omega) (by omega)).symm, hh.ext⟩
   ·have hG4 := hg4; try simp only [gS] at hG4
    refine oq_v hf (yv_move rfl) ?_; clear hf a; intro a hf
    refine oq_call hf Tryz.en_63 rfl rfl rfl (fun w hh => p22 x.1 (by omega) _) ?_; clear hf a; intro a hf
    refine oq_v hf (yv_move rfl) ?_; clear hf a; intro a hf
    refine oq_call hf Tryz.en_63 rfl rfl rfl (fun w hh => p22 x.2 (by omega) _) ?_; clear hf a; intro a hf
    refine oq_v hf (y_add rfl rfl) ?_; clear hf a; intro a hf
    refine oq_v hf (yv_fieldAddr Tryz.fo_28_1 rfl) ?_; clear hf a; intro a hf
    refine oq_v hf (y_ld Tryz.sc_3 rfl) ?_; clear hf a; intro a hf
    refine oq_v hf (yv_bin rfl rfl rfl) ?_; clear hf a; intro a hf
    refine oq_v hf (y_pf rfl rfl) ?_; clear hf a; intro a hf
    refine q_end fun w hh => ?_
    refine then_n ?_
    refine sy_cond hf rfl (fun hg8 => ?_) (fun hg8 => ?_)
    ·have hG8 := hg8; try simp only [gS] at hG8
     refine sy_sq ?_
     refine o_v hf hh (yv_assign rfl) ?_; clear hf a; intro a hf
     refine o_end ?_
     refine sy_ret ?_
     refine then_r ?_
     refine ret_r hf rfl rfl ?_
     first
       | exact ⟨congrArg Value.bool (isC_two (by omega) (by omega)).symm, hh.ext⟩
       | exact ⟨congrArg Value.bool (isC_big (by omega)).symm, hh.ext⟩
       | exact ⟨congrArg Value.bool (isC_wys hV (by omega) (by omega)).symm, hh.ext⟩
    ·have hG8 := hg8; try simp only [gS] at hG8
     refine sy_skip ?_
     refine then_n ?_
     refine sy_sq ?_
     refine o_v hf hh (yv_fieldAddr Tryz.fo_28_0 rfl) ?_; clear hf a; intro a hf
     refine o_v hf hh (y_lds Tryz.ag_26 rfl) ?_; clear hf a; intro a hf
     refine o_v hf hh (yv_move rfl) ?_; clear hf a; intro a hf
     refine o_v hf hh (yv_move rfl) ?_; clear hf a; intro a hf
     refine o_call hf Tryz.en_54 rfl rfl rfl (p25 d sa sb ca cb _ (hA.ext hh.ext) (hB.ext hh.ext) (by omega) (by omega) x (by omega) (by omega)) ?_; clear hf a; intro v a w hR hf
     obtain ⟨oc, od, cpa, cpb, XA, XB, rfl, hOA, hOB, hx⟩ := hR; have hA2 := mkAt_of hOA fun x hx2 => hx.get x (by simp [hx2])
     have hB2 := mkAt_of hOB fun x hx2 => hx.get x (by simp [hx2])
     replace hh := (hh.join hx).less (List.sublist_append_right _ _); clear hx
     refine o_call hf Tryz.en_64 rfl rfl rfl (c48 (woD d x) oc od cpa cpb _ hA2 hB2 (woD_valid hV x)) ?_; clear hf a; intro v a w hR hf
     obtain ⟨hs, X, hO, hD, hx⟩ := hR; replace hh := (hh.join hx).less (List.sublist_append_right _ _); clear hx
     obtain ⟨oe, cpe, rfl⟩ := OwnSl_val hO
     refine o_v hf hh (yv_len Tryz.se_106 rfl) ?_; clear hf a; intro a hf
     refine o_v hf hh (yv_bin rfl rfl rfl) ?_; clear hf a; intro a hf
     refine o_v hf hh (yv_assign rfl) ?_; clear hf a; intro a hf
     refine o_end ?_
     refine sy_ret ?_
     refine ret_r hf rfl rfl ?_
     first
       | exact ⟨congrArg Value.bool (isC_two (by omega) (by omega)).symm, hh.ext⟩
       | exact ⟨congrArg Value.bool (isC_big (by omega)).symm, hh.ext⟩
       | exact ⟨congrArg Value.bool (isC_wys hV (by omega) (by omega)).symm, hh.ext⟩
  ·have hG2 := hg2; try simp only [gS] at hG2
   refine oq_off hf ?_; clear hf a; intro a hf
   refine oq_off hf ?_; clear hf a; intro a hf
   refine oq_v hf (y_pf rfl rfl) ?_; clear hf a; intro a hf
   refine oq_v hf (yv_move rfl) ?_; clear hf a; intro a hf
   refine oq_v hf (yv_move rfl) ?_; clear hf a; intro a hf
   refine oq_call hf Tryz.en_63 rfl rfl rfl (fun w hh => p22 x.1 (by omega) _) ?_; clear hf a; intro a hf
   refine oq_v hf (yv_move rfl) ?_; clear hf a; intro a hf
   refine oq_call hf Tryz.en_63 rfl rfl rfl (fun w hh => p22 x.2 (by omega) _) ?_; clear hf a; intro a hf
   refine oq_v hf (y_add rfl rfl) ?_; clear hf a; intro a hf
   refine oq_v hf (yv_fieldAddr Tryz.fo_28_1 rfl) ?_; clear hf a; intro a hf
   refine oq_v hf (y_ld Tryz.sc_3 rfl) ?_; clear hf a; intro a hf
   refine oq_v hf (yv_bin rfl rfl rfl) ?_; clear hf a; intro a hf
   refine oq_v hf (y_pf rfl rfl) ?_; clear hf a; intro a hf
   refine q_end fun w hh => ?_
   refine then_n ?_
   refine sy_cond hf rfl (fun hg15 => ?_) (fun hg15 => ?_)
   ·have hG15 := hg15; try simp only [gS] at hG15
    refine sy_sq ?_
    refine o_v hf hh (yv_assign rfl) ?_; clear hf a; intro a hf
    refine o_end ?_
    refine sy_ret ?_
    refine then_r ?_
    refine ret_r hf rfl rfl ?_
    first
      | exact ⟨congrArg Value.bool (isC_two (by omega) (by omega)).symm, hh.ext⟩
      | exact ⟨congrArg Value.bool (isC_big (by omega)).symm, hh.ext⟩
      | exact ⟨congrArg Value.bool (isC_wys hV (by omega) (by omega)).symm, hh.ext⟩
   ·have hG15 := hg15; try simp only [gS] at hG15
    refine sy_skip ?_
    refine then_n ?_
    refine sy_sq ?_
    refine o_v hf hh (yv_fieldAddr Tryz.fo_28_0 rfl) ?_; clear hf a; intro a hf
    refine o_v hf hh (y_lds Tryz.ag_26 rfl) ?_; clear hf a; intro a hf
    refine o_v hf hh (yv_move rfl) ?_; clear hf a; intro a hf
    refine o_v hf hh (yv_move rfl) ?_; clear hf a; intro a hf
    refine o_call hf Tryz.en_54 rfl rfl rfl (p25 d sa sb ca cb _ (hA.ext hh.ext) (hB.ext hh.ext) (by omega) (by omega) x (by omega) (by omega)) ?_; clear hf a; intro v a w hR hf
    obtain ⟨oc, od, cpa, cpb, XA, XB, rfl, hOA, hOB, hx⟩ := hR; have hA2 := mkAt_of hOA fun x hx2 => hx.get x (by simp [hx2])
    have hB2 := mkAt_of hOB fun x hx2 => hx.get x (by simp [hx2])
    replace hh := (hh.join hx).less (List.sublist_append_right _ _); clear hx
    refine o_call hf Tryz.en_64 rfl rfl rfl (c48 (woD d x) oc od cpa cpb _ hA2 hB2 (woD_valid hV x)) ?_; clear hf a; intro v a w hR hf
    obtain ⟨hs, X, hO, hD, hx⟩ := hR; replace hh := (hh.join hx).less (List.sublist_append_right _ _); clear hx
    obtain ⟨oe, cpe, rfl⟩ := OwnSl_val hO
    refine o_v hf hh (yv_len Tryz.se_106 rfl) ?_; clear hf a; intro a hf
    refine o_v hf hh (yv_bin rfl rfl rfl) ?_; clear hf a; intro a hf
    refine o_v hf hh (yv_assign rfl) ?_; clear hf a; intro a hf
    refine o_end ?_
    refine sy_ret ?_
    refine ret_r hf rfl rfl ?_
    first
      | exact ⟨congrArg Value.bool (isC_two (by omega) (by omega)).symm, hh.ext⟩
      | exact ⟨congrArg Value.bool (isC_big (by omega)).symm, hh.ext⟩
      | exact ⟨congrArg Value.bool (isC_wys hV (by omega) (by omega)).symm, hh.ext⟩
theorem r39 (d : RowsD) (p : Int) (sa sb : Option Addr) (ca cb : Nat) (u : World) (hA : MkAt u sa d.l) (hB : MkAt u sb d.r) (hV : Valid d) (hp0 : 0 ≤ p) (hp3 : p ≤ 3) : Calls Tryz.prog 39 #[canV d p sa sb ca cb] u (Ret fun v w' => ∃ oa cp, v = .slice oa (refL d p).length cp ∧ ValsAt w' oa (encP (refL d p)) ∧ Ext [] u w') := by
  refine calls_of Tryz.func39 rfl rfl (fun a hf => ?_)
  have hh := Hp.init u []
  have hnl := hV.nl; have hnr := hV.nr
  have hw1 := pow_le_10 hnl
  have hw2 := pow_le_10 hnr
  have k1 := fun w => p66 d.l.length (by omega) w
  have k2 := fun w => p66 d.r.length (by omega) w
  have hml := fun n => midL_all (d := d) (p := p) n
  have hmr := fun n => midR_all (d := d) (p := p) n
  obtain ⟨q1, hq1⟩ : ∃ q : Nat, q = 2 ^ d.l.length := ⟨_, rfl⟩
  obtain ⟨q2, hq2⟩ : ∃ q : Nat, q = 2 ^ d.r.length := ⟨_, rfl⟩
  have hr1 : 1 ≤ q1 := hq1 ▸ Nat.two_pow_pos _
  have hr2 : 1 ≤ q2 := hq2 ▸ Nat.two_pow_pos _
  rw [← hq1] at k1 hw1; rw [← hq2] at k2 hw2
  simp only [← hq1] at hml; simp only [← hq2] at hmr
  refine sy_sq ?_
  refine o_box hf hh ?_; clear hf hh a; intro B1 a w hf hh
  refine o_v hf hh (yv_assign rfl) ?_; clear hf a; intro a hf
  refine o_end ?_
  refine sy_sq ?_
  refine o_v hf hh (yv_assign rfl) ?_; clear hf a; intro a hf
  refine o_end ?_
  refine sy_seq ?_
  refine sy_sq ?_
  refine o_v hf hh (yv_assign rfl) ?_; clear hf a; intro a hf
  refine o_end ?_
  refine sy_block ?_
  refine sy_loopH (σ := Nat × Value × List (Nat × Obj)) [3, 4, 5, 6, 7, 8, 9, 10, 11, 12, 13, 14, 15, 16, 17, 18, 19, 20, 21, 22, 23, 24, 25, 26, 27, 28, 29, 30, 31, 32, 33, 34, 35, 36, 37, 38, 39, 40, 41, 42, 43, 44, 45, 46, 47, 48, 49, 50, 51, 52, 53, 54, 55, 56, 57, 58] (fun q => [(4, .int .i64 (q.1 : Nat)), (3, q.2.1)]) (fun q => fun w' => q.1 ≤ p.toNat + 1 ∧ OwnSl 73 2 q.2.1 (refT d p q.1).length (encP (refT d p q.1)) q.2.2 ∧ Hp u [] ((B1, .cells (canV d p sa sb ca cb).cells 28) :: q.2.2) w') (fun q => p.toNat + 1 - q.1) ((0, .slice none 0 0, [])) hf ?_ ?_ ?_
  · exact ⟨rfl, rfl, True.intro⟩
  · exact ⟨Nat.zero_le _, OwnSl.nil _ _, hh⟩
  ·rintro q a w ⟨hn, hO, hh⟩ hf
   obtain ⟨n, v0, X⟩ := q; simp only at hn hO hh hf ⊢
   refine sy_seq ?_
   refine sy_sq ?_
   refine o_v hf hh (yv_move rfl) ?_; clear hf a; intro a hf
   refine o_v hf hh (yv_fieldAddr Tryz.fo_28_1 rfl) ?_; clear hf a; intro a hf
   refine o_v hf hh (y_ld Tryz.sc_3 rfl) ?_; clear hf a; intro a hf
   refine o_v hf hh (yv_bin rfl rfl rfl) ?_; clear hf a; intro a hf
   refine o_end ?_
   refine sy_cond hf rfl (fun hg2 => ?_) (fun hg2 => ?_)
   ·have hG2 := hg2; try simp only [gS] at hG2
    refine sy_skip ?_
    refine then_n ?_
    refine sy_seq ?_
    refine sy_block ?_
    refine sy_seq ?_
    refine sy_sq ?_
    refine o_v hf hh (yv_assign rfl) ?_; clear hf a; intro a hf
    refine o_end ?_
    refine sy_block ?_
    refine sy_loopH (σ := Nat × Value × List (Nat × Obj)) [3, 5, 13, 14, 15, 16, 17, 18, 19, 20, 21, 22, 23, 24, 25, 26, 27, 28, 29, 30, 31, 32, 33, 34, 35] (fun q => [(5, .int .i64 (q.1 : Nat)), (3, q.2.1)]) (fun q => fun w' => 0 ≤ q.1 ∧ q.1 ≤ q1 ∧ OwnSl 73 2 q.2.1 (midL d p n (q.1)).length (encP (midL d p n (q.1))) q.2.2 ∧ Hp u [] ((B1, .cells (canV d p sa sb ca cb).cells 28) :: q.2.2) w') (fun q => q1 - q.1) ((0, v0, X)) hf ?_ ?_ ?_
    · exact ⟨rfl, rfl, True.intro⟩
    · exact ⟨Nat.le_refl _, Nat.zero_le _, by simp only [midL_zero]; exact hO, hh⟩
    ·rintro q a w ⟨hs0, hs1, hO, hh⟩ hf
     obtain ⟨s, v0, X⟩ := q; simp only at hs0 hs1 hO hh hf ⊢
     have hps := pc_le s
     refine sy_seq ?_
     refine sy_sq ?_
     refine o_v hf hh (yv_move rfl) ?_; clear hf a; intro a hf
     refine o_v hf hh (yv_fieldAddr Tryz.fo_28_0 rfl) ?_; clear hf a; intro a hf
     refine o_v hf hh (yv_fieldAddr Tryz.fo_26_0 rfl) ?_; clear hf a; intro a hf
     refine o_v hf hh (y_ld Tryz.sc_22 rfl) ?_; clear hf a; intro a hf
     refine o_v hf hh (yv_len Tryz.se_22 rfl) ?_; clear hf a; intro a hf
     refine o_call hf Tryz.en_62 rfl rfl rfl (k1 _) ?_; clear hf a; intro v a w hR hf
     obtain ⟨rfl, hx⟩ := hR; replace hh := hh.more hx; clear hx
     refine o_v hf hh (yv_bin rfl rfl rfl) ?_; clear hf a; intro a hf
     refine o_end ?_
     refine sy_cond hf rfl (fun hg5 => ?_) (fun hg5 => ?_)
     ·have hG5 := hg5; try simp only [gS] at hG5
      refine sy_skip ?_
      refine then_n ?_
      refine sy_seq ?_
      refine sy_block ?_
      refine sy_seq ?_
      have hst := midL_step (d := d) (p := p) n s
      have hlm := midL_len (p := p) hV n s
      refine sy_ops ?_
      refine o_v hf hh (yv_move rfl) ?_; clear hf a; intro a hf
      refine o_call hf Tryz.en_63 rfl rfl rfl (p22 s (by omega) _) ?_; clear hf a; intro v a w hR hf
      obtain ⟨rfl, hx⟩ := hR; replace hh := hh.more hx; clear hx
      refine o_v hf hh (yv_move rfl) ?_; clear hf a; intro a hf
      refine o_v hf hh (yv_bin rfl rfl rfl) ?_; clear hf a; intro a hf
      refine o_v hf hh (yv_move rfl) ?_; clear hf a; intro a hf
      refine guard_split hf (t := 26) rfl (fun hg8 => ?_) (fun hg8 => ?_)
      ·have hG8 := hg8; try simp only [gS] at hG8
       refine o_v hf hh (y_lds Tryz.ag_28 rfl) ?_; clear hf a; intro a hf
       refine o_v hf hh (yv_move rfl) ?_; clear hf a; intro a hf
       refine o_call hf Tryz.en_34 rfl rfl rfl (r34 d p sa sb ca cb _ (hA.ext hh.ext) (hB.ext hh.ext) hV (s, 0) (by simp only; omega) (by simp only; omega)) ?_; clear hf a; intro v a w hR hf
       obtain ⟨rfl, hx⟩ := hR; replace hh := hh.more hx; clear hx
       refine o_v hf hh (y_pt rfl rfl) ?_; clear hf a; intro a hf
       refine o_end ?_
       refine sy_cond hf rfl (fun hg10 => ?_) (fun hg10 => ?_)
       ·have hG10 := hg10; try simp only [gS] at hG10
        refine sy_ops ?_
        refine o_v hf hh (yv_move rfl) ?_; clear hf a; intro a hf
        refine o_v hf hh (yv_move rfl) ?_; clear hf a; intro a hf
        refine o_v hf hh (yv_buildS Tryz.bs_73 rfl rfl) ?_; clear hf a; intro a hf
        refine ops_buildSl hf hh Tryz.bl_64_1 rfl rfl (.inl rfl) rfl ?_; clear hf hh; clear a; intro B34 a w hf hh
        refine ops_append (e := 73) (size := 2) (xs := encP (midL d p n s)) (X := X) (Z := [(B1, .cells (canV d p sa sb ca cb).cells 28)]) (m := (midL d p n s).length) (q := 1) hf (hh.perm (.cons _ (List.perm_append_comm (l₁ := [(B1, Obj.cells (canV d p sa sb ca cb).cells 28)]) (l₂ := X)))) Tryz.eb_64 rfl rfl hO rfl rfl rfl (by simp only [maxLen]; omega) (by omega) (.inl rfl) rfl ?_; clear hf hh a; intro v1 X1 a w hO1 hf hh
        replace hh : Hp u [] ((B1, .cells (canV d p sa sb ca cb).cells 28) :: X1) w := hh.perm List.perm_append_comm
        refine o_v hf hh (yv_assign rfl) ?_; clear hf a; intro a hf
        refine ops_end ?_
        refine blk_n ?_
        refine then_n ?_
        refine sy_ops ?_
        refine o_v hf hh (yv_move rfl) ?_; clear hf a; intro a hf
        refine o_v hf hh (y_add rfl rfl) ?_; clear hf a; intro a hf
        refine o_v hf hh (yv_assign rfl) ?_; clear hf a; intro a hf
        refine ops_end ?_
        refine then_n ?_
        first
          | (have hc : (decide (pc s = n) && isC d p (s, 0)) = true := by rw [decide_eq_true (show pc s = n by omega), (by assumption : isC d p (s, 0) = true)]; rfl
             rw [hc, if_pos rfl] at hst
             exact ⟨(s + 1, v1, X1), ⟨⟨by simp only; omega, by simp only; omega, by simp only [hst]; rw [List.length_append, encP_snoc]; exact hO1, hh⟩, hf.head ⟨rfl, rfl, True.intro⟩ (Keep.cons rfl (Keep.cons rfl (Keep.cons rfl (Keep.cons rfl (Keep.cons rfl (Keep.cons rfl (Keep.cons rfl (Keep.cons rfl (Keep.cons rfl (Keep.cons rfl (Keep.cons rfl (Keep.cons rfl (Keep.cons rfl (Keep.cons rfl (Keep.cons rfl (Keep.cons rfl (Keep.cons rfl (Keep.cons rfl (Keep.cons rfl (Keep.cons rfl (Keep.cons rfl (Keep.cons rfl (Keep.cons rfl (Keep.cons rfl (Keep.cons rfl (Keep.app rfl (Keep.rm rfl Keep.base)))))))))))))))))))))))))))⟩, by simp only; omega⟩)
          | (have hc : (decide (pc s = n) && isC d p (s, 0)) = false := by rw [decide_eq_false (show ¬ pc s = n by omega)]; rfl
             rw [hc, if_neg (by decide), List.append_nil] at hst
             exact ⟨(s + 1, v0, X), ⟨⟨by simp only; omega, by simp only; omega, by simp only [hst]; exact hO, hh⟩, hf.head ⟨rfl, rfl, True.intro⟩ (Keep.cons rfl (Keep.cons rfl (Keep.cons rfl (Keep.cons rfl (Keep.cons rfl (Keep.cons rfl (Keep.cons rfl (Keep.cons rfl (Keep.cons rfl (Keep.cons rfl (Keep.cons rfl (Keep.cons rfl (Keep.cons rfl (Keep.cons rfl (Keep.cons rfl (Keep.cons rfl (Keep.cons rfl (Keep.cons rfl (Keep.cons rfl (Keep.cons rfl (Keep.cons rfl (Keep.cons rfl (Keep.cons rfl (Keep.cons rfl (Keep.cons rfl (Keep.app rfl (Keep.rm rfl Keep.base)))))))))))))))))))))))))))⟩, by simp only; omega⟩)
          | (have hc : (decide (pc s = n) && isC d p (s, 0)) = false := by rw [(by assumption : isC d p (s, 0) = false), Bool.and_false]
             rw [hc, if_neg (by decide), List.append_nil] at hst
             exact ⟨(s + 1, v0, X), ⟨⟨by simp only; omega, by simp only; omega, by simp only [hst]; exact hO, hh⟩, hf.head ⟨rfl, rfl, True.intro⟩ (Keep.cons rfl (Keep.cons rfl (Keep.cons rfl (Keep.cons rfl (Keep.cons rfl (Keep.cons rfl (Keep.cons rfl (Keep.cons rfl (Keep.cons rfl (Keep.cons rfl (Keep.cons rfl (Keep.cons rfl (Keep.cons rfl (Keep.cons rfl (Keep.cons rfl (Keep.cons rfl (Keep.cons rfl (Keep.cons rfl (Keep.cons rfl (Keep.cons rfl (Keep.cons rfl (Keep.cons rfl (Keep.cons rfl (Keep.cons rfl (Keep.cons rfl (Keep.app rfl (Keep.rm rfl Keep.base)))))))))))))))))))))))))))⟩, by simp only; omega⟩)
          | omega
       ·have hG10 := hg10; try simp only [gS] at hG10
        refine sy_skip ?_
        refine blk_n ?_
        refine then_n ?_
        refine sy_ops ?_
        refine o_v hf hh (yv_move rfl) ?_; clear hf a; intro a hf
        refine o_v hf hh (y_add rfl rfl) ?_; clear hf a; intro a hf
        refine o_v hf hh (yv_assign rfl) ?_; clear hf a; intro a hf
        refine ops_end ?_
        refine then_n ?_
        first
          | (have hc : (decide (pc s = n) && isC d p (s, 0)) = true := by rw [decide_eq_true (show pc s = n by omega), (by assumption : isC d p (s, 0) = true)]; rfl
             rw [hc, if_pos rfl] at hst
             exact ⟨(s + 1, v1, X1), ⟨⟨by simp only; omega, by simp only; omega, by simp only [hst]; rw [List.length_append, encP_snoc]; exact hO1, hh⟩, hf.head ⟨rfl, rfl, True.intro⟩ (Keep.cons rfl (Keep.cons rfl (Keep.cons rfl (Keep.cons rfl (Keep.cons rfl (Keep.cons rfl (Keep.cons rfl (Keep.cons rfl (Keep.cons rfl (Keep.cons rfl (Keep.cons rfl (Keep.cons rfl (Keep.cons rfl (Keep.cons rfl (Keep.cons rfl (Keep.cons rfl (Keep.cons rfl (Keep.cons rfl (Keep.cons rfl (Keep.app rfl (Keep.rm rfl Keep.base)))))))))))))))))))))⟩, by simp only; omega⟩)
          | (have hc : (decide (pc s = n) && isC d p (s, 0)) = false := by rw [decide_eq_false (show ¬ pc s = n by omega)]; rfl
             rw [hc, if_neg (by decide), List.append_nil] at hst
             exact ⟨(s + 1, v0, X), ⟨⟨by simp only; omega, by simp only; omega, by simp only [hst]; exact hO, hh⟩, hf.head ⟨rfl, rfl, True.intro⟩ (Keep.cons rfl (Keep.cons rfl (Keep.cons rfl (Keep.cons rfl (Keep.cons rfl (Keep.cons rfl (Keep.cons rfl (Keep.cons rfl (Keep.cons rfl (Keep.cons rfl (Keep.cons rfl (Keep.cons rfl (Keep.cons rfl (Keep.cons rfl (Keep.cons rfl (Keep.cons rfl (Keep.cons rfl (Keep.cons rfl (Keep.cons rfl (Keep.app rfl (Keep.rm rfl Keep.base)))))))))))))))))))))⟩, by simp only; omega⟩)
          | (have hc : (decide (pc s = n) && isC d p (s, 0)) = false := by rw [(by assumption : isC d p (s, 0) = false), Bool.and_false]
             rw [hc, if_neg (by decide), List.append_nil] at hst
             exact ⟨(s + 1, v0, X), ⟨⟨by simp only; omega, by simp only; omega, by simp only [hst]; exact hO, hh⟩, hf.head ⟨rfl, rfl, True.intro⟩ (Keep.cons rfl (Keep.cons rfl (Keep.cons rfl (Keep.cons rfl (Keep.cons rfl (Keep.cons rfl (Keep.cons rfl (Keep.cons rfl (Keep.cons rfl (Keep.cons rfl (Keep.cons rfl (Keep.cons rfl (Keep.cons rfl (Keep.cons rfl (Keep.cons rfl (Keep.cons rfl (Keep.cons rfl (Keep.cons rfl (Keep.cons rfl (Keep.app rfl (Keep.rm rfl Keep.base)))))))))))))))))))))⟩, by simp only; omega⟩)
          | omega
      ·have hG8 := hg8; try simp only [gS] at hG8
       refine o_off hf ?_; clear hf a; intro a hf
       refine o_off hf ?_; clear hf a; intro a hf
       refine o_off hf ?_; clear hf a; intro a hf
       refine o_v hf hh (y_pf rfl rfl) ?_; clear hf a; intro a hf
       refine o_end ?_
       refine c_f hf ?_
       refine sy_skip ?_
       refine blk_n ?_
       refine then_n ?_
       refine sy_ops ?_
       refine o_v hf hh (yv_move rfl) ?_; clear hf a; intro a hf
       refine o_v hf hh (y_add rfl rfl) ?_; clear hf a; intro a hf
       refine o_v hf hh (yv_assign rfl) ?_; clear hf a; intro a hf
       refine ops_end ?_
       refine then_n ?_
       first
         | (have hc : (decide (pc s = n) && isC d p (s, 0)) = true := by rw [decide_eq_true (show pc s = n by omega), (by assumption : isC d p (s, 0) = true)]; rfl
            rw [hc, if_pos rfl] at hst
            exact ⟨(s + 1, v1, X1), ⟨⟨by simp only; omega, by simp only; omega, by simp only [hst]; rw [List.length_append, encP_snoc]; exact hO1, hh⟩, hf.head ⟨rfl, rfl, True.intro⟩ (Keep.cons rfl (Keep.cons rfl (Keep.cons rfl (Keep.cons rfl (Keep.cons rfl (Keep.cons rfl (Keep.cons rfl (Keep.cons rfl (Keep.cons rfl (Keep.cons rfl (Keep.cons rfl (Keep.cons rfl (Keep.cons rfl (Keep.cons rfl (Keep.cons rfl (Keep.cons rfl (Keep.cons rfl (Keep.cons rfl (Keep.cons rfl (Keep.app rfl (Keep.rm rfl Keep.base)))))))))))))))))))))⟩, by simp only; omega⟩)
         | (have hc : (decide (pc s = n) && isC d p (s, 0)) = false := by rw [decide_eq_false (show ¬ pc s = n by omega)]; rfl
            rw [hc, if_neg (by decide), List.append_nil] at hst
            exact ⟨(s + 1, v0, X), ⟨⟨by simp only; omega, by simp only; omega, by simp only [hst]; exact hO, hh⟩, hf.head ⟨rfl, rfl, True.intro⟩ (Keep.cons rfl (Keep.cons rfl (Keep.cons rfl (Keep.cons rfl (Keep.cons rfl (Keep.cons rfl (Keep.cons rfl (Keep.cons rfl (Keep.cons rfl (Keep.cons rfl (Keep.cons rfl (Keep.cons rfl (Keep.cons rfl (Keep.cons rfl (Keep.cons rfl (Keep.cons rfl (Keep.cons rfl (Keep.cons rfl (Keep.cons rfl (Keep.app rfl (Keep.rm rfl Keep.base)))))))))))))))))))))⟩, by simp only; omega⟩)
         | (have hc : (decide (pc s = n) && isC d p (s, 0)) = false := by rw [(by assumption : isC d p (s, 0) = false), Bool.and_false]
            rw [hc, if_neg (by decide), List.append_nil] at hst
            exact ⟨(s + 1, v0, X), ⟨⟨by simp only; omega, by simp only; omega, by simp only [hst]; exact hO, hh⟩, hf.head ⟨rfl, rfl, True.intro⟩ (Keep.cons rfl (Keep.cons rfl (Keep.cons rfl (Keep.cons rfl (Keep.cons rfl (Keep.cons rfl (Keep.cons rfl (Keep.cons rfl (Keep.cons rfl (Keep.cons rfl (Keep.cons rfl (Keep.cons rfl (Keep.cons rfl (Keep.cons rfl (Keep.cons rfl (Keep.cons rfl (Keep.cons rfl (Keep.cons rfl (Keep.cons rfl (Keep.app rfl (Keep.rm rfl Keep.base)))))))))))))))))))))⟩, by simp only; omega⟩)
         | omega
     ·have hG5 := hg5; try simp only [gS] at hG5
      refine sy_exit ?_
      refine then_e ?_
      refine then_e ?_
      refine blk_e ?_
      refine then_n ?_
      refine sy_sq ?_
      refine o_v hf hh (yv_assign rfl) ?_; clear hf a; intro a hf
      refine o_end ?_
      refine sy_block ?_
      refine sy_loopH (σ := Nat × Value × List (Nat × Obj)) [3, 6, 36, 37, 38, 39, 40, 41, 42, 43, 44, 45, 46, 47, 48, 49, 50, 51, 52, 53, 54, 55, 56, 57, 58] (fun q => [(6, .int .i64 (q.1 : Nat)), (3, q.2.1)]) (fun q => fun w' => 1 ≤ q.1 ∧ q.1 ≤ q2 ∧ OwnSl 73 2 q.2.1 (midR d p n (q.1)).length (encP (midR d p n (q.1))) q.2.2 ∧ Hp u [] ((B1, .cells (canV d p sa sb ca cb).cells 28) :: q.2.2) w') (fun q => q2 - q.1) ((1, v0, X)) hf ?_ ?_ ?_
      · exact ⟨rfl, rfl, True.intro⟩
      · exact ⟨Nat.le_refl _, hr2, by simp only [← hml, ← show s = q1 by omega]; exact hO, hh⟩
      ·rintro q a w ⟨hs0, hs1, hO, hh⟩ hf
       obtain ⟨s, v0, X⟩ := q; simp only at hs0 hs1 hO hh hf ⊢
       have hps := pc_le s
       refine sy_seq ?_
       refine sy_sq ?_
       refine o_v hf hh (yv_move rfl) ?_; clear hf a; intro a hf
       refine o_v hf hh (yv_fieldAddr Tryz.fo_28_0 rfl) ?_; clear hf a; intro a hf
       refine o_v hf hh (yv_fieldAddr Tryz.fo_26_1 rfl) ?_; clear hf a; intro a hf
       refine o_v hf hh (y_ld Tryz.sc_22 rfl) ?_; clear hf a; intro a hf
       refine o_v hf hh (yv_len Tryz.se_22 rfl) ?_; clear hf a; intro a hf
       refine o_call hf Tryz.en_62 rfl rfl rfl (k2 _) ?_; clear hf a; intro v a w hR hf
       obtain ⟨rfl, hx⟩ := hR; replace hh := hh.more hx; clear hx
       refine o_v hf hh (yv_bin rfl rfl rfl) ?_; clear hf a; intro a hf
       refine o_end ?_
       refine sy_cond hf rfl (fun hg14 => ?_) (fun hg14 => ?_)
       ·have hG14 := hg14; try simp only [gS] at hG14
        refine sy_skip ?_
        refine then_n ?_
        refine sy_seq ?_
        refine sy_block ?_
        refine sy_seq ?_
        have hst := midR_step (d := d) (p := p) n hs0
        have hlm := midR_len (p := p) hV n s
        refine sy_ops ?_
        refine o_v hf hh (yv_move rfl) ?_; clear hf a; intro a hf
        refine o_call hf Tryz.en_63 rfl rfl rfl (p22 s (by omega) _) ?_; clear hf a; intro v a w hR hf
        obtain ⟨rfl, hx⟩ := hR; replace hh := hh.more hx; clear hx
        refine o_v hf hh (yv_move rfl) ?_; clear hf a; intro a hf
        refine o_v hf hh (yv_bin rfl rfl rfl) ?_; clear hf a; intro a hf
        refine o_v hf hh (yv_move rfl) ?_; clear hf a; intro a hf
        refine guard_split hf (t := 49) rfl (fun hg17 => ?_) (fun hg17 => ?_)
        ·have hG17 := hg17; try simp only [gS] at hG17
         refine o_v hf hh (y_lds Tryz.ag_28 rfl) ?_; clear hf a; intro a hf
         refine o_v hf hh (yv_move rfl) ?_; clear hf a; intro a hf
         refine o_call hf Tryz.en_34 rfl rfl rfl (r34 d p sa sb ca cb _ (hA.ext hh.ext) (hB.ext hh.ext) hV (0, s) (by simp only; omega) (by simp only; omega)) ?_; clear hf a; intro v a w hR hf
         obtain ⟨rfl, hx⟩ := hR; replace hh := hh.more hx; clear hx
         refine o_v hf hh (y_pt rfl rfl) ?_; clear hf a; intro a hf
         refine o_end ?_
         refine sy_cond hf rfl (fun hg19 => ?_) (fun hg19 => ?_)
         ·have hG19 := hg19; try simp only [gS] at hG19
          refine sy_ops ?_
          refine o_v hf hh (yv_move rfl) ?_; clear hf a; intro a hf
          refine o_v hf hh (yv_move rfl) ?_; clear hf a; intro a hf
          refine o_v hf hh (yv_buildS Tryz.bs_73 rfl rfl) ?_; clear hf a; intro a hf
          refine ops_buildSl hf hh Tryz.bl_64_1 rfl rfl (.inl rfl) rfl ?_; clear hf hh; clear a; intro B57 a w hf hh
          refine ops_append (e := 73) (size := 2) (xs := encP (midR d p n s)) (X := X) (Z := [(B1, .cells (canV d p sa sb ca cb).cells 28)]) (m := (midR d p n s).length) (q := 1) hf (hh.perm (.cons _ (List.perm_append_comm (l₁ := [(B1, Obj.cells (canV d p sa sb ca cb).cells 28)]) (l₂ := X)))) Tryz.eb_64 rfl rfl hO rfl rfl rfl (by simp only [maxLen]; omega) (by omega) (.inl rfl) rfl ?_; clear hf hh a; intro v1 X1 a w hO1 hf hh
          replace hh : Hp u [] ((B1, .cells (canV d p sa sb ca cb).cells 28) :: X1) w := hh.perm List.perm_append_comm
          refine o_v hf hh (yv_assign rfl) ?_; clear hf a; intro a hf
          refine ops_end ?_
          refine blk_n ?_
          refine then_n ?_
          refine sy_ops ?_
          refine o_v hf hh (yv_move rfl) ?_; clear hf a; intro a hf
          refine o_v hf hh (y_add rfl rfl) ?_; clear hf a; intro a hf
          refine o_v hf hh (yv_assign rfl) ?_; clear hf a; intro a hf
          refine ops_end ?_
          refine then_n ?_
          first
            | (have hc : (decide (pc s = n) && isC d p (0, s)) = true := by rw [decide_eq_true (show pc s = n by omega), (by assumption : isC d p (0, s) = true)]; rfl
               rw [hc, if_pos rfl] at hst
               exact ⟨(s + 1, v1, X1), ⟨⟨by simp only; omega, by simp only; omega, by simp only [hst]; rw [List.length_append, encP_snoc]; exact hO1, hh⟩, hf.head ⟨rfl, rfl, True.intro⟩ (Keep.cons rfl (Keep.cons rfl (Keep.cons rfl (Keep.cons rfl (Keep.cons rfl (Keep.cons rfl (Keep.cons rfl (Keep.cons rfl (Keep.cons rfl (Keep.cons rfl (Keep.cons rfl (Keep.cons rfl (Keep.cons rfl (Keep.cons rfl (Keep.cons rfl (Keep.cons rfl (Keep.cons rfl (Keep.cons rfl (Keep.cons rfl (Keep.cons rfl (Keep.cons rfl (Keep.cons rfl (Keep.cons rfl (Keep.cons rfl (Keep.cons rfl (Keep.app rfl (Keep.rm rfl Keep.base)))))))))))))))))))))))))))⟩, by simp only; omega⟩)
            | (have hc : (decide (pc s = n) && isC d p (0, s)) = false := by rw [decide_eq_false (show ¬ pc s = n by omega)]; rfl
               rw [hc, if_neg (by decide), List.append_nil] at hst
               exact ⟨(s + 1, v0, X), ⟨⟨by simp only; omega, by simp only; omega, by simp only [hst]; exact hO, hh⟩, hf.head ⟨rfl, rfl, True.intro⟩ (Keep.cons rfl (Keep.cons rfl (Keep.cons rfl (Keep.cons rfl (Keep.cons rfl (Keep.cons rfl (Keep.cons rfl (Keep.cons rfl (Keep.cons rfl (Keep.cons rfl (Keep.cons rfl (Keep.cons rfl (Keep.cons rfl (Keep.cons rfl (Keep.cons rfl (Keep.cons rfl (Keep.cons rfl (Keep.cons rfl (Keep.cons rfl (Keep.cons rfl (Keep.cons rfl (Keep.cons rfl (Keep.cons rfl (Keep.cons rfl (Keep.cons rfl (Keep.app rfl (Keep.rm rfl Keep.base)))))))))))))))))))))))))))⟩, by simp only; omega⟩)
            | (have hc : (decide (pc s = n) && isC d p (0, s)) = false := by rw [(by assumption : isC d p (0, s) = false), Bool.and_false]
               rw [hc, if_neg (by decide), List.append_nil] at hst
               exact ⟨(s + 1, v0, X), ⟨⟨by simp only; omega, by simp only; omega, by simp only [hst]; exact hO, hh⟩, hf.head ⟨rfl, rfl, True.intro⟩ (Keep.cons rfl (Keep.cons rfl (Keep.cons rfl (Keep.cons rfl (Keep.cons rfl (Keep.cons rfl (Keep.cons rfl (Keep.cons rfl (Keep.cons rfl (Keep.cons rfl (Keep.cons rfl (Keep.cons rfl (Keep.cons rfl (Keep.cons rfl (Keep.cons rfl (Keep.cons rfl (Keep.cons rfl (Keep.cons rfl (Keep.cons rfl (Keep.cons rfl (Keep.cons rfl (Keep.cons rfl (Keep.cons rfl (Keep.cons rfl (Keep.cons rfl (Keep.app rfl (Keep.rm rfl Keep.base)))))))))))))))))))))))))))⟩, by simp only; omega⟩)
            | omega
         ·have hG19 := hg19; try simp only [gS] at hG19
          refine sy_skip ?_
          refine blk_n ?_
          refine then_n ?_
          refine sy_ops ?_
          refine o_v hf hh (yv_move rfl) ?_; clear hf a; intro a hf
          refine o_v hf hh (y_add rfl rfl) ?_; clear hf a; intro a hf
          refine o_v hf hh (yv_assign rfl) ?_; clear hf a; intro a hf
          refine ops_end ?_
          refine then_n ?_
          first
            | (have hc : (decide (pc s = n) && isC d p (0, s)) = true := by rw [decide_eq_true (show pc s = n by omega), (by assumption : isC d p (0, s) = true)]; rfl
               rw [hc, if_pos rfl] at hst
               exact ⟨(s + 1, v1, X1), ⟨⟨by simp only; omega, by simp only; omega, by simp only [hst]; rw [List.length_append, encP_snoc]; exact hO1, hh⟩, hf.head ⟨rfl, rfl, True.intro⟩ (Keep.cons rfl (Keep.cons rfl (Keep.cons rfl (Keep.cons rfl (Keep.cons rfl (Keep.cons rfl (Keep.cons rfl (Keep.cons rfl (Keep.cons rfl (Keep.cons rfl (Keep.cons rfl (Keep.cons rfl (Keep.cons rfl (Keep.cons rfl (Keep.cons rfl (Keep.cons rfl (Keep.cons rfl (Keep.cons rfl (Keep.cons rfl (Keep.app rfl (Keep.rm rfl Keep.base)))))))))))))))))))))⟩, by simp only; omega⟩)
            | (have hc : (decide (pc s = n) && isC d p (0, s)) = false := by rw [decide_eq_false (show ¬ pc s = n by omega)]; rfl
               rw [hc, if_neg (by decide), List.append_nil] at hst
               exact ⟨(s + 1, v0, X), ⟨⟨by simp only; omega, by simp only; omega, by simp only [hst]; exact hO, hh⟩, hf.head ⟨rfl, rfl, True.intro⟩ (Keep.cons rfl (Keep.cons rfl (Keep.cons rfl (Keep.cons rfl (Keep.cons rfl (Keep.cons rfl (Keep.cons rfl (Keep.cons rfl (Keep.cons rfl (Keep.cons rfl (Keep.cons rfl (Keep.cons rfl (Keep.cons rfl (Keep.cons rfl (Keep.cons rfl (Keep.cons rfl (Keep.cons rfl (Keep.cons rfl (Keep.cons rfl (Keep.app rfl (Keep.rm rfl Keep.base)))))))))))))))))))))⟩, by simp only; omega⟩)
            | (have hc : (decide (pc s = n) && isC d p (0, s)) = false := by rw [(by assumption : isC d p (0, s) = false), Bool.and_false]
               rw [hc, if_neg (by decide), List.append_nil] at hst
               exact ⟨(s + 1, v0, X), ⟨⟨by simp only; omega, by simp only; omega, by simp only [hst]; exact hO, hh⟩, hf.head ⟨rfl, rfl, True.intro⟩ (Keep.cons rfl (Keep.cons rfl (Keep.cons rfl (Keep.cons rfl (Keep.cons rfl (Keep.cons rfl (Keep.cons rfl (Keep.cons rfl (Keep.cons rfl (Keep.cons rfl (Keep.cons rfl (Keep.cons rfl (Keep.cons rfl (Keep.cons rfl (Keep.cons rfl (Keep.cons rfl (Keep.cons rfl (Keep.cons rfl (Keep.cons rfl (Keep.app rfl (Keep.rm rfl Keep.base)))))))))))))))))))))⟩, by simp only; omega⟩)
            | omega
        ·have hG17 := hg17; try simp only [gS] at hG17
         refine o_off hf ?_; clear hf a; intro a hf
         refine o_off hf ?_; clear hf a; intro a hf
         refine o_off hf ?_; clear hf a; intro a hf
         refine o_v hf hh (y_pf rfl rfl) ?_; clear hf a; intro a hf
         refine o_end ?_
         refine c_f hf ?_
         refine sy_skip ?_
         refine blk_n ?_
         refine then_n ?_
         refine sy_ops ?_
         refine o_v hf hh (yv_move rfl) ?_; clear hf a; intro a hf
         refine o_v hf hh (y_add rfl rfl) ?_; clear hf a; intro a hf
         refine o_v hf hh (yv_assign rfl) ?_; clear hf a; intro a hf
         refine ops_end ?_
         refine then_n ?_
         first
           | (have hc : (decide (pc s = n) && isC d p (0, s)) = true := by rw [decide_eq_true (show pc s = n by omega), (by assumption : isC d p (0, s) = true)]; rfl
              rw [hc, if_pos rfl] at hst
              exact ⟨(s + 1, v1, X1), ⟨⟨by simp only; omega, by simp only; omega, by simp only [hst]; rw [List.length_append, encP_snoc]; exact hO1, hh⟩, hf.head ⟨rfl, rfl, True.intro⟩ (Keep.cons rfl (Keep.cons rfl (Keep.cons rfl (Keep.cons rfl (Keep.cons rfl (Keep.cons rfl (Keep.cons rfl (Keep.cons rfl (Keep.cons rfl (Keep.cons rfl (Keep.cons rfl (Keep.cons rfl (Keep.cons rfl (Keep.cons rfl (Keep.cons rfl (Keep.cons rfl (Keep.cons rfl (Keep.cons rfl (Keep.cons rfl (Keep.app rfl (Keep.rm rfl Keep.base)))))))))))))))))))))⟩, by simp only; omega⟩)
           | (have hc : (decide (pc s = n) && isC d p (0, s)) = false := by rw [decide_eq_false (show ¬ pc s = n by omega)]; rfl
              rw [hc, if_neg (by decide), List.append_nil] at hst
              exact ⟨(s + 1, v0, X), ⟨⟨by simp only; omega, by simp only; omega, by simp only [hst]; exact hO, hh⟩, hf.head ⟨rfl, rfl, True.intro⟩ (Keep.cons rfl (Keep.cons rfl (Keep.cons rfl (Keep.cons rfl (Keep.cons rfl (Keep.cons rfl (Keep.cons rfl (Keep.cons rfl (Keep.cons rfl (Keep.cons rfl (Keep.cons rfl (Keep.cons rfl (Keep.cons rfl (Keep.cons rfl (Keep.cons rfl (Keep.cons rfl (Keep.cons rfl (Keep.cons rfl (Keep.cons rfl (Keep.app rfl (Keep.rm rfl Keep.base)))))))))))))))))))))⟩, by simp only; omega⟩)
           | (have hc : (decide (pc s = n) && isC d p (0, s)) = false := by rw [(by assumption : isC d p (0, s) = false), Bool.and_false]
              rw [hc, if_neg (by decide), List.append_nil] at hst
              exact ⟨(s + 1, v0, X), ⟨⟨by simp only; omega, by simp only; omega, by simp only [hst]; exact hO, hh⟩, hf.head ⟨rfl, rfl, True.intro⟩ (Keep.cons rfl (Keep.cons rfl (Keep.cons rfl (Keep.cons rfl (Keep.cons rfl (Keep.cons rfl (Keep.cons rfl (Keep.cons rfl (Keep.cons rfl (Keep.cons rfl (Keep.cons rfl (Keep.cons rfl (Keep.cons rfl (Keep.cons rfl (Keep.cons rfl (Keep.cons rfl (Keep.cons rfl (Keep.cons rfl (Keep.cons rfl (Keep.app rfl (Keep.rm rfl Keep.base)))))))))))))))))))))⟩, by simp only; omega⟩)
           | omega
       ·have hG14 := hg14; try simp only [gS] at hG14
        refine sy_exit ?_
        refine then_e ?_
        refine then_e ?_
        refine blk_e ?_
        refine blk_n ?_
        refine then_n ?_
        refine sy_ops ?_
        refine o_v hf hh (yv_move rfl) ?_; clear hf a; intro a hf
        refine o_v hf hh (y_add rfl rfl) ?_; clear hf a; intro a hf
        refine o_v hf hh (yv_assign rfl) ?_; clear hf a; intro a hf
        refine ops_end ?_
        refine then_n ?_
        exact ⟨(n + 1, v0, X), ⟨⟨by simp only; omega, by simp only [← hmr, ← show s = q2 by omega]; exact hO, hh⟩, hf.head ⟨rfl, rfl, True.intro⟩ (Keep.cons rfl (Keep.cons rfl (Keep.cons rfl (Keep.cons rfl (Keep.cons rfl (Keep.cons rfl (Keep.cons rfl (Keep.cons rfl (Keep.cons rfl (Keep.cons rfl (Keep.app rfl (Keep.rm rfl (Keep.cons rfl (Keep.cons rfl (Keep.cons rfl (Keep.cons rfl (Keep.cons rfl (Keep.cons rfl (Keep.cons rfl (Keep.cons rfl (Keep.app rfl (Keep.rm rfl (Keep.cons rfl (Keep.cons rfl (Keep.cons rfl (Keep.cons rfl (Keep.cons rfl (Keep.app rfl (Keep.rm rfl Keep.base)))))))))))))))))))))))))))))⟩, by simp only; omega⟩
   ·have hG2 := hg2; try simp only [gS] at hG2
    refine sy_exit ?_
    refine then_e ?_
    refine then_e ?_
    refine blk_e ?_
    refine then_n ?_
    refine sy_sq ?_
    refine o_v hf hh (yv_move rfl) ?_; clear hf a; intro a hf
    refine o_v hf hh (yv_assign rfl) ?_; clear hf a; intro a hf
    refine o_end ?_
    refine sy_ret ?_
    refine ret_r hf rfl rfl ?_
    have hnn : n = p.toNat + 1 := by omega
    rw [hnn] at hO
    obtain ⟨oa, cp, rfl⟩ := OwnSl_val hO
    exact ⟨oa, cp, rfl, valsAt_own hO fun x hx => hh.get x (.tail _ hx), hh.ext⟩
end Go.Proofs.YtidieepndphodaaGreat
namespace Go.MatM
open Go Go.Sy Go.Proofs Go.RowKit
theorem pairP {α : Type} {R : α → α → Prop} {l : List α} (h : l.Pairwise R) {f : α → Bool} : (l.filter f).Pairwise R := h.sublist List.filter_sublist
section
variable {d : RowsD} {p : Int}
theorem gatE_1 (h : okCan d p = false) : gatE d p = 1 ∧ casesE d p = 1 ∧ casesC d p = 0 := by
  have e : casesE d p = 1 := by unfold casesE openE; rw [if_pos h]
  refine ⟨?_, e, ?_⟩
  · unfold gatE; rw [if_neg (by omega), e]
  · unfold casesC; rw [if_neg (by omega)]
/-- Cases with as many marks stand in their order. -/
theorem row_pair {j : Nat} (hj : j < 2) (l : List Nat) (h : l.Pairwise (· < ·)) (hl : ∀ s ∈ l, 1 ≤ s) : (rowL d p j l).Pairwise fun x y => cntX x = cntX y → lessB x y = true := by
  unfold rowL
  refine pairP ?_
  rw [List.pairwise_map]
  refine h.imp fun {s t} hst he => ?_
  rw [lessB_iff]
  have h4 : pc 0 = 0 := pc_zero
  rcases (show j = 0 ∨ j = 1 by omega) with rfl | rfl
  · rw [show setX 0 s = (s, 0) from rfl, show setX 0 t = (t, 0) from rfl] at *
    have e0 : rk 0 (s, 0) = rk 0 (t, 0) := he
    have e1 : rk 1 (s, 0) = rk 1 (t, 0) := rfl
    have e2 : rk 2 (s, 0) < rk 2 (t, 0) := by show s ||| 0 < t ||| 0; rw [Nat.or_zero, Nat.or_zero]; exact hst
    exact .inr ⟨e0, .inr ⟨e1, e2⟩⟩
  · rw [show setX 1 s = (0, s) from rfl, show setX 1 t = (0, t) from rfl] at *
    have e0 : rk 0 (0, s) = rk 0 (0, t) := he
    have e1 : rk 1 (0, s) = rk 1 (0, t) := by
      have he : pc 0 + pc s = pc 0 + pc t := he
      show pc s = pc t; omega
    have e2 : rk 2 (0, s) < rk 2 (0, t) := by show 0 ||| s < 0 ||| t; rw [Nat.zero_or, Nat.zero_or]; exact hst
    exact .inr ⟨e0, .inr ⟨e1, e2⟩⟩
theorem restS_pair (n : Nat) : (restS n p 1).Pairwise (· < ·) ∧ ∀ s ∈ restS n p 1, 1 ≤ s ∧ s < 2 ^ n := by
  unfold restS
  refine ⟨pairP List.pairwise_lt_range', fun s hs => ?_⟩
  rw [List.mem_filter, List.mem_range'_1] at hs
  have := Nat.two_pow_pos n
  omega
theorem cases_pair (hV : Valid d) : (casesL d p).Pairwise fun x y => cntX x = cntX y → lessB x y = true := by
  have e : casesL d p = [(0, 0)].filter (isC d p) ++ (rowL d p 0 (restS (lenR d 0) p 1) ++ rowL d p 1 (restS (lenR d 1) p 1)) := rfl
  have h4 : pc 0 = 0 := pc_zero
  have hpos : ∀ s n, n ≤ 10 → 1 ≤ s → s < 2 ^ n → 0 < pc s := fun s n h0 h1 h2 => pc_pos s h1 (by have := pow_le_10 h0; omega)
  have hrow : ∀ j, j < 2 → ∀ x ∈ rowL d p j (restS (lenR d j) p 1), ∃ s, x = setX j s ∧ 0 < pc s := fun j hj x hx => by
    unfold rowL at hx
    obtain ⟨s, hs, rfl⟩ := List.mem_map.1 (List.mem_filter.1 hx).1
    have h := (restS_pair (p := p) (lenR d j)).2 s hs
    exact ⟨s, rfl, hpos s _ (by unfold lenR; split; exact hV.nl; exact hV.nr) h.1 h.2⟩
  rw [e, List.pairwise_append, List.pairwise_append]
  refine ⟨pairP (List.pairwise_singleton _ _), ⟨row_pair (by omega) _ (restS_pair _).1 fun s hs => ((restS_pair _).2 s hs).1, row_pair (by omega) _ (restS_pair _).1 fun s hs => ((restS_pair _).2 s hs).1, fun x hx y hy he => ?_⟩, fun x hx y hy he => ?_⟩
  · obtain ⟨s, rfl, h1⟩ := hrow 0 (by omega) x hx
    obtain ⟨t, rfl, h2⟩ := hrow 1 (by omega) y hy
    rw [lessB_iff]
    have e0 : rk 0 (setX 0 s) = rk 0 (setX 1 t) := he
    have e1 : rk 1 (setX 0 s) < rk 1 (setX 1 t) := by show pc 0 < pc t; omega
    exact .inr ⟨e0, .inl e1⟩
  · have hx0 := List.mem_singleton.1 (List.mem_filter.1 hx).1
    subst hx0
    have he : pc 0 + pc 0 = cntX y := he
    rcases List.mem_append.1 hy with hy | hy
    · obtain ⟨s, rfl, h1⟩ := hrow 0 (by omega) y hy
      have : cntX (setX 0 s) = pc s + pc 0 := rfl
      omega
    · obtain ⟨s, rfl, h1⟩ := hrow 1 (by omega) y hy
      have : cntX (setX 1 s) = pc 0 + pc s := rfl
      omega
theorem refT_head {b : Nat × Nat} : ∀ (n : Nat) (t : List (Nat × Nat)), refT d p n = b :: t → ∃ t', refN d p (cntX b) = b :: t' ∧ ∀ y ∈ casesL d p, cntX y < n → cntX b ≤ cntX y
  | 0, t, h => by cases h
  | n + 1, t, h => by
    rw [refT] at h
    cases hr : refT d p n with
    | nil =>
      rw [hr, List.nil_append] at h
      have hb : cntX b = n := by
        have : b ∈ refN d p n := by rw [h]; exact .head _
        exact of_decide_eq_true (List.mem_filter.1 this).2
      refine ⟨t, by rw [hb]; exact h, fun y hy hn => ?_⟩
      by_cases h1 : cntX y < n
      · have := (refT_perm (d := d) (p := p) n).mem_iff (a := y)
        rw [hr, List.mem_filter] at this
        have := this.2 ⟨hy, decide_eq_true h1⟩
        cases this
      · omega
    | cons c l =>
      rw [hr, List.cons_append] at h
      have hc := (List.cons.inj h).1
      subst hc
      obtain ⟨t', h1, h2⟩ := refT_head n l hr
      refine ⟨t', h1, fun y hy hn => ?_⟩
      by_cases h3 : cntX y < n
      · exact h2 y hy h3
      · have hcn : c ∈ (casesL d p).filter fun x => decide (cntX x < n) := (refT_perm (d := d) (p := p) n).mem_iff.1 (by rw [hr]; exact .head _)
        have := of_decide_eq_true (List.mem_filter.1 hcn).2
        omega
theorem ref_head (hV : Valid d) (hp : 0 ≤ p) {b : Nat × Nat} {t : List (Nat × Nat)} (h : refL d p = b :: t) : b = (firstL (casesL d p)).b := by
  obtain ⟨t', h1, h2⟩ := refT_head _ _ h
  have hall : ∀ y ∈ casesL d p, cntX b ≤ cntX y := fun y hy => h2 y hy (by
    have h3 := cases_is hy
    unfold isC at h3
    rw [Bool.and_eq_true, Bool.and_eq_true, decide_eq_true_eq] at h3
    have := h3.2.1
    unfold cntX; omega)
  have hbm : b ∈ casesL d p := (List.mem_filter.1 (show b ∈ refN d p (cntX b) by rw [h1]; exact .head _)).1
  have hne : casesL d p ≠ [] := fun e => by rw [e] at hbm; cases hbm
  have hf := first_mem hne
  have hmin := first_min hbm
  have hcnt : cntX (firstL (casesL d p)).b = cntX b := by
    have h3 := hall _ hf
    rw [lessB_iff] at hmin
    have e1 : rk 0 b = cntX b := rfl
    have e2 : rk 0 (firstL (casesL d p)).b = cntX (firstL (casesL d p)).b := rfl
    omega
  have hin : (firstL (casesL d p)).b ∈ refN d p (cntX b) := List.mem_filter.2 ⟨hf, decide_eq_true hcnt⟩
  rw [h1] at hin
  rcases List.mem_cons.1 hin with h3 | h3
  · exact h3.symm
  · have hp2 : (refN d p (cntX b)).Pairwise fun x y => cntX x = cntX y → lessB x y = true := pairP (cases_pair hV)
    rw [h1] at hp2
    exact absurd ((List.pairwise_cons.1 hp2).1 _ h3 hcnt.symm) hmin
/-- One side of a case. -/
def selB (rt : Bool) (x : Nat × Nat) : Nat := if rt then x.2 else x.1
def gatN (l : List (Nat × Nat)) (rt : Bool) (b : Nat) : Nat := l.countP fun x => (selB rt x).testBit b
def gatP (l : List (Nat × Nat)) (rt al : Bool) (b : Nat) : Bool := decide (gatN l rt b = l.length) || (decide (0 < gatN l rt b) && !al)
def gatF (l : List (Nat × Nat)) (rt al : Bool) : Nat := setF (gatP l rt al) 10
theorem gatN_le (l : List (Nat × Nat)) (rt : Bool) (b : Nat) : gatN l rt b ≤ l.length := List.countP_le_length
theorem gatN_snoc {l : List (Nat × Nat)} {rt : Bool} {b k : Nat} {x : Nat × Nat} (h : l[k]? = some x) : gatN (l.take (k + 1)) rt b = gatN (l.take k) rt b + if (selB rt x).testBit b then 1 else 0 := by
  unfold gatN
  rw [take_at h, List.countP_append, List.countP_singleton]
theorem gatN_perm {l m : List (Nat × Nat)} (h : l.Perm m) (rt : Bool) (b : Nat) : gatN l rt b = gatN m rt b := h.countP_eq _
theorem gatN_pos {l : List (Nat × Nat)} {rt : Bool} {b : Nat} : 0 < gatN l rt b ↔ (l.any fun x => (selB rt x).testBit b) = true := by
  unfold gatN
  rw [List.countP_pos_iff, List.any_eq_true]
theorem gatN_all {l : List (Nat × Nat)} {rt : Bool} {b : Nat} : gatN l rt b = l.length ↔ (l.all fun x => (selB rt x).testBit b) = true := by
  unfold gatN
  rw [List.countP_eq_length, List.all_eq_true]
theorem gatF_some {l m : List (Nat × Nat)} (h : l.Perm m) (hn : m ≠ []) (hl : ∀ x ∈ m, x.1 < 1024 ∧ x.2 < 1024) : gatF l false false = (joinL m).o.1 ∧ gatF l true false = (joinL m).o.2 := by
  have key : ∀ rt k, gatP l rt false k = m.any fun x => (selB rt x).testBit k := fun rt k => by
    have h1 := gatN_pos (l := m) (rt := rt) (b := k)
    have h2 := gatN_perm h rt k
    have h3 := h.length_eq
    have h4 := List.length_pos_iff.2 hn
    unfold gatP
    rw [h2, h3]
    rw [Bool.eq_iff_iff, ← h1]
    simp only [Bool.or_eq_true, Bool.and_eq_true, decide_eq_true_eq, Bool.not_false, and_true]
    omega
  have big : ∀ rt k, ¬ k < 10 → (m.any fun x => (selB rt x).testBit k) = false := fun rt k hk => by
    rw [List.any_eq_false]
    intro x hx
    have h5 := hl x hx
    have h6 : 1024 ≤ 2 ^ k := Nat.pow_le_pow_right (n := 2) (i := 10) (by omega) (show 10 ≤ k by omega)
    have : selB rt x < 2 ^ k := by unfold selB; split <;> omega
    rw [Nat.testBit_lt_two_pow this]; decide
  constructor
  · refine Nat.eq_of_testBit_eq fun k => ?_
    unfold gatF
    rw [setF_bit, key, joinL_o1]
    by_cases hk : k < 10
    · rw [decide_eq_true hk, Bool.true_and]; rfl
    · rw [decide_eq_false hk, Bool.false_and]; exact (big false k hk).symm
  · refine Nat.eq_of_testBit_eq fun k => ?_
    unfold gatF
    rw [setF_bit, key, joinL_o2]
    by_cases hk : k < 10
    · rw [decide_eq_true hk, Bool.true_and]; rfl
    · rw [decide_eq_false hk, Bool.false_and]; exact (big true k hk).symm
theorem gatF_all {l m : List (Nat × Nat)} (h : l.Perm m) (hn : m ≠ []) (hl : ∀ x ∈ m, x.1 < 1024 ∧ x.2 < 1024) : gatF l false true = (joinL m).a.1 ∧ gatF l true true = (joinL m).a.2 := by
  have key : ∀ rt k, gatP l rt true k = m.all fun x => (selB rt x).testBit k := fun rt k => by
    have h1 := gatN_all (l := m) (rt := rt) (b := k)
    have h2 := gatN_perm h rt k
    have h3 := h.length_eq
    unfold gatP
    rw [h2, h3]
    rw [Bool.eq_iff_iff, ← h1]
    simp only [Bool.or_eq_true, Bool.and_eq_true, decide_eq_true_eq, Bool.not_true, Bool.false_eq_true, and_false, or_false]
  have big : ∀ rt k, ¬ k < 10 → (m.all fun x => (selB rt x).testBit k) = false := fun rt k hk => by
    obtain ⟨x, l', e⟩ := List.exists_cons_of_ne_nil hn
    have h5 := hl x (by rw [e]; exact .head _)
    have h6 : 1024 ≤ 2 ^ k := Nat.pow_le_pow_right (n := 2) (i := 10) (by omega) (show 10 ≤ k by omega)
    have : selB rt x < 2 ^ k := by unfold selB; split <;> omega
    rw [e, List.all_cons, Nat.testBit_lt_two_pow this, Bool.false_and]
  constructor
  · refine Nat.eq_of_testBit_eq fun k => ?_
    unfold gatF
    rw [setF_bit, key, joinL_a1 hn]
    by_cases hk : k < 10
    · rw [decide_eq_true hk, Bool.true_and]; rfl
    · rw [decide_eq_false hk, Bool.false_and]; exact (big false k hk).symm
  · refine Nat.eq_of_testBit_eq fun k => ?_
    unfold gatF
    rw [setF_bit, key, joinL_a2 hn]
    by_cases hk : k < 10
    · rw [decide_eq_true hk, Bool.true_and]; rfl
    · rw [decide_eq_false hk, Bool.false_and]; exact (big true k hk).symm
theorem told_perm {l m : List (Nat × Nat)} (h : l.Perm m) (row i : Nat) : toldN l row i = toldN m row i := by
  unfold toldN yesN; rw [h.countP_eq, h.length_eq]
theorem lensR_perm {l m : List (Nat × Nat)} (h : l.Perm m) (row : Nat) : ∀ (i : Nat) (s : Nat × Nat × Nat), lensR l row i s = lensR m row i s
  | 0, _ => rfl
  | i + 1, s => by rw [lensR, lensR, lensR_perm h row i s, told_perm h]
theorem lensAt_perm {l m : List (Nat × Nat)} (h : l.Perm m) : ∀ n, lensAt d l n = lensAt d m n
  | 0 => by rw [lensAt, lensAt, h.length_eq]
  | n + 1 => by rw [lensAt, lensAt, lensAt_perm h n, lensR_perm h]
theorem told_sel (l : List (Nat × Nat)) (rt : Bool) (i : Nat) : max (gatN l rt i) (l.length - gatN l rt i) = toldN l (if rt then 1 else 0) i := by
  unfold toldN yesN gatN selB xAt
  cases rt <;> rfl
theorem cases_1024 (hV : Valid d) {x : Nat × Nat} (h : x ∈ casesL d p) : x.1 < 1024 ∧ x.2 < 1024 := by
  have e : casesL d p = [(0, 0)].filter (isC d p) ++ (rowL d p 0 (restS (lenR d 0) p 1) ++ rowL d p 1 (restS (lenR d 1) p 1)) := rfl
  rw [e, List.mem_append, List.mem_append] at h
  rcases h with h | h | h
  · rw [List.mem_singleton.1 (List.mem_filter.1 h).1]; exact ⟨by decide, by decide⟩
  · obtain ⟨s, hs, rfl⟩ := List.mem_map.1 (List.mem_filter.1 h).1
    have h1 := (restS_pair (p := p) (lenR d 0)).2 s hs
    have h2 := pow_le_10 (show lenR d 0 ≤ 10 from hV.nl)
    exact ⟨show s < 1024 by omega, show 0 < 1024 by omega⟩
  · obtain ⟨s, hs, rfl⟩ := List.mem_map.1 (List.mem_filter.1 h).1
    have h1 := (restS_pair (p := p) (lenR d 1)).2 s hs
    have h2 := pow_le_10 (show lenR d 1 ≤ 10 from hV.nr)
    exact ⟨show 0 < 1024 by omega, show s < 1024 by omega⟩
/-- Sides, one number each. -/
def sd0 (l : List (Nat × Nat)) : Nat := if (l.any fun x => decide (x.1 = 0) && decide (x.2 = 0)) then 1 else 0
def sd1 (l : List (Nat × Nat)) : Nat := if (l.any fun x => decide (0 < x.1)) then 2 else 0
def sd2 (l : List (Nat × Nat)) : Nat := if (l.any fun x => decide (0 < x.2)) then 4 else 0
theorem any_take {l : List (Nat × Nat)} {f : Nat × Nat → Bool} {k : Nat} {x : Nat × Nat} (h : l[k]? = some x) : (l.take (k + 1)).any f = ((l.take k).any f || f x) := by
  rw [take_at h, List.any_append]; simp
theorem sides_sum {l : List (Nat × Nat)} (h : ∀ x ∈ l, oneB x = true) : sd0 l + sd1 l + sd2 l = sideS l := by
  have e0 : (sideS l).testBit 0 = l.any fun x => decide (x.1 = 0) && decide (x.2 = 0) := by
    rw [sideS_bit]; congr 1; funext x
    unfold sideB; by_cases h1 : x.1 = 0 <;> by_cases h2 : x.2 = 0 <;> simp [h1, h2] <;> decide
  have e1 : (sideS l).testBit 1 = l.any fun x => decide (0 < x.1) := by
    rw [sideS_bit]; congr 1; funext x
    unfold sideB; by_cases h1 : x.1 = 0
    · by_cases h2 : x.2 = 0 <;> simp [h1, h2] <;> decide
    · rw [if_neg h1, decide_eq_true (by omega)]; decide
  have e2 : (sideS l).testBit 2 = l.any fun x => decide (0 < x.2) := by
    rw [sideS_bit, Bool.eq_iff_iff, List.any_eq_true, List.any_eq_true]
    refine ⟨fun ⟨x, hx, h1⟩ => ⟨x, hx, ?_⟩, fun ⟨x, hx, h1⟩ => ⟨x, hx, ?_⟩⟩
    · unfold sideB at h1
      rw [decide_eq_true_eq]
      by_cases h2 : x.1 = 0
      · by_cases h3 : x.2 = 0
        · rw [if_pos h2, if_pos h3] at h1; exact absurd h1 (by decide)
        · omega
      · rw [if_neg h2] at h1; exact absurd h1 (by decide)
    · have h4 := h x hx
      unfold oneB at h4
      rw [Bool.or_eq_true, decide_eq_true_eq, decide_eq_true_eq] at h4
      rw [decide_eq_true_eq] at h1
      unfold sideB
      rw [if_pos (by omega), if_neg (by omega)]; decide
  have h8 : ∀ s : Fin 8, (if s.1.testBit 0 then 1 else 0) + (if s.1.testBit 1 then 2 else 0) + (if s.1.testBit 2 then 4 else 0) = s.1 := by decide
  have := h8 ⟨sideS l, by have := sideS_le l; omega⟩
  simp only [e0, e1, e2] at this
  exact this
theorem cases_one {x : Nat × Nat} (h : x ∈ casesL d p) : oneB x = true := by
  have := cases_is h
  unfold isC at this
  rw [Bool.and_eq_true] at this
  exact this.1
theorem gatP_1 {l : List (Nat × Nat)} {rt al : Bool} {b : Nat} (h : gatN l rt b = l.length) : gatP l rt al b = true := by unfold gatP; rw [decide_eq_true h, Bool.true_or]
theorem gatP_2 {l : List (Nat × Nat)} {rt al : Bool} {b : Nat} (h : 0 < gatN l rt b) (ha : al = false) : gatP l rt al b = true := by unfold gatP; rw [decide_eq_true h, ha]; simp
theorem gatP_3 {l : List (Nat × Nat)} {rt al : Bool} {b : Nat} (h : ¬ gatN l rt b = l.length) (ha : gatN l rt b = 0 ∨ al = true) : gatP l rt al b = false := by
  unfold gatP; rw [decide_eq_false h, Bool.false_or]
  rcases ha with ha | ha
  · rw [decide_eq_false (by omega), Bool.false_and]
  · rw [ha]; simp
theorem sd0_step {l : List (Nat × Nat)} {k : Nat} {x : Nat × Nat} (h : l[k]? = some x) : sd0 (l.take (k + 1)) = if x.1 = 0 ∧ x.2 = 0 then 1 else sd0 (l.take k) := by
  unfold sd0; rw [any_take h]
  by_cases h1 : x.1 = 0 ∧ x.2 = 0
  · rw [if_pos h1]; simp [h1]
  · rw [if_neg h1]
    have : (decide (x.1 = 0) && decide (x.2 = 0)) = false := by rw [Bool.eq_false_iff]; simpa using h1
    rw [this, Bool.or_false]
theorem sd1_step {l : List (Nat × Nat)} {k : Nat} {x : Nat × Nat} (h : l[k]? = some x) : sd1 (l.take (k + 1)) = if 0 < x.1 then 2 else sd1 (l.take k) := by
  unfold sd1; rw [any_take h]
  by_cases h1 : 0 < x.1
  · rw [if_pos h1]; simp [h1]
  · rw [if_neg h1, decide_eq_false h1, Bool.or_false]
theorem sd2_step {l : List (Nat × Nat)} {k : Nat} {x : Nat × Nat} (h : l[k]? = some x) : sd2 (l.take (k + 1)) = if 0 < x.2 then 4 else sd2 (l.take k) := by
  unfold sd2; rw [any_take h]
  by_cases h1 : 0 < x.2
  · rw [if_pos h1]; simp [h1]
  · rw [if_neg h1, decide_eq_false h1, Bool.or_false]
theorem sd_le (l : List (Nat × Nat)) : sd0 l ≤ 1 ∧ sd1 l ≤ 2 ∧ sd2 l ≤ 4 := by
  unfold sd0 sd1 sd2
  refine ⟨?_, ?_, ?_⟩ <;> split <;> omega
theorem setF_1024 (f : Nat → Bool) {b : Nat} (h : b ≤ 10) : setF f b < 1024 := by
  have h1 := setF_lt f b
  have h2 := pow_le_10 h
  omega
end
end Go.MatM
namespace Go.Proofs.YtidieepndphodaaGreat
open Go Go.Sy Go.MatM
set_option maxRecDepth 100000
theorem r42 (d : RowsD) (p : Int) (sa sb : Option Addr) (ca cb : Nat) (u : World) (hA : MkAt u sa d.l) (hB : MkAt u sb d.r) (hla : d.l.length ≤ 1000000) (hlb : d.r.length ≤ 1000000) : Calls Tryz.prog 42 #[canV d p sa sb ca cb] u (Ret fun v w' => ∃ oa n cp, v = .tuple #[.slice oa n cp, .int .i64 (gatE d p)] ∧ (gatE d p = 0 → n = (refL d p).length ∧ ValsAt w' oa (encP (refL d p))) ∧ Ext [] u w') := by
  refine calls_of Tryz.func42 rfl rfl (fun a hf => ?_)
  have hh := Hp.init u []
  refine sy_sq ?_
  refine o_box hf hh ?_; clear hf hh a; intro B1 a w hf hh
  refine o_v hf hh (yv_assign rfl) ?_; clear hf a; intro a hf
  refine o_v hf hh (yv_assign rfl) ?_; clear hf a; intro a hf
  refine o_end ?_
  refine sy_seq ?_
  refine sy_sq ?_
  refine o_v hf hh (y_lds Tryz.ag_28 rfl) ?_; clear hf a; intro a hf
  refine o_call hf Tryz.en_24 rfl rfl rfl (p19 d p sa sb ca cb _ (hA.ext hh.ext) (hB.ext hh.ext) hla hlb) ?_; clear hf a; intro v a w hR hf
  obtain ⟨rfl, hx⟩ := hR; replace hh := hh.more hx; clear hx
  refine o_v hf hh (yv_not rfl) ?_; clear hf a; intro a hf
  refine o_end ?_
  refine sy_cond hf rfl (fun hg2 => ?_) (fun hg2 => ?_)
  ·have hG2 := hg2; try simp only [gS] at hG2
   refine sy_seq ?_
   have hok : okCan d p = false := by simp_all
   obtain ⟨hg1, hg2, hg3⟩ := gatE_1 hok
   refine sy_ops ?_
   refine o_v hf hh (yv_assign rfl) ?_; clear hf a; intro a hf
   refine o_v hf hh (yv_assign rfl) ?_; clear hf a; intro a hf
   refine o_end ?_
   refine sy_ret ?_
   refine then_r ?_
   refine ret_r hf rfl rfl ?_
   exact ⟨none, 0, 0, by rw [hg1]; rfl, fun h => by omega, hh.ext⟩
  ·have hG2 := hg2; try simp only [gS] at hG2
   refine sy_skip ?_
   refine then_n ?_
   refine sy_seq ?_
   have hok : okCan d p = true := by simp_all
   obtain ⟨hV, hp0, hp3⟩ := okCan_valid hok
   have hrl := ref_len (d := d) hp0
   have hlen := casesL_len (p := p) hV
   refine sy_ops ?_
   refine o_v hf hh (y_lds Tryz.ag_28 rfl) ?_; clear hf a; intro a hf
   refine o_call hf Tryz.en_39 rfl rfl rfl (r39 d p sa sb ca cb _ (hA.ext hh.ext) (hB.ext hh.ext) hV hp0 hp3) ?_; clear hf a; intro v a w hR hf
   obtain ⟨oa, cp, rfl, hv, hx⟩ := hR; replace hh := hh.more hx; clear hx
   refine o_v hf hh (yv_assign rfl) ?_; clear hf a; intro a hf
   refine o_end ?_
   refine sy_seq ?_
   refine sy_sq ?_
   refine o_v hf hh (yv_move rfl) ?_; clear hf a; intro a hf
   refine o_v hf hh (yv_len Tryz.se_64 rfl) ?_; clear hf a; intro a hf
   refine o_v hf hh (yv_bin rfl rfl rfl) ?_; clear hf a; intro a hf
   refine o_end ?_
   refine sy_cond hf rfl (fun hg5 => ?_) (fun hg5 => ?_)
   ·have hG5 := hg5; try simp only [gS] at hG5
    refine sy_sq ?_
    refine o_v hf hh (yv_assign rfl) ?_; clear hf a; intro a hf
    refine o_v hf hh (yv_assign rfl) ?_; clear hf a; intro a hf
    refine o_end ?_
    refine sy_ret ?_
    refine then_r ?_
    refine ret_r hf rfl rfl ?_
    have hg4 := gatE_4 (casesE_ok hok) (show (casesL d p).length = 0 by omega)
    exact ⟨none, 0, 0, by rw [hg4]; rfl, fun h => by omega, hh.ext⟩
   ·have hG5 := hg5; try simp only [gS] at hG5
    refine sy_skip ?_
    refine then_n ?_
    refine sy_sq ?_
    refine o_v hf hh (yv_move rfl) ?_; clear hf a; intro a hf
    refine o_v hf hh (yv_assign rfl) ?_; clear hf a; intro a hf
    refine o_v hf hh (yv_assign rfl) ?_; clear hf a; intro a hf
    refine o_end ?_
    refine sy_ret ?_
    refine ret_r hf rfl rfl ?_
    have hg0 := gatE_ok (casesE_ok hok) (show 0 < (casesL d p).length by omega)
    exact ⟨oa, _, cp, by rw [hg0]; rfl, fun _ => ⟨rfl, hv⟩, hh.ext⟩
theorem r10 (d : RowsD) (p : Int) (sa sb : Option Addr) (ca cb : Nat) (u : World) (hA : MkAt u sa d.l) (hB : MkAt u sb d.r) (hla : d.l.length ≤ 1000000) (hlb : d.r.length ≤ 1000000) : Calls Tryz.prog 10 #[canV d p sa sb ca cb] u (Ret fun v w' => v = .tuple #[.int .i64 (casesC d p : Nat), .int .i64 (casesE d p)] ∧ Ext [] u w') := by
  refine calls_of Tryz.func10 rfl rfl (fun a hf => ?_)
  have hh := Hp.init u []
  refine sy_sq ?_
  refine o_box hf hh ?_; clear hf hh a; intro B1 a w hf hh
  refine o_v hf hh (yv_assign rfl) ?_; clear hf a; intro a hf
  refine o_v hf hh (yv_assign rfl) ?_; clear hf a; intro a hf
  refine o_end ?_
  refine sy_seq ?_
  refine sy_sq ?_
  refine o_v hf hh (y_lds Tryz.ag_28 rfl) ?_; clear hf a; intro a hf
  refine o_call hf Tryz.en_24 rfl rfl rfl (p19 d p sa sb ca cb _ (hA.ext hh.ext) (hB.ext hh.ext) hla hlb) ?_; clear hf a; intro v a w hR hf
  obtain ⟨rfl, hx⟩ := hR; replace hh := hh.more hx; clear hx
  refine o_v hf hh (yv_not rfl) ?_; clear hf a; intro a hf
  refine o_end ?_
  refine sy_cond hf rfl (fun hg2 => ?_) (fun hg2 => ?_)
  ·have hG2 := hg2; try simp only [gS] at hG2
   refine sy_seq ?_
   have hok : okCan d p = false := by simp_all
   obtain ⟨hg1, hg2, hg3⟩ := gatE_1 hok
   refine sy_ops ?_
   refine o_v hf hh (yv_assign rfl) ?_; clear hf a; intro a hf
   refine o_v hf hh (yv_assign rfl) ?_; clear hf a; intro a hf
   refine o_end ?_
   refine sy_ret ?_
   refine then_r ?_
   refine ret_r hf rfl rfl ?_
   exact ⟨by rw [hg2, hg3]; rfl, hh.ext⟩
  ·have hG2 := hg2; try simp only [gS] at hG2
   refine sy_skip ?_
   refine then_n ?_
   refine sy_seq ?_
   have hok : okCan d p = true := by simp_all
   obtain ⟨hV, hp0, hp3⟩ := okCan_valid hok
   have hrl := ref_len (d := d) hp0
   have hlen := casesL_len (p := p) hV
   refine sy_ops ?_
   refine o_v hf hh (y_lds Tryz.ag_28 rfl) ?_; clear hf a; intro a hf
   refine o_call hf Tryz.en_39 rfl rfl rfl (r39 d p sa sb ca cb _ (hA.ext hh.ext) (hB.ext hh.ext) hV hp0 hp3) ?_; clear hf a; intro v a w hR hf
   obtain ⟨oa, cp, rfl, hv, hx⟩ := hR; replace hh := hh.more hx; clear hx
   refine o_v hf hh (yv_len Tryz.se_64 rfl) ?_; clear hf a; intro a hf
   refine o_v hf hh (yv_assign rfl) ?_; clear hf a; intro a hf
   refine o_v hf hh (yv_assign rfl) ?_; clear hf a; intro a hf
   refine o_end ?_
   refine sy_ret ?_
   refine ret_r hf rfl rfl ?_
   exact ⟨by rw [casesC_ok hok, casesE_ok hok, ← hrl]; rfl, hh.ext⟩
theorem r14 (d : RowsD) (p : Int) (sa sb : Option Addr) (ca cb : Nat) (u : World) (hA : MkAt u sa d.l) (hB : MkAt u sb d.r) (hla : d.l.length ≤ 1000000) (hlb : d.r.length ≤ 1000000) : Calls Tryz.prog 14 #[canV d p sa sb ca cb] u (Ret fun v w' => v = .tuple #[.int .i64 ((firstV d p).1 : Nat), .int .i64 ((firstV d p).2 : Nat), .int .i64 (gatE d p)] ∧ Ext [] u w') := by
  refine calls_of Tryz.func14 rfl rfl (fun a hf => ?_)
  have hh := Hp.init u []
  refine sy_sq ?_
  refine o_box hf hh ?_; clear hf hh a; intro B1 a w hf hh
  refine o_v hf hh (yv_assign rfl) ?_; clear hf a; intro a hf
  refine o_v hf hh (yv_assign rfl) ?_; clear hf a; intro a hf
  refine o_v hf hh (yv_assign rfl) ?_; clear hf a; intro a hf
  refine o_end ?_
  refine sy_sq ?_
  refine o_v hf hh (y_lds Tryz.ag_28 rfl) ?_; clear hf a; intro a hf
  refine o_call hf Tryz.en_42 rfl rfl rfl (r42 d p sa sb ca cb _ (hA.ext hh.ext) (hB.ext hh.ext) hla hlb) ?_; clear hf a; intro v a w hR hf
  obtain ⟨oa, nn, cp, rfl, hop, hx⟩ := hR; replace hh := hh.more hx; clear hx
  have he1 := hh.ext
  have hb1 := hh.at (i := 0) rfl
  have hA1 := hA.ext hh.ext
  have hB1 := hB.ext hh.ext
  obtain ⟨u1, rfl⟩ : ∃ z, z = w := ⟨_, rfl⟩
  replace hh := Hp.init u1 []
  
  refine o_v hf hh (yv_move rfl) ?_; clear hf a; intro a hf
  refine o_v hf hh (yv_extract rfl rfl) ?_; clear hf a; intro a hf
  refine o_v hf hh (yv_extract rfl rfl) ?_; clear hf a; intro a hf
  refine o_v hf hh (yv_assign rfl) ?_; clear hf a; intro a hf
  refine o_v hf hh (yv_assign rfl) ?_; clear hf a; intro a hf
  refine o_end ?_
  refine sy_seq ?_
  refine sy_sq ?_
  refine o_v hf hh (yv_move rfl) ?_; clear hf a; intro a hf
  refine o_v hf hh (yv_bin rfl rfl rfl) ?_; clear hf a; intro a hf
  refine o_end ?_
  refine sy_cond hf rfl (fun hg5 => ?_) (fun hg5 => ?_)
  ·have hG5 := hg5; try simp only [gS] at hG5
   refine sy_sq ?_
   refine o_v hf hh (yv_move rfl) ?_; clear hf a; intro a hf
   refine o_v hf hh (yv_assign rfl) ?_; clear hf a; intro a hf
   refine o_v hf hh (yv_assign rfl) ?_; clear hf a; intro a hf
   refine o_v hf hh (yv_assign rfl) ?_; clear hf a; intro a hf
   refine o_end ?_
   refine sy_ret ?_
   refine then_r ?_
   refine ret_r hf rfl rfl ?_
   exact ⟨by unfold firstV; rw [if_neg (by omega)]; rfl, he1.trans hh.ext⟩
  ·have hG5 := hg5; try simp only [gS] at hG5
   refine sy_skip ?_
   refine then_n ?_
   refine sy_seq ?_
   have hg0 : gatE d p = 0 := by omega
   obtain ⟨rfl, hv0⟩ := hop hg0
   have hok : okCan d p = true := by
     cases hk : okCan d p
     · have := (gatE_1 hk).1; omega
     · rfl
   obtain ⟨hV, hp0, hp3⟩ := okCan_valid hok
   have hrl := ref_len (d := d) hp0
   have hlen := casesL_len (p := p) hV
   have hpm := ref_perm (d := d) hp0
   have hne := (gat_pos hok).1 hg0
   have hcl := List.length_pos_iff.2 hne
   obtain ⟨L, hL⟩ : ∃ z, z = refL d p := ⟨_, rfl⟩
   rw [← hL] at hv0 hrl hpm hf
   obtain ⟨x, hx⟩ := ex_of (l := L) (i := 0) (by omega)
   obtain ⟨g1, g2⟩ := encP_get L 0 x hx
   obtain ⟨blk, off, c, Tx, fr, e1, hbx, hcx⟩ := hv0.resolve_left (by intro e; rw [e] at g1; simp at g1)
   have y1 := hcx _ _ g1
   have y2 := hcx _ _ g2
   subst e1
   have f1 : c[off + (0 : Int).toNat * 2 + 0]? = some (.int .i64 ((x.1 : Nat) : Int)) := y1
   have f2 : c[off + (0 : Int).toNat * 2 + 1]? = some (.int .i64 ((x.2 : Nat) : Int)) := y2
   refine sy_quiet (C := Hp _ _ _) Tryz.follows (by kernel_rfl) (hh.drawn _) ?_
   refine oq_v hf (yv_move rfl) ?_; clear hf a; intro a hf
   refine oq_v hf (y_ix Tryz.se_64 rfl rfl) ?_; clear hf a; intro a hf
   refine oq_v hf (yv_fieldAddr Tryz.fo_73_0 rfl) ?_; clear hf a; intro a hf
   refine oq_v hf (y_ld Tryz.sc_3 rfl) ?_; clear hf a; intro a hf
   refine oq_v hf (yv_move rfl) ?_; clear hf a; intro a hf
   refine oq_v hf (y_ix Tryz.se_64 rfl rfl) ?_; clear hf a; intro a hf
   refine oq_v hf (yv_fieldAddr Tryz.fo_73_1 rfl) ?_; clear hf a; intro a hf
   refine oq_v hf (y_ld Tryz.sc_3 rfl) ?_; clear hf a; intro a hf
   refine oq_v hf (yv_assign rfl) ?_; clear hf a; intro a hf
   refine oq_v hf (yv_assign rfl) ?_; clear hf a; intro a hf
   refine oq_v hf (yv_assign rfl) ?_; clear hf a; intro a hf
   refine q_end fun w hh => ?_
   refine then_n ?_
   refine sy_ret ?_
   refine ret_r hf rfl rfl ?_
   have hx1 : L = x :: L.tail := by
     cases hL9 : L with
     | nil => rw [hL9] at hx; simp at hx
     | cons b t => rw [hL9] at hx; simp at hx; rw [hx]; rfl
   have hb := ref_head hV hp0 (hL ▸ hx1)
   exact ⟨by unfold firstV; rw [hg0, if_pos rfl, ← hb]; rfl, he1.trans hh.ext⟩
end Go.Proofs.YtidieepndphodaaGreat
namespace Go.Proofs.YtidieepndphodaaGreat
open Go Go.Sy Go.MatM
set_option maxRecDepth 100000
theorem r45 (L : List (Nat × Nat)) (oa : Option Addr) (cp : Nat) (u : World) (hv0 : ValsAt u oa (encP L)) (hln : L.length ≤ 3000) (hlt : ∀ x ∈ L, x.1 < 1024 ∧ x.2 < 1024) (rt al : Bool) : Calls Tryz.prog 45 #[.slice oa L.length cp, .bool rt, .bool al] u (Ret fun v w' => v = .int .i64 (gatF L rt al : Nat) ∧ Ext [] u w') := by
  refine calls_of Tryz.func45 rfl rfl (fun a hf => ?_)
  have hh := Hp.init u []
  refine sy_sq ?_
  refine o_v hf hh (yv_assign rfl) ?_; clear hf a; intro a hf
  refine o_end ?_
  refine sy_sq ?_
  refine o_v hf hh (yv_assign rfl) ?_; clear hf a; intro a hf
  refine o_end ?_
  refine sy_seq ?_
  refine sy_sq ?_
  refine o_v hf hh (yv_assign rfl) ?_; clear hf a; intro a hf
  refine o_end ?_
  refine sy_block ?_
  refine sy_loopF (σ := Nat) [7, 8, 9, 10, 11, 12, 13, 14, 15, 16, 17, 18, 19, 20, 21, 22, 23, 24, 25, 26, 27, 28, 29, 30, 31, 32, 33, 34, 35, 36, 37, 38, 39, 40, 41, 42, 43, 44, 45, 46, 47, 48, 49, 50, 51, 52, 53] (fun b => [(8, .int .i64 (b : Nat)), (7, .int .i64 (setF (gatP L rt al) b : Nat))]) (fun b => b ≤ 10) (fun b => 10 - b) (0) hf hh ?_ ?_ ?_
  · repeat' (first | exact True.intro | refine And.intro rfl ?_)
  · exact Nat.zero_le _
  ·rintro b a w hb hf hh
   refine sy_seq ?_
   refine sy_sq ?_
   refine o_v hf hh (yv_move rfl) ?_; clear hf a; intro a hf
   refine o_v hf hh (yv_bin rfl rfl rfl) ?_; clear hf a; intro a hf
   refine o_end ?_
   refine sy_cond hf rfl (fun hg2 => ?_) (fun hg2 => ?_)
   ·have hG2 := hg2; try simp only [gS] at hG2
    refine sy_skip ?_
    refine then_n ?_
    refine sy_seq ?_
    refine sy_block ?_
    refine sy_sq ?_
    refine o_v hf hh (yv_assign rfl) ?_; clear hf a; intro a hf
    refine o_end ?_
    refine sy_seq ?_
    refine sy_sq ?_
    refine o_v hf hh (yv_assign rfl) ?_; clear hf a; intro a hf
    refine o_end ?_
    refine sy_block ?_
    refine sy_loopF (σ := Nat) [9, 10, 11, 16, 17, 18, 19, 20, 21, 22, 23, 24, 25, 26, 27, 28, 29, 30, 31, 32, 33, 34, 35, 36, 37] (fun k => [(10, .int .i64 (k : Nat)), (9, .int .i64 (gatN (L.take k) rt b : Nat))]) (fun k => k ≤ L.length) (fun k => L.length - k) (0) hf hh ?_ ?_ ?_
    · repeat' (first | exact True.intro | refine And.intro rfl ?_)
    · exact Nat.zero_le _
    ·rintro k a w hk hf hh
     refine sy_seq ?_
     refine sy_sq ?_
     refine o_v hf hh (yv_move rfl) ?_; clear hf a; intro a hf
     refine o_v hf hh (yv_move rfl) ?_; clear hf a; intro a hf
     refine o_v hf hh (yv_len Tryz.se_64 rfl) ?_; clear hf a; intro a hf
     refine o_v hf hh (yv_bin rfl rfl rfl) ?_; clear hf a; intro a hf
     refine o_end ?_
     refine sy_cond hf rfl (fun hg4 => ?_) (fun hg4 => ?_)
     ·have hG4 := hg4; try simp only [gS] at hG4
      refine sy_skip ?_
      refine then_n ?_
      refine sy_seq ?_
      refine sy_block ?_
      refine sy_seq ?_
      obtain ⟨x, hx⟩ := ex_of (l := L) (i := k) (by omega)
      obtain ⟨g1, g2⟩ := encP_get L k x hx
      obtain ⟨blk, off, c, Tx, fr, e1, hbx, hcx⟩ := hv0.resolve_left (by intro e; rw [e] at g1; simp at g1)
      have y1 := hcx _ _ g1
      have y2 := hcx _ _ g2
      obtain ⟨b1, b2⟩ := hlt x (List.mem_of_getElem? hx)
      subst e1
      have f1 : c[off + ((k : Nat) : Int).toNat * 2 + 0]? = some (.int .i64 ((x.1 : Nat) : Int)) := by rw [Int.toNat_natCast]; exact y1
      have f2 : c[off + ((k : Nat) : Int).toNat * 2 + 1]? = some (.int .i64 ((x.2 : Nat) : Int)) := by rw [Int.toNat_natCast, Nat.add_assoc]; exact y2
      have hst := gatN_snoc (rt := rt) (b := b) hx
      have hbl := gatN_le (L.take k) rt b
      rw [List.length_take] at hbl
      have hsl : selB rt x < 1024 := by unfold selB; split; exact b2; exact b1
      refine sy_ops ?_
      refine o_v hf hh (yv_move rfl) ?_; clear hf a; intro a hf
      refine o_v hf hh (yv_move rfl) ?_; clear hf a; intro a hf
      refine o_v hf hh (y_ix Tryz.se_64 rfl rfl) ?_; clear hf a; intro a hf
      refine o_v hf hh (yv_fieldAddr Tryz.fo_73_0 rfl) ?_; clear hf a; intro a hf
      refine o_v hf hh (y_ld Tryz.sc_3 rfl) ?_; clear hf a; intro a hf
      refine o_v hf hh (yv_assign rfl) ?_; clear hf a; intro a hf
      refine o_end ?_
      refine sy_seq ?_
      refine sy_sq ?_
      refine o_v hf hh (yv_move rfl) ?_; clear hf a; intro a hf
      refine o_end ?_
      refine sy_cond hf rfl (fun hg6 => ?_) (fun hg6 => ?_)
      ·have hG6 := hg6; try simp only [gS] at hG6
       refine sy_ops ?_
       refine o_v hf hh (yv_move rfl) ?_; clear hf a; intro a hf
       refine o_v hf hh (yv_move rfl) ?_; clear hf a; intro a hf
       refine o_v hf hh (y_ix Tryz.se_64 rfl rfl) ?_; clear hf a; intro a hf
       refine o_v hf hh (yv_fieldAddr Tryz.fo_73_1 rfl) ?_; clear hf a; intro a hf
       refine o_v hf hh (y_ld Tryz.sc_3 rfl) ?_; clear hf a; intro a hf
       refine o_v hf hh (yv_assign rfl) ?_; clear hf a; intro a hf
       refine o_end ?_
       refine sy_sq ?_
       refine o_v hf hh (yv_cast (yv_move rfl) (intv (b := ((selB rt x : Nat) : Int)) (by first | (unfold selB; rw [if_pos (by assumption)]) | (unfold selB; rw [if_neg (by simp_all)])))) ?_; clear hf a; intro a hf
       refine o_v hf hh (yv_move rfl) ?_; clear hf a; intro a hf
       refine o_call hf Tryz.en_67 rfl rfl rfl (c71 (selB rt x) b (by omega) (by omega) _) ?_; clear hf a; intro v a w hR hf
       obtain ⟨rfl, hx⟩ := hR; replace hh := hh.more hx; clear hx
       refine o_end ?_
       refine sy_cond hf rfl (fun hg9 => ?_) (fun hg9 => ?_)
       ·have hG9 := hg9; try simp only [gS] at hG9
        refine sy_ops ?_
        refine o_v hf hh (yv_move rfl) ?_; clear hf a; intro a hf
        refine o_v hf hh (y_add rfl rfl) ?_; clear hf a; intro a hf
        refine o_v hf hh (yv_assign rfl) ?_; clear hf a; intro a hf
        refine ops_end ?_
        refine blk_n ?_
        refine then_n ?_
        refine sy_ops ?_
        refine o_v hf hh (yv_move rfl) ?_; clear hf a; intro a hf
        refine o_v hf hh (y_add rfl rfl) ?_; clear hf a; intro a hf
        refine o_v hf hh (yv_assign rfl) ?_; clear hf a; intro a hf
        refine ops_end ?_
        refine then_n ?_
        first
          | (rw [if_pos (by assumption)] at hst
             exact ⟨k + 1, ⟨by omega, hf.head ⟨rfl, congrArg (fun z => some (Value.int IntKind.i64 z)) (by rw [hst]; push_cast; rfl), True.intro⟩ (Keep.cons rfl (Keep.cons rfl (Keep.cons rfl (Keep.cons rfl (Keep.cons rfl (Keep.cons rfl (Keep.cons rfl (Keep.cons rfl (Keep.cons rfl (Keep.cons rfl (Keep.cons rfl (Keep.cons rfl (Keep.cons rfl (Keep.cons rfl (Keep.cons rfl (Keep.cons rfl (Keep.cons rfl (Keep.cons rfl (Keep.cons rfl (Keep.cons rfl (Keep.cons rfl (Keep.cons rfl (Keep.cons rfl (Keep.cons rfl (Keep.cons rfl (Keep.cons rfl (Keep.app rfl (Keep.rm rfl Keep.base)))))))))))))))))))))))))))), hh⟩, by omega⟩)
          | (rw [if_neg (by simp_all)] at hst
             exact ⟨k + 1, ⟨by omega, hf.head ⟨rfl, congrArg (fun z => some (Value.int IntKind.i64 z)) (by rw [hst]; rfl), True.intro⟩ (Keep.cons rfl (Keep.cons rfl (Keep.cons rfl (Keep.cons rfl (Keep.cons rfl (Keep.cons rfl (Keep.cons rfl (Keep.cons rfl (Keep.cons rfl (Keep.cons rfl (Keep.cons rfl (Keep.cons rfl (Keep.cons rfl (Keep.cons rfl (Keep.cons rfl (Keep.cons rfl (Keep.cons rfl (Keep.cons rfl (Keep.cons rfl (Keep.cons rfl (Keep.cons rfl (Keep.cons rfl (Keep.cons rfl (Keep.cons rfl (Keep.cons rfl (Keep.cons rfl (Keep.app rfl (Keep.rm rfl Keep.base)))))))))))))))))))))))))))), hh⟩, by omega⟩)
          | omega
       ·have hG9 := hg9; try simp only [gS] at hG9
        refine sy_skip ?_
        refine blk_n ?_
        refine then_n ?_
        refine sy_ops ?_
        refine o_v hf hh (yv_move rfl) ?_; clear hf a; intro a hf
        refine o_v hf hh (y_add rfl rfl) ?_; clear hf a; intro a hf
        refine o_v hf hh (yv_assign rfl) ?_; clear hf a; intro a hf
        refine ops_end ?_
        refine then_n ?_
        first
          | (rw [if_pos (by assumption)] at hst
             exact ⟨k + 1, ⟨by omega, hf.head ⟨rfl, congrArg (fun z => some (Value.int IntKind.i64 z)) (by rw [hst]; push_cast; rfl), True.intro⟩ (Keep.cons rfl (Keep.cons rfl (Keep.cons rfl (Keep.cons rfl (Keep.cons rfl (Keep.cons rfl (Keep.cons rfl (Keep.cons rfl (Keep.cons rfl (Keep.cons rfl (Keep.cons rfl (Keep.cons rfl (Keep.cons rfl (Keep.cons rfl (Keep.cons rfl (Keep.cons rfl (Keep.cons rfl (Keep.cons rfl (Keep.cons rfl (Keep.cons rfl (Keep.cons rfl (Keep.cons rfl (Keep.cons rfl (Keep.app rfl (Keep.rm rfl Keep.base))))))))))))))))))))))))), hh⟩, by omega⟩)
          | (rw [if_neg (by simp_all)] at hst
             exact ⟨k + 1, ⟨by omega, hf.head ⟨rfl, congrArg (fun z => some (Value.int IntKind.i64 z)) (by rw [hst]; rfl), True.intro⟩ (Keep.cons rfl (Keep.cons rfl (Keep.cons rfl (Keep.cons rfl (Keep.cons rfl (Keep.cons rfl (Keep.cons rfl (Keep.cons rfl (Keep.cons rfl (Keep.cons rfl (Keep.cons rfl (Keep.cons rfl (Keep.cons rfl (Keep.cons rfl (Keep.cons rfl (Keep.cons rfl (Keep.cons rfl (Keep.cons rfl (Keep.cons rfl (Keep.cons rfl (Keep.cons rfl (Keep.cons rfl (Keep.cons rfl (Keep.app rfl (Keep.rm rfl Keep.base))))))))))))))))))))))))), hh⟩, by omega⟩)
          | omega
      ·have hG6 := hg6; try simp only [gS] at hG6
       refine sy_skip ?_
       refine then_n ?_
       refine sy_sq ?_
       refine o_v hf hh (yv_cast (yv_move rfl) (intv (b := ((selB rt x : Nat) : Int)) (by first | (unfold selB; rw [if_pos (by assumption)]) | (unfold selB; rw [if_neg (by simp_all)])))) ?_; clear hf a; intro a hf
       refine o_v hf hh (yv_move rfl) ?_; clear hf a; intro a hf
       refine o_call hf Tryz.en_67 rfl rfl rfl (c71 (selB rt x) b (by omega) (by omega) _) ?_; clear hf a; intro v a w hR hf
       obtain ⟨rfl, hx⟩ := hR; replace hh := hh.more hx; clear hx
       refine o_end ?_
       refine sy_cond hf rfl (fun hg12 => ?_) (fun hg12 => ?_)
       ·have hG12 := hg12; try simp only [gS] at hG12
        refine sy_ops ?_
        refine o_v hf hh (yv_move rfl) ?_; clear hf a; intro a hf
        refine o_v hf hh (y_add rfl rfl) ?_; clear hf a; intro a hf
        refine o_v hf hh (yv_assign rfl) ?_; clear hf a; intro a hf
        refine ops_end ?_
        refine blk_n ?_
        refine then_n ?_
        refine sy_ops ?_
        refine o_v hf hh (yv_move rfl) ?_; clear hf a; intro a hf
        refine o_v hf hh (y_add rfl rfl) ?_; clear hf a; intro a hf
        refine o_v hf hh (yv_assign rfl) ?_; clear hf a; intro a hf
        refine ops_end ?_
        refine then_n ?_
        first
          | (rw [if_pos (by assumption)] at hst
             exact ⟨k + 1, ⟨by omega, hf.head ⟨rfl, congrArg (fun z => some (Value.int IntKind.i64 z)) (by rw [hst]; push_cast; rfl), True.intro⟩ (Keep.cons rfl (Keep.cons rfl (Keep.cons rfl (Keep.cons rfl (Keep.cons rfl (Keep.cons rfl (Keep.cons rfl (Keep.cons rfl (Keep.cons rfl (Keep.cons rfl (Keep.cons rfl (Keep.cons rfl (Keep.cons rfl (Keep.cons rfl (Keep.cons rfl (Keep.cons rfl (Keep.cons rfl (Keep.cons rfl (Keep.cons rfl (Keep.cons rfl (Keep.app rfl (Keep.rm rfl Keep.base)))))))))))))))))))))), hh⟩, by omega⟩)
          | (rw [if_neg (by simp_all)] at hst
             exact ⟨k + 1, ⟨by omega, hf.head ⟨rfl, congrArg (fun z => some (Value.int IntKind.i64 z)) (by rw [hst]; rfl), True.intro⟩ (Keep.cons rfl (Keep.cons rfl (Keep.cons rfl (Keep.cons rfl (Keep.cons rfl (Keep.cons rfl (Keep.cons rfl (Keep.cons rfl (Keep.cons rfl (Keep.cons rfl (Keep.cons rfl (Keep.cons rfl (Keep.cons rfl (Keep.cons rfl (Keep.cons rfl (Keep.cons rfl (Keep.cons rfl (Keep.cons rfl (Keep.cons rfl (Keep.cons rfl (Keep.app rfl (Keep.rm rfl Keep.base)))))))))))))))))))))), hh⟩, by omega⟩)
          | omega
       ·have hG12 := hg12; try simp only [gS] at hG12
        refine sy_skip ?_
        refine blk_n ?_
        refine then_n ?_
        refine sy_ops ?_
        refine o_v hf hh (yv_move rfl) ?_; clear hf a; intro a hf
        refine o_v hf hh (y_add rfl rfl) ?_; clear hf a; intro a hf
        refine o_v hf hh (yv_assign rfl) ?_; clear hf a; intro a hf
        refine ops_end ?_
        refine then_n ?_
        first
          | (rw [if_pos (by assumption)] at hst
             exact ⟨k + 1, ⟨by omega, hf.head ⟨rfl, congrArg (fun z => some (Value.int IntKind.i64 z)) (by rw [hst]; push_cast; rfl), True.intro⟩ (Keep.cons rfl (Keep.cons rfl (Keep.cons rfl (Keep.cons rfl (Keep.cons rfl (Keep.cons rfl (Keep.cons rfl (Keep.cons rfl (Keep.cons rfl (Keep.cons rfl (Keep.cons rfl (Keep.cons rfl (Keep.cons rfl (Keep.cons rfl (Keep.cons rfl (Keep.cons rfl (Keep.cons rfl (Keep.app rfl (Keep.rm rfl Keep.base))))))))))))))))))), hh⟩, by omega⟩)
          | (rw [if_neg (by simp_all)] at hst
             exact ⟨k + 1, ⟨by omega, hf.head ⟨rfl, congrArg (fun z => some (Value.int IntKind.i64 z)) (by rw [hst]; rfl), True.intro⟩ (Keep.cons rfl (Keep.cons rfl (Keep.cons rfl (Keep.cons rfl (Keep.cons rfl (Keep.cons rfl (Keep.cons rfl (Keep.cons rfl (Keep.cons rfl (Keep.cons rfl (Keep.cons rfl (Keep.cons rfl (Keep.cons rfl (Keep.cons rfl (Keep.cons rfl (Keep.cons rfl (Keep.cons rfl (Keep.app rfl (Keep.rm rfl Keep.base))))))))))))))))))), hh⟩, by omega⟩)
          | omega
     ·have hG4 := hg4; try simp only [gS] at hG4
      refine sy_exit ?_
      refine then_e ?_
      refine then_e ?_
      refine blk_e ?_
      refine then_n ?_
      refine sy_seq ?_
      obtain rfl : k = L.length := by omega
      rw [List.take_length] at hf
      have hbl := gatN_le L rt b
      have hsb := setF_1024 (gatP L rt al) (show b ≤ 10 by omega)
      have hse : setF (gatP L rt al) (b + 1) = if gatP L rt al b then setF (gatP L rt al) b + 2 ^ b else setF (gatP L rt al) b := rfl
      refine sy_ops ?_
      refine o_v hf hh (yv_move rfl) ?_; clear hf a; intro a hf
      refine o_v hf hh (yv_move rfl) ?_; clear hf a; intro a hf
      refine o_v hf hh (yv_len Tryz.se_64 rfl) ?_; clear hf a; intro a hf
      refine o_v hf hh (yv_bin rfl rfl rfl) ?_; clear hf a; intro a hf
      refine o_v hf hh (yv_move rfl) ?_; clear hf a; intro a hf
      refine guard_split hf (t := 42) rfl (fun hg14 => ?_) (fun hg14 => ?_)
      ·have hG14 := hg14; try simp only [gS] at hG14
       refine o_off hf ?_; clear hf a; intro a hf
       refine o_off hf ?_; clear hf a; intro a hf
       refine o_off hf ?_; clear hf a; intro a hf
       refine o_off hf ?_; clear hf a; intro a hf
       refine o_off hf ?_; clear hf a; intro a hf
       refine o_off hf ?_; clear hf a; intro a hf
       refine o_v hf hh (y_pt rfl rfl) ?_; clear hf a; intro a hf
       refine o_end ?_
       refine c_t hf ?_
       have kp := fun w => p66 b (by omega) w
       obtain ⟨q, hq⟩ : ∃ z : Nat, z = 2 ^ b := ⟨_, rfl⟩
       have hqb : q ≤ 1024 := hq ▸ pow_le_10 (by omega)
       rw [← hq] at kp hse
       refine sy_ops ?_
       refine o_v hf hh (yv_move rfl) ?_; clear hf a; intro a hf
       refine o_v hf hh (yv_move rfl) ?_; clear hf a; intro a hf
       refine o_call hf Tryz.en_62 rfl rfl rfl (kp _) ?_; clear hf a; intro v a w hR hf
       obtain ⟨rfl, hx⟩ := hR; replace hh := hh.more hx; clear hx
       refine ops_v hf hh (yv_cast (yv_add rfl rfl (by omega) (by omega)) (intv (b := ((setF (gatP L rt al) b + q : Nat) : Int)) (by omega))) (.inl rfl) rfl rfl rfl ?_; clear hf a; intro a hf
       refine o_v hf hh (yv_assign rfl) ?_; clear hf a; intro a hf
       refine ops_end ?_
       refine blk_n ?_
       refine then_n ?_
       refine sy_ops ?_
       refine o_v hf hh (yv_move rfl) ?_; clear hf a; intro a hf
       refine o_v hf hh (y_add rfl rfl) ?_; clear hf a; intro a hf
       refine o_v hf hh (yv_assign rfl) ?_; clear hf a; intro a hf
       refine ops_end ?_
       refine then_n ?_
       first
         | (rw [if_pos (by first | exact gatP_1 (by omega) | exact gatP_2 (by omega) (by assumption))] at hse
            exact ⟨b + 1, ⟨by omega, hf.head ⟨rfl, congrArg (fun z => some (Value.int IntKind.i64 z)) (by rw [hse]), True.intro⟩ (Keep.cons rfl (Keep.cons rfl (Keep.cons rfl (Keep.cons rfl (Keep.cons rfl (Keep.cons rfl (Keep.cons rfl (Keep.cons rfl (Keep.cons rfl (Keep.cons rfl (Keep.cons rfl (Keep.cons rfl (Keep.cons rfl (Keep.cons rfl (Keep.cons rfl (Keep.cons rfl (Keep.cons rfl (Keep.cons rfl (Keep.cons rfl (Keep.cons rfl (Keep.cons rfl (Keep.cons rfl (Keep.cons rfl (Keep.cons rfl (Keep.app rfl (Keep.rm rfl (Keep.cons rfl (Keep.cons rfl (Keep.cons rfl (Keep.cons rfl (Keep.app rfl (Keep.rm rfl Keep.base)))))))))))))))))))))))))))))))), hh⟩, by omega⟩)
         | (rw [if_neg (by rw [gatP_3 (by omega) (by first | (left; omega) | (right; assumption))]; decide)] at hse
            exact ⟨b + 1, ⟨by omega, hf.head ⟨rfl, congrArg (fun z => some (Value.int IntKind.i64 z)) (by rw [hse]), True.intro⟩ (Keep.cons rfl (Keep.cons rfl (Keep.cons rfl (Keep.cons rfl (Keep.cons rfl (Keep.cons rfl (Keep.cons rfl (Keep.cons rfl (Keep.cons rfl (Keep.cons rfl (Keep.cons rfl (Keep.cons rfl (Keep.cons rfl (Keep.cons rfl (Keep.cons rfl (Keep.cons rfl (Keep.cons rfl (Keep.cons rfl (Keep.cons rfl (Keep.cons rfl (Keep.cons rfl (Keep.cons rfl (Keep.cons rfl (Keep.cons rfl (Keep.app rfl (Keep.rm rfl (Keep.cons rfl (Keep.cons rfl (Keep.cons rfl (Keep.cons rfl (Keep.app rfl (Keep.rm rfl Keep.base)))))))))))))))))))))))))))))))), hh⟩, by omega⟩)
         | omega
      ·have hG14 := hg14; try simp only [gS] at hG14
       refine o_v hf hh (yv_move rfl) ?_; clear hf a; intro a hf
       refine o_v hf hh (yv_bin rfl rfl rfl) ?_; clear hf a; intro a hf
       refine o_v hf hh (yv_move rfl) ?_; clear hf a; intro a hf
       refine guard_split hf (t := 45) rfl (fun hg18 => ?_) (fun hg18 => ?_)
       ·have hG18 := hg18; try simp only [gS] at hG18
        refine o_v hf hh (yv_move rfl) ?_; clear hf a; intro a hf
        refine o_v hf hh (yv_not rfl) ?_; clear hf a; intro a hf
        refine o_v hf hh (y_pt rfl rfl) ?_; clear hf a; intro a hf
        refine o_v hf hh (y_pf rfl rfl) ?_; clear hf a; intro a hf
        refine o_end ?_
        refine sy_cond hf rfl (fun hg20 => ?_) (fun hg20 => ?_)
        ·have hG20 := hg20; try simp only [gS] at hG20
         have kp := fun w => p66 b (by omega) w
         obtain ⟨q, hq⟩ : ∃ z : Nat, z = 2 ^ b := ⟨_, rfl⟩
         have hqb : q ≤ 1024 := hq ▸ pow_le_10 (by omega)
         rw [← hq] at kp hse
         refine sy_ops ?_
         refine o_v hf hh (yv_move rfl) ?_; clear hf a; intro a hf
         refine o_v hf hh (yv_move rfl) ?_; clear hf a; intro a hf
         refine o_call hf Tryz.en_62 rfl rfl rfl (kp _) ?_; clear hf a; intro v a w hR hf
         obtain ⟨rfl, hx⟩ := hR; replace hh := hh.more hx; clear hx
         refine ops_v hf hh (yv_cast (yv_add rfl rfl (by omega) (by omega)) (intv (b := ((setF (gatP L rt al) b + q : Nat) : Int)) (by omega))) (.inl rfl) rfl rfl rfl ?_; clear hf a; intro a hf
         refine o_v hf hh (yv_assign rfl) ?_; clear hf a; intro a hf
         refine ops_end ?_
         refine blk_n ?_
         refine then_n ?_
         refine sy_ops ?_
         refine o_v hf hh (yv_move rfl) ?_; clear hf a; intro a hf
         refine o_v hf hh (y_add rfl rfl) ?_; clear hf a; intro a hf
         refine o_v hf hh (yv_assign rfl) ?_; clear hf a; intro a hf
         refine ops_end ?_
         refine then_n ?_
         first
           | (rw [if_pos (by first | exact gatP_1 (by omega) | exact gatP_2 (by omega) (by assumption))] at hse
              exact ⟨b + 1, ⟨by omega, hf.head ⟨rfl, congrArg (fun z => some (Value.int IntKind.i64 z)) (by rw [hse]), True.intro⟩ (Keep.cons rfl (Keep.cons rfl (Keep.cons rfl (Keep.cons rfl (Keep.cons rfl (Keep.cons rfl (Keep.cons rfl (Keep.cons rfl (Keep.cons rfl (Keep.cons rfl (Keep.cons rfl (Keep.cons rfl (Keep.cons rfl (Keep.cons rfl (Keep.cons rfl (Keep.cons rfl (Keep.cons rfl (Keep.cons rfl (Keep.cons rfl (Keep.cons rfl (Keep.cons rfl (Keep.cons rfl (Keep.cons rfl (Keep.cons rfl (Keep.app rfl (Keep.rm rfl (Keep.cons rfl (Keep.cons rfl (Keep.cons rfl (Keep.cons rfl (Keep.app rfl (Keep.rm rfl Keep.base)))))))))))))))))))))))))))))))), hh⟩, by omega⟩)
           | (rw [if_neg (by rw [gatP_3 (by omega) (by first | (left; omega) | (right; assumption))]; decide)] at hse
              exact ⟨b + 1, ⟨by omega, hf.head ⟨rfl, congrArg (fun z => some (Value.int IntKind.i64 z)) (by rw [hse]), True.intro⟩ (Keep.cons rfl (Keep.cons rfl (Keep.cons rfl (Keep.cons rfl (Keep.cons rfl (Keep.cons rfl (Keep.cons rfl (Keep.cons rfl (Keep.cons rfl (Keep.cons rfl (Keep.cons rfl (Keep.cons rfl (Keep.cons rfl (Keep.cons rfl (Keep.cons rfl (Keep.cons rfl (Keep.cons rfl (Keep.cons rfl (Keep.cons rfl (Keep.cons rfl (Keep.cons rfl (Keep.cons rfl (Keep.cons rfl (Keep.cons rfl (Keep.app rfl (Keep.rm rfl (Keep.cons rfl (Keep.cons rfl (Keep.cons rfl (Keep.cons rfl (Keep.app rfl (Keep.rm rfl Keep.base)))))))))))))))))))))))))))))))), hh⟩, by omega⟩)
           | omega
        ·have hG20 := hg20; try simp only [gS] at hG20
         refine sy_skip ?_
         refine blk_n ?_
         refine then_n ?_
         refine sy_ops ?_
         refine o_v hf hh (yv_move rfl) ?_; clear hf a; intro a hf
         refine o_v hf hh (y_add rfl rfl) ?_; clear hf a; intro a hf
         refine o_v hf hh (yv_assign rfl) ?_; clear hf a; intro a hf
         refine ops_end ?_
         refine then_n ?_
         first
           | (rw [if_pos (by first | exact gatP_1 (by omega) | exact gatP_2 (by omega) (by assumption))] at hse
              exact ⟨b + 1, ⟨by omega, hf.head ⟨rfl, congrArg (fun z => some (Value.int IntKind.i64 z)) (by rw [hse]), True.intro⟩ (Keep.cons rfl (Keep.cons rfl (Keep.cons rfl (Keep.cons rfl (Keep.cons rfl (Keep.cons rfl (Keep.cons rfl (Keep.cons rfl (Keep.cons rfl (Keep.cons rfl (Keep.cons rfl (Keep.cons rfl (Keep.cons rfl (Keep.cons rfl (Keep.cons rfl (Keep.cons rfl (Keep.cons rfl (Keep.cons rfl (Keep.cons rfl (Keep.app rfl (Keep.rm rfl (Keep.cons rfl (Keep.cons rfl (Keep.cons rfl (Keep.cons rfl (Keep.app rfl (Keep.rm rfl Keep.base))))))))))))))))))))))))))), hh⟩, by omega⟩)
           | (rw [if_neg (by rw [gatP_3 (by omega) (by first | (left; omega) | (right; assumption))]; decide)] at hse
              exact ⟨b + 1, ⟨by omega, hf.head ⟨rfl, congrArg (fun z => some (Value.int IntKind.i64 z)) (by rw [hse]), True.intro⟩ (Keep.cons rfl (Keep.cons rfl (Keep.cons rfl (Keep.cons rfl (Keep.cons rfl (Keep.cons rfl (Keep.cons rfl (Keep.cons rfl (Keep.cons rfl (Keep.cons rfl (Keep.cons rfl (Keep.cons rfl (Keep.cons rfl (Keep.cons rfl (Keep.cons rfl (Keep.cons rfl (Keep.cons rfl (Keep.cons rfl (Keep.cons rfl (Keep.app rfl (Keep.rm rfl (Keep.cons rfl (Keep.cons rfl (Keep.cons rfl (Keep.cons rfl (Keep.app rfl (Keep.rm rfl Keep.base))))))))))))))))))))))))))), hh⟩, by omega⟩)
           | omega
       ·have hG18 := hg18; try simp only [gS] at hG18
        refine o_off hf ?_; clear hf a; intro a hf
        refine o_off hf ?_; clear hf a; intro a hf
        refine o_v hf hh (y_pf rfl rfl) ?_; clear hf a; intro a hf
        refine o_v hf hh (y_pf rfl rfl) ?_; clear hf a; intro a hf
        refine o_end ?_
        refine c_f hf ?_
        refine sy_skip ?_
        refine blk_n ?_
        refine then_n ?_
        refine sy_ops ?_
        refine o_v hf hh (yv_move rfl) ?_; clear hf a; intro a hf
        refine o_v hf hh (y_add rfl rfl) ?_; clear hf a; intro a hf
        refine o_v hf hh (yv_assign rfl) ?_; clear hf a; intro a hf
        refine ops_end ?_
        refine then_n ?_
        first
          | (rw [if_pos (by first | exact gatP_1 (by omega) | exact gatP_2 (by omega) (by assumption))] at hse
             exact ⟨b + 1, ⟨by omega, hf.head ⟨rfl, congrArg (fun z => some (Value.int IntKind.i64 z)) (by rw [hse]), True.intro⟩ (Keep.cons rfl (Keep.cons rfl (Keep.cons rfl (Keep.cons rfl (Keep.cons rfl (Keep.cons rfl (Keep.cons rfl (Keep.cons rfl (Keep.cons rfl (Keep.cons rfl (Keep.cons rfl (Keep.cons rfl (Keep.cons rfl (Keep.cons rfl (Keep.cons rfl (Keep.cons rfl (Keep.cons rfl (Keep.cons rfl (Keep.cons rfl (Keep.app rfl (Keep.rm rfl (Keep.cons rfl (Keep.cons rfl (Keep.cons rfl (Keep.cons rfl (Keep.app rfl (Keep.rm rfl Keep.base))))))))))))))))))))))))))), hh⟩, by omega⟩)
          | (rw [if_neg (by rw [gatP_3 (by omega) (by first | (left; omega) | (right; assumption))]; decide)] at hse
             exact ⟨b + 1, ⟨by omega, hf.head ⟨rfl, congrArg (fun z => some (Value.int IntKind.i64 z)) (by rw [hse]), True.intro⟩ (Keep.cons rfl (Keep.cons rfl (Keep.cons rfl (Keep.cons rfl (Keep.cons rfl (Keep.cons rfl (Keep.cons rfl (Keep.cons rfl (Keep.cons rfl (Keep.cons rfl (Keep.cons rfl (Keep.cons rfl (Keep.cons rfl (Keep.cons rfl (Keep.cons rfl (Keep.cons rfl (Keep.cons rfl (Keep.cons rfl (Keep.cons rfl (Keep.app rfl (Keep.rm rfl (Keep.cons rfl (Keep.cons rfl (Keep.cons rfl (Keep.cons rfl (Keep.app rfl (Keep.rm rfl Keep.base))))))))))))))))))))))))))), hh⟩, by omega⟩)
          | omega
   ·have hG2 := hg2; try simp only [gS] at hG2
    refine sy_exit ?_
    refine then_e ?_
    refine then_e ?_
    refine blk_e ?_
    refine then_n ?_
    refine sy_sq ?_
    refine o_v hf hh (yv_move rfl) ?_; clear hf a; intro a hf
    refine o_v hf hh (yv_assign rfl) ?_; clear hf a; intro a hf
    refine o_end ?_
    refine sy_ret ?_
    refine ret_r hf rfl rfl ?_
    obtain rfl : b = 10 := by omega
    exact ⟨rfl, hh.ext⟩
theorem r51 (L : List (Nat × Nat)) (oa : Option Addr) (cp : Nat) (u : World) (hv0 : ValsAt u oa (encP L)) (hln : L.length ≤ 3000) (hlt : ∀ x ∈ L, x.1 < 1024 ∧ x.2 < 1024) (rt : Bool) (mk : Nat) (hmk : mk ≤ 60) : Calls Tryz.prog 51 #[.slice oa L.length cp, .bool rt, .int .i64 (mk : Nat)] u (Ret fun v w' => v = .int .i64 (toldN L (if rt then 1 else 0) mk : Nat) ∧ Ext [] u w') := by
  refine calls_of Tryz.func51 rfl rfl (fun a hf => ?_)
  have hh := Hp.init u []
  refine sy_sq ?_
  refine o_v hf hh (yv_assign rfl) ?_; clear hf a; intro a hf
  refine o_end ?_
  refine sy_sq ?_
  refine o_v hf hh (yv_assign rfl) ?_; clear hf a; intro a hf
  refine o_end ?_
  refine sy_seq ?_
  refine sy_sq ?_
  refine o_v hf hh (yv_assign rfl) ?_; clear hf a; intro a hf
  refine o_end ?_
  refine sy_block ?_
  refine sy_loopF (σ := Nat) [7, 8, 9, 10, 11, 12, 13, 14, 15, 16, 17, 18, 19, 20, 21, 22, 23, 24, 25, 26, 27, 28, 29, 30, 31, 32, 33, 34, 35, 36, 37, 38, 39] (fun i => [(8, .int .i64 (i : Nat)), (7, .int .i64 (gatN (L.take i) rt mk : Nat))]) (fun i => i ≤ L.length) (fun i => L.length - i) (0) hf hh ?_ ?_ ?_
  · repeat' (first | exact True.intro | refine And.intro rfl ?_)
  · exact Nat.zero_le _
  ·rintro i a w hi hf hh
   have hbl := gatN_le (L.take i) rt mk
   rw [List.length_take] at hbl
   refine sy_seq ?_
   refine sy_sq ?_
   refine o_v hf hh (yv_move rfl) ?_; clear hf a; intro a hf
   refine o_v hf hh (yv_move rfl) ?_; clear hf a; intro a hf
   refine o_v hf hh (yv_len Tryz.se_64 rfl) ?_; clear hf a; intro a hf
   refine o_v hf hh (yv_bin rfl rfl rfl) ?_; clear hf a; intro a hf
   refine o_end ?_
   refine sy_cond hf rfl (fun hg2 => ?_) (fun hg2 => ?_)
   ·have hG2 := hg2; try simp only [gS] at hG2
    refine sy_skip ?_
    refine then_n ?_
    refine sy_seq ?_
    refine sy_block ?_
    refine sy_seq ?_
    obtain ⟨x, hx⟩ := ex_of (l := L) (i := i) (by omega)
    obtain ⟨g1, g2⟩ := encP_get L i x hx
    obtain ⟨blk, off, c, Tx, fr, e1, hbx, hcx⟩ := hv0.resolve_left (by intro e; rw [e] at g1; simp at g1)
    have y1 := hcx _ _ g1
    have y2 := hcx _ _ g2
    obtain ⟨b1, b2⟩ := hlt x (List.mem_of_getElem? hx)
    subst e1
    have f1 : c[off + ((i : Nat) : Int).toNat * 2 + 0]? = some (.int .i64 ((x.1 : Nat) : Int)) := by rw [Int.toNat_natCast]; exact y1
    have f2 : c[off + ((i : Nat) : Int).toNat * 2 + 1]? = some (.int .i64 ((x.2 : Nat) : Int)) := by rw [Int.toNat_natCast, Nat.add_assoc]; exact y2
    have hst := gatN_snoc (rt := rt) (b := mk) hx
    refine sy_ops ?_
    refine o_v hf hh (yv_move rfl) ?_; clear hf a; intro a hf
    refine o_v hf hh (yv_not rfl) ?_; clear hf a; intro a hf
    refine o_v hf hh (yv_move rfl) ?_; clear hf a; intro a hf
    refine guard_split hf (t := 17) rfl (fun hg4 => ?_) (fun hg4 => ?_)
    ·have hG4 := hg4; try simp only [gS] at hG4
     refine o_v hf hh (yv_move rfl) ?_; clear hf a; intro a hf
     refine o_v hf hh (yv_move rfl) ?_; clear hf a; intro a hf
     refine o_v hf hh (y_ix Tryz.se_64 rfl rfl) ?_; clear hf a; intro a hf
     refine o_v hf hh (yv_fieldAddr Tryz.fo_73_0 rfl) ?_; clear hf a; intro a hf
     refine o_v hf hh (y_ld Tryz.sc_3 rfl) ?_; clear hf a; intro a hf
     refine o_v hf hh (yv_move rfl) ?_; clear hf a; intro a hf
     refine o_call hf Tryz.en_67 rfl rfl rfl (c71 x.1 mk (by omega) hmk _) ?_; clear hf a; intro v a w hR hf
     obtain ⟨rfl, hx⟩ := hR; replace hh := hh.more hx; clear hx
     refine o_v hf hh (y_pt rfl rfl) ?_; clear hf a; intro a hf
     refine o_v hf hh (yv_move rfl) ?_; clear hf a; intro a hf
     refine guard_split hf (t := 26) rfl (fun hg6 => ?_) (fun hg6 => ?_)
     ·have hG6 := hg6; try simp only [gS] at hG6
      refine o_off hf ?_; clear hf a; intro a hf
      refine o_off hf ?_; clear hf a; intro a hf
      refine o_off hf ?_; clear hf a; intro a hf
      refine o_off hf ?_; clear hf a; intro a hf
      refine o_off hf ?_; clear hf a; intro a hf
      refine o_off hf ?_; clear hf a; intro a hf
      refine o_off hf ?_; clear hf a; intro a hf
      refine o_off hf ?_; clear hf a; intro a hf
      refine o_off hf ?_; clear hf a; intro a hf
      refine o_off hf ?_; clear hf a; intro a hf
      refine o_v hf hh (y_pt rfl rfl) ?_; clear hf a; intro a hf
      refine o_end ?_
      refine c_t hf ?_
      refine sy_ops ?_
      refine o_v hf hh (yv_move rfl) ?_; clear hf a; intro a hf
      refine o_v hf hh (y_add rfl rfl) ?_; clear hf a; intro a hf
      refine o_v hf hh (yv_assign rfl) ?_; clear hf a; intro a hf
      refine ops_end ?_
      refine blk_n ?_
      refine then_n ?_
      refine sy_ops ?_
      refine o_v hf hh (yv_move rfl) ?_; clear hf a; intro a hf
      refine o_v hf hh (y_add rfl rfl) ?_; clear hf a; intro a hf
      refine o_v hf hh (yv_assign rfl) ?_; clear hf a; intro a hf
      refine ops_end ?_
      refine then_n ?_
      first
        | (rw [if_pos (by unfold selB; simp_all)] at hst
           exact ⟨i + 1, ⟨by omega, hf.head ⟨rfl, congrArg (fun z => some (Value.int IntKind.i64 z)) (by rw [hst]; push_cast; rfl), True.intro⟩ (Keep.cons rfl (Keep.cons rfl (Keep.cons rfl (Keep.cons rfl (Keep.cons rfl (Keep.cons rfl (Keep.cons rfl (Keep.cons rfl (Keep.cons rfl (Keep.cons rfl (Keep.cons rfl (Keep.cons rfl (Keep.cons rfl (Keep.cons rfl (Keep.cons rfl (Keep.cons rfl (Keep.cons rfl (Keep.cons rfl (Keep.cons rfl (Keep.cons rfl (Keep.cons rfl (Keep.cons rfl (Keep.cons rfl (Keep.cons rfl (Keep.cons rfl (Keep.cons rfl (Keep.cons rfl (Keep.cons rfl (Keep.cons rfl (Keep.cons rfl (Keep.cons rfl (Keep.cons rfl (Keep.cons rfl (Keep.app rfl (Keep.rm rfl Keep.base))))))))))))))))))))))))))))))))))), hh⟩, by omega⟩)
        | (rw [if_neg (by unfold selB; simp_all)] at hst
           exact ⟨i + 1, ⟨by omega, hf.head ⟨rfl, congrArg (fun z => some (Value.int IntKind.i64 z)) (by rw [hst]; rfl), True.intro⟩ (Keep.cons rfl (Keep.cons rfl (Keep.cons rfl (Keep.cons rfl (Keep.cons rfl (Keep.cons rfl (Keep.cons rfl (Keep.cons rfl (Keep.cons rfl (Keep.cons rfl (Keep.cons rfl (Keep.cons rfl (Keep.cons rfl (Keep.cons rfl (Keep.cons rfl (Keep.cons rfl (Keep.cons rfl (Keep.cons rfl (Keep.cons rfl (Keep.cons rfl (Keep.cons rfl (Keep.cons rfl (Keep.cons rfl (Keep.cons rfl (Keep.cons rfl (Keep.cons rfl (Keep.cons rfl (Keep.cons rfl (Keep.cons rfl (Keep.cons rfl (Keep.cons rfl (Keep.cons rfl (Keep.cons rfl (Keep.app rfl (Keep.rm rfl Keep.base))))))))))))))))))))))))))))))))))), hh⟩, by omega⟩)
        | omega
     ·have hG6 := hg6; try simp only [gS] at hG6
      refine o_v hf hh (yv_move rfl) ?_; clear hf a; intro a hf
      refine o_v hf hh (yv_move rfl) ?_; clear hf a; intro a hf
      refine guard_split hf (t := 28) rfl (fun hg8 => ?_) (fun hg8 => ?_)
      ·have hG8 := hg8; try simp only [gS] at hG8
       refine o_v hf hh (yv_move rfl) ?_; clear hf a; intro a hf
       refine o_v hf hh (yv_move rfl) ?_; clear hf a; intro a hf
       refine o_v hf hh (y_ix Tryz.se_64 rfl rfl) ?_; clear hf a; intro a hf
       refine o_v hf hh (yv_fieldAddr Tryz.fo_73_1 rfl) ?_; clear hf a; intro a hf
       refine o_v hf hh (y_ld Tryz.sc_3 rfl) ?_; clear hf a; intro a hf
       refine o_v hf hh (yv_move rfl) ?_; clear hf a; intro a hf
       refine o_call hf Tryz.en_67 rfl rfl rfl (c71 x.2 mk (by omega) hmk _) ?_; clear hf a; intro v a w hR hf
       obtain ⟨rfl, hx⟩ := hR; replace hh := hh.more hx; clear hx
       refine o_v hf hh (y_pt rfl rfl) ?_; clear hf a; intro a hf
       refine o_v hf hh (y_pf rfl rfl) ?_; clear hf a; intro a hf
       refine o_end ?_
       refine sy_cond hf rfl (fun hg10 => ?_) (fun hg10 => ?_)
       ·have hG10 := hg10; try simp only [gS] at hG10
        refine sy_ops ?_
        refine o_v hf hh (yv_move rfl) ?_; clear hf a; intro a hf
        refine o_v hf hh (y_add rfl rfl) ?_; clear hf a; intro a hf
        refine o_v hf hh (yv_assign rfl) ?_; clear hf a; intro a hf
        refine ops_end ?_
        refine blk_n ?_
        refine then_n ?_
        refine sy_ops ?_
        refine o_v hf hh (yv_move rfl) ?_; clear hf a; intro a hf
        refine o_v hf hh (y_add rfl rfl) ?_; clear hf a; intro a hf
        refine o_v hf hh (yv_assign rfl) ?_; clear hf a; intro a hf
        refine ops_end ?_
        refine then_n ?_
        first
          | (rw [if_pos (by unfold selB; simp_all)] at hst
             exact ⟨i + 1, ⟨by omega, hf.head ⟨rfl, congrArg (fun z => some (Value.int IntKind.i64 z)) (by rw [hst]; push_cast; rfl), True.intro⟩ (Keep.cons rfl (Keep.cons rfl (Keep.cons rfl (Keep.cons rfl (Keep.cons rfl (Keep.cons rfl (Keep.cons rfl (Keep.cons rfl (Keep.cons rfl (Keep.cons rfl (Keep.cons rfl (Keep.cons rfl (Keep.cons rfl (Keep.cons rfl (Keep.cons rfl (Keep.cons rfl (Keep.cons rfl (Keep.cons rfl (Keep.cons rfl (Keep.cons rfl (Keep.cons rfl (Keep.cons rfl (Keep.cons rfl (Keep.cons rfl (Keep.cons rfl (Keep.cons rfl (Keep.cons rfl (Keep.cons rfl (Keep.cons rfl (Keep.cons rfl (Keep.cons rfl (Keep.cons rfl (Keep.cons rfl (Keep.app rfl (Keep.rm rfl Keep.base))))))))))))))))))))))))))))))))))), hh⟩, by omega⟩)
          | (rw [if_neg (by unfold selB; simp_all)] at hst
             exact ⟨i + 1, ⟨by omega, hf.head ⟨rfl, congrArg (fun z => some (Value.int IntKind.i64 z)) (by rw [hst]; rfl), True.intro⟩ (Keep.cons rfl (Keep.cons rfl (Keep.cons rfl (Keep.cons rfl (Keep.cons rfl (Keep.cons rfl (Keep.cons rfl (Keep.cons rfl (Keep.cons rfl (Keep.cons rfl (Keep.cons rfl (Keep.cons rfl (Keep.cons rfl (Keep.cons rfl (Keep.cons rfl (Keep.cons rfl (Keep.cons rfl (Keep.cons rfl (Keep.cons rfl (Keep.cons rfl (Keep.cons rfl (Keep.cons rfl (Keep.cons rfl (Keep.cons rfl (Keep.cons rfl (Keep.cons rfl (Keep.cons rfl (Keep.cons rfl (Keep.cons rfl (Keep.cons rfl (Keep.cons rfl (Keep.cons rfl (Keep.cons rfl (Keep.app rfl (Keep.rm rfl Keep.base))))))))))))))))))))))))))))))))))), hh⟩, by omega⟩)
          | omega
       ·have hG10 := hg10; try simp only [gS] at hG10
        refine sy_skip ?_
        refine blk_n ?_
        refine then_n ?_
        refine sy_ops ?_
        refine o_v hf hh (yv_move rfl) ?_; clear hf a; intro a hf
        refine o_v hf hh (y_add rfl rfl) ?_; clear hf a; intro a hf
        refine o_v hf hh (yv_assign rfl) ?_; clear hf a; intro a hf
        refine ops_end ?_
        refine then_n ?_
        first
          | (rw [if_pos (by unfold selB; simp_all)] at hst
             exact ⟨i + 1, ⟨by omega, hf.head ⟨rfl, congrArg (fun z => some (Value.int IntKind.i64 z)) (by rw [hst]; push_cast; rfl), True.intro⟩ (Keep.cons rfl (Keep.cons rfl (Keep.cons rfl (Keep.cons rfl (Keep.cons rfl (Keep.cons rfl (Keep.cons rfl (Keep.cons rfl (Keep.cons rfl (Keep.cons rfl (Keep.cons rfl (Keep.cons rfl (Keep.cons rfl (Keep.cons rfl (Keep.cons rfl (Keep.cons rfl (Keep.cons rfl (Keep.cons rfl (Keep.cons rfl (Keep.cons rfl (Keep.cons rfl (Keep.cons rfl (Keep.cons rfl (Keep.cons rfl (Keep.cons rfl (Keep.cons rfl (Keep.cons rfl (Keep.cons rfl (Keep.cons rfl (Keep.cons rfl (Keep.app rfl (Keep.rm rfl Keep.base)))))))))))))))))))))))))))))))), hh⟩, by omega⟩)
          | (rw [if_neg (by unfold selB; simp_all)] at hst
             exact ⟨i + 1, ⟨by omega, hf.head ⟨rfl, congrArg (fun z => some (Value.int IntKind.i64 z)) (by rw [hst]; rfl), True.intro⟩ (Keep.cons rfl (Keep.cons rfl (Keep.cons rfl (Keep.cons rfl (Keep.cons rfl (Keep.cons rfl (Keep.cons rfl (Keep.cons rfl (Keep.cons rfl (Keep.cons rfl (Keep.cons rfl (Keep.cons rfl (Keep.cons rfl (Keep.cons rfl (Keep.cons rfl (Keep.cons rfl (Keep.cons rfl (Keep.cons rfl (Keep.cons rfl (Keep.cons rfl (Keep.cons rfl (Keep.cons rfl (Keep.cons rfl (Keep.cons rfl (Keep.cons rfl (Keep.cons rfl (Keep.cons rfl (Keep.cons rfl (Keep.cons rfl (Keep.cons rfl (Keep.app rfl (Keep.rm rfl Keep.base)))))))))))))))))))))))))))))))), hh⟩, by omega⟩)
          | omega
      ·have hG8 := hg8; try simp only [gS] at hG8
       refine o_off hf ?_; clear hf a; intro a hf
       refine o_off hf ?_; clear hf a; intro a hf
       refine o_off hf ?_; clear hf a; intro a hf
       refine o_off hf ?_; clear hf a; intro a hf
       refine o_off hf ?_; clear hf a; intro a hf
       refine o_off hf ?_; clear hf a; intro a hf
       refine o_off hf ?_; clear hf a; intro a hf
       refine o_v hf hh (y_pf rfl rfl) ?_; clear hf a; intro a hf
       refine o_v hf hh (y_pf rfl rfl) ?_; clear hf a; intro a hf
       refine o_end ?_
       refine c_f hf ?_
       refine sy_skip ?_
       refine blk_n ?_
       refine then_n ?_
       refine sy_ops ?_
       refine o_v hf hh (yv_move rfl) ?_; clear hf a; intro a hf
       refine o_v hf hh (y_add rfl rfl) ?_; clear hf a; intro a hf
       refine o_v hf hh (yv_assign rfl) ?_; clear hf a; intro a hf
       refine ops_end ?_
       refine then_n ?_
       first
         | (rw [if_pos (by unfold selB; simp_all)] at hst
            exact ⟨i + 1, ⟨by omega, hf.head ⟨rfl, congrArg (fun z => some (Value.int IntKind.i64 z)) (by rw [hst]; push_cast; rfl), True.intro⟩ (Keep.cons rfl (Keep.cons rfl (Keep.cons rfl (Keep.cons rfl (Keep.cons rfl (Keep.cons rfl (Keep.cons rfl (Keep.cons rfl (Keep.cons rfl (Keep.cons rfl (Keep.cons rfl (Keep.cons rfl (Keep.cons rfl (Keep.cons rfl (Keep.cons rfl (Keep.cons rfl (Keep.cons rfl (Keep.cons rfl (Keep.cons rfl (Keep.cons rfl (Keep.cons rfl (Keep.cons rfl (Keep.cons rfl (Keep.cons rfl (Keep.cons rfl (Keep.cons rfl (Keep.cons rfl (Keep.cons rfl (Keep.cons rfl (Keep.cons rfl (Keep.app rfl (Keep.rm rfl Keep.base)))))))))))))))))))))))))))))))), hh⟩, by omega⟩)
         | (rw [if_neg (by unfold selB; simp_all)] at hst
            exact ⟨i + 1, ⟨by omega, hf.head ⟨rfl, congrArg (fun z => some (Value.int IntKind.i64 z)) (by rw [hst]; rfl), True.intro⟩ (Keep.cons rfl (Keep.cons rfl (Keep.cons rfl (Keep.cons rfl (Keep.cons rfl (Keep.cons rfl (Keep.cons rfl (Keep.cons rfl (Keep.cons rfl (Keep.cons rfl (Keep.cons rfl (Keep.cons rfl (Keep.cons rfl (Keep.cons rfl (Keep.cons rfl (Keep.cons rfl (Keep.cons rfl (Keep.cons rfl (Keep.cons rfl (Keep.cons rfl (Keep.cons rfl (Keep.cons rfl (Keep.cons rfl (Keep.cons rfl (Keep.cons rfl (Keep.cons rfl (Keep.cons rfl (Keep.cons rfl (Keep.cons rfl (Keep.cons rfl (Keep.app rfl (Keep.rm rfl Keep.base)))))))))))))))))))))))))))))))), hh⟩, by omega⟩)
         | omega
    ·have hG4 := hg4; try simp only [gS] at hG4
     refine o_off hf ?_; clear hf a; intro a hf
     refine o_off hf ?_; clear hf a; intro a hf
     refine o_off hf ?_; clear hf a; intro a hf
     refine o_off hf ?_; clear hf a; intro a hf
     refine o_off hf ?_; clear hf a; intro a hf
     refine o_off hf ?_; clear hf a; intro a hf
     refine o_off hf ?_; clear hf a; intro a hf
     refine o_v hf hh (y_pf rfl rfl) ?_; clear hf a; intro a hf
     refine o_v hf hh (yv_move rfl) ?_; clear hf a; intro a hf
     refine o_v hf hh (yv_move rfl) ?_; clear hf a; intro a hf
     refine o_v hf hh (yv_move rfl) ?_; clear hf a; intro a hf
     refine guard_split hf (t := 28) rfl (fun hg12 => ?_) (fun hg12 => ?_)
     ·have hG12 := hg12; try simp only [gS] at hG12
      refine o_v hf hh (yv_move rfl) ?_; clear hf a; intro a hf
      refine o_v hf hh (yv_move rfl) ?_; clear hf a; intro a hf
      refine o_v hf hh (y_ix Tryz.se_64 rfl rfl) ?_; clear hf a; intro a hf
      refine o_v hf hh (yv_fieldAddr Tryz.fo_73_1 rfl) ?_; clear hf a; intro a hf
      refine o_v hf hh (y_ld Tryz.sc_3 rfl) ?_; clear hf a; intro a hf
      refine o_v hf hh (yv_move rfl) ?_; clear hf a; intro a hf
      refine o_call hf Tryz.en_67 rfl rfl rfl (c71 x.2 mk (by omega) hmk _) ?_; clear hf a; intro v a w hR hf
      obtain ⟨rfl, hx⟩ := hR; replace hh := hh.more hx; clear hx
      refine o_v hf hh (y_pt rfl rfl) ?_; clear hf a; intro a hf
      refine o_v hf hh (y_pf rfl rfl) ?_; clear hf a; intro a hf
      refine o_end ?_
      refine sy_cond hf rfl (fun hg14 => ?_) (fun hg14 => ?_)
      ·have hG14 := hg14; try simp only [gS] at hG14
       refine sy_ops ?_
       refine o_v hf hh (yv_move rfl) ?_; clear hf a; intro a hf
       refine o_v hf hh (y_add rfl rfl) ?_; clear hf a; intro a hf
       refine o_v hf hh (yv_assign rfl) ?_; clear hf a; intro a hf
       refine ops_end ?_
       refine blk_n ?_
       refine then_n ?_
       refine sy_ops ?_
       refine o_v hf hh (yv_move rfl) ?_; clear hf a; intro a hf
       refine o_v hf hh (y_add rfl rfl) ?_; clear hf a; intro a hf
       refine o_v hf hh (yv_assign rfl) ?_; clear hf a; intro a hf
       refine ops_end ?_
       refine then_n ?_
       first
         | (rw [if_pos (by unfold selB; simp_all)] at hst
            exact ⟨i + 1, ⟨by omega, hf.head ⟨rfl, congrArg (fun z => some (Value.int IntKind.i64 z)) (by rw [hst]; push_cast; rfl), True.intro⟩ (Keep.cons rfl (Keep.cons rfl (Keep.cons rfl (Keep.cons rfl (Keep.cons rfl (Keep.cons rfl (Keep.cons rfl (Keep.cons rfl (Keep.cons rfl (Keep.cons rfl (Keep.cons rfl (Keep.cons rfl (Keep.cons rfl (Keep.cons rfl (Keep.cons rfl (Keep.cons rfl (Keep.cons rfl (Keep.cons rfl (Keep.cons rfl (Keep.cons rfl (Keep.cons rfl (Keep.cons rfl (Keep.cons rfl (Keep.cons rfl (Keep.cons rfl (Keep.cons rfl (Keep.cons rfl (Keep.cons rfl (Keep.cons rfl (Keep.cons rfl (Keep.cons rfl (Keep.cons rfl (Keep.cons rfl (Keep.app rfl (Keep.rm rfl Keep.base))))))))))))))))))))))))))))))))))), hh⟩, by omega⟩)
         | (rw [if_neg (by unfold selB; simp_all)] at hst
            exact ⟨i + 1, ⟨by omega, hf.head ⟨rfl, congrArg (fun z => some (Value.int IntKind.i64 z)) (by rw [hst]; rfl), True.intro⟩ (Keep.cons rfl (Keep.cons rfl (Keep.cons rfl (Keep.cons rfl (Keep.cons rfl (Keep.cons rfl (Keep.cons rfl (Keep.cons rfl (Keep.cons rfl (Keep.cons rfl (Keep.cons rfl (Keep.cons rfl (Keep.cons rfl (Keep.cons rfl (Keep.cons rfl (Keep.cons rfl (Keep.cons rfl (Keep.cons rfl (Keep.cons rfl (Keep.cons rfl (Keep.cons rfl (Keep.cons rfl (Keep.cons rfl (Keep.cons rfl (Keep.cons rfl (Keep.cons rfl (Keep.cons rfl (Keep.cons rfl (Keep.cons rfl (Keep.cons rfl (Keep.cons rfl (Keep.cons rfl (Keep.cons rfl (Keep.app rfl (Keep.rm rfl Keep.base))))))))))))))))))))))))))))))))))), hh⟩, by omega⟩)
         | omega
      ·have hG14 := hg14; try simp only [gS] at hG14
       refine sy_skip ?_
       refine blk_n ?_
       refine then_n ?_
       refine sy_ops ?_
       refine o_v hf hh (yv_move rfl) ?_; clear hf a; intro a hf
       refine o_v hf hh (y_add rfl rfl) ?_; clear hf a; intro a hf
       refine o_v hf hh (yv_assign rfl) ?_; clear hf a; intro a hf
       refine ops_end ?_
       refine then_n ?_
       first
         | (rw [if_pos (by unfold selB; simp_all)] at hst
            exact ⟨i + 1, ⟨by omega, hf.head ⟨rfl, congrArg (fun z => some (Value.int IntKind.i64 z)) (by rw [hst]; push_cast; rfl), True.intro⟩ (Keep.cons rfl (Keep.cons rfl (Keep.cons rfl (Keep.cons rfl (Keep.cons rfl (Keep.cons rfl (Keep.cons rfl (Keep.cons rfl (Keep.cons rfl (Keep.cons rfl (Keep.cons rfl (Keep.cons rfl (Keep.cons rfl (Keep.cons rfl (Keep.cons rfl (Keep.cons rfl (Keep.cons rfl (Keep.cons rfl (Keep.cons rfl (Keep.cons rfl (Keep.cons rfl (Keep.cons rfl (Keep.cons rfl (Keep.cons rfl (Keep.cons rfl (Keep.cons rfl (Keep.cons rfl (Keep.cons rfl (Keep.cons rfl (Keep.cons rfl (Keep.app rfl (Keep.rm rfl Keep.base)))))))))))))))))))))))))))))))), hh⟩, by omega⟩)
         | (rw [if_neg (by unfold selB; simp_all)] at hst
            exact ⟨i + 1, ⟨by omega, hf.head ⟨rfl, congrArg (fun z => some (Value.int IntKind.i64 z)) (by rw [hst]; rfl), True.intro⟩ (Keep.cons rfl (Keep.cons rfl (Keep.cons rfl (Keep.cons rfl (Keep.cons rfl (Keep.cons rfl (Keep.cons rfl (Keep.cons rfl (Keep.cons rfl (Keep.cons rfl (Keep.cons rfl (Keep.cons rfl (Keep.cons rfl (Keep.cons rfl (Keep.cons rfl (Keep.cons rfl (Keep.cons rfl (Keep.cons rfl (Keep.cons rfl (Keep.cons rfl (Keep.cons rfl (Keep.cons rfl (Keep.cons rfl (Keep.cons rfl (Keep.cons rfl (Keep.cons rfl (Keep.cons rfl (Keep.cons rfl (Keep.cons rfl (Keep.cons rfl (Keep.app rfl (Keep.rm rfl Keep.base)))))))))))))))))))))))))))))))), hh⟩, by omega⟩)
         | omega
     ·have hG12 := hg12; try simp only [gS] at hG12
      refine o_off hf ?_; clear hf a; intro a hf
      refine o_off hf ?_; clear hf a; intro a hf
      refine o_off hf ?_; clear hf a; intro a hf
      refine o_off hf ?_; clear hf a; intro a hf
      refine o_off hf ?_; clear hf a; intro a hf
      refine o_off hf ?_; clear hf a; intro a hf
      refine o_off hf ?_; clear hf a; intro a hf
      refine o_v hf hh (y_pf rfl rfl) ?_; clear hf a; intro a hf
      refine o_v hf hh (y_pf rfl rfl) ?_; clear hf a; intro a hf
      refine o_end ?_
      refine c_f hf ?_
      refine sy_skip ?_
      refine blk_n ?_
      refine then_n ?_
      refine sy_ops ?_
      refine o_v hf hh (yv_move rfl) ?_; clear hf a; intro a hf
      refine o_v hf hh (y_add rfl rfl) ?_; clear hf a; intro a hf
      refine o_v hf hh (yv_assign rfl) ?_; clear hf a; intro a hf
      refine ops_end ?_
      refine then_n ?_
      first
        | (rw [if_pos (by unfold selB; simp_all)] at hst
           exact ⟨i + 1, ⟨by omega, hf.head ⟨rfl, congrArg (fun z => some (Value.int IntKind.i64 z)) (by rw [hst]; push_cast; rfl), True.intro⟩ (Keep.cons rfl (Keep.cons rfl (Keep.cons rfl (Keep.cons rfl (Keep.cons rfl (Keep.cons rfl (Keep.cons rfl (Keep.cons rfl (Keep.cons rfl (Keep.cons rfl (Keep.cons rfl (Keep.cons rfl (Keep.cons rfl (Keep.cons rfl (Keep.cons rfl (Keep.cons rfl (Keep.cons rfl (Keep.cons rfl (Keep.cons rfl (Keep.cons rfl (Keep.cons rfl (Keep.cons rfl (Keep.cons rfl (Keep.cons rfl (Keep.cons rfl (Keep.cons rfl (Keep.cons rfl (Keep.cons rfl (Keep.cons rfl (Keep.cons rfl (Keep.app rfl (Keep.rm rfl Keep.base)))))))))))))))))))))))))))))))), hh⟩, by omega⟩)
        | (rw [if_neg (by unfold selB; simp_all)] at hst
           exact ⟨i + 1, ⟨by omega, hf.head ⟨rfl, congrArg (fun z => some (Value.int IntKind.i64 z)) (by rw [hst]; rfl), True.intro⟩ (Keep.cons rfl (Keep.cons rfl (Keep.cons rfl (Keep.cons rfl (Keep.cons rfl (Keep.cons rfl (Keep.cons rfl (Keep.cons rfl (Keep.cons rfl (Keep.cons rfl (Keep.cons rfl (Keep.cons rfl (Keep.cons rfl (Keep.cons rfl (Keep.cons rfl (Keep.cons rfl (Keep.cons rfl (Keep.cons rfl (Keep.cons rfl (Keep.cons rfl (Keep.cons rfl (Keep.cons rfl (Keep.cons rfl (Keep.cons rfl (Keep.cons rfl (Keep.cons rfl (Keep.cons rfl (Keep.cons rfl (Keep.cons rfl (Keep.cons rfl (Keep.app rfl (Keep.rm rfl Keep.base)))))))))))))))))))))))))))))))), hh⟩, by omega⟩)
        | omega
   ·have hG2 := hg2; try simp only [gS] at hG2
    refine sy_exit ?_
    refine then_e ?_
    refine then_e ?_
    refine blk_e ?_
    refine then_n ?_
    refine sy_sq ?_
    refine o_v hf hh (yv_move rfl) ?_; clear hf a; intro a hf
    refine o_v hf hh (yv_move rfl) ?_; clear hf a; intro a hf
    refine o_v hf hh (yv_len Tryz.se_64 rfl) ?_; clear hf a; intro a hf
    refine o_v hf hh (yv_move rfl) ?_; clear hf a; intro a hf
    refine o_v hf hh (y_sub rfl rfl) ?_; clear hf a; intro a hf
    refine o_v hf hh (yv_max rfl rfl) ?_; clear hf a; intro a hf
    refine o_v hf hh (yv_assign rfl) ?_; clear hf a; intro a hf
    refine o_end ?_
    refine sy_ret ?_
    refine ret_r hf rfl rfl ?_
    obtain rfl : i = L.length := by omega
    rw [List.take_length] at hbl ⊢
    exact ⟨congrArg (Value.int IntKind.i64) (by rw [← told_sel]; omega), hh.ext⟩
theorem r51_0 (L : List (Nat × Nat)) (oa : Option Addr) (cp : Nat) (u : World) (hv0 : ValsAt u oa (encP L)) (hln : L.length ≤ 3000) (hlt : ∀ x ∈ L, x.1 < 1024 ∧ x.2 < 1024) (mk : Nat) (hmk : mk ≤ 60) : Calls Tryz.prog 51 #[.slice oa L.length cp, .bool false, .int .i64 (mk : Nat)] u (Ret fun v w' => v = .int .i64 (toldN L 0 mk : Nat) ∧ Ext [] u w') := r51 L oa cp u hv0 hln hlt false mk hmk
theorem r51_1 (L : List (Nat × Nat)) (oa : Option Addr) (cp : Nat) (u : World) (hv0 : ValsAt u oa (encP L)) (hln : L.length ≤ 3000) (hlt : ∀ x ∈ L, x.1 < 1024 ∧ x.2 < 1024) (mk : Nat) (hmk : mk ≤ 60) : Calls Tryz.prog 51 #[.slice oa L.length cp, .bool true, .int .i64 (mk : Nat)] u (Ret fun v w' => v = .int .i64 (toldN L 1 mk : Nat) ∧ Ext [] u w') := r51 L oa cp u hv0 hln hlt true mk hmk
end Go.Proofs.YtidieepndphodaaGreat
namespace Go.Proofs.YtidieepndphodaaGreat
open Go Go.Sy Go.MatM
set_option maxRecDepth 100000
theorem r16 (d : RowsD) (p : Int) (sa sb : Option Addr) (ca cb : Nat) (u : World) (hA : MkAt u sa d.l) (hB : MkAt u sb d.r) (hla : d.l.length ≤ 1000000) (hlb : d.r.length ≤ 1000000) : Calls Tryz.prog 16 #[canV d p sa sb ca cb] u (Ret fun v w' => v = .tuple #[.int .i64 ((joinV d p).o.1 : Nat), .int .i64 ((joinV d p).o.2 : Nat), .int .i64 (gatE d p)] ∧ Ext [] u w') := by
  refine calls_of Tryz.func16 rfl rfl (fun a hf => ?_)
  have hh := Hp.init u []
  refine sy_sq ?_
  refine o_box hf hh ?_; clear hf hh a; intro B1 a w hf hh
  refine o_v hf hh (yv_assign rfl) ?_; clear hf a; intro a hf
  refine o_v hf hh (yv_assign rfl) ?_; clear hf a; intro a hf
  refine o_v hf hh (yv_assign rfl) ?_; clear hf a; intro a hf
  refine o_end ?_
  refine sy_sq ?_
  refine o_v hf hh (y_lds Tryz.ag_28 rfl) ?_; clear hf a; intro a hf
  refine o_call hf Tryz.en_42 rfl rfl rfl (r42 d p sa sb ca cb _ (hA.ext hh.ext) (hB.ext hh.ext) hla hlb) ?_; clear hf a; intro v a w hR hf
  obtain ⟨oa, nn, cp, rfl, hop, hx⟩ := hR; replace hh := hh.more hx; clear hx
  have he1 := hh.ext
  have hb1 := hh.at (i := 0) rfl
  have hA1 := hA.ext hh.ext
  have hB1 := hB.ext hh.ext
  obtain ⟨u1, rfl⟩ : ∃ z, z = w := ⟨_, rfl⟩
  replace hh := Hp.init u1 []
  
  refine o_v hf hh (yv_move rfl) ?_; clear hf a; intro a hf
  refine o_v hf hh (yv_extract rfl rfl) ?_; clear hf a; intro a hf
  refine o_v hf hh (yv_extract rfl rfl) ?_; clear hf a; intro a hf
  refine o_v hf hh (yv_assign rfl) ?_; clear hf a; intro a hf
  refine o_v hf hh (yv_assign rfl) ?_; clear hf a; intro a hf
  refine o_end ?_
  refine sy_seq ?_
  refine sy_sq ?_
  refine o_v hf hh (yv_move rfl) ?_; clear hf a; intro a hf
  refine o_v hf hh (yv_bin rfl rfl rfl) ?_; clear hf a; intro a hf
  refine o_end ?_
  refine sy_cond hf rfl (fun hg5 => ?_) (fun hg5 => ?_)
  ·have hG5 := hg5; try simp only [gS] at hG5
   refine sy_sq ?_
   refine o_v hf hh (yv_move rfl) ?_; clear hf a; intro a hf
   refine o_v hf hh (yv_assign rfl) ?_; clear hf a; intro a hf
   refine o_v hf hh (yv_assign rfl) ?_; clear hf a; intro a hf
   refine o_v hf hh (yv_assign rfl) ?_; clear hf a; intro a hf
   refine o_end ?_
   refine sy_ret ?_
   refine then_r ?_
   refine ret_r hf rfl rfl ?_
   exact ⟨by unfold joinV; rw [if_neg (by omega)]; rfl, he1.trans hh.ext⟩
  ·have hG5 := hg5; try simp only [gS] at hG5
   refine sy_skip ?_
   refine then_n ?_
   refine sy_seq ?_
   have hg0 : gatE d p = 0 := by omega
   obtain ⟨rfl, hv0⟩ := hop hg0
   have hok : okCan d p = true := by
     cases hk : okCan d p
     · have := (gatE_1 hk).1; omega
     · rfl
   obtain ⟨hV, hp0, hp3⟩ := okCan_valid hok
   have hrl := ref_len (d := d) hp0
   have hlen := casesL_len (p := p) hV
   have hpm := ref_perm (d := d) hp0
   have hne := (gat_pos hok).1 hg0
   have hcl := List.length_pos_iff.2 hne
   obtain ⟨L, hL⟩ : ∃ z, z = refL d p := ⟨_, rfl⟩
   rw [← hL] at hv0 hrl hpm hf
   have hlt : ∀ x ∈ L, x.1 < 1024 ∧ x.2 < 1024 := fun x hx => cases_1024 hV (hpm.mem_iff.1 hx)
   have hln : L.length ≤ 3000 := by omega
   refine sy_ops ?_
   refine o_v hf hh (yv_move rfl) ?_; clear hf a; intro a hf
   refine o_call hf Tryz.en_45 rfl rfl rfl (r45 L oa cp _ (hv0.ext hh.ext) hln hlt false false) ?_; clear hf a; intro v a w hR hf
   obtain ⟨rfl, hx⟩ := hR; replace hh := hh.more hx; clear hx
   refine o_v hf hh (yv_move rfl) ?_; clear hf a; intro a hf
   refine o_call hf Tryz.en_45 rfl rfl rfl (r45 L oa cp _ (hv0.ext hh.ext) hln hlt true false) ?_; clear hf a; intro v a w hR hf
   obtain ⟨rfl, hx⟩ := hR; replace hh := hh.more hx; clear hx
   refine o_v hf hh (yv_assign rfl) ?_; clear hf a; intro a hf
   refine o_v hf hh (yv_assign rfl) ?_; clear hf a; intro a hf
   refine o_v hf hh (yv_assign rfl) ?_; clear hf a; intro a hf
   refine o_end ?_
   refine sy_ret ?_
   refine ret_r hf rfl rfl ?_
   obtain ⟨j1, j2⟩ := gatF_some hpm hne fun x hx => cases_1024 hV hx
   exact ⟨by unfold joinV; rw [hg0, if_pos rfl, ← j1, ← j2]; rfl, he1.trans hh.ext⟩
theorem r18 (d : RowsD) (p : Int) (sa sb : Option Addr) (ca cb : Nat) (u : World) (hA : MkAt u sa d.l) (hB : MkAt u sb d.r) (hla : d.l.length ≤ 1000000) (hlb : d.r.length ≤ 1000000) : Calls Tryz.prog 18 #[canV d p sa sb ca cb] u (Ret fun v w' => v = .tuple #[.int .i64 ((joinV d p).a.1 : Nat), .int .i64 ((joinV d p).a.2 : Nat), .int .i64 (gatE d p)] ∧ Ext [] u w') := by
  refine calls_of Tryz.func18 rfl rfl (fun a hf => ?_)
  have hh := Hp.init u []
  refine sy_sq ?_
  refine o_box hf hh ?_; clear hf hh a; intro B1 a w hf hh
  refine o_v hf hh (yv_assign rfl) ?_; clear hf a; intro a hf
  refine o_v hf hh (yv_assign rfl) ?_; clear hf a; intro a hf
  refine o_v hf hh (yv_assign rfl) ?_; clear hf a; intro a hf
  refine o_end ?_
  refine sy_sq ?_
  refine o_v hf hh (y_lds Tryz.ag_28 rfl) ?_; clear hf a; intro a hf
  refine o_call hf Tryz.en_42 rfl rfl rfl (r42 d p sa sb ca cb _ (hA.ext hh.ext) (hB.ext hh.ext) hla hlb) ?_; clear hf a; intro v a w hR hf
  obtain ⟨oa, nn, cp, rfl, hop, hx⟩ := hR; replace hh := hh.more hx; clear hx
  have he1 := hh.ext
  have hb1 := hh.at (i := 0) rfl
  have hA1 := hA.ext hh.ext
  have hB1 := hB.ext hh.ext
  obtain ⟨u1, rfl⟩ : ∃ z, z = w := ⟨_, rfl⟩
  replace hh := Hp.init u1 []
  
  refine o_v hf hh (yv_move rfl) ?_; clear hf a; intro a hf
  refine o_v hf hh (yv_extract rfl rfl) ?_; clear hf a; intro a hf
  refine o_v hf hh (yv_extract rfl rfl) ?_; clear hf a; intro a hf
  refine o_v hf hh (yv_assign rfl) ?_; clear hf a; intro a hf
  refine o_v hf hh (yv_assign rfl) ?_; clear hf a; intro a hf
  refine o_end ?_
  refine sy_seq ?_
  refine sy_sq ?_
  refine o_v hf hh (yv_move rfl) ?_; clear hf a; intro a hf
  refine o_v hf hh (yv_bin rfl rfl rfl) ?_; clear hf a; intro a hf
  refine o_end ?_
  refine sy_cond hf rfl (fun hg5 => ?_) (fun hg5 => ?_)
  ·have hG5 := hg5; try simp only [gS] at hG5
   refine sy_sq ?_
   refine o_v hf hh (yv_move rfl) ?_; clear hf a; intro a hf
   refine o_v hf hh (yv_assign rfl) ?_; clear hf a; intro a hf
   refine o_v hf hh (yv_assign rfl) ?_; clear hf a; intro a hf
   refine o_v hf hh (yv_assign rfl) ?_; clear hf a; intro a hf
   refine o_end ?_
   refine sy_ret ?_
   refine then_r ?_
   refine ret_r hf rfl rfl ?_
   exact ⟨by unfold joinV; rw [if_neg (by omega)]; rfl, he1.trans hh.ext⟩
  ·have hG5 := hg5; try simp only [gS] at hG5
   refine sy_skip ?_
   refine then_n ?_
   refine sy_seq ?_
   have hg0 : gatE d p = 0 := by omega
   obtain ⟨rfl, hv0⟩ := hop hg0
   have hok : okCan d p = true := by
     cases hk : okCan d p
     · have := (gatE_1 hk).1; omega
     · rfl
   obtain ⟨hV, hp0, hp3⟩ := okCan_valid hok
   have hrl := ref_len (d := d) hp0
   have hlen := casesL_len (p := p) hV
   have hpm := ref_perm (d := d) hp0
   have hne := (gat_pos hok).1 hg0
   have hcl := List.length_pos_iff.2 hne
   obtain ⟨L, hL⟩ : ∃ z, z = refL d p := ⟨_, rfl⟩
   rw [← hL] at hv0 hrl hpm hf
   have hlt : ∀ x ∈ L, x.1 < 1024 ∧ x.2 < 1024 := fun x hx => cases_1024 hV (hpm.mem_iff.1 hx)
   have hln : L.length ≤ 3000 := by omega
   refine sy_ops ?_
   refine o_v hf hh (yv_move rfl) ?_; clear hf a; intro a hf
   refine o_call hf Tryz.en_45 rfl rfl rfl (r45 L oa cp _ (hv0.ext hh.ext) hln hlt false true) ?_; clear hf a; intro v a w hR hf
   obtain ⟨rfl, hx⟩ := hR; replace hh := hh.more hx; clear hx
   refine o_v hf hh (yv_move rfl) ?_; clear hf a; intro a hf
   refine o_call hf Tryz.en_45 rfl rfl rfl (r45 L oa cp _ (hv0.ext hh.ext) hln hlt true true) ?_; clear hf a; intro v a w hR hf
   obtain ⟨rfl, hx⟩ := hR; replace hh := hh.more hx; clear hx
   refine o_v hf hh (yv_assign rfl) ?_; clear hf a; intro a hf
   refine o_v hf hh (yv_assign rfl) ?_; clear hf a; intro a hf
   refine o_v hf hh (yv_assign rfl) ?_; clear hf a; intro a hf
   refine o_end ?_
   refine sy_ret ?_
   refine ret_r hf rfl rfl ?_
   obtain ⟨j1, j2⟩ := gatF_all hpm hne fun x hx => cases_1024 hV hx
   exact ⟨by unfold joinV; rw [hg0, if_pos rfl, ← j1, ← j2]; rfl, he1.trans hh.ext⟩
theorem r12 (d : RowsD) (p : Int) (sa sb : Option Addr) (ca cb : Nat) (u : World) (hA : MkAt u sa d.l) (hB : MkAt u sb d.r) (hla : d.l.length ≤ 1000000) (hlb : d.r.length ≤ 1000000) : Calls Tryz.prog 12 #[canV d p sa sb ca cb] u (Ret fun v w' => v = .tuple #[.int .i64 (sidesV d p : Nat), .int .i64 (gatE d p)] ∧ Ext [] u w') := by
  refine calls_of Tryz.func12 rfl rfl (fun a hf => ?_)
  have hh := Hp.init u []
  refine sy_sq ?_
  refine o_box hf hh ?_; clear hf hh a; intro B1 a w hf hh
  refine o_v hf hh (yv_assign rfl) ?_; clear hf a; intro a hf
  refine o_v hf hh (yv_assign rfl) ?_; clear hf a; intro a hf
  refine o_end ?_
  refine sy_sq ?_
  refine o_v hf hh (y_lds Tryz.ag_28 rfl) ?_; clear hf a; intro a hf
  refine o_call hf Tryz.en_42 rfl rfl rfl (r42 d p sa sb ca cb _ (hA.ext hh.ext) (hB.ext hh.ext) hla hlb) ?_; clear hf a; intro v a w hR hf
  obtain ⟨oa, nn, cp, rfl, hop, hx⟩ := hR; replace hh := hh.more hx; clear hx
  have he1 := hh.ext
  have hb1 := hh.at (i := 0) rfl
  have hA1 := hA.ext hh.ext
  have hB1 := hB.ext hh.ext
  obtain ⟨u1, rfl⟩ : ∃ z, z = w := ⟨_, rfl⟩
  replace hh := Hp.init u1 []
  
  refine o_v hf hh (yv_move rfl) ?_; clear hf a; intro a hf
  refine o_v hf hh (yv_extract rfl rfl) ?_; clear hf a; intro a hf
  refine o_v hf hh (yv_extract rfl rfl) ?_; clear hf a; intro a hf
  refine o_v hf hh (yv_assign rfl) ?_; clear hf a; intro a hf
  refine o_v hf hh (yv_assign rfl) ?_; clear hf a; intro a hf
  refine o_end ?_
  refine sy_seq ?_
  refine sy_sq ?_
  refine o_v hf hh (yv_move rfl) ?_; clear hf a; intro a hf
  refine o_v hf hh (yv_bin rfl rfl rfl) ?_; clear hf a; intro a hf
  refine o_end ?_
  refine sy_cond hf rfl (fun hg5 => ?_) (fun hg5 => ?_)
  ·have hG5 := hg5; try simp only [gS] at hG5
   refine sy_sq ?_
   refine o_v hf hh (yv_move rfl) ?_; clear hf a; intro a hf
   refine o_v hf hh (yv_assign rfl) ?_; clear hf a; intro a hf
   refine o_v hf hh (yv_assign rfl) ?_; clear hf a; intro a hf
   refine o_end ?_
   refine sy_ret ?_
   refine then_r ?_
   refine ret_r hf rfl rfl ?_
   exact ⟨by unfold sidesV; rw [if_neg (by omega)]; rfl, he1.trans hh.ext⟩
  ·have hG5 := hg5; try simp only [gS] at hG5
   refine sy_skip ?_
   refine then_n ?_
   refine sy_seq ?_
   have hg0 : gatE d p = 0 := by omega
   obtain ⟨rfl, hv0⟩ := hop hg0
   have hok : okCan d p = true := by
     cases hk : okCan d p
     · have := (gatE_1 hk).1; omega
     · rfl
   obtain ⟨hV, hp0, hp3⟩ := okCan_valid hok
   have hrl := ref_len (d := d) hp0
   have hlen := casesL_len (p := p) hV
   have hpm := ref_perm (d := d) hp0
   have hne := (gat_pos hok).1 hg0
   have hcl := List.length_pos_iff.2 hne
   obtain ⟨L, hL⟩ : ∃ z, z = refL d p := ⟨_, rfl⟩
   rw [← hL] at hv0 hrl hpm hf
   have hlt : ∀ x ∈ L, x.1 < 1024 ∧ x.2 < 1024 := fun x hx => cases_1024 hV (hpm.mem_iff.1 hx)
   have hln : L.length ≤ 3000 := by omega
   have hon : ∀ x ∈ L, oneB x = true := fun x hx => cases_one (hpm.mem_iff.1 hx)
   refine sy_ops ?_
   refine o_v hf hh (yv_assign rfl) ?_; clear hf a; intro a hf
   refine o_v hf hh (yv_assign rfl) ?_; clear hf a; intro a hf
   refine o_v hf hh (yv_assign rfl) ?_; clear hf a; intro a hf
   refine o_end ?_
   refine sy_seq ?_
   refine sy_sq ?_
   refine o_v hf hh (yv_assign rfl) ?_; clear hf a; intro a hf
   refine o_end ?_
   refine sy_block ?_
   refine sy_loopF (σ := Nat) [6, 7, 8, 9, 18, 19, 20, 21, 22, 23, 24, 25, 26, 27, 28, 29, 30, 31, 32, 33, 34, 35, 36, 37, 38, 39, 40, 41, 42, 43, 44, 45, 46, 47, 48, 49] (fun i => [(9, .int .i64 (i : Nat)), (6, .int .i64 (sd0 (L.take i) : Nat)), (7, .int .i64 (sd1 (L.take i) : Nat)), (8, .int .i64 (sd2 (L.take i) : Nat))]) (fun i => i ≤ L.length) (fun i => L.length - i) (0) hf hh ?_ ?_ ?_
   · repeat' (first | exact True.intro | refine And.intro rfl ?_)
   · exact Nat.zero_le _
   ·rintro i a w hi hf hh
    refine sy_seq ?_
    refine sy_sq ?_
    refine o_v hf hh (yv_move rfl) ?_; clear hf a; intro a hf
    refine o_v hf hh (yv_move rfl) ?_; clear hf a; intro a hf
    refine o_v hf hh (yv_len Tryz.se_64 rfl) ?_; clear hf a; intro a hf
    refine o_v hf hh (yv_bin rfl rfl rfl) ?_; clear hf a; intro a hf
    refine o_end ?_
    refine sy_cond hf rfl (fun hg7 => ?_) (fun hg7 => ?_)
    ·have hG7 := hg7; try simp only [gS] at hG7
     refine sy_skip ?_
     refine then_n ?_
     refine sy_seq ?_
     refine sy_block ?_
     refine sy_seq ?_
     refine sy_seq ?_
     obtain ⟨x, hx⟩ := ex_of (l := L) (i := i) (by omega)
     obtain ⟨g1, g2⟩ := encP_get L i x hx
     obtain ⟨blk, off, c, Tx, fr, e1, hbx, hcx⟩ := hv0.resolve_left (by intro e; rw [e] at g1; simp at g1)
     have y1 := hcx _ _ g1
     have y2 := hcx _ _ g2
     obtain ⟨b1, b2⟩ := hlt x (List.mem_of_getElem? hx)
     subst e1
     have f1 : c[off + ((i : Nat) : Int).toNat * 2 + 0]? = some (.int .i64 ((x.1 : Nat) : Int)) := by rw [Int.toNat_natCast]; exact y1
     have f2 : c[off + ((i : Nat) : Int).toNat * 2 + 1]? = some (.int .i64 ((x.2 : Nat) : Int)) := by rw [Int.toNat_natCast, Nat.add_assoc]; exact y2
     have s0 := sd0_step hx
     have s1 := sd1_step hx
     have s2 := sd2_step hx
     refine sy_ops ?_
     refine o_v hf hh (yv_move rfl) ?_; clear hf a; intro a hf
     refine o_v hf hh (yv_move rfl) ?_; clear hf a; intro a hf
     refine o_v hf hh (y_ix Tryz.se_64 rfl rfl) ?_; clear hf a; intro a hf
     refine o_v hf hh (yv_fieldAddr Tryz.fo_73_0 rfl) ?_; clear hf a; intro a hf
     refine o_v hf hh (y_ld Tryz.sc_3 rfl) ?_; clear hf a; intro a hf
     refine o_v hf hh (yv_bin rfl rfl rfl) ?_; clear hf a; intro a hf
     refine o_end ?_
     refine sy_cond hf rfl (fun hg9 => ?_) (fun hg9 => ?_)
     ·have hG9 := hg9; try simp only [gS] at hG9
      refine sy_ops ?_
      refine o_v hf hh (yv_assign rfl) ?_; clear hf a; intro a hf
      refine o_end ?_
      refine sy_seq ?_
      refine sy_sq ?_
      refine o_v hf hh (yv_move rfl) ?_; clear hf a; intro a hf
      refine o_v hf hh (yv_move rfl) ?_; clear hf a; intro a hf
      refine o_v hf hh (y_ix Tryz.se_64 rfl rfl) ?_; clear hf a; intro a hf
      refine o_v hf hh (yv_fieldAddr Tryz.fo_73_1 rfl) ?_; clear hf a; intro a hf
      refine o_v hf hh (y_ld Tryz.sc_3 rfl) ?_; clear hf a; intro a hf
      refine o_v hf hh (yv_bin rfl rfl rfl) ?_; clear hf a; intro a hf
      refine o_end ?_
      refine sy_cond hf rfl (fun hg11 => ?_) (fun hg11 => ?_)
      ·have hG11 := hg11; try simp only [gS] at hG11
       refine sy_ops ?_
       refine o_v hf hh (yv_assign rfl) ?_; clear hf a; intro a hf
       refine o_end ?_
       refine sy_sq ?_
       refine o_v hf hh (yv_move rfl) ?_; clear hf a; intro a hf
       refine o_v hf hh (yv_move rfl) ?_; clear hf a; intro a hf
       refine o_v hf hh (y_ix Tryz.se_64 rfl rfl) ?_; clear hf a; intro a hf
       refine o_v hf hh (yv_fieldAddr Tryz.fo_73_0 rfl) ?_; clear hf a; intro a hf
       refine o_v hf hh (y_ld Tryz.sc_3 rfl) ?_; clear hf a; intro a hf
       refine o_v hf hh (yv_bin rfl rfl rfl) ?_; clear hf a; intro a hf
       refine o_v hf hh (yv_move rfl) ?_; clear hf a; intro a hf
       refine guard_split hf (t := 42) rfl (fun hg13 => ?_) (fun hg13 => ?_)
       ·have hG13 := hg13; try simp only [gS] at hG13
        refine o_v hf hh (yv_move rfl) ?_; clear hf a; intro a hf
        refine o_v hf hh (yv_move rfl) ?_; clear hf a; intro a hf
        refine o_v hf hh (y_ix Tryz.se_64 rfl rfl) ?_; clear hf a; intro a hf
        refine o_v hf hh (yv_fieldAddr Tryz.fo_73_1 rfl) ?_; clear hf a; intro a hf
        refine o_v hf hh (y_ld Tryz.sc_3 rfl) ?_; clear hf a; intro a hf
        refine o_v hf hh (yv_bin rfl rfl rfl) ?_; clear hf a; intro a hf
        refine o_v hf hh (y_pt rfl rfl) ?_; clear hf a; intro a hf
        refine o_end ?_
        refine sy_cond hf rfl (fun hg15 => ?_) (fun hg15 => ?_)
        ·have hG15 := hg15; try simp only [gS] at hG15
         refine sy_ops ?_
         refine o_v hf hh (yv_assign rfl) ?_; clear hf a; intro a hf
         refine ops_end ?_
         refine blk_n ?_
         refine then_n ?_
         refine sy_ops ?_
         refine o_v hf hh (yv_move rfl) ?_; clear hf a; intro a hf
         refine o_v hf hh (y_add rfl rfl) ?_; clear hf a; intro a hf
         refine o_v hf hh (yv_assign rfl) ?_; clear hf a; intro a hf
         refine ops_end ?_
         refine then_n ?_
         exact ⟨i + 1, ⟨by omega, hf.head ⟨rfl, congrArg (fun z => some (Value.int IntKind.i64 z)) (by first | (rw [s0, if_pos (by omega)]; rfl) | (rw [s0, if_neg (by omega)])), congrArg (fun z => some (Value.int IntKind.i64 z)) (by first | (rw [s1, if_pos (by omega)]; rfl) | (rw [s1, if_neg (by omega)])), congrArg (fun z => some (Value.int IntKind.i64 z)) (by first | (rw [s2, if_pos (by omega)]; rfl) | (rw [s2, if_neg (by omega)])), True.intro⟩ (Keep.cons rfl (Keep.cons rfl (Keep.cons rfl (Keep.cons rfl (Keep.cons rfl (Keep.cons rfl (Keep.cons rfl (Keep.cons rfl (Keep.cons rfl (Keep.cons rfl (Keep.cons rfl (Keep.cons rfl (Keep.cons rfl (Keep.cons rfl (Keep.cons rfl (Keep.cons rfl (Keep.cons rfl (Keep.cons rfl (Keep.cons rfl (Keep.cons rfl (Keep.cons rfl (Keep.cons rfl (Keep.cons rfl (Keep.cons rfl (Keep.cons rfl (Keep.cons rfl (Keep.cons rfl (Keep.cons rfl (Keep.cons rfl (Keep.cons rfl (Keep.cons rfl (Keep.cons rfl (Keep.cons rfl (Keep.cons rfl (Keep.cons rfl (Keep.cons rfl (Keep.app rfl (Keep.rm rfl Keep.base)))))))))))))))))))))))))))))))))))))), hh⟩, by omega⟩
        ·have hG15 := hg15; try simp only [gS] at hG15
         refine sy_skip ?_
         refine blk_n ?_
         refine then_n ?_
         refine sy_ops ?_
         refine o_v hf hh (yv_move rfl) ?_; clear hf a; intro a hf
         refine o_v hf hh (y_add rfl rfl) ?_; clear hf a; intro a hf
         refine o_v hf hh (yv_assign rfl) ?_; clear hf a; intro a hf
         refine ops_end ?_
         refine then_n ?_
         exact ⟨i + 1, ⟨by omega, hf.head ⟨rfl, congrArg (fun z => some (Value.int IntKind.i64 z)) (by first | (rw [s0, if_pos (by omega)]; rfl) | (rw [s0, if_neg (by omega)])), congrArg (fun z => some (Value.int IntKind.i64 z)) (by first | (rw [s1, if_pos (by omega)]; rfl) | (rw [s1, if_neg (by omega)])), congrArg (fun z => some (Value.int IntKind.i64 z)) (by first | (rw [s2, if_pos (by omega)]; rfl) | (rw [s2, if_neg (by omega)])), True.intro⟩ (Keep.cons rfl (Keep.cons rfl (Keep.cons rfl (Keep.cons rfl (Keep.cons rfl (Keep.cons rfl (Keep.cons rfl (Keep.cons rfl (Keep.cons rfl (Keep.cons rfl (Keep.cons rfl (Keep.cons rfl (Keep.cons rfl (Keep.cons rfl (Keep.cons rfl (Keep.cons rfl (Keep.cons rfl (Keep.cons rfl (Keep.cons rfl (Keep.cons rfl (Keep.cons rfl (Keep.cons rfl (Keep.cons rfl (Keep.cons rfl (Keep.cons rfl (Keep.cons rfl (Keep.cons rfl (Keep.cons rfl (Keep.cons rfl (Keep.cons rfl (Keep.cons rfl (Keep.cons rfl (Keep.cons rfl (Keep.cons rfl (Keep.cons rfl (Keep.app rfl (Keep.rm rfl Keep.base))))))))))))))))))))))))))))))))))))), hh⟩, by omega⟩
       ·have hG13 := hg13; try simp only [gS] at hG13
        refine o_off hf ?_; clear hf a; intro a hf
        refine o_off hf ?_; clear hf a; intro a hf
        refine o_off hf ?_; clear hf a; intro a hf
        refine o_off hf ?_; clear hf a; intro a hf
        refine o_off hf ?_; clear hf a; intro a hf
        refine o_off hf ?_; clear hf a; intro a hf
        refine o_v hf hh (y_pf rfl rfl) ?_; clear hf a; intro a hf
        refine o_end ?_
        refine c_f hf ?_
        refine sy_skip ?_
        refine blk_n ?_
        refine then_n ?_
        refine sy_ops ?_
        refine o_v hf hh (yv_move rfl) ?_; clear hf a; intro a hf
        refine o_v hf hh (y_add rfl rfl) ?_; clear hf a; intro a hf
        refine o_v hf hh (yv_assign rfl) ?_; clear hf a; intro a hf
        refine ops_end ?_
        refine then_n ?_
        exact ⟨i + 1, ⟨by omega, hf.head ⟨rfl, congrArg (fun z => some (Value.int IntKind.i64 z)) (by first | (rw [s0, if_pos (by omega)]; rfl) | (rw [s0, if_neg (by omega)])), congrArg (fun z => some (Value.int IntKind.i64 z)) (by first | (rw [s1, if_pos (by omega)]; rfl) | (rw [s1, if_neg (by omega)])), congrArg (fun z => some (Value.int IntKind.i64 z)) (by first | (rw [s2, if_pos (by omega)]; rfl) | (rw [s2, if_neg (by omega)])), True.intro⟩ (Keep.cons rfl (Keep.cons rfl (Keep.cons rfl (Keep.cons rfl (Keep.cons rfl (Keep.cons rfl (Keep.cons rfl (Keep.cons rfl (Keep.cons rfl (Keep.cons rfl (Keep.cons rfl (Keep.cons rfl (Keep.cons rfl (Keep.cons rfl (Keep.cons rfl (Keep.cons rfl (Keep.cons rfl (Keep.cons rfl (Keep.cons rfl (Keep.cons rfl (Keep.cons rfl (Keep.cons rfl (Keep.cons rfl (Keep.cons rfl (Keep.cons rfl (Keep.cons rfl (Keep.cons rfl (Keep.cons rfl (Keep.cons rfl (Keep.cons rfl (Keep.cons rfl (Keep.cons rfl (Keep.cons rfl (Keep.cons rfl (Keep.cons rfl (Keep.app rfl (Keep.rm rfl Keep.base))))))))))))))))))))))))))))))))))))), hh⟩, by omega⟩
      ·have hG11 := hg11; try simp only [gS] at hG11
       refine sy_skip ?_
       refine then_n ?_
       refine sy_sq ?_
       refine o_v hf hh (yv_move rfl) ?_; clear hf a; intro a hf
       refine o_v hf hh (yv_move rfl) ?_; clear hf a; intro a hf
       refine o_v hf hh (y_ix Tryz.se_64 rfl rfl) ?_; clear hf a; intro a hf
       refine o_v hf hh (yv_fieldAddr Tryz.fo_73_0 rfl) ?_; clear hf a; intro a hf
       refine o_v hf hh (y_ld Tryz.sc_3 rfl) ?_; clear hf a; intro a hf
       refine o_v hf hh (yv_bin rfl rfl rfl) ?_; clear hf a; intro a hf
       refine o_v hf hh (yv_move rfl) ?_; clear hf a; intro a hf
       refine guard_split hf (t := 42) rfl (fun hg17 => ?_) (fun hg17 => ?_)
       ·have hG17 := hg17; try simp only [gS] at hG17
        refine o_v hf hh (yv_move rfl) ?_; clear hf a; intro a hf
        refine o_v hf hh (yv_move rfl) ?_; clear hf a; intro a hf
        refine o_v hf hh (y_ix Tryz.se_64 rfl rfl) ?_; clear hf a; intro a hf
        refine o_v hf hh (yv_fieldAddr Tryz.fo_73_1 rfl) ?_; clear hf a; intro a hf
        refine o_v hf hh (y_ld Tryz.sc_3 rfl) ?_; clear hf a; intro a hf
        refine o_v hf hh (yv_bin rfl rfl rfl) ?_; clear hf a; intro a hf
        refine o_v hf hh (y_pt rfl rfl) ?_; clear hf a; intro a hf
        refine o_end ?_
        refine sy_cond hf rfl (fun hg19 => ?_) (fun hg19 => ?_)
        ·have hG19 := hg19; try simp only [gS] at hG19
         refine sy_ops ?_
         refine o_v hf hh (yv_assign rfl) ?_; clear hf a; intro a hf
         refine ops_end ?_
         refine blk_n ?_
         refine then_n ?_
         refine sy_ops ?_
         refine o_v hf hh (yv_move rfl) ?_; clear hf a; intro a hf
         refine o_v hf hh (y_add rfl rfl) ?_; clear hf a; intro a hf
         refine o_v hf hh (yv_assign rfl) ?_; clear hf a; intro a hf
         refine ops_end ?_
         refine then_n ?_
         exact ⟨i + 1, ⟨by omega, hf.head ⟨rfl, congrArg (fun z => some (Value.int IntKind.i64 z)) (by first | (rw [s0, if_pos (by omega)]; rfl) | (rw [s0, if_neg (by omega)])), congrArg (fun z => some (Value.int IntKind.i64 z)) (by first | (rw [s1, if_pos (by omega)]; rfl) | (rw [s1, if_neg (by omega)])), congrArg (fun z => some (Value.int IntKind.i64 z)) (by first | (rw [s2, if_pos (by omega)]; rfl) | (rw [s2, if_neg (by omega)])), True.intro⟩ (Keep.cons rfl (Keep.cons rfl (Keep.cons rfl (Keep.cons rfl (Keep.cons rfl (Keep.cons rfl (Keep.cons rfl (Keep.cons rfl (Keep.cons rfl (Keep.cons rfl (Keep.cons rfl (Keep.cons rfl (Keep.cons rfl (Keep.cons rfl (Keep.cons rfl (Keep.cons rfl (Keep.cons rfl (Keep.cons rfl (Keep.cons rfl (Keep.cons rfl (Keep.cons rfl (Keep.cons rfl (Keep.cons rfl (Keep.cons rfl (Keep.cons rfl (Keep.cons rfl (Keep.cons rfl (Keep.cons rfl (Keep.cons rfl (Keep.cons rfl (Keep.cons rfl (Keep.cons rfl (Keep.cons rfl (Keep.cons rfl (Keep.cons rfl (Keep.app rfl (Keep.rm rfl Keep.base))))))))))))))))))))))))))))))))))))), hh⟩, by omega⟩
        ·have hG19 := hg19; try simp only [gS] at hG19
         refine sy_skip ?_
         refine blk_n ?_
         refine then_n ?_
         refine sy_ops ?_
         refine o_v hf hh (yv_move rfl) ?_; clear hf a; intro a hf
         refine o_v hf hh (y_add rfl rfl) ?_; clear hf a; intro a hf
         refine o_v hf hh (yv_assign rfl) ?_; clear hf a; intro a hf
         refine ops_end ?_
         refine then_n ?_
         exact ⟨i + 1, ⟨by omega, hf.head ⟨rfl, congrArg (fun z => some (Value.int IntKind.i64 z)) (by first | (rw [s0, if_pos (by omega)]; rfl) | (rw [s0, if_neg (by omega)])), congrArg (fun z => some (Value.int IntKind.i64 z)) (by first | (rw [s1, if_pos (by omega)]; rfl) | (rw [s1, if_neg (by omega)])), congrArg (fun z => some (Value.int IntKind.i64 z)) (by first | (rw [s2, if_pos (by omega)]; rfl) | (rw [s2, if_neg (by omega)])), True.intro⟩ (Keep.cons rfl (Keep.cons rfl (Keep.cons rfl (Keep.cons rfl (Keep.cons rfl (Keep.cons rfl (Keep.cons rfl (Keep.cons rfl (Keep.cons rfl (Keep.cons rfl (Keep.cons rfl (Keep.cons rfl (Keep.cons rfl (Keep.cons rfl (Keep.cons rfl (Keep.cons rfl (Keep.cons rfl (Keep.cons rfl (Keep.cons rfl (Keep.cons rfl (Keep.cons rfl (Keep.cons rfl (Keep.cons rfl (Keep.cons rfl (Keep.cons rfl (Keep.cons rfl (Keep.cons rfl (Keep.cons rfl (Keep.cons rfl (Keep.cons rfl (Keep.cons rfl (Keep.cons rfl (Keep.cons rfl (Keep.cons rfl (Keep.app rfl (Keep.rm rfl Keep.base)))))))))))))))))))))))))))))))))))), hh⟩, by omega⟩
       ·have hG17 := hg17; try simp only [gS] at hG17
        refine o_off hf ?_; clear hf a; intro a hf
        refine o_off hf ?_; clear hf a; intro a hf
        refine o_off hf ?_; clear hf a; intro a hf
        refine o_off hf ?_; clear hf a; intro a hf
        refine o_off hf ?_; clear hf a; intro a hf
        refine o_off hf ?_; clear hf a; intro a hf
        refine o_v hf hh (y_pf rfl rfl) ?_; clear hf a; intro a hf
        refine o_end ?_
        refine c_f hf ?_
        refine sy_skip ?_
        refine blk_n ?_
        refine then_n ?_
        refine sy_ops ?_
        refine o_v hf hh (yv_move rfl) ?_; clear hf a; intro a hf
        refine o_v hf hh (y_add rfl rfl) ?_; clear hf a; intro a hf
        refine o_v hf hh (yv_assign rfl) ?_; clear hf a; intro a hf
        refine ops_end ?_
        refine then_n ?_
        exact ⟨i + 1, ⟨by omega, hf.head ⟨rfl, congrArg (fun z => some (Value.int IntKind.i64 z)) (by first | (rw [s0, if_pos (by omega)]; rfl) | (rw [s0, if_neg (by omega)])), congrArg (fun z => some (Value.int IntKind.i64 z)) (by first | (rw [s1, if_pos (by omega)]; rfl) | (rw [s1, if_neg (by omega)])), congrArg (fun z => some (Value.int IntKind.i64 z)) (by first | (rw [s2, if_pos (by omega)]; rfl) | (rw [s2, if_neg (by omega)])), True.intro⟩ (Keep.cons rfl (Keep.cons rfl (Keep.cons rfl (Keep.cons rfl (Keep.cons rfl (Keep.cons rfl (Keep.cons rfl (Keep.cons rfl (Keep.cons rfl (Keep.cons rfl (Keep.cons rfl (Keep.cons rfl (Keep.cons rfl (Keep.cons rfl (Keep.cons rfl (Keep.cons rfl (Keep.cons rfl (Keep.cons rfl (Keep.cons rfl (Keep.cons rfl (Keep.cons rfl (Keep.cons rfl (Keep.cons rfl (Keep.cons rfl (Keep.cons rfl (Keep.cons rfl (Keep.cons rfl (Keep.cons rfl (Keep.cons rfl (Keep.cons rfl (Keep.cons rfl (Keep.cons rfl (Keep.cons rfl (Keep.cons rfl (Keep.app rfl (Keep.rm rfl Keep.base)))))))))))))))))))))))))))))))))))), hh⟩, by omega⟩
     ·have hG9 := hg9; try simp only [gS] at hG9
      refine sy_skip ?_
      refine then_n ?_
      refine sy_seq ?_
      refine sy_sq ?_
      refine o_v hf hh (yv_move rfl) ?_; clear hf a; intro a hf
      refine o_v hf hh (yv_move rfl) ?_; clear hf a; intro a hf
      refine o_v hf hh (y_ix Tryz.se_64 rfl rfl) ?_; clear hf a; intro a hf
      refine o_v hf hh (yv_fieldAddr Tryz.fo_73_1 rfl) ?_; clear hf a; intro a hf
      refine o_v hf hh (y_ld Tryz.sc_3 rfl) ?_; clear hf a; intro a hf
      refine o_v hf hh (yv_bin rfl rfl rfl) ?_; clear hf a; intro a hf
      refine o_end ?_
      refine sy_cond hf rfl (fun hg21 => ?_) (fun hg21 => ?_)
      ·have hG21 := hg21; try simp only [gS] at hG21
       refine sy_ops ?_
       refine o_v hf hh (yv_assign rfl) ?_; clear hf a; intro a hf
       refine o_end ?_
       refine sy_sq ?_
       refine o_v hf hh (yv_move rfl) ?_; clear hf a; intro a hf
       refine o_v hf hh (yv_move rfl) ?_; clear hf a; intro a hf
       refine o_v hf hh (y_ix Tryz.se_64 rfl rfl) ?_; clear hf a; intro a hf
       refine o_v hf hh (yv_fieldAddr Tryz.fo_73_0 rfl) ?_; clear hf a; intro a hf
       refine o_v hf hh (y_ld Tryz.sc_3 rfl) ?_; clear hf a; intro a hf
       refine o_v hf hh (yv_bin rfl rfl rfl) ?_; clear hf a; intro a hf
       refine o_v hf hh (yv_move rfl) ?_; clear hf a; intro a hf
       refine guard_split hf (t := 42) rfl (fun hg23 => ?_) (fun hg23 => ?_)
       ·have hG23 := hg23; try simp only [gS] at hG23
        refine o_v hf hh (yv_move rfl) ?_; clear hf a; intro a hf
        refine o_v hf hh (yv_move rfl) ?_; clear hf a; intro a hf
        refine o_v hf hh (y_ix Tryz.se_64 rfl rfl) ?_; clear hf a; intro a hf
        refine o_v hf hh (yv_fieldAddr Tryz.fo_73_1 rfl) ?_; clear hf a; intro a hf
        refine o_v hf hh (y_ld Tryz.sc_3 rfl) ?_; clear hf a; intro a hf
        refine o_v hf hh (yv_bin rfl rfl rfl) ?_; clear hf a; intro a hf
        refine o_v hf hh (y_pt rfl rfl) ?_; clear hf a; intro a hf
        refine o_end ?_
        refine sy_cond hf rfl (fun hg25 => ?_) (fun hg25 => ?_)
        ·have hG25 := hg25; try simp only [gS] at hG25
         refine sy_ops ?_
         refine o_v hf hh (yv_assign rfl) ?_; clear hf a; intro a hf
         refine ops_end ?_
         refine blk_n ?_
         refine then_n ?_
         refine sy_ops ?_
         refine o_v hf hh (yv_move rfl) ?_; clear hf a; intro a hf
         refine o_v hf hh (y_add rfl rfl) ?_; clear hf a; intro a hf
         refine o_v hf hh (yv_assign rfl) ?_; clear hf a; intro a hf
         refine ops_end ?_
         refine then_n ?_
         exact ⟨i + 1, ⟨by omega, hf.head ⟨rfl, congrArg (fun z => some (Value.int IntKind.i64 z)) (by first | (rw [s0, if_pos (by omega)]; rfl) | (rw [s0, if_neg (by omega)])), congrArg (fun z => some (Value.int IntKind.i64 z)) (by first | (rw [s1, if_pos (by omega)]; rfl) | (rw [s1, if_neg (by omega)])), congrArg (fun z => some (Value.int IntKind.i64 z)) (by first | (rw [s2, if_pos (by omega)]; rfl) | (rw [s2, if_neg (by omega)])), True.intro⟩ (Keep.cons rfl (Keep.cons rfl (Keep.cons rfl (Keep.cons rfl (Keep.cons rfl (Keep.cons rfl (Keep.cons rfl (Keep.cons rfl (Keep.cons rfl (Keep.cons rfl (Keep.cons rfl (Keep.cons rfl (Keep.cons rfl (Keep.cons rfl (Keep.cons rfl (Keep.cons rfl (Keep.cons rfl (Keep.cons rfl (Keep.cons rfl (Keep.cons rfl (Keep.cons rfl (Keep.cons rfl (Keep.cons rfl (Keep.cons rfl (Keep.cons rfl (Keep.cons rfl (Keep.cons rfl (Keep.cons rfl (Keep.cons rfl (Keep.cons rfl (Keep.cons rfl (Keep.cons rfl (Keep.cons rfl (Keep.cons rfl (Keep.cons rfl (Keep.app rfl (Keep.rm rfl Keep.base))))))))))))))))))))))))))))))))))))), hh⟩, by omega⟩
        ·have hG25 := hg25; try simp only [gS] at hG25
         refine sy_skip ?_
         refine blk_n ?_
         refine then_n ?_
         refine sy_ops ?_
         refine o_v hf hh (yv_move rfl) ?_; clear hf a; intro a hf
         refine o_v hf hh (y_add rfl rfl) ?_; clear hf a; intro a hf
         refine o_v hf hh (yv_assign rfl) ?_; clear hf a; intro a hf
         refine ops_end ?_
         refine then_n ?_
         exact ⟨i + 1, ⟨by omega, hf.head ⟨rfl, congrArg (fun z => some (Value.int IntKind.i64 z)) (by first | (rw [s0, if_pos (by omega)]; rfl) | (rw [s0, if_neg (by omega)])), congrArg (fun z => some (Value.int IntKind.i64 z)) (by first | (rw [s1, if_pos (by omega)]; rfl) | (rw [s1, if_neg (by omega)])), congrArg (fun z => some (Value.int IntKind.i64 z)) (by first | (rw [s2, if_pos (by omega)]; rfl) | (rw [s2, if_neg (by omega)])), True.intro⟩ (Keep.cons rfl (Keep.cons rfl (Keep.cons rfl (Keep.cons rfl (Keep.cons rfl (Keep.cons rfl (Keep.cons rfl (Keep.cons rfl (Keep.cons rfl (Keep.cons rfl (Keep.cons rfl (Keep.cons rfl (Keep.cons rfl (Keep.cons rfl (Keep.cons rfl (Keep.cons rfl (Keep.cons rfl (Keep.cons rfl (Keep.cons rfl (Keep.cons rfl (Keep.cons rfl (Keep.cons rfl (Keep.cons rfl (Keep.cons rfl (Keep.cons rfl (Keep.cons rfl (Keep.cons rfl (Keep.cons rfl (Keep.cons rfl (Keep.cons rfl (Keep.cons rfl (Keep.cons rfl (Keep.cons rfl (Keep.cons rfl (Keep.app rfl (Keep.rm rfl Keep.base)))))))))))))))))))))))))))))))))))), hh⟩, by omega⟩
       ·have hG23 := hg23; try simp only [gS] at hG23
        refine o_off hf ?_; clear hf a; intro a hf
        refine o_off hf ?_; clear hf a; intro a hf
        refine o_off hf ?_; clear hf a; intro a hf
        refine o_off hf ?_; clear hf a; intro a hf
        refine o_off hf ?_; clear hf a; intro a hf
        refine o_off hf ?_; clear hf a; intro a hf
        refine o_v hf hh (y_pf rfl rfl) ?_; clear hf a; intro a hf
        refine o_end ?_
        refine c_f hf ?_
        refine sy_skip ?_
        refine blk_n ?_
        refine then_n ?_
        refine sy_ops ?_
        refine o_v hf hh (yv_move rfl) ?_; clear hf a; intro a hf
        refine o_v hf hh (y_add rfl rfl) ?_; clear hf a; intro a hf
        refine o_v hf hh (yv_assign rfl) ?_; clear hf a; intro a hf
        refine ops_end ?_
        refine then_n ?_
        exact ⟨i + 1, ⟨by omega, hf.head ⟨rfl, congrArg (fun z => some (Value.int IntKind.i64 z)) (by first | (rw [s0, if_pos (by omega)]; rfl) | (rw [s0, if_neg (by omega)])), congrArg (fun z => some (Value.int IntKind.i64 z)) (by first | (rw [s1, if_pos (by omega)]; rfl) | (rw [s1, if_neg (by omega)])), congrArg (fun z => some (Value.int IntKind.i64 z)) (by first | (rw [s2, if_pos (by omega)]; rfl) | (rw [s2, if_neg (by omega)])), True.intro⟩ (Keep.cons rfl (Keep.cons rfl (Keep.cons rfl (Keep.cons rfl (Keep.cons rfl (Keep.cons rfl (Keep.cons rfl (Keep.cons rfl (Keep.cons rfl (Keep.cons rfl (Keep.cons rfl (Keep.cons rfl (Keep.cons rfl (Keep.cons rfl (Keep.cons rfl (Keep.cons rfl (Keep.cons rfl (Keep.cons rfl (Keep.cons rfl (Keep.cons rfl (Keep.cons rfl (Keep.cons rfl (Keep.cons rfl (Keep.cons rfl (Keep.cons rfl (Keep.cons rfl (Keep.cons rfl (Keep.cons rfl (Keep.cons rfl (Keep.cons rfl (Keep.cons rfl (Keep.cons rfl (Keep.cons rfl (Keep.cons rfl (Keep.app rfl (Keep.rm rfl Keep.base)))))))))))))))))))))))))))))))))))), hh⟩, by omega⟩
      ·have hG21 := hg21; try simp only [gS] at hG21
       refine sy_skip ?_
       refine then_n ?_
       refine sy_sq ?_
       refine o_v hf hh (yv_move rfl) ?_; clear hf a; intro a hf
       refine o_v hf hh (yv_move rfl) ?_; clear hf a; intro a hf
       refine o_v hf hh (y_ix Tryz.se_64 rfl rfl) ?_; clear hf a; intro a hf
       refine o_v hf hh (yv_fieldAddr Tryz.fo_73_0 rfl) ?_; clear hf a; intro a hf
       refine o_v hf hh (y_ld Tryz.sc_3 rfl) ?_; clear hf a; intro a hf
       refine o_v hf hh (yv_bin rfl rfl rfl) ?_; clear hf a; intro a hf
       refine o_v hf hh (yv_move rfl) ?_; clear hf a; intro a hf
       refine guard_split hf (t := 42) rfl (fun hg27 => ?_) (fun hg27 => ?_)
       ·have hG27 := hg27; try simp only [gS] at hG27
        refine o_v hf hh (yv_move rfl) ?_; clear hf a; intro a hf
        refine o_v hf hh (yv_move rfl) ?_; clear hf a; intro a hf
        refine o_v hf hh (y_ix Tryz.se_64 rfl rfl) ?_; clear hf a; intro a hf
        refine o_v hf hh (yv_fieldAddr Tryz.fo_73_1 rfl) ?_; clear hf a; intro a hf
        refine o_v hf hh (y_ld Tryz.sc_3 rfl) ?_; clear hf a; intro a hf
        refine o_v hf hh (yv_bin rfl rfl rfl) ?_; clear hf a; intro a hf
        refine o_v hf hh (y_pt rfl rfl) ?_; clear hf a; intro a hf
        refine o_end ?_
        refine sy_cond hf rfl (fun hg29 => ?_) (fun hg29 => ?_)
        ·have hG29 := hg29; try simp only [gS] at hG29
         refine sy_ops ?_
         refine o_v hf hh (yv_assign rfl) ?_; clear hf a; intro a hf
         refine ops_end ?_
         refine blk_n ?_
         refine then_n ?_
         refine sy_ops ?_
         refine o_v hf hh (yv_move rfl) ?_; clear hf a; intro a hf
         refine o_v hf hh (y_add rfl rfl) ?_; clear hf a; intro a hf
         refine o_v hf hh (yv_assign rfl) ?_; clear hf a; intro a hf
         refine ops_end ?_
         refine then_n ?_
         exact ⟨i + 1, ⟨by omega, hf.head ⟨rfl, congrArg (fun z => some (Value.int IntKind.i64 z)) (by first | (rw [s0, if_pos (by omega)]; rfl) | (rw [s0, if_neg (by omega)])), congrArg (fun z => some (Value.int IntKind.i64 z)) (by first | (rw [s1, if_pos (by omega)]; rfl) | (rw [s1, if_neg (by omega)])), congrArg (fun z => some (Value.int IntKind.i64 z)) (by first | (rw [s2, if_pos (by omega)]; rfl) | (rw [s2, if_neg (by omega)])), True.intro⟩ (Keep.cons rfl (Keep.cons rfl (Keep.cons rfl (Keep.cons rfl (Keep.cons rfl (Keep.cons rfl (Keep.cons rfl (Keep.cons rfl (Keep.cons rfl (Keep.cons rfl (Keep.cons rfl (Keep.cons rfl (Keep.cons rfl (Keep.cons rfl (Keep.cons rfl (Keep.cons rfl (Keep.cons rfl (Keep.cons rfl (Keep.cons rfl (Keep.cons rfl (Keep.cons rfl (Keep.cons rfl (Keep.cons rfl (Keep.cons rfl (Keep.cons rfl (Keep.cons rfl (Keep.cons rfl (Keep.cons rfl (Keep.cons rfl (Keep.cons rfl (Keep.cons rfl (Keep.cons rfl (Keep.cons rfl (Keep.cons rfl (Keep.app rfl (Keep.rm rfl Keep.base)))))))))))))))))))))))))))))))))))), hh⟩, by omega⟩
        ·have hG29 := hg29; try simp only [gS] at hG29
         refine sy_skip ?_
         refine blk_n ?_
         refine then_n ?_
         refine sy_ops ?_
         refine o_v hf hh (yv_move rfl) ?_; clear hf a; intro a hf
         refine o_v hf hh (y_add rfl rfl) ?_; clear hf a; intro a hf
         refine o_v hf hh (yv_assign rfl) ?_; clear hf a; intro a hf
         refine ops_end ?_
         refine then_n ?_
         exact ⟨i + 1, ⟨by omega, hf.head ⟨rfl, congrArg (fun z => some (Value.int IntKind.i64 z)) (by first | (rw [s0, if_pos (by omega)]; rfl) | (rw [s0, if_neg (by omega)])), congrArg (fun z => some (Value.int IntKind.i64 z)) (by first | (rw [s1, if_pos (by omega)]; rfl) | (rw [s1, if_neg (by omega)])), congrArg (fun z => some (Value.int IntKind.i64 z)) (by first | (rw [s2, if_pos (by omega)]; rfl) | (rw [s2, if_neg (by omega)])), True.intro⟩ (Keep.cons rfl (Keep.cons rfl (Keep.cons rfl (Keep.cons rfl (Keep.cons rfl (Keep.cons rfl (Keep.cons rfl (Keep.cons rfl (Keep.cons rfl (Keep.cons rfl (Keep.cons rfl (Keep.cons rfl (Keep.cons rfl (Keep.cons rfl (Keep.cons rfl (Keep.cons rfl (Keep.cons rfl (Keep.cons rfl (Keep.cons rfl (Keep.cons rfl (Keep.cons rfl (Keep.cons rfl (Keep.cons rfl (Keep.cons rfl (Keep.cons rfl (Keep.cons rfl (Keep.cons rfl (Keep.cons rfl (Keep.cons rfl (Keep.cons rfl (Keep.cons rfl (Keep.cons rfl (Keep.cons rfl (Keep.app rfl (Keep.rm rfl Keep.base))))))))))))))))))))))))))))))))))), hh⟩, by omega⟩
       ·have hG27 := hg27; try simp only [gS] at hG27
        refine o_off hf ?_; clear hf a; intro a hf
        refine o_off hf ?_; clear hf a; intro a hf
        refine o_off hf ?_; clear hf a; intro a hf
        refine o_off hf ?_; clear hf a; intro a hf
        refine o_off hf ?_; clear hf a; intro a hf
        refine o_off hf ?_; clear hf a; intro a hf
        refine o_v hf hh (y_pf rfl rfl) ?_; clear hf a; intro a hf
        refine o_end ?_
        refine c_f hf ?_
        refine sy_skip ?_
        refine blk_n ?_
        refine then_n ?_
        refine sy_ops ?_
        refine o_v hf hh (yv_move rfl) ?_; clear hf a; intro a hf
        refine o_v hf hh (y_add rfl rfl) ?_; clear hf a; intro a hf
        refine o_v hf hh (yv_assign rfl) ?_; clear hf a; intro a hf
        refine ops_end ?_
        refine then_n ?_
        exact ⟨i + 1, ⟨by omega, hf.head ⟨rfl, congrArg (fun z => some (Value.int IntKind.i64 z)) (by first | (rw [s0, if_pos (by omega)]; rfl) | (rw [s0, if_neg (by omega)])), congrArg (fun z => some (Value.int IntKind.i64 z)) (by first | (rw [s1, if_pos (by omega)]; rfl) | (rw [s1, if_neg (by omega)])), congrArg (fun z => some (Value.int IntKind.i64 z)) (by first | (rw [s2, if_pos (by omega)]; rfl) | (rw [s2, if_neg (by omega)])), True.intro⟩ (Keep.cons rfl (Keep.cons rfl (Keep.cons rfl (Keep.cons rfl (Keep.cons rfl (Keep.cons rfl (Keep.cons rfl (Keep.cons rfl (Keep.cons rfl (Keep.cons rfl (Keep.cons rfl (Keep.cons rfl (Keep.cons rfl (Keep.cons rfl (Keep.cons rfl (Keep.cons rfl (Keep.cons rfl (Keep.cons rfl (Keep.cons rfl (Keep.cons rfl (Keep.cons rfl (Keep.cons rfl (Keep.cons rfl (Keep.cons rfl (Keep.cons rfl (Keep.cons rfl (Keep.cons rfl (Keep.cons rfl (Keep.cons rfl (Keep.cons rfl (Keep.cons rfl (Keep.cons rfl (Keep.cons rfl (Keep.app rfl (Keep.rm rfl Keep.base))))))))))))))))))))))))))))))))))), hh⟩, by omega⟩
    ·have hG7 := hg7; try simp only [gS] at hG7
     refine sy_exit ?_
     refine then_e ?_
     refine then_e ?_
     refine blk_e ?_
     refine then_n ?_
     refine sy_seq ?_
     obtain ⟨m0, m1, m2⟩ := sd_le (L.take i)
     refine sy_ops ?_
     refine o_v hf hh (yv_move rfl) ?_; clear hf a; intro a hf
     refine o_v hf hh (yv_move rfl) ?_; clear hf a; intro a hf
     refine o_v hf hh (y_add rfl rfl) ?_; clear hf a; intro a hf
     refine o_v hf hh (yv_move rfl) ?_; clear hf a; intro a hf
     refine o_v hf hh (y_add rfl rfl) ?_; clear hf a; intro a hf
     refine o_v hf hh (yv_assign rfl) ?_; clear hf a; intro a hf
     refine o_v hf hh (yv_assign rfl) ?_; clear hf a; intro a hf
     refine o_end ?_
     refine sy_ret ?_
     refine ret_r hf rfl rfl ?_
     obtain rfl : i = L.length := by omega
     rw [List.take_length] at m0 m1 m2 ⊢
     have hss := sides_sum hon
     have hsp := sideS_perm hpm
     refine ⟨?_, he1.trans hh.ext⟩
     unfold sidesV; rw [hg0, if_pos rfl, ← hsp, ← hss]
     push_cast
     rfl
theorem r20 (d : RowsD) (p : Int) (sa sb : Option Addr) (ca cb : Nat) (u : World) (hA : MkAt u sa d.l) (hB : MkAt u sb d.r) (hla : d.l.length ≤ 1000000) (hlb : d.r.length ≤ 1000000) : Calls Tryz.prog 20 #[canV d p sa sb ca cb] u (Ret fun v w' => v = .tuple #[.int .i64 ((lensV d p).1 : Nat), .int .i64 ((lensV d p).2.1 : Nat), .int .i64 ((lensV d p).2.2 : Nat), .int .i64 (lensE d p)] ∧ Ext [] u w') := by
  refine calls_of Tryz.func20 rfl rfl (fun a hf => ?_)
  have hh := Hp.init u []
  refine sy_sq ?_
  refine o_box hf hh ?_; clear hf hh a; intro B1 a w hf hh
  refine o_v hf hh (yv_assign rfl) ?_; clear hf a; intro a hf
  refine o_v hf hh (yv_assign rfl) ?_; clear hf a; intro a hf
  refine o_v hf hh (yv_assign rfl) ?_; clear hf a; intro a hf
  refine o_v hf hh (yv_assign rfl) ?_; clear hf a; intro a hf
  refine o_end ?_
  refine sy_sq ?_
  refine o_v hf hh (y_lds Tryz.ag_28 rfl) ?_; clear hf a; intro a hf
  refine o_call hf Tryz.en_42 rfl rfl rfl (r42 d p sa sb ca cb _ (hA.ext hh.ext) (hB.ext hh.ext) hla hlb) ?_; clear hf a; intro v a w hR hf
  obtain ⟨oa, nn, cp, rfl, hop, hx⟩ := hR; replace hh := hh.more hx; clear hx
  have he1 := hh.ext
  have hb1 := hh.at (i := 0) rfl
  have hA1 := hA.ext hh.ext
  have hB1 := hB.ext hh.ext
  obtain ⟨u1, rfl⟩ : ∃ z, z = w := ⟨_, rfl⟩
  replace hh := Hp.init u1 []
  
  refine o_v hf hh (yv_move rfl) ?_; clear hf a; intro a hf
  refine o_v hf hh (yv_extract rfl rfl) ?_; clear hf a; intro a hf
  refine o_v hf hh (yv_extract rfl rfl) ?_; clear hf a; intro a hf
  refine o_v hf hh (yv_assign rfl) ?_; clear hf a; intro a hf
  refine o_v hf hh (yv_assign rfl) ?_; clear hf a; intro a hf
  refine o_end ?_
  refine sy_seq ?_
  refine sy_sq ?_
  refine o_v hf hh (yv_move rfl) ?_; clear hf a; intro a hf
  refine o_v hf hh (yv_bin rfl rfl rfl) ?_; clear hf a; intro a hf
  refine o_end ?_
  refine sy_cond hf rfl (fun hg5 => ?_) (fun hg5 => ?_)
  ·have hG5 := hg5; try simp only [gS] at hG5
   refine sy_sq ?_
   refine o_v hf hh (yv_move rfl) ?_; clear hf a; intro a hf
   refine o_v hf hh (yv_assign rfl) ?_; clear hf a; intro a hf
   refine o_v hf hh (yv_assign rfl) ?_; clear hf a; intro a hf
   refine o_v hf hh (yv_assign rfl) ?_; clear hf a; intro a hf
   refine o_v hf hh (yv_assign rfl) ?_; clear hf a; intro a hf
   refine o_end ?_
   refine sy_ret ?_
   refine then_r ?_
   refine ret_r hf rfl rfl ?_
   have e2 := lensE_no (d := d) (p := p) (by omega)
   exact ⟨by unfold lensV; rw [if_neg e2.2, e2.1]; rfl, he1.trans hh.ext⟩
  ·have hG5 := hg5; try simp only [gS] at hG5
   refine sy_skip ?_
   refine then_n ?_
   refine sy_seq ?_
   refine sy_seq ?_
   have hg0 : gatE d p = 0 := by omega
   obtain ⟨rfl, hv0⟩ := hop hg0
   have hok : okCan d p = true := by
     cases hk : okCan d p
     · have := (gatE_1 hk).1; omega
     · rfl
   obtain ⟨hV, hp0, hp3⟩ := okCan_valid hok
   have hrl := ref_len (d := d) hp0
   have hlen := casesL_len (p := p) hV
   have hpm := ref_perm (d := d) hp0
   have hne := (gat_pos hok).1 hg0
   have hcl := List.length_pos_iff.2 hne
   obtain ⟨L, hL⟩ : ∃ z, z = refL d p := ⟨_, rfl⟩
   rw [← hL] at hv0 hrl hpm hf
   have hlt : ∀ x ∈ L, x.1 < 1024 ∧ x.2 < 1024 := fun x hx => cases_1024 hV (hpm.mem_iff.1 hx)
   have hln : L.length ≤ 3000 := by omega
   have hnl := hV.nl; have hnr := hV.nr
   refine sy_ops ?_
   refine o_v hf hh (yv_move rfl) ?_; clear hf a; intro a hf
   refine o_v hf hh (yv_len Tryz.se_64 rfl) ?_; clear hf a; intro a hf
   refine o_v hf hh (yv_bin rfl rfl rfl) ?_; clear hf a; intro a hf
   refine o_end ?_
   refine sy_cond hf rfl (fun hg7 => ?_) (fun hg7 => ?_)
   ·have hG7 := hg7; try simp only [gS] at hG7
    refine sy_sq ?_
    refine o_v hf hh (yv_assign rfl) ?_; clear hf a; intro a hf
    refine o_v hf hh (yv_assign rfl) ?_; clear hf a; intro a hf
    refine o_v hf hh (yv_assign rfl) ?_; clear hf a; intro a hf
    refine o_v hf hh (yv_assign rfl) ?_; clear hf a; intro a hf
    refine o_end ?_
    refine sy_ret ?_
    refine then_r ?_
    refine ret_r hf rfl rfl ?_
    have e2 := lensE_4 hg0 (show (casesL d p).length ≤ 1 by omega)
    exact ⟨by unfold lensV; rw [e2, if_neg (by omega)]; rfl, he1.trans hh.ext⟩
   ·have hG7 := hg7; try simp only [gS] at hG7
    refine sy_skip ?_
    refine then_n ?_
    refine sy_sq ?_
    refine o_v hf hh (yv_move rfl) ?_; clear hf a; intro a hf
    refine o_v hf hh (yv_len Tryz.se_64 rfl) ?_; clear hf a; intro a hf
    refine ops_v hf hh (yv_cast (yv_add rfl rfl (by omega) (by omega)) (intv (b := ((L.length + 1 : Nat) : Int)) (by omega))) (.inl rfl) rfl rfl rfl ?_; clear hf a; intro a hf
    refine o_v hf hh (yv_assign rfl) ?_; clear hf a; intro a hf
    refine o_v hf hh (yv_assign rfl) ?_; clear hf a; intro a hf
    refine o_v hf hh (yv_assign rfl) ?_; clear hf a; intro a hf
    refine o_end ?_
    refine sy_seq ?_
    refine sy_sq ?_
    refine o_v hf hh (yv_assign rfl) ?_; clear hf a; intro a hf
    refine o_end ?_
    refine sy_block ?_
    refine sy_loopH (σ := Nat × Nat × Nat × Nat) [8, 9, 10, 11, 27, 28, 29, 30, 31, 32, 33, 34, 35, 36, 37, 38, 39, 40, 41, 42, 43] (fun q => [(11, .int .i64 (q.1 : Nat)), (8, .int .i64 (q.2.1 : Nat)), (9, .int .i64 (q.2.2.1 : Nat)), (10, .int .i64 (q.2.2.2 : Nat))]) (fun q => fun w' => q.1 ≤ d.l.length ∧ q.2 = lensR L 0 q.1 (0, 0, L.length + 1) ∧ Hp u1 [] [] w') (fun q => d.l.length - q.1) ((0, 0, 0, L.length + 1)) hf ?_ ?_ ?_
    · repeat' (first | exact True.intro | refine And.intro rfl ?_)
    · exact ⟨Nat.zero_le _, rfl, hh⟩
    ·rintro q a w ⟨hi, hs, hh⟩ hf
     obtain ⟨i, s1, s2, s3⟩ := q; simp only at hi hs hh hf ⊢
     refine sy_seq ?_
     refine sy_sq ?_
     refine o_v hf hh (yv_move rfl) ?_; clear hf a; intro a hf
     refine o_v hf hh (yv_fieldAddr Tryz.fo_28_0 rfl) ?_; clear hf a; intro a hf
     refine o_v hf hh (yv_fieldAddr Tryz.fo_26_0 rfl) ?_; clear hf a; intro a hf
     refine o_v hf hh (y_ld Tryz.sc_22 rfl) ?_; clear hf a; intro a hf
     refine o_v hf hh (yv_len Tryz.se_22 rfl) ?_; clear hf a; intro a hf
     refine o_v hf hh (yv_bin rfl rfl rfl) ?_; clear hf a; intro a hf
     refine o_end ?_
     refine sy_cond hf rfl (fun hg10 => ?_) (fun hg10 => ?_)
     ·have hG10 := hg10; try simp only [gS] at hG10
      refine sy_skip ?_
      refine then_n ?_
      refine sy_seq ?_
      refine sy_block ?_
      refine sy_sq ?_
      refine o_v hf hh (yv_move rfl) ?_; clear hf a; intro a hf
      refine o_v hf hh (yv_move rfl) ?_; clear hf a; intro a hf
      refine o_call hf Tryz.en_51 rfl rfl rfl (r51_0 L oa cp _ (hv0.ext hh.ext) hln hlt i (by omega)) ?_; clear hf a; intro v a w hR hf
      obtain ⟨rfl, hx⟩ := hR; replace hh := hh.more hx; clear hx
      refine o_v hf hh (yv_move rfl) ?_; clear hf a; intro a hf
      refine o_v hf hh (yv_bin rfl rfl rfl) ?_; clear hf a; intro a hf
      refine o_end ?_
      refine sy_cond hf rfl (fun hg13 => ?_) (fun hg13 => ?_)
      ·have hG13 := hg13; try simp only [gS] at hG13
       refine sy_ops ?_
       refine o_v hf hh (yv_move rfl) ?_; clear hf a; intro a hf
       refine o_v hf hh (yv_move rfl) ?_; clear hf a; intro a hf
       refine o_v hf hh (yv_move rfl) ?_; clear hf a; intro a hf
       refine o_call hf Tryz.en_51 rfl rfl rfl (r51_0 L oa cp _ (hv0.ext hh.ext) hln hlt i (by omega)) ?_; clear hf a; intro v a w hR hf
       obtain ⟨rfl, hx⟩ := hR; replace hh := hh.more hx; clear hx
       refine o_v hf hh (yv_assign rfl) ?_; clear hf a; intro a hf
       refine o_v hf hh (yv_assign rfl) ?_; clear hf a; intro a hf
       refine o_v hf hh (yv_assign rfl) ?_; clear hf a; intro a hf
       refine ops_end ?_
       refine blk_n ?_
       refine then_n ?_
       refine sy_ops ?_
       refine o_v hf hh (yv_move rfl) ?_; clear hf a; intro a hf
       refine o_v hf hh (y_add rfl rfl) ?_; clear hf a; intro a hf
       refine o_v hf hh (yv_assign rfl) ?_; clear hf a; intro a hf
       refine ops_end ?_
       refine then_n ?_
       have hl3 : (lensR L 0 i (0, 0, L.length + 1)).2.2 = s3 := by rw [← hs]
       first
         | exact ⟨(i + 1, ofN 0, i, toldN L 0 i), ⟨⟨by simp only; omega, by simp only; rw [lensR, if_pos (by omega)], hh⟩, hf.head ⟨rfl, rfl, rfl, rfl, True.intro⟩ (Keep.cons rfl (Keep.cons rfl (Keep.cons rfl (Keep.cons rfl (Keep.cons rfl (Keep.cons rfl (Keep.cons rfl (Keep.cons rfl (Keep.cons rfl (Keep.cons rfl (Keep.cons rfl (Keep.cons rfl (Keep.cons rfl (Keep.cons rfl (Keep.cons rfl (Keep.cons rfl (Keep.cons rfl (Keep.cons rfl (Keep.cons rfl (Keep.cons rfl (Keep.cons rfl (Keep.app rfl (Keep.rm rfl Keep.base)))))))))))))))))))))))⟩, by simp only; omega⟩
         | exact ⟨(i + 1, s1, s2, s3), ⟨⟨by simp only; omega, by simp only; rw [lensR, if_neg (by omega)]; exact hs, hh⟩, hf.head ⟨rfl, rfl, rfl, rfl, True.intro⟩ (Keep.cons rfl (Keep.cons rfl (Keep.cons rfl (Keep.cons rfl (Keep.cons rfl (Keep.cons rfl (Keep.cons rfl (Keep.cons rfl (Keep.cons rfl (Keep.cons rfl (Keep.cons rfl (Keep.cons rfl (Keep.cons rfl (Keep.cons rfl (Keep.cons rfl (Keep.cons rfl (Keep.cons rfl (Keep.cons rfl (Keep.cons rfl (Keep.cons rfl (Keep.cons rfl (Keep.app rfl (Keep.rm rfl Keep.base)))))))))))))))))))))))⟩, by simp only; omega⟩
         | omega
      ·have hG13 := hg13; try simp only [gS] at hG13
       refine sy_skip ?_
       refine blk_n ?_
       refine then_n ?_
       refine sy_ops ?_
       refine o_v hf hh (yv_move rfl) ?_; clear hf a; intro a hf
       refine o_v hf hh (y_add rfl rfl) ?_; clear hf a; intro a hf
       refine o_v hf hh (yv_assign rfl) ?_; clear hf a; intro a hf
       refine ops_end ?_
       refine then_n ?_
       have hl3 : (lensR L 0 i (0, 0, L.length + 1)).2.2 = s3 := by rw [← hs]
       first
         | exact ⟨(i + 1, ofN 0, i, toldN L 0 i), ⟨⟨by simp only; omega, by simp only; rw [lensR, if_pos (by omega)], hh⟩, hf.head ⟨rfl, rfl, rfl, rfl, True.intro⟩ (Keep.cons rfl (Keep.cons rfl (Keep.cons rfl (Keep.cons rfl (Keep.cons rfl (Keep.cons rfl (Keep.cons rfl (Keep.cons rfl (Keep.cons rfl (Keep.cons rfl (Keep.cons rfl (Keep.cons rfl (Keep.cons rfl (Keep.cons rfl (Keep.app rfl (Keep.rm rfl Keep.base))))))))))))))))⟩, by simp only; omega⟩
         | exact ⟨(i + 1, s1, s2, s3), ⟨⟨by simp only; omega, by simp only; rw [lensR, if_neg (by omega)]; exact hs, hh⟩, hf.head ⟨rfl, rfl, rfl, rfl, True.intro⟩ (Keep.cons rfl (Keep.cons rfl (Keep.cons rfl (Keep.cons rfl (Keep.cons rfl (Keep.cons rfl (Keep.cons rfl (Keep.cons rfl (Keep.cons rfl (Keep.cons rfl (Keep.cons rfl (Keep.cons rfl (Keep.cons rfl (Keep.cons rfl (Keep.app rfl (Keep.rm rfl Keep.base))))))))))))))))⟩, by simp only; omega⟩
         | omega
     ·have hG10 := hg10; try simp only [gS] at hG10
      refine sy_exit ?_
      refine then_e ?_
      refine then_e ?_
      refine blk_e ?_
      refine then_n ?_
      refine sy_seq ?_
      refine sy_sq ?_
      refine o_v hf hh (yv_assign rfl) ?_; clear hf a; intro a hf
      refine o_end ?_
      refine sy_block ?_
      refine sy_loopH (σ := Nat × Nat × Nat × Nat) [8, 9, 10, 12, 44, 45, 46, 47, 48, 49, 50, 51, 52, 53, 54, 55, 56, 57, 58, 59, 60] (fun q => [(12, .int .i64 (q.1 : Nat)), (8, .int .i64 (q.2.1 : Nat)), (9, .int .i64 (q.2.2.1 : Nat)), (10, .int .i64 (q.2.2.2 : Nat))]) (fun q => fun w' => q.1 ≤ d.r.length ∧ q.2 = lensR L 1 q.1 (lensR L 0 d.l.length (0, 0, L.length + 1)) ∧ Hp u1 [] [] w') (fun q => d.r.length - q.1) ((0, s1, s2, s3)) hf ?_ ?_ ?_
      · repeat' (first | exact True.intro | refine And.intro rfl ?_)
      · exact ⟨Nat.zero_le _, by simp only; rw [hs, show i = d.l.length by omega]; rfl, hh⟩
      ·rintro q a w ⟨hi, hs, hh⟩ hf
       obtain ⟨i, s1, s2, s3⟩ := q; simp only at hi hs hh hf ⊢
       refine sy_seq ?_
       refine sy_sq ?_
       refine o_v hf hh (yv_move rfl) ?_; clear hf a; intro a hf
       refine o_v hf hh (yv_fieldAddr Tryz.fo_28_0 rfl) ?_; clear hf a; intro a hf
       refine o_v hf hh (yv_fieldAddr Tryz.fo_26_1 rfl) ?_; clear hf a; intro a hf
       refine o_v hf hh (y_ld Tryz.sc_22 rfl) ?_; clear hf a; intro a hf
       refine o_v hf hh (yv_len Tryz.se_22 rfl) ?_; clear hf a; intro a hf
       refine o_v hf hh (yv_bin rfl rfl rfl) ?_; clear hf a; intro a hf
       refine o_end ?_
       refine sy_cond hf rfl (fun hg16 => ?_) (fun hg16 => ?_)
       ·have hG16 := hg16; try simp only [gS] at hG16
        refine sy_skip ?_
        refine then_n ?_
        refine sy_seq ?_
        refine sy_block ?_
        refine sy_sq ?_
        refine o_v hf hh (yv_move rfl) ?_; clear hf a; intro a hf
        refine o_v hf hh (yv_move rfl) ?_; clear hf a; intro a hf
        refine o_call hf Tryz.en_51 rfl rfl rfl (r51_1 L oa cp _ (hv0.ext hh.ext) hln hlt i (by omega)) ?_; clear hf a; intro v a w hR hf
        obtain ⟨rfl, hx⟩ := hR; replace hh := hh.more hx; clear hx
        refine o_v hf hh (yv_move rfl) ?_; clear hf a; intro a hf
        refine o_v hf hh (yv_bin rfl rfl rfl) ?_; clear hf a; intro a hf
        refine o_end ?_
        refine sy_cond hf rfl (fun hg19 => ?_) (fun hg19 => ?_)
        ·have hG19 := hg19; try simp only [gS] at hG19
         refine sy_ops ?_
         refine o_v hf hh (yv_move rfl) ?_; clear hf a; intro a hf
         refine o_v hf hh (yv_move rfl) ?_; clear hf a; intro a hf
         refine o_v hf hh (yv_move rfl) ?_; clear hf a; intro a hf
         refine o_call hf Tryz.en_51 rfl rfl rfl (r51_1 L oa cp _ (hv0.ext hh.ext) hln hlt i (by omega)) ?_; clear hf a; intro v a w hR hf
         obtain ⟨rfl, hx⟩ := hR; replace hh := hh.more hx; clear hx
         refine o_v hf hh (yv_assign rfl) ?_; clear hf a; intro a hf
         refine o_v hf hh (yv_assign rfl) ?_; clear hf a; intro a hf
         refine o_v hf hh (yv_assign rfl) ?_; clear hf a; intro a hf
         refine ops_end ?_
         refine blk_n ?_
         refine then_n ?_
         refine sy_ops ?_
         refine o_v hf hh (yv_move rfl) ?_; clear hf a; intro a hf
         refine o_v hf hh (y_add rfl rfl) ?_; clear hf a; intro a hf
         refine o_v hf hh (yv_assign rfl) ?_; clear hf a; intro a hf
         refine ops_end ?_
         refine then_n ?_
         have hl3 : (lensR L 1 i (lensR L 0 d.l.length (0, 0, L.length + 1))).2.2 = s3 := by rw [← hs]
         first
           | exact ⟨(i + 1, ofN 1, i, toldN L 1 i), ⟨⟨by simp only; omega, by simp only; rw [lensR, if_pos (by omega)], hh⟩, hf.head ⟨rfl, rfl, rfl, rfl, True.intro⟩ (Keep.cons rfl (Keep.cons rfl (Keep.cons rfl (Keep.cons rfl (Keep.cons rfl (Keep.cons rfl (Keep.cons rfl (Keep.cons rfl (Keep.cons rfl (Keep.cons rfl (Keep.cons rfl (Keep.cons rfl (Keep.cons rfl (Keep.cons rfl (Keep.cons rfl (Keep.cons rfl (Keep.cons rfl (Keep.cons rfl (Keep.cons rfl (Keep.cons rfl (Keep.cons rfl (Keep.app rfl (Keep.rm rfl Keep.base)))))))))))))))))))))))⟩, by simp only; omega⟩
           | exact ⟨(i + 1, s1, s2, s3), ⟨⟨by simp only; omega, by simp only; rw [lensR, if_neg (by omega)]; exact hs, hh⟩, hf.head ⟨rfl, rfl, rfl, rfl, True.intro⟩ (Keep.cons rfl (Keep.cons rfl (Keep.cons rfl (Keep.cons rfl (Keep.cons rfl (Keep.cons rfl (Keep.cons rfl (Keep.cons rfl (Keep.cons rfl (Keep.cons rfl (Keep.cons rfl (Keep.cons rfl (Keep.cons rfl (Keep.cons rfl (Keep.cons rfl (Keep.cons rfl (Keep.cons rfl (Keep.cons rfl (Keep.cons rfl (Keep.cons rfl (Keep.cons rfl (Keep.app rfl (Keep.rm rfl Keep.base)))))))))))))))))))))))⟩, by simp only; omega⟩
           | omega
        ·have hG19 := hg19; try simp only [gS] at hG19
         refine sy_skip ?_
         refine blk_n ?_
         refine then_n ?_
         refine sy_ops ?_
         refine o_v hf hh (yv_move rfl) ?_; clear hf a; intro a hf
         refine o_v hf hh (y_add rfl rfl) ?_; clear hf a; intro a hf
         refine o_v hf hh (yv_assign rfl) ?_; clear hf a; intro a hf
         refine ops_end ?_
         refine then_n ?_
         have hl3 : (lensR L 1 i (lensR L 0 d.l.length (0, 0, L.length + 1))).2.2 = s3 := by rw [← hs]
         first
           | exact ⟨(i + 1, ofN 1, i, toldN L 1 i), ⟨⟨by simp only; omega, by simp only; rw [lensR, if_pos (by omega)], hh⟩, hf.head ⟨rfl, rfl, rfl, rfl, True.intro⟩ (Keep.cons rfl (Keep.cons rfl (Keep.cons rfl (Keep.cons rfl (Keep.cons rfl (Keep.cons rfl (Keep.cons rfl (Keep.cons rfl (Keep.cons rfl (Keep.cons rfl (Keep.cons rfl (Keep.cons rfl (Keep.cons rfl (Keep.cons rfl (Keep.app rfl (Keep.rm rfl Keep.base))))))))))))))))⟩, by simp only; omega⟩
           | exact ⟨(i + 1, s1, s2, s3), ⟨⟨by simp only; omega, by simp only; rw [lensR, if_neg (by omega)]; exact hs, hh⟩, hf.head ⟨rfl, rfl, rfl, rfl, True.intro⟩ (Keep.cons rfl (Keep.cons rfl (Keep.cons rfl (Keep.cons rfl (Keep.cons rfl (Keep.cons rfl (Keep.cons rfl (Keep.cons rfl (Keep.cons rfl (Keep.cons rfl (Keep.cons rfl (Keep.cons rfl (Keep.cons rfl (Keep.cons rfl (Keep.app rfl (Keep.rm rfl Keep.base))))))))))))))))⟩, by simp only; omega⟩
           | omega
       ·have hG16 := hg16; try simp only [gS] at hG16
        refine sy_exit ?_
        refine then_e ?_
        refine then_e ?_
        refine blk_e ?_
        refine then_n ?_
        refine sy_sq ?_
        refine o_v hf hh (yv_move rfl) ?_; clear hf a; intro a hf
        refine o_v hf hh (yv_move rfl) ?_; clear hf a; intro a hf
        refine o_v hf hh (yv_move rfl) ?_; clear hf a; intro a hf
        refine o_v hf hh (yv_assign rfl) ?_; clear hf a; intro a hf
        refine o_v hf hh (yv_assign rfl) ?_; clear hf a; intro a hf
        refine o_v hf hh (yv_assign rfl) ?_; clear hf a; intro a hf
        refine o_v hf hh (yv_assign rfl) ?_; clear hf a; intro a hf
        refine o_end ?_
        refine sy_ret ?_
        refine ret_r hf rfl rfl ?_
        have e2 := lensE_ok hg0 (show 1 < (casesL d p).length by omega)
        have hlp := lensAt_perm (d := d) hpm 2
        have hfin : (s1, s2, s3) = lensAt d L 2 := by rw [hs, show i = d.r.length by omega]; rfl
        exact ⟨by unfold lensV; rw [e2, if_pos rfl, ← hlp, ← hfin]; rfl, he1.trans hh.ext⟩
end Go.Proofs.YtidieepndphodaaGreat
namespace Go.Proofs.YtidieepndphodaaGreat
open Go Go.Sy Go.MatM
set_option maxRecDepth 100000
theorem r8 (d : RowsD) (p : Int) (sa sb : Option Addr) (ca cb : Nat) (u : World) (hA : MkAt u sa d.l) (hB : MkAt u sb d.r) (hla : d.l.length ≤ 24) (hlb : d.r.length ≤ 24) (l r : Int) : Calls Tryz.prog 8 #[canV d p sa sb ca cb, .int .i64 l, .int .i64 r] u (Ret fun v w' => v = .tuple #[.bool (fitsCV d p l r), .int .i64 (fitsCE d p l r)] ∧ Ext [] u w') := by
  refine calls_of Tryz.func8 rfl rfl (fun a hf => ?_)
  have hh := Hp.init u []
  refine sy_sq ?_
  refine o_box hf hh ?_; clear hf hh a; intro B3 a w hf hh
  refine o_v hf hh (yv_assign rfl) ?_; clear hf a; intro a hf
  refine o_v hf hh (yv_assign rfl) ?_; clear hf a; intro a hf
  refine o_end ?_
  refine sy_seq ?_
  refine sy_sq ?_
  refine o_v hf hh (y_lds Tryz.ag_28 rfl) ?_; clear hf a; intro a hf
  refine o_call hf Tryz.en_24 rfl rfl rfl (p19 d p sa sb ca cb _ (hA.ext hh.ext) (hB.ext hh.ext) (by omega) (by omega)) ?_; clear hf a; intro v a w hR hf
  obtain ⟨rfl, hx⟩ := hR; replace hh := hh.more hx; clear hx
  refine o_v hf hh (yv_not rfl) ?_; clear hf a; intro a hf
  refine o_end ?_
  refine sy_cond hf rfl (fun hg2 => ?_) (fun hg2 => ?_)
  ·have hG2 := hg2; try simp only [gS] at hG2
   refine sy_sq ?_
   refine o_v hf hh (yv_assign rfl) ?_; clear hf a; intro a hf
   refine o_v hf hh (yv_assign rfl) ?_; clear hf a; intro a hf
   refine o_end ?_
   refine sy_ret ?_
   refine then_r ?_
   refine ret_r hf rfl rfl ?_
   have e := fitsCE_1 (l := l) (r := r) (show okCan d p = false by assumption)
   exact ⟨by rw [fitsCV_no (by omega), e]; rfl, hh.ext⟩
  ·have hG2 := hg2; try simp only [gS] at hG2
   refine sy_skip ?_
   refine then_n ?_
   refine sy_seq ?_
   refine sy_sq ?_
   refine o_v hf hh (y_lds Tryz.ag_28 rfl) ?_; clear hf a; intro a hf
   refine o_v hf hh (yv_move rfl) ?_; clear hf a; intro a hf
   refine o_v hf hh (yv_move rfl) ?_; clear hf a; intro a hf
   refine o_call hf Tryz.en_33 rfl rfl rfl (p32 d p sa sb ca cb _ (hA.ext hh.ext) (hB.ext hh.ext) hla hlb l r) ?_; clear hf a; intro v a w hR hf
   obtain ⟨rfl, hx⟩ := hR; replace hh := hh.more hx; clear hx
   refine o_v hf hh (yv_not rfl) ?_; clear hf a; intro a hf
   refine o_end ?_
   refine sy_cond hf rfl (fun hg4 => ?_) (fun hg4 => ?_)
   ·have hG4 := hg4; try simp only [gS] at hG4
    refine sy_sq ?_
    refine o_v hf hh (yv_assign rfl) ?_; clear hf a; intro a hf
    refine o_v hf hh (yv_assign rfl) ?_; clear hf a; intro a hf
    refine o_end ?_
    refine sy_ret ?_
    refine then_r ?_
    refine ret_r hf rfl rfl ?_
    have e := fitsCE_2 (show okCan d p = true by assumption) (show askS d l r = false by assumption)
    exact ⟨by rw [fitsCV_no (by omega), e]; rfl, hh.ext⟩
   ·have hG4 := hg4; try simp only [gS] at hG4
    refine sy_skip ?_
    refine then_n ?_
    refine sy_seq ?_
    have hok : okCan d p = true := by assumption
    have hask : askS d l r = true := by assumption
    obtain ⟨hV, hp0, hp3⟩ := okCan_valid hok
    have hbd := askS_bd hV hask
    obtain ⟨x, rfl⟩ : ∃ x : Nat, l = x := ⟨l.toNat, by omega⟩
    obtain ⟨y, rfl⟩ : ∃ y : Nat, r = y := ⟨r.toNat, by omega⟩
    have hE0 := fitsCE_0 hok hask
    refine sy_ops ?_
    refine o_v hf hh (y_lds Tryz.ag_28 rfl) ?_; clear hf a; intro a hf
    refine o_v hf hh (yv_move rfl) ?_; clear hf a; intro a hf
    refine o_v hf hh (yv_move rfl) ?_; clear hf a; intro a hf
    refine o_call hf Tryz.en_34 rfl rfl rfl (r34 d p sa sb ca cb _ (hA.ext hh.ext) (hB.ext hh.ext) hV (x, y) (by simp only; omega) (by simp only; omega)) ?_; clear hf a; intro v a w hR hf
    obtain ⟨rfl, hx⟩ := hR; replace hh := hh.more hx; clear hx
    refine o_v hf hh (yv_assign rfl) ?_; clear hf a; intro a hf
    refine o_v hf hh (yv_assign rfl) ?_; clear hf a; intro a hf
    refine o_end ?_
    refine sy_ret ?_
    refine ret_r hf rfl rfl ?_
    exact ⟨by rw [fitsCV_ok hE0, hE0]; rfl, hh.ext⟩
theorem r22 (d : RowsD) (p : Int) (sa sb : Option Addr) (ca cb : Nat) (u : World) (hA : MkAt u sa d.l) (hB : MkAt u sb d.r) (hla : d.l.length ≤ 1000000) (hlb : d.r.length ≤ 1000000) : Calls Tryz.prog 22 #[canV d p sa sb ca cb] u (Ret fun v w' => ∃ oa ob cpa cpb, v = .tuple #[rowsV (restD d p) oa ob cpa cpb, .int .i64 (gatE d p)] ∧ MkAt w' oa (restD d p).l ∧ MkAt w' ob (restD d p).r ∧ Ext [] u w') := by
  refine calls_of Tryz.func22 rfl rfl (fun a hf => ?_)
  have hh := Hp.init u []
  refine sy_sq ?_
  refine o_box hf hh ?_; clear hf hh a; intro B1 a w hf hh
  refine o_alloc hf hh Tryz.ze_26 ?_; clear hf hh a; intro B2 a w hf hh
  refine o_v hf hh (yv_assign rfl) ?_; clear hf a; intro a hf
  refine o_end ?_
  refine sy_sq ?_
  refine o_v hf hh (y_lds Tryz.ag_28 rfl) ?_; clear hf a; intro a hf
  refine o_call hf Tryz.en_18 rfl rfl rfl (r18 d p sa sb ca cb _ (hA.ext hh.ext) (hB.ext hh.ext) hla hlb) ?_; clear hf a; intro v a w hR hf
  obtain ⟨rfl, hx⟩ := hR; replace hh := hh.more hx; clear hx
  refine o_v hf hh (yv_move rfl) ?_; clear hf a; intro a hf
  refine o_v hf hh (yv_extract rfl rfl) ?_; clear hf a; intro a hf
  refine o_v hf hh (yv_extract rfl rfl) ?_; clear hf a; intro a hf
  refine o_v hf hh (yv_extract rfl rfl) ?_; clear hf a; intro a hf
  refine o_v hf hh (yv_assign rfl) ?_; clear hf a; intro a hf
  refine o_v hf hh (yv_assign rfl) ?_; clear hf a; intro a hf
  refine o_v hf hh (yv_assign rfl) ?_; clear hf a; intro a hf
  refine o_end ?_
  refine sy_seq ?_
  refine sy_sq ?_
  refine o_v hf hh (yv_move rfl) ?_; clear hf a; intro a hf
  refine o_v hf hh (yv_bin rfl rfl rfl) ?_; clear hf a; intro a hf
  refine o_end ?_
  refine sy_cond hf rfl (fun hg6 => ?_) (fun hg6 => ?_)
  ·have hG6 := hg6; try simp only [gS] at hG6
   refine sy_sq ?_
   refine o_v hf hh (yv_buildS Tryz.bs_26 rfl rfl) ?_; clear hf a; intro a hf
   refine o_v hf hh (yv_move rfl) ?_; clear hf a; intro a hf
   refine o_store hf hh Tryz.sz_26 fun w hh => ?_
   refine o_v hf hh (yv_assign rfl) ?_; clear hf a; intro a hf
   refine o_end ?_
   refine sy_ret ?_
   refine then_r ?_
   refine ret_c (vs := [rowsV ⟨[], [], 0, 0, 0⟩ none none 0 0, .int .i64 (gatE d p)]) hf ?_ ?_
   · exact ⟨⟨B2, 0, _, 26, (0, 0), rfl, hh.at (i := 0) rfl, .inr ⟨5, _, Tryz.ag_26, rfl, rfl⟩⟩, rfl, trivial⟩
   exact ⟨none, none, 0, 0, by rw [restD_no (by omega)]; rfl, by rw [restD_no (by omega)]; exact MkAt.nil _ _, by rw [restD_no (by omega)]; exact MkAt.nil _ _, hh.ext⟩
  ·have hG6 := hg6; try simp only [gS] at hG6
   refine sy_skip ?_
   refine then_n ?_
   refine sy_seq ?_
   have hg0 : gatE d p = 0 := by omega
   have hok : okCan d p = true := by
     cases hk : okCan d p
     · have := (gatE_1 hk).1; omega
     · rfl
   obtain ⟨hV, hp0, hp3⟩ := okCan_valid hok
   have hnl := hV.nl; have hnr := hV.nr
   have hjo := joinV_lt (p := p) hV
   have ja1 := hjo.a1; have ja2 := hjo.a2
   have hrw : restD d p = woD d (joinV d p).a := by rw [restD_ok hg0, joinV_a hg0]
   refine sy_ops ?_
   refine o_v hf hh (yv_fieldAddr Tryz.fo_28_0 rfl) ?_; clear hf a; intro a hf
   refine o_v hf hh (y_lds Tryz.ag_26 rfl) ?_; clear hf a; intro a hf
   refine o_v hf hh (yv_move rfl) ?_; clear hf a; intro a hf
   refine o_v hf hh (yv_move rfl) ?_; clear hf a; intro a hf
   refine o_call hf Tryz.en_54 rfl rfl rfl (p25 d sa sb ca cb _ (hA.ext hh.ext) (hB.ext hh.ext) (by omega) (by omega) (joinV d p).a (by omega) (by omega)) ?_; clear hf a; intro v a w hR hf
   obtain ⟨oc, od, cpc, cpd, XC, XD, rfl, hOC, hOD, hx⟩ := hR; replace hh := (hh.join hx).perm List.perm_append_comm; clear hx
   refine o_store hf hh Tryz.sz_26 fun w hh => ?_
   refine o_v hf hh (yv_assign rfl) ?_; clear hf a; intro a hf
   refine o_end ?_
   refine sy_ret ?_
   refine ret_c (vs := [rowsV (woD d (joinV d p).a) oc od cpc cpd, .int .i64 0]) hf ?_ ?_
   · exact ⟨⟨B2, 0, _, 26, (0, 0), rfl, hh.at (i := 0) rfl, .inr ⟨5, _, Tryz.ag_26, rfl, rfl⟩⟩, rfl, trivial⟩
   rw [hrw, hg0]
   exact ⟨oc, od, cpc, cpd, rfl, mkAt_of hOC fun x hx => hh.get x (by simp [hx]), mkAt_of hOD fun x hx => hh.get x (by simp [hx]), hh.ext⟩
end Go.Proofs.YtidieepndphodaaGreat
namespace Go.Proofs.YtidieepndphodaaGreat
open Go Go.Sy Go.MatM
set_option maxRecDepth 100000
set_option maxHeartbeats 4000000 in
theorem p3z (d : RowsD) (p : Int) (sa sb : Option Addr) (ca cb : Nat) (u : World) (hA : MkAt u sa d.l) (hB : MkAt u sb d.r) (l r : Int) : Calls Tryz.prog 3 #[canV d p sa sb ca cb, .int .i64 l, .int .i64 r] u (Ret fun v w' => v = .bool true ∧ Ext [] u w') := by
  refine calls_of Tryz.func3 rfl rfl (fun a hf => ?_)
  have hh := Hp.init u []
  refine sy_sq ?_
  refine o_box hf hh ?_; clear hf hh a; intro B3 a w hf hh
  refine o_v hf hh (yv_assign rfl) ?_; clear hf a; intro a hf
  refine o_end ?_
  refine sy_seq ?_
  refine sy_sq ?_
  refine o_v hf hh (y_lds Tryz.ag_28 rfl) ?_; clear hf a; intro a hf
  refine o_call hf Tryz.en_5 rfl rfl rfl (p18 d p sa sb ca cb _ (hA.ext hh.ext) (hB.ext hh.ext) 4) ?_; clear hf a; intro v a w hR hf
  obtain ⟨rfl, hx⟩ := hR; replace hh := hh.more hx; clear hx
  refine o_end ?_
  refine sy_cond hf rfl (fun hg2 => ?_) (fun hg2 => ?_)
  ·have hG2 := hg2; try simp only [gS] at hG2
   refine sy_sq ?_
   refine o_call hf Tryz.en_6 rfl rfl rfl (p17 _) ?_; clear hf a; intro v a w hR hf
   obtain ⟨rfl, hx⟩ := hR; replace hh := hh.more hx; clear hx
   refine o_v hf hh (yv_assign rfl) ?_; clear hf a; intro a hf
   refine o_end ?_
   refine sy_ret ?_
   refine then_r ?_
   refine ret_r hf rfl rfl ?_
   exact ⟨rfl, hh.ext⟩
  ·have hG2 := hg2; try simp only [gS] at hG2
   refine sy_skip ?_
   refine then_n ?_
   refine sy_seq ?_
   have hlen : d.l.length ≤ 24 ∧ d.r.length ≤ 24 := by
     have h9 : (decide (24 < d.l.length ∨ 24 < d.r.length) || (decide ((4 : Int) < d.l.length ∨ (4 : Int) < d.r.length) && okCan d p)) = false := by assumption
     rw [Bool.or_eq_false_iff, decide_eq_false_iff_not] at h9
     omega
   obtain ⟨hla, hlb⟩ := hlen
   refine sy_ops ?_
   refine o_v hf hh (y_lds Tryz.ag_28 rfl) ?_; clear hf a; intro a hf
   refine o_v hf hh (yv_move rfl) ?_; clear hf a; intro a hf
   refine o_v hf hh (yv_move rfl) ?_; clear hf a; intro a hf
   refine o_call hf Tryz.en_7 rfl rfl rfl (p10 d p sa sb ca cb _ (hA.ext hh.ext) (hB.ext hh.ext) l r) ?_; clear hf a; intro v a w hR hf
   obtain ⟨rfl, hx⟩ := hR; replace hh := hh.more hx; clear hx
   refine o_v hf hh (yv_move rfl) ?_; clear hf a; intro a hf
   refine o_v hf hh (yv_extract rfl rfl) ?_; clear hf a; intro a hf
   refine o_v hf hh (yv_extract rfl rfl) ?_; clear hf a; intro a hf
   refine o_v hf hh (yv_assign rfl) ?_; clear hf a; intro a hf
   refine o_v hf hh (yv_assign rfl) ?_; clear hf a; intro a hf
   refine o_end ?_
   refine sy_sq ?_
   refine o_v hf hh (y_lds Tryz.ag_28 rfl) ?_; clear hf a; intro a hf
   refine o_v hf hh (yv_move rfl) ?_; clear hf a; intro a hf
   refine o_v hf hh (yv_move rfl) ?_; clear hf a; intro a hf
   refine o_call hf Tryz.en_8 rfl rfl rfl (r8 d p sa sb ca cb _ (hA.ext hh.ext) (hB.ext hh.ext) hla hlb l r) ?_; clear hf a; intro v a w hR hf
   obtain ⟨rfl, hx⟩ := hR; replace hh := hh.more hx; clear hx
   refine o_v hf hh (yv_move rfl) ?_; clear hf a; intro a hf
   refine o_v hf hh (yv_extract rfl rfl) ?_; clear hf a; intro a hf
   refine o_v hf hh (yv_extract rfl rfl) ?_; clear hf a; intro a hf
   refine o_v hf hh (yv_assign rfl) ?_; clear hf a; intro a hf
   refine o_v hf hh (yv_assign rfl) ?_; clear hf a; intro a hf
   refine o_end ?_
   refine sy_sq ?_
   refine o_v hf hh (y_lds Tryz.ag_28 rfl) ?_; clear hf a; intro a hf
   refine o_call hf Tryz.en_9 rfl rfl rfl (p12 d p sa sb ca cb _ (hA.ext hh.ext) (hB.ext hh.ext)) ?_; clear hf a; intro v a w hR hf
   obtain ⟨rfl, hx⟩ := hR; replace hh := hh.more hx; clear hx
   refine o_v hf hh (yv_move rfl) ?_; clear hf a; intro a hf
   refine o_v hf hh (yv_extract rfl rfl) ?_; clear hf a; intro a hf
   refine o_v hf hh (yv_extract rfl rfl) ?_; clear hf a; intro a hf
   refine o_v hf hh (yv_assign rfl) ?_; clear hf a; intro a hf
   refine o_v hf hh (yv_assign rfl) ?_; clear hf a; intro a hf
   refine o_end ?_
   refine sy_sq ?_
   refine o_v hf hh (y_lds Tryz.ag_28 rfl) ?_; clear hf a; intro a hf
   refine o_call hf Tryz.en_10 rfl rfl rfl (r10 d p sa sb ca cb _ (hA.ext hh.ext) (hB.ext hh.ext) (by omega) (by omega)) ?_; clear hf a; intro v a w hR hf
   obtain ⟨rfl, hx⟩ := hR; replace hh := hh.more hx; clear hx
   refine o_v hf hh (yv_move rfl) ?_; clear hf a; intro a hf
   refine o_v hf hh (yv_extract rfl rfl) ?_; clear hf a; intro a hf
   refine o_v hf hh (yv_extract rfl rfl) ?_; clear hf a; intro a hf
   refine o_v hf hh (yv_assign rfl) ?_; clear hf a; intro a hf
   refine o_v hf hh (yv_assign rfl) ?_; clear hf a; intro a hf
   refine o_end ?_
   refine sy_sq ?_
   refine o_v hf hh (y_lds Tryz.ag_28 rfl) ?_; clear hf a; intro a hf
   refine o_call hf Tryz.en_11 rfl rfl rfl (p13 d p sa sb ca cb _ (hA.ext hh.ext) (hB.ext hh.ext)) ?_; clear hf a; intro v a w hR hf
   obtain ⟨rfl, hx⟩ := hR; replace hh := hh.more hx; clear hx
   refine o_v hf hh (yv_move rfl) ?_; clear hf a; intro a hf
   refine o_v hf hh (yv_extract rfl rfl) ?_; clear hf a; intro a hf
   refine o_v hf hh (yv_extract rfl rfl) ?_; clear hf a; intro a hf
   refine o_v hf hh (yv_assign rfl) ?_; clear hf a; intro a hf
   refine o_v hf hh (yv_assign rfl) ?_; clear hf a; intro a hf
   refine o_end ?_
   refine sy_sq ?_
   refine o_v hf hh (y_lds Tryz.ag_28 rfl) ?_; clear hf a; intro a hf
   refine o_call hf Tryz.en_12 rfl rfl rfl (r12 d p sa sb ca cb _ (hA.ext hh.ext) (hB.ext hh.ext) (by omega) (by omega)) ?_; clear hf a; intro v a w hR hf
   obtain ⟨rfl, hx⟩ := hR; replace hh := hh.more hx; clear hx
   refine o_v hf hh (yv_move rfl) ?_; clear hf a; intro a hf
   refine o_v hf hh (yv_extract rfl rfl) ?_; clear hf a; intro a hf
   refine o_v hf hh (yv_extract rfl rfl) ?_; clear hf a; intro a hf
   refine o_v hf hh (yv_assign rfl) ?_; clear hf a; intro a hf
   refine o_v hf hh (yv_assign rfl) ?_; clear hf a; intro a hf
   refine o_end ?_
   refine sy_sq ?_
   refine o_v hf hh (y_lds Tryz.ag_28 rfl) ?_; clear hf a; intro a hf
   refine o_call hf Tryz.en_13 rfl rfl rfl (p14 d p sa sb ca cb _ (hA.ext hh.ext) (hB.ext hh.ext)) ?_; clear hf a; intro v a w hR hf
   obtain ⟨rfl, hx⟩ := hR; replace hh := hh.more hx; clear hx
   refine o_v hf hh (yv_move rfl) ?_; clear hf a; intro a hf
   refine o_v hf hh (yv_extract rfl rfl) ?_; clear hf a; intro a hf
   refine o_v hf hh (yv_extract rfl rfl) ?_; clear hf a; intro a hf
   refine o_v hf hh (yv_extract rfl rfl) ?_; clear hf a; intro a hf
   refine o_v hf hh (yv_assign rfl) ?_; clear hf a; intro a hf
   refine o_v hf hh (yv_assign rfl) ?_; clear hf a; intro a hf
   refine o_v hf hh (yv_assign rfl) ?_; clear hf a; intro a hf
   refine o_end ?_
   refine sy_sq ?_
   refine o_v hf hh (y_lds Tryz.ag_28 rfl) ?_; clear hf a; intro a hf
   refine o_call hf Tryz.en_14 rfl rfl rfl (r14 d p sa sb ca cb _ (hA.ext hh.ext) (hB.ext hh.ext) (by omega) (by omega)) ?_; clear hf a; intro v a w hR hf
   obtain ⟨rfl, hx⟩ := hR; replace hh := hh.more hx; clear hx
   refine o_v hf hh (yv_move rfl) ?_; clear hf a; intro a hf
   refine o_v hf hh (yv_extract rfl rfl) ?_; clear hf a; intro a hf
   refine o_v hf hh (yv_extract rfl rfl) ?_; clear hf a; intro a hf
   refine o_v hf hh (yv_extract rfl rfl) ?_; clear hf a; intro a hf
   refine o_v hf hh (yv_assign rfl) ?_; clear hf a; intro a hf
   refine o_v hf hh (yv_assign rfl) ?_; clear hf a; intro a hf
   refine o_v hf hh (yv_assign rfl) ?_; clear hf a; intro a hf
   refine o_end ?_
   refine sy_sq ?_
   refine o_v hf hh (yv_move rfl) ?_; clear hf a; intro a hf
   refine o_v hf hh (yv_move rfl) ?_; clear hf a; intro a hf
   refine o_v hf hh (yv_eqb Tryz.ub_4 rfl rfl) ?_; clear hf a; intro a hf
   refine o_v hf hh (yv_move rfl) ?_; clear hf a; intro a hf
   refine o_v hf hh (yv_move rfl) ?_; clear hf a; intro a hf
   refine o_v hf hh (yv_move rfl) ?_; clear hf a; intro a hf
   refine o_v hf hh (yv_bin rfl rfl rfl) ?_; clear hf a; intro a hf
   refine o_v hf hh (y_pt rfl rfl) ?_; clear hf a; intro a hf
   refine o_v hf hh (yv_move rfl) ?_; clear hf a; intro a hf
   refine o_v hf hh (yv_move rfl) ?_; clear hf a; intro a hf
   refine o_v hf hh (yv_move rfl) ?_; clear hf a; intro a hf
   refine o_v hf hh (yv_bin rfl rfl rfl) ?_; clear hf a; intro a hf
   refine o_v hf hh (y_pt rfl rfl) ?_; clear hf a; intro a hf
   refine o_v hf hh (yv_move rfl) ?_; clear hf a; intro a hf
   refine o_v hf hh (yv_move rfl) ?_; clear hf a; intro a hf
   refine o_v hf hh (yv_move rfl) ?_; clear hf a; intro a hf
   refine o_v hf hh (yv_bin rfl rfl rfl) ?_; clear hf a; intro a hf
   refine o_v hf hh (y_pt rfl rfl) ?_; clear hf a; intro a hf
   refine o_v hf hh (yv_move rfl) ?_; clear hf a; intro a hf
   refine o_v hf hh (yv_move rfl) ?_; clear hf a; intro a hf
   refine o_v hf hh (yv_move rfl) ?_; clear hf a; intro a hf
   refine o_v hf hh (yv_bin rfl rfl rfl) ?_; clear hf a; intro a hf
   refine o_v hf hh (y_pt rfl rfl) ?_; clear hf a; intro a hf
   refine o_v hf hh (yv_move rfl) ?_; clear hf a; intro a hf
   refine o_v hf hh (yv_move rfl) ?_; clear hf a; intro a hf
   refine o_v hf hh (yv_move rfl) ?_; clear hf a; intro a hf
   refine o_v hf hh (yv_bin rfl rfl rfl) ?_; clear hf a; intro a hf
   refine o_v hf hh (y_pt rfl rfl) ?_; clear hf a; intro a hf
   refine o_v hf hh (yv_move rfl) ?_; clear hf a; intro a hf
   refine o_v hf hh (yv_move rfl) ?_; clear hf a; intro a hf
   refine o_v hf hh (yv_move rfl) ?_; clear hf a; intro a hf
   refine o_v hf hh (yv_bin rfl rfl rfl) ?_; clear hf a; intro a hf
   refine o_v hf hh (y_pt rfl rfl) ?_; clear hf a; intro a hf
   refine o_v hf hh (yv_move rfl) ?_; clear hf a; intro a hf
   refine o_v hf hh (yv_move rfl) ?_; clear hf a; intro a hf
   refine o_v hf hh (yv_move rfl) ?_; clear hf a; intro a hf
   refine o_v hf hh (yv_bin rfl rfl rfl) ?_; clear hf a; intro a hf
   refine o_v hf hh (y_pt rfl rfl) ?_; clear hf a; intro a hf
   refine o_v hf hh (yv_move rfl) ?_; clear hf a; intro a hf
   refine o_v hf hh (yv_move rfl) ?_; clear hf a; intro a hf
   refine o_v hf hh (yv_move rfl) ?_; clear hf a; intro a hf
   refine o_v hf hh (yv_bin rfl rfl rfl) ?_; clear hf a; intro a hf
   refine o_v hf hh (y_pt rfl rfl) ?_; clear hf a; intro a hf
   refine o_v hf hh (yv_move rfl) ?_; clear hf a; intro a hf
   refine o_call hf Tryz.en_6 rfl rfl rfl (p17 _) ?_; clear hf a; intro v a w hR hf
   obtain ⟨rfl, hx⟩ := hR; replace hh := hh.more hx; clear hx
   refine o_v hf hh (y_pt rfl rfl) ?_; clear hf a; intro a hf
   refine o_v hf hh (yv_assign rfl) ?_; clear hf a; intro a hf
   refine o_end ?_
   refine sy_ret ?_
   refine ret_r hf rfl rfl ?_
   exact ⟨rfl, hh.ext⟩
set_option maxHeartbeats 4000000 in
theorem p4z (d : RowsD) (p : Int) (sa sb : Option Addr) (ca cb : Nat) (u : World) (hA : MkAt u sa d.l) (hB : MkAt u sb d.r) : Calls Tryz.prog 4 #[canV d p sa sb ca cb] u (Ret fun v w' => v = .bool true ∧ Ext [] u w') := by
  refine calls_of Tryz.func4 rfl rfl (fun a hf => ?_)
  have hh := Hp.init u []
  refine sy_sq ?_
  refine o_box hf hh ?_; clear hf hh a; intro B1 a w hf hh
  refine o_v hf hh (yv_assign rfl) ?_; clear hf a; intro a hf
  refine o_end ?_
  refine sy_seq ?_
  refine sy_sq ?_
  refine o_v hf hh (y_lds Tryz.ag_28 rfl) ?_; clear hf a; intro a hf
  refine o_call hf Tryz.en_5 rfl rfl rfl (p18 d p sa sb ca cb _ (hA.ext hh.ext) (hB.ext hh.ext) 4) ?_; clear hf a; intro v a w hR hf
  obtain ⟨rfl, hx⟩ := hR; replace hh := hh.more hx; clear hx
  refine o_end ?_
  refine sy_cond hf rfl (fun hg2 => ?_) (fun hg2 => ?_)
  ·have hG2 := hg2; try simp only [gS] at hG2
   refine sy_sq ?_
   refine o_call hf Tryz.en_6 rfl rfl rfl (p17 _) ?_; clear hf a; intro v a w hR hf
   obtain ⟨rfl, hx⟩ := hR; replace hh := hh.more hx; clear hx
   refine o_v hf hh (yv_assign rfl) ?_; clear hf a; intro a hf
   refine o_end ?_
   refine sy_ret ?_
   refine then_r ?_
   refine ret_r hf rfl rfl ?_
   first
     | exact ⟨rfl, hh.ext⟩
     | exact ⟨rfl, he2.trans hh.ext⟩
  ·have hG2 := hg2; try simp only [gS] at hG2
   refine sy_skip ?_
   refine then_n ?_
   refine sy_seq ?_
   have hlen : d.l.length ≤ 24 ∧ d.r.length ≤ 24 := by
     have h9 : (decide (24 < d.l.length ∨ 24 < d.r.length) || (decide ((4 : Int) < d.l.length ∨ (4 : Int) < d.r.length) && okCan d p)) = false := by assumption
     rw [Bool.or_eq_false_iff, decide_eq_false_iff_not] at h9
     omega
   obtain ⟨hla, hlb⟩ := hlen
   refine sy_ops ?_
   refine o_v hf hh (y_lds Tryz.ag_28 rfl) ?_; clear hf a; intro a hf
   refine o_call hf Tryz.en_15 rfl rfl rfl (p20 d p sa sb ca cb _ (hA.ext hh.ext) (hB.ext hh.ext)) ?_; clear hf a; intro v a w hR hf
   obtain ⟨rfl, hx⟩ := hR; replace hh := hh.more hx; clear hx
   refine o_v hf hh (yv_move rfl) ?_; clear hf a; intro a hf
   refine o_v hf hh (yv_extract rfl rfl) ?_; clear hf a; intro a hf
   refine o_v hf hh (yv_extract rfl rfl) ?_; clear hf a; intro a hf
   refine o_v hf hh (yv_extract rfl rfl) ?_; clear hf a; intro a hf
   refine o_v hf hh (yv_assign rfl) ?_; clear hf a; intro a hf
   refine o_v hf hh (yv_assign rfl) ?_; clear hf a; intro a hf
   refine o_v hf hh (yv_assign rfl) ?_; clear hf a; intro a hf
   refine o_end ?_
   refine sy_sq ?_
   refine o_v hf hh (y_lds Tryz.ag_28 rfl) ?_; clear hf a; intro a hf
   refine o_call hf Tryz.en_16 rfl rfl rfl (r16 d p sa sb ca cb _ (hA.ext hh.ext) (hB.ext hh.ext) (by omega) (by omega)) ?_; clear hf a; intro v a w hR hf
   obtain ⟨rfl, hx⟩ := hR; replace hh := hh.more hx; clear hx
   refine o_v hf hh (yv_move rfl) ?_; clear hf a; intro a hf
   refine o_v hf hh (yv_extract rfl rfl) ?_; clear hf a; intro a hf
   refine o_v hf hh (yv_extract rfl rfl) ?_; clear hf a; intro a hf
   refine o_v hf hh (yv_extract rfl rfl) ?_; clear hf a; intro a hf
   refine o_v hf hh (yv_assign rfl) ?_; clear hf a; intro a hf
   refine o_v hf hh (yv_assign rfl) ?_; clear hf a; intro a hf
   refine o_v hf hh (yv_assign rfl) ?_; clear hf a; intro a hf
   refine o_end ?_
   refine sy_sq ?_
   refine o_v hf hh (y_lds Tryz.ag_28 rfl) ?_; clear hf a; intro a hf
   refine o_call hf Tryz.en_17 rfl rfl rfl (p15 d p sa sb ca cb _ (hA.ext hh.ext) (hB.ext hh.ext)) ?_; clear hf a; intro v a w hR hf
   obtain ⟨rfl, hx⟩ := hR; replace hh := hh.more hx; clear hx
   refine o_v hf hh (yv_move rfl) ?_; clear hf a; intro a hf
   refine o_v hf hh (yv_extract rfl rfl) ?_; clear hf a; intro a hf
   refine o_v hf hh (yv_extract rfl rfl) ?_; clear hf a; intro a hf
   refine o_v hf hh (yv_extract rfl rfl) ?_; clear hf a; intro a hf
   refine o_v hf hh (yv_assign rfl) ?_; clear hf a; intro a hf
   refine o_v hf hh (yv_assign rfl) ?_; clear hf a; intro a hf
   refine o_v hf hh (yv_assign rfl) ?_; clear hf a; intro a hf
   refine o_end ?_
   refine sy_sq ?_
   refine o_v hf hh (y_lds Tryz.ag_28 rfl) ?_; clear hf a; intro a hf
   refine o_call hf Tryz.en_18 rfl rfl rfl (r18 d p sa sb ca cb _ (hA.ext hh.ext) (hB.ext hh.ext) (by omega) (by omega)) ?_; clear hf a; intro v a w hR hf
   obtain ⟨rfl, hx⟩ := hR; replace hh := hh.more hx; clear hx
   refine o_v hf hh (yv_move rfl) ?_; clear hf a; intro a hf
   refine o_v hf hh (yv_extract rfl rfl) ?_; clear hf a; intro a hf
   refine o_v hf hh (yv_extract rfl rfl) ?_; clear hf a; intro a hf
   refine o_v hf hh (yv_extract rfl rfl) ?_; clear hf a; intro a hf
   refine o_v hf hh (yv_assign rfl) ?_; clear hf a; intro a hf
   refine o_v hf hh (yv_assign rfl) ?_; clear hf a; intro a hf
   refine o_v hf hh (yv_assign rfl) ?_; clear hf a; intro a hf
   refine o_end ?_
   refine sy_sq ?_
   refine o_v hf hh (y_lds Tryz.ag_28 rfl) ?_; clear hf a; intro a hf
   refine o_call hf Tryz.en_19 rfl rfl rfl (p16 d p sa sb ca cb _ (hA.ext hh.ext) (hB.ext hh.ext)) ?_; clear hf a; intro v a w hR hf
   obtain ⟨rfl, hx⟩ := hR; replace hh := hh.more hx; clear hx
   refine o_v hf hh (yv_move rfl) ?_; clear hf a; intro a hf
   refine o_v hf hh (yv_extract rfl rfl) ?_; clear hf a; intro a hf
   refine o_v hf hh (yv_extract rfl rfl) ?_; clear hf a; intro a hf
   refine o_v hf hh (yv_extract rfl rfl) ?_; clear hf a; intro a hf
   refine o_v hf hh (yv_extract rfl rfl) ?_; clear hf a; intro a hf
   refine o_v hf hh (yv_assign rfl) ?_; clear hf a; intro a hf
   refine o_v hf hh (yv_assign rfl) ?_; clear hf a; intro a hf
   refine o_v hf hh (yv_assign rfl) ?_; clear hf a; intro a hf
   refine o_v hf hh (yv_assign rfl) ?_; clear hf a; intro a hf
   refine o_end ?_
   refine sy_sq ?_
   refine o_v hf hh (y_lds Tryz.ag_28 rfl) ?_; clear hf a; intro a hf
   refine o_call hf Tryz.en_20 rfl rfl rfl (r20 d p sa sb ca cb _ (hA.ext hh.ext) (hB.ext hh.ext) (by omega) (by omega)) ?_; clear hf a; intro v a w hR hf
   obtain ⟨rfl, hx⟩ := hR; replace hh := hh.more hx; clear hx
   refine o_v hf hh (yv_move rfl) ?_; clear hf a; intro a hf
   refine o_v hf hh (yv_extract rfl rfl) ?_; clear hf a; intro a hf
   refine o_v hf hh (yv_extract rfl rfl) ?_; clear hf a; intro a hf
   refine o_v hf hh (yv_extract rfl rfl) ?_; clear hf a; intro a hf
   refine o_v hf hh (yv_extract rfl rfl) ?_; clear hf a; intro a hf
   refine o_v hf hh (yv_assign rfl) ?_; clear hf a; intro a hf
   refine o_v hf hh (yv_assign rfl) ?_; clear hf a; intro a hf
   refine o_v hf hh (yv_assign rfl) ?_; clear hf a; intro a hf
   refine o_v hf hh (yv_assign rfl) ?_; clear hf a; intro a hf
   refine o_end ?_
   refine sy_sq ?_
   refine o_v hf hh (y_lds Tryz.ag_28 rfl) ?_; clear hf a; intro a hf
   refine o_call hf Tryz.en_21 rfl rfl rfl (p23 d p sa sb ca cb _ (hA.ext hh.ext) (hB.ext hh.ext)) ?_; clear hf a; intro v a w hR hf
   obtain ⟨oa, ob, cpa, cpb, XA, XB, rfl, hOA, hOB, hx⟩ := hR; have hMA := mkAt_of hOA fun x hx2 => hx.get x (by simp [hx2])
   have hMB := mkAt_of hOB fun x hx2 => hx.get x (by simp [hx2])
   replace hh := (hh.join hx).less (List.sublist_append_right _ _); clear hx
   have he1 := hh.ext
   have hb1 := hh.at (i := 0) rfl
   have hA1 := hA.ext hh.ext
   have hB1 := hB.ext hh.ext
   obtain ⟨u1, rfl⟩ : ∃ z, z = w := ⟨_, rfl⟩
   replace hh := Hp.init u1 []
   
   refine o_v hf hh (yv_move rfl) ?_; clear hf a; intro a hf
   refine o_v hf hh (yv_extract rfl rfl) ?_; clear hf a; intro a hf
   refine o_v hf hh (yv_extract rfl rfl) ?_; clear hf a; intro a hf
   refine o_alloc hf hh Tryz.ze_26 ?_; clear hf hh a; intro B23 a w hf hh
   refine o_store hf hh Tryz.sz_26 fun w hh => ?_
   refine o_v hf hh (yv_assign rfl) ?_; clear hf a; intro a hf
   refine o_end ?_
   refine sy_sq ?_
   refine o_v hf hh (y_lds Tryz.ag_28 rfl) ?_; clear hf a; intro a hf
   refine o_call hf Tryz.en_22 rfl rfl rfl (r22 d p sa sb ca cb _ (hA1.ext hh.ext) (hB1.ext hh.ext) (by omega) (by omega)) ?_; clear hf a; intro v a w hR hf
   obtain ⟨oc, od, cpc, cpd, rfl, hMC, hMD, hx⟩ := hR; replace hh := hh.more hx; clear hx
   have hrl : (restD d p).l.length ≤ 24 ∧ (restD d p).r.length ≤ 24 := by
     unfold restD; split
     · exact ⟨Nat.le_trans (keepL_len _ _) hla, Nat.le_trans (keepL_len _ _) hlb⟩
     · exact ⟨Nat.zero_le _, Nat.zero_le _⟩
   have he2 := he1.trans hh.ext
   have hb2 := (show w.heap[B23]? = some (.cells (rowsV (restD d p) oa ob cpa cpb).cells 26 (0, 0)) from hh.at (i := 0) rfl)
   have hMA2 := hMA.ext hh.ext
   have hMB2 := hMB.ext hh.ext
   obtain ⟨u2, rfl⟩ : ∃ z, z = w := ⟨_, rfl⟩
   replace hh := Hp.init u2 []
   
   refine o_v hf hh (yv_move rfl) ?_; clear hf a; intro a hf
   refine o_v hf hh (yv_extract rfl rfl) ?_; clear hf a; intro a hf
   refine o_v hf hh (yv_extract rfl rfl) ?_; clear hf a; intro a hf
   refine o_alloc hf hh Tryz.ze_26 ?_; clear hf hh a; intro B25 a w hf hh
   refine o_store hf hh Tryz.sz_26 fun w hh => ?_
   refine o_v hf hh (yv_assign rfl) ?_; clear hf a; intro a hf
   refine o_end ?_
   refine sy_sq ?_
   refine o_v hf hh (yv_move rfl) ?_; clear hf a; intro a hf
   refine o_v hf hh (yv_move rfl) ?_; clear hf a; intro a hf
   refine o_v hf hh (yv_bin rfl rfl rfl) ?_; clear hf a; intro a hf
   refine o_v hf hh (yv_move rfl) ?_; clear hf a; intro a hf
   refine o_v hf hh (yv_move rfl) ?_; clear hf a; intro a hf
   refine o_v hf hh (yv_move rfl) ?_; clear hf a; intro a hf
   refine o_v hf hh (yv_bin rfl rfl rfl) ?_; clear hf a; intro a hf
   refine o_v hf hh (y_pt rfl rfl) ?_; clear hf a; intro a hf
   refine o_v hf hh (yv_move rfl) ?_; clear hf a; intro a hf
   refine o_v hf hh (yv_move rfl) ?_; clear hf a; intro a hf
   refine o_v hf hh (yv_move rfl) ?_; clear hf a; intro a hf
   refine o_v hf hh (yv_bin rfl rfl rfl) ?_; clear hf a; intro a hf
   refine o_v hf hh (y_pt rfl rfl) ?_; clear hf a; intro a hf
   refine o_v hf hh (yv_move rfl) ?_; clear hf a; intro a hf
   refine o_v hf hh (yv_move rfl) ?_; clear hf a; intro a hf
   refine o_v hf hh (yv_move rfl) ?_; clear hf a; intro a hf
   refine o_v hf hh (yv_bin rfl rfl rfl) ?_; clear hf a; intro a hf
   refine o_v hf hh (y_pt rfl rfl) ?_; clear hf a; intro a hf
   refine o_v hf hh (yv_move rfl) ?_; clear hf a; intro a hf
   refine o_v hf hh (yv_move rfl) ?_; clear hf a; intro a hf
   refine o_v hf hh (yv_move rfl) ?_; clear hf a; intro a hf
   refine o_v hf hh (yv_bin rfl rfl rfl) ?_; clear hf a; intro a hf
   refine o_v hf hh (y_pt rfl rfl) ?_; clear hf a; intro a hf
   refine o_v hf hh (yv_move rfl) ?_; clear hf a; intro a hf
   refine o_v hf hh (yv_move rfl) ?_; clear hf a; intro a hf
   refine o_v hf hh (yv_move rfl) ?_; clear hf a; intro a hf
   refine o_v hf hh (yv_bin rfl rfl rfl) ?_; clear hf a; intro a hf
   refine o_v hf hh (y_pt rfl rfl) ?_; clear hf a; intro a hf
   refine o_v hf hh (yv_move rfl) ?_; clear hf a; intro a hf
   refine o_v hf hh (yv_move rfl) ?_; clear hf a; intro a hf
   refine o_v hf hh (yv_move rfl) ?_; clear hf a; intro a hf
   refine o_v hf hh (yv_bin rfl rfl rfl) ?_; clear hf a; intro a hf
   refine o_v hf hh (y_pt rfl rfl) ?_; clear hf a; intro a hf
   refine o_v hf hh (yv_move rfl) ?_; clear hf a; intro a hf
   refine o_v hf hh (yv_move rfl) ?_; clear hf a; intro a hf
   refine o_v hf hh (yv_move rfl) ?_; clear hf a; intro a hf
   refine o_v hf hh (yv_bin rfl rfl rfl) ?_; clear hf a; intro a hf
   refine o_v hf hh (y_pt rfl rfl) ?_; clear hf a; intro a hf
   refine o_v hf hh (yv_move rfl) ?_; clear hf a; intro a hf
   refine o_v hf hh (yv_move rfl) ?_; clear hf a; intro a hf
   refine o_v hf hh (yv_move rfl) ?_; clear hf a; intro a hf
   refine o_v hf hh (yv_bin rfl rfl rfl) ?_; clear hf a; intro a hf
   refine o_v hf hh (y_pt rfl rfl) ?_; clear hf a; intro a hf
   refine o_v hf hh (yv_move rfl) ?_; clear hf a; intro a hf
   refine o_v hf hh (yv_move rfl) ?_; clear hf a; intro a hf
   refine o_v hf hh (yv_move rfl) ?_; clear hf a; intro a hf
   refine o_v hf hh (yv_bin rfl rfl rfl) ?_; clear hf a; intro a hf
   refine o_v hf hh (y_pt rfl rfl) ?_; clear hf a; intro a hf
   refine o_v hf hh (yv_move rfl) ?_; clear hf a; intro a hf
   refine o_v hf hh (y_lds Tryz.ag_26 rfl) ?_; clear hf a; intro a hf
   refine o_v hf hh (y_lds Tryz.ag_26 rfl) ?_; clear hf a; intro a hf
   refine o_call hf Tryz.en_23 rfl rfl rfl (p24 (restD d p) oa ob cpa cpb oc od cpc cpd _ (hMA2.ext hh.ext) (hMB2.ext hh.ext) (hMC.ext hh.ext) (hMD.ext hh.ext) (by omega) (by omega)) ?_; clear hf a; intro v a w hR hf
   obtain ⟨rfl, hx⟩ := hR; replace hh := hh.more hx; clear hx
   refine o_v hf hh (y_pt rfl rfl) ?_; clear hf a; intro a hf
   refine o_v hf hh (yv_move rfl) ?_; clear hf a; intro a hf
   refine o_v hf hh (yv_move rfl) ?_; clear hf a; intro a hf
   refine o_v hf hh (yv_move rfl) ?_; clear hf a; intro a hf
   refine o_v hf hh (yv_bin rfl rfl rfl) ?_; clear hf a; intro a hf
   refine o_v hf hh (y_pt rfl rfl) ?_; clear hf a; intro a hf
   refine o_v hf hh (yv_move rfl) ?_; clear hf a; intro a hf
   refine o_call hf Tryz.en_6 rfl rfl rfl (p17 _) ?_; clear hf a; intro v a w hR hf
   obtain ⟨rfl, hx⟩ := hR; replace hh := hh.more hx; clear hx
   refine o_v hf hh (y_pt rfl rfl) ?_; clear hf a; intro a hf
   refine o_v hf hh (yv_assign rfl) ?_; clear hf a; intro a hf
   refine o_end ?_
   refine sy_ret ?_
   refine ret_r hf rfl rfl ?_
   first
     | exact ⟨rfl, hh.ext⟩
     | exact ⟨rfl, he2.trans hh.ext⟩
end Go.Proofs.YtidieepndphodaaGreat
namespace Go.Proofs.YtidieepndphodaaGreat
open Go Go.Sy Go.MatM Go.ChangeShapes Go.WideShapes Go.Deep Go.RowKit
theorem hs31 : Tryz.prog.underlying 28 = some (.struct (Tryz.prog.fieldsOf 28)) := by kernel_rfl
theorem fs31 : (Tryz.prog.fieldsOf 28).map (fun f => (f.offset, f.type)) = #[(0, 26), (5, 3)] := by kernel_rfl
theorem hs29 : Tryz.prog.underlying 26 = some (.struct (Tryz.prog.fieldsOf 26)) := by kernel_rfl
theorem fs29 : (Tryz.prog.fieldsOf 26).map (fun f => (f.offset, f.type)) = #[(0, 22), (1, 22), (2, 24), (4, 3)] := by kernel_rfl
theorem co31 : Tryz.prog.cellsOf 28 = 6 := by kernel_rfl
theorem co29 : Tryz.prog.cellsOf 26 = 5 := by kernel_rfl
theorem co25 : Tryz.prog.cellsOf 22 = 1 := by kernel_rfl
theorem co27 : Tryz.prog.cellsOf 24 = 2 := by kernel_rfl
theorem co3 : Tryz.prog.cellsOf 3 = 1 := by kernel_rfl
theorem un25 : Tryz.prog.underlying 22 = some (.slice 89) := by kernel_rfl
theorem fk54 : flK Tryz.prog .i64 9 89 = some 4 := by kernel_rfl
theorem fk27 : flK Tryz.prog .i64 9 24 = some 2 := by kernel_rfl
theorem fk3 : flK Tryz.prog .i64 9 3 = some 1 := by kernel_rfl
theorem un4 : Tryz.prog.underlying 4 = some .bool := by kernel_rfl
theorem own : ownKnob Tryz.prog.godebug = none := by kernel_rfl
def toMk (p : List Int) : Mk := match p with
  | [x, y, z, t] => ⟨x, y, z, t⟩
  | _ => ⟨0, 0, 0, 0⟩
theorem mkAt_flat {W : World} {sa : Option Addr} {l : List (List Int)} (hl : ∀ p ∈ l, p.length = 4) (h : FlatAt W .i64 sa 4 l) : MkAt W sa (l.map toMk) := fun i s hi => by
  rw [List.getElem?_map] at hi
  cases hp : l[i]? with
  | none => rw [hp] at hi; cases hi
  | some p =>
    rw [hp] at hi
    cases hi
    obtain ⟨blk, off, c, T, fr, h1, h2, h3⟩ := h i p hp
    refine ⟨blk, off, c, T, fr, h1, h2, ?_⟩
    rw [h3]
    match p, hl p (List.mem_of_getElem? hp) with
    | [x, y, z, t], _ => rfl
theorem len6 {l : List Value} (h : l.length = 6) : ∃ a b c d e f, l = [a, b, c, d, e, f] := by
  match l, h with
  | [a, b, c, d, e, f], _ => exact ⟨a, b, c, d, e, f, rfl⟩
section
variable {H : Type} {enc : TypeId × Value → H} {W : World} {base : Nat} {spare : Nat → Bool} {held : Bool}
set_option maxRecDepth 100000 in
theorem openCan {r : Reach} {b0 : Nat} {v : Value} {d : DataW H} {p : List MemPlace} (hv : Value.okWide Tryz.prog W r b0 28 v) (h : DataW.Trod enc Tryz.prog W base spare held 28 v d p) : ∃ (d : RowsD) (p : Int) (sa sb : Option Addr) (ca cb : Nat), v = canV d p sa sb ca cb ∧ MkAt W sa d.l ∧ MkAt W sb d.r ∧ (-9223372036854775808 ≤ d.hid ∧ d.hid ≤ 9223372036854775807) ∧ (-9223372036854775808 ≤ p ∧ p ≤ 9223372036854775807) ∧ d.l.length ≤ ca ∧ d.r.length ≤ cb := by
  obtain ⟨cs, rfl, hsz⟩ := okWide_struct hs31 hv
  obtain ⟨fuel, h⟩ := h
  obtain ⟨_, hf0⟩ := trod_field hs31 h
  rw [fs31] at hf0
  rw [co31] at hsz
  obtain ⟨l, rfl⟩ : ∃ l : List Value, cs = l.toArray := ⟨cs.toList, by simp⟩
  obtain ⟨c0, c1, c2, c3, c4, c5, rfl⟩ := len6 (by simpa using hsz)
  replace hf0 : ∀ (i o : Nat) (u : TypeId) (c : Nat), (#[(0, 26), (5, 3)] : Array (Nat × TypeId))[i]? = some (o, u) → Tryz.prog.cellsOf u = c → ∃ n y, DataW.trod enc Tryz.prog W base spare held n u (([c0, c1, c2, c3, c4, c5].drop o).take c) = some y := hf0
  obtain ⟨_, _, k0⟩ := hf0 0 0 26 5 rfl co29
  obtain ⟨_, _, k1⟩ := hf0 1 5 3 1 rfl co3
  obtain ⟨p3, q3, e4, w4⟩ := trod_fl fk3 k1
  obtain ⟨_, hf⟩ := trod_field hs29 k0
  rw [fs29] at hf
  replace hf : ∀ (i o : Nat) (u : TypeId) (c : Nat), (#[(0, 22), (1, 22), (2, 24), (4, 3)] : Array (Nat × TypeId))[i]? = some (o, u) → Tryz.prog.cellsOf u = c → ∃ n y, DataW.trod enc Tryz.prog W base spare held n u (([c0, c1, c2, c3, c4].drop o).take c) = some y := hf
  obtain ⟨_, _, g0⟩ := hf 0 0 22 1 rfl co25
  obtain ⟨_, _, g1⟩ := hf 1 1 22 1 rfl co25
  obtain ⟨_, _, g2⟩ := hf 2 2 24 2 rfl co27
  obtain ⟨_, _, g3⟩ := hf 3 4 3 1 rfl co3
  obtain ⟨l0, sa, ca, e0, _, b0', f0⟩ := trod_slices un25 fk54 (by omega) g0
  have hc0 := trod_cap un25 e0 g0
  obtain ⟨l1, sb, cb, e1, _, b1, f1⟩ := trod_slices un25 fk54 (by omega) g1
  have hc1 := trod_cap un25 e1 g1
  obtain ⟨p2, q2, e2, _⟩ := trod_fl fk27 g2
  obtain ⟨p5, q5, e3, w3⟩ := trod_fl fk3 g3
  obtain ⟨lo, hi, rfl⟩ : ∃ x y, p2 = [x, y] := by
    match p2, q2 with
    | [x, y], _ => exact ⟨x, y, rfl⟩
  obtain ⟨hid, rfl⟩ : ∃ x, p5 = [x] := by
    match p5, q5 with
    | [x], _ => exact ⟨x, rfl⟩
  obtain ⟨pp, rfl⟩ : ∃ x, p3 = [x] := by
    match p3, q3 with
    | [x], _ => exact ⟨x, rfl⟩
  simp at e0 e1 e2 e3 e4
  obtain ⟨rfl, rfl⟩ := e2
  subst e0; subst e1; subst e3; subst e4
  exact ⟨⟨l0.map toMk, l1.map toMk, lo, hi, hid⟩, pp, sa, sb, ca, cb, by simp, mkAt_flat (fun p hp => (b0' p hp).1) f0, mkAt_flat (fun p hp => (b1 p hp).1) f1, wf64 (w3 hid (by simp)), wf64 (w4 pp (by simp)), by simpa using hc0, by simpa using hc1⟩
end
end Go.Proofs.YtidieepndphodaaGreat
