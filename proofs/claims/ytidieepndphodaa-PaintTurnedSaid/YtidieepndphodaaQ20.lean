/- Lemmas, in order: The sets that a canvas may have lost, one after the other; what their iterator looks at. All sets that a canvas may have lost, one after the other.. -/
import Derived.Test.YtidieepndphodaaQ19
namespace Go.MatM
open Go Go.Sy Go.Proofs Go.RowKit
def setX (i s : Nat) : Nat × Nat := if i = 0 then (s, 0) else (0, s)
def rowL (d : RowsD) (p : Int) (i : Nat) (l : List Nat) : List (Nat × Nat) := (l.map (setX i)).filter (isC d p)
def restI (d : RowsD) (p : Int) : Nat → List (Nat × Nat)
  | 0 => rowL d p 0 (restS (lenR d 0) p 1) ++ rowL d p 1 (restS (lenR d 1) p 1)
  | 1 => rowL d p 1 (restS (lenR d 1) p 1)
  | _ => []
/-- All sets that a canvas may have lost. -/
def casesL (d : RowsD) (p : Int) : List (Nat × Nat) := [(0, 0)].filter (isC d p) ++ restI d p 0
def cA (x : Nat × Nat) : Array Value := #[enc2 x]
theorem restI_step {d : RowsD} {p : Int} {i : Nat} (h : i < 2) : restI d p i = rowL d p i (restS (lenR d i) p 1) ++ restI d p (i + 1) := by
  rcases (show i = 0 ∨ i = 1 by omega) with rfl | rfl
  · rfl
  · exact (List.append_nil _).symm
theorem restI_end {d : RowsD} {p : Int} {i : Nat} (h : ¬ i < 2) : restI d p i = [] := by
  obtain ⟨j, rfl⟩ : ∃ j, i = j + 2 := ⟨i - 2, by omega⟩
  rfl
theorem rowL_drop {d : RowsD} {p : Int} {i k s : Nat} {l : List Nat} (h : l[k]? = some s) : rowL d p i (l.drop k) = (if isC d p (setX i s) then [setX i s] else []) ++ rowL d p i (l.drop (k + 1)) := by
  have h1 := (List.getElem?_eq_some_iff.1 h).1
  have h2 := (List.getElem?_eq_some_iff.1 h).2
  unfold rowL
  rw [List.drop_eq_getElem_cons h1, h2, List.map_cons, List.filter_cons]
  split <;> rfl
theorem at_doneC {L D R : List (Nat × Nat)} {x : Nat × Nat} (h : L = D ++ x :: R) : (L.map cA)[D.length]? = some (cA x) := by
  subst h; simp
theorem restS_lt {n : Nat} {p : Int} {s k : Nat} (h : (restS n p 1)[k]? = some s) : s < 2 ^ n := by
  have := List.mem_of_getElem? h
  unfold restS at this
  rw [List.mem_filter, List.mem_range'_1] at this
  have h1 : 0 < 2 ^ n := Nat.two_pow_pos n
  omega
/-- Marks in memory, off the blocks that rounds turn. -/
def MkN (N : List Nat) (w : World) (sa : Option Addr) (l : List Mk) : Prop :=
  ∀ i s, l[i]? = some s → ∃ blk off c T fr, sa = some ⟨blk, off, none⟩ ∧ w.heap[blk]? = some (.cells c T fr) ∧ cellsAt c (off + i * 4) 4 = some (mkC s) ∧ blk ∉ N
theorem MkN.at {N O : List Nat} {u w : World} {sa : Option Addr} {l : List Mk} (h : MkN N u sa l) (e : Ext O u w) (ho : ∀ x ∈ O, x ∈ N ∨ u.heap.size ≤ x ∨ ∃ es c, u.heap[x]? = some (.map es c)) : MkAt w sa l := fun i s hi => by
  obtain ⟨blk, off, c, T, fr, h1, h2, h3, h4⟩ := h i s hi
  have hl := (Array.getElem?_eq_some_iff.1 h2).1
  refine ⟨blk, off, c, T, fr, h1, e.getM h2 fun hx => ?_, h3⟩
  rcases ho _ hx with h5 | h5 | ⟨es, c', h5⟩
  · exact h4 h5
  · omega
  · rw [h2] at h5; cases h5
theorem MkN.step {N N' O : List Nat} {w w' : World} {sa : Option Addr} {l : List Mk} (h : MkN N w sa l) (e : Ext O w w') (ho : ∀ x ∈ O, x ∈ N ∨ w.heap.size ≤ x ∨ ∃ es c, w.heap[x]? = some (.map es c)) (g : Grows N N' w) : MkN N' w' sa l := fun i s hi => by
  obtain ⟨blk, off, c, T, fr, h1, h2, h3, h4⟩ := h i s hi
  have hl := (Array.getElem?_eq_some_iff.1 h2).1
  refine ⟨blk, off, c, T, fr, h1, e.getM h2 fun hx => ?_, h3, fun hx => ?_⟩
  · rcases ho _ hx with h5 | h5 | ⟨es, c', h5⟩
    · exact h4 h5
    · omega
    · rw [h2] at h5; cases h5
  · rcases g _ hx with h5 | h5
    · exact h4 h5
    · omega
/-- What the iterator of sets looks at. -/
structure OwnC (d : RowsD) (p : Int) (sa sb : Option Addr) (ca cb bm Bc : Nat) (l : List (Nat × Obj)) (N : List Nat) (w : World) : Prop where
  memo : ∃ es cm, w.heap[bm]? = some (.map es cm) ∧ MemoV enc2 (leftV d) es
  nm : bm ∉ N
  held : Held N w ((Bc, .cells (canC d p sa sb ca cb bm) 109) :: l)
  nb : bm ∉ ((Bc, Obj.cells (canC d p sa sb ca cb bm) 109) :: l).map Prod.fst
  ma : MkN N w sa d.l
  mb : MkN N w sb d.r
section
variable {d : RowsD} {p : Int} {sa sb : Option Addr} {ca cb bm Bc : Nat} {l : List (Nat × Obj)} {N N' : List Nat} {w w' : World}
theorem OwnC.fin (h : OwnC d p sa sb ca cb bm Bc l N w) (e : Ext (bm :: N) w w') (g : Grows N N' w) (hm : ∃ es cm, w'.heap[bm]? = some (.map es cm) ∧ MemoV enc2 (leftV d) es) : OwnC d p sa sb ca cb bm Bc l N' w' := by
  obtain ⟨es, cm, h1, _⟩ := h.memo
  have hl := (Array.getElem?_eq_some_iff.1 h1).1
  have ho : ∀ x ∈ bm :: N, x ∈ N ∨ w.heap.size ≤ x ∨ ∃ es c, w.heap[x]? = some (.map es c) := fun x hx => by
    rcases List.mem_cons.1 hx with rfl | hx
    · exact .inr (.inr ⟨es, cm, h1⟩)
    · exact .inl hx
  refine ⟨hm, fun hx => ?_, fun q hq => ?_, h.nb, h.ma.step e ho g, h.mb.step e ho g⟩
  · rcases g _ hx with h2 | h2
    · exact h.nm h2
    · omega
  · obtain ⟨h2, h3⟩ := h.held q hq
    have hl2 := (Array.getElem?_eq_some_iff.1 h2).1
    refine ⟨e.getM h2 fun hx => ?_, fun hx => ?_⟩
    · rcases List.mem_cons.1 hx with hx | hx
      · exact h.nb (List.mem_map.2 ⟨q, hq, hx⟩)
      · exact h3 hx
    · rcases g _ hx with h4 | h4
      · exact h3 h4
      · omega
theorem OwnC.step (h : OwnC d p sa sb ca cb bm Bc l N w) (e : Ext N w w') (g : Grows N N' w) : OwnC d p sa sb ca cb bm Bc l N' w' := by
  obtain ⟨es, cm, h1, h2⟩ := h.memo
  exact h.fin (e.mono fun x hx => .tail _ hx) g ⟨es, cm, e.getM h1 h.nm, h2⟩
end
end Go.MatM
namespace Go.Proofs.Ytidieepndphodaa
open Go Go.Sy Go.MatM
theorem p71 (Bc i : Nat) (u : World) : Calls Try.prog 71 #[ptr Bc 0, .int .i64 (i : Nat)] u (Ret fun v w' => ∃ B2 B3, v = .func (.func 90) #[] #[ptr B2 0, ptr B3 0] ∧ Hp u [] [(B3, .cells #[.int .i64 (i : Nat)] 3), (B2, .cells #[ptr Bc 0] 66)] w') := by
  refine calls_of Try.func71 rfl rfl (fun a hf => ?_)
  have hh := Hp.init u []
  refine sy_sq ?_
  refine o_box hf hh ?_; clear hf hh a; intro B2 a w hf hh
  refine o_box hf hh ?_; clear hf hh a; intro B3 a w hf hh
  refine o_v hf hh (yv_assign rfl) ?_; clear hf a; intro a hf
  refine o_end ?_
  refine sy_sq ?_
  refine o_v hf hh (yv_makeFunc rfl rfl) ?_; clear hf a; intro a hf
  refine o_v hf hh (yv_assign rfl) ?_; clear hf a; intro a hf
  refine o_end ?_
  refine sy_ret ?_
  refine ret_r hf rfl rfl ?_
  exact ⟨B2, B3, rfl, hh⟩
theorem fin70 {P : Program} {fn : Func} {n : Nat} {L : List (Nat × Value)} {a : Act} {u w : World} {d : RowsD} {p : Int} {sa sb : Option Addr} {ca cb bm Bc cm : Nat} {l : List (Nat × Obj)} {N0 N Ds : List Nat} {es : Array MapEntry} {Z : List Nat → World → Prop}
    (hf : Fr n (mkd Ds) L a) (hr : fn.results = #[]) (hO : OwnC d p sa sb ca cb bm Bc l N0 u) (hS : SyN u [bm] N0 N (dls Ds ++ [(bm, .map es cm)]) w) (hM : MemoV enc2 (leftV d) es)
    (hZ : ∀ w', Ext ((dls Ds ++ [(bm, Obj.map es cm)]).map Prod.fst) w w' → Z N w') : bodyPostM (FR none) 0 P fn (Ret fun _ w' => ∃ N', OwnC d p sa sb ca cb bm Bc l N' w' ∧ Z N' w') .ret a w :=
  ret_m hf hS.hp.own fun w' hw' => ⟨[], by rw [hr]; exact True.intro, N, hO.fin (hS.step hw' fun x hx => .inl hx).hp.ext hS.gr ⟨es, cm, hw'.at (i := 0) rfl, hM⟩, hZ w' hw'.ext⟩
theorem it70 (d : RowsD) (p : Int) (sa sb : Option Addr) (ca cb bm Bc B1 : Nat) (hV : Valid d) (hp0 : 0 ≤ p) (hp3 : p ≤ 3) :
    IterF Try.prog 70 #[] #[ptr B1 0] ((casesL d p).map cA) [bm] (OwnC d p sa sb ca cb bm Bc [(B1, .cells #[ptr Bc 0] 66)]) := by
  intro ly J K u N0 hJl hKl hJe hKe hy hJ0 hO
  show Calls Try.prog 70 #[.func (.yield ly) #[] #[], ptr B1 0] u _
  obtain ⟨es, cm, hm, hM⟩ := hO.memo
  have hnm := hO.nm
  have hnb := hO.nb
  simp only [List.map_cons, List.map_nil, List.mem_cons, List.not_mem_nil, or_false, not_or] at hnb
  have hc := hO.held.at 0 rfl
  have hcn : Bc ∉ [bm] ++ N0 := fun h => by
    rcases List.mem_append.1 h with h | h
    · exact hnb.1 (List.mem_singleton.1 h).symm
    · exact hO.held.off 0 rfl h
  have hB1 := hO.held.at 1 rfl
  have hB1n : B1 ∉ [bm] ++ N0 := fun h => by
    rcases List.mem_append.1 h with h | h
    · exact hnb.2 (List.mem_singleton.1 h).symm
    · exact hO.held.off 1 rfl h
  have hB1m : B1 ∉ [bm] := fun h => hB1n (List.mem_append_left _ h)
  have hoo : ∀ x ∈ [bm] ++ N0, x ∈ N0 ∨ u.heap.size ≤ x ∨ ∃ es c, u.heap[x]? = some (.map es c) := fun x hx => by
    rcases List.mem_append.1 hx with h | h
    · rw [List.mem_singleton.1 h]; exact .inr (.inr ⟨es, cm, hm⟩)
    · exact .inl h
  have hmA : ∀ {w}, Ext ([bm] ++ N0) u w → MkAt w sa d.l := fun e => hO.ma.at e hoo
  have hmB : ∀ {w}, Ext ([bm] ++ N0) u w → MkAt w sb d.r := fun e => hO.mb.at e hoo
  have hL : ∀ i, lenR d i ≤ 10 := fun i => by have h1 := hV.nl; have h2 := hV.nr; unfold lenR; split <;> assumption
  have hJ := hJ0
  have hS : SyN u [bm] N0 N0 [(bm, .map es cm)] u := SyN.init (Hp.init1 hm) (fun x hx h => hnm (by rw [← (show x = bm from List.mem_singleton.1 h)]; exact hx)) (hJl _ _ _ hJ0) (fun x hx => hx)
  refine calls_ofM Try.func70 rfl rfl (fun a hf => ?_)
  have hh := Hp.init1 hm
  refine sy_sq ?_
  refine o_box hf hh ?_; clear hf hh a; intro B2 a w hf hh
  refine o_end ?_
  refine sy_sq ?_
  refine o_v hf hh (y_ld Try.sc_66 rfl) ?_; clear hf a; intro a hf
  refine o_v hf hh (yv_makeFunc rfl rfl) ?_; clear hf a; intro a hf
  refine o_alloc hf hh Try.ze_70 ?_; clear hf hh a; intro B3 a w hf hh
  refine o_store hf hh Try.sz_70 fun w hh => ?_
  refine o_end ?_
  refine sy_seq ?_
  refine sy_sq ?_
  refine o_v hf hh (y_ld Try.sc_70 rfl) ?_; clear hf a; intro a hf
  refine o_v hf hh (yv_buildA Try.ba_73 rfl rfl) ?_; clear hf a; intro a hf
  replace hJ := hJe _ _ _ _ _ hJ hh.ext (hS.side fun x hx => .inl hx)
  replace hS := hS.step hh (fun x hx => .inl hx)
  replace hh := hS.hp.own
  refine o_call hf Try.en_39 rfl rfl rfl (p39 d p sa sb ca cb bm Bc _ (hS.old hc hcn) _ _ (hS.hp.at (i := 2) rfl) hM (hmA hS.hp.ext) (hmB hS.hp.ext) hV (0, 0) (by decide) (by decide)) ?_; clear hf a; intro v a w hR hf
  obtain ⟨rfl, es', cm', hM, hx⟩ := hR; replace hh := hh.turn (i := 2) rfl hx.ext (hx.at (i := 0) rfl); clear hx
  refine o_v hf hh (yv_move rfl) ?_; clear hf a; intro a hf
  refine guard_split hf (t := 12) rfl (fun hg2 => ?_) (fun hg2 => ?_)
  ·have hG2 := hg2; try simp only [gS] at hG2
   refine o_v hf hh (y_ld Try.sc_70 rfl) ?_; clear hf a; intro a hf
   refine o_v hf hh (yv_buildA Try.ba_73 rfl rfl) ?_; clear hf a; intro a hf
   replace hJ := hJe _ _ _ _ _ hJ hh.ext (hS.side fun x hx => .inl hx)
   replace hS := hS.step hh (fun x hx => .inl hx)
   replace hh := hS.hp.own
   have hxy : casesL d p = [] ++ (0, 0) :: restI d p 0 := by
     unfold casesL; simp only [List.filter_cons, List.filter_nil]; rw [if_pos (by assumption)]; rfl
   refine ops_yield hf rfl rfl (gon rfl rfl rfl (by first | assumption | rfl | (simp; done) | (simp; omega))) rfl (hy _ _ _ _ (at_doneC hxy) hJ) ?_; clear hf a; intro v a w hR hf
   obtain ⟨N', hgr, hex, hR⟩ := hR
   have hR2 : ∃ o : Bool, v = .bool o ∧ (o = true → J (0 + 1) N' w) ∧ (o = false → K 0 N' w) ∧ ∀ x ∈ N', x < w.heap.size := by
     rcases hR with ⟨rfl, h⟩ | ⟨rfl, h⟩
     · exact ⟨true, rfl, fun _ => h, (fun h => by cases h), hJl _ _ _ h⟩
     · exact ⟨false, rfl, (fun h => by cases h), fun _ => h, hKl _ _ _ h⟩
   clear hR
   obtain ⟨o, rfl, ho1, ho2, hlN'⟩ := hR2
   replace hS := hS.yield hex hgr hlN'
   replace hh := hS.hp.own
   
   refine o_v hf hh (yv_not rfl) ?_; clear hf a; intro a hf
   refine o_v hf hh (y_pt rfl rfl) ?_; clear hf a; intro a hf
   refine o_end ?_
   refine sy_cond hf rfl (fun hg4 => ?_) (fun hg4 => ?_)
   ·have hG4 := hg4; try simp only [gS] at hG4
    refine sy_ret ?_
    refine then_r ?_
    first
      | (have hS1 := (hS.less (.cons_cons _ (.cons _ (.cons _ (.cons _ (.refl _)))))).perm (.cons _ (List.perm_append_comm (l₁ := [_]) (l₂ := dls Ds)))
         exact fin70 (Ds := D :: Ds) hf rfl hO hS1 hM fun w' e => .inr ⟨_, hKe _ _ _ _ _ hK e (hS1.side fun x hx => .inl hx)⟩)
      | (have hK := ho2 (by assumption)
         replace hK := hKe _ _ _ _ _ hK hh.ext (hS.side fun x hx => .inl hx)
         replace hS := hS.step hh (fun x hx => .inl hx)
         have hS1 := hS.less (.cons _ (.cons _ (.refl _)))
         exact fin70 (Ds := []) hf rfl hO hS1 hM fun w' e => .inr ⟨_, hKe _ _ _ _ _ hK e (hS1.side fun x hx => .inl hx)⟩)
      | (rw [restI_end (by omega), List.append_nil] at hcs
         replace hJ := hJe _ _ _ _ _ hJ hh.ext (hS.side fun x hx => .inl hx)
         replace hS := hS.step hh (fun x hx => .inl hx)
         have hS1 := (hS.less (.cons _ (.cons _ (.refl _)))).perm (List.perm_append_comm (l₁ := [_]) (l₂ := dls Ds))
         exact fin70 (Ds := Ds) hf rfl hO hS1 hM fun w' e => .inl (by rw [hcs, List.length_map]; exact hJe _ _ _ _ _ hJ e (hS1.side fun x hx => .inl hx)))
      | omega
   ·have hG4 := hg4; try simp only [gS] at hG4
    refine sy_skip ?_
    refine then_n ?_
    refine sy_sq ?_
    refine o_v hf hh (yv_move rfl) ?_; clear hf a; intro a hf
    refine o_end ?_
    refine sy_block ?_
    refine sy_loopM (σ := Nat × List Nat) [4, 18, 19, 20, 21, 22, 23, 36] (fun s => mkd (s.2)) (fun s => [(18, .int .i64 (s.1 : Nat))]) (fun s => fun w' => s.1 ≤ 2 ∧ ∃ done N es cm, casesL d p = done ++ restI d p s.1 ∧ J done.length N w' ∧ MemoV enc2 (leftV d) es ∧ SyN u [bm] N0 N ([(B3, .cells #[.func (.func 39) #[ptr Bc 0] #[]] 70), (B2, .cells #[.func (.yield ly) #[] #[]] 70), (bm, .map es cm)] ++ dls s.2) w') (fun s => 2 - s.1) ((0, [])) hf rfl ?_ ?_ ?_
    · repeat' (first | exact True.intro | refine And.intro rfl ?_)
    · first
      | (have hJ := ho1 (by assumption)
         replace hJ := hJe _ _ _ _ _ hJ hh.ext (hS.side fun x hx => .inl hx)
         replace hS := hS.step hh (fun x hx => .inl hx)
         exact ⟨Nat.zero_le _, [(0, 0)], N', _, _, hxy, hJ, hM, hS⟩)
      | (have hcs : casesL d p = [] ++ restI d p 0 := by
           unfold casesL; simp only [List.filter_cons, List.filter_nil]; rw [if_neg (by simp_all)]
         replace hJ := hJe _ _ _ _ _ hJ hh.ext (hS.side fun x hx => .inl hx)
         replace hS := hS.step hh (fun x hx => .inl hx)
         exact ⟨Nat.zero_le _, [], N0, _, _, hcs, hJ, hM, hS⟩)
    ·rintro s a w ⟨hi2, done, N, es, cm, hcs, hJ, hM, hS⟩ hf
     obtain ⟨i, Ds⟩ := s
     simp only at hi2 hcs hS hf ⊢
     have m1 := hS.old hB1 hB1n
     have m1n := hS.oldN hB1 hB1m
     have hh := hS.hp.own
     refine sy_sq ?_
     refine o_v hf hh (yv_bin rfl rfl rfl) ?_; clear hf a; intro a hf
     refine o_end ?_
     refine sy_seq ?_
     refine sy_cond hf rfl (fun hg6 => ?_) (fun hg6 => ?_)
     ·have hG6 := hg6; try simp only [gS] at hG6
      refine sy_skip ?_
      refine then_n ?_
      refine sy_seq ?_
      refine sy_block ?_
      refine sy_sq ?_
      refine o_v hf hh (yv_move rfl) ?_; clear hf a; intro a hf
      refine o_alloc hf hh Try.ze_3 ?_; clear hf hh a; intro B4 a w hf hh
      refine o_store hf hh Try.sz_3 fun w hh => ?_
      refine o_end ?_
      refine sy_scope ?_
      refine sy_seq ?_
      refine sy_label ?_
      refine then_n ?_
      refine sy_sq ?_
      refine o_v hf hh (y_ld Try.sc_66 rfl) ?_; clear hf a; intro a hf
      refine o_v hf hh (y_ld Try.sc_3 rfl) ?_; clear hf a; intro a hf
      refine o_call hf Try.en_71 rfl rfl rfl (p71 Bc i _) ?_; clear hf a; intro v a w hR hf
      obtain ⟨Ba, Bb, rfl, hx⟩ := hR; replace hh := hh.join hx; clear hx
      replace hJ := hJe _ _ _ _ _ hJ hh.ext (hS.side fun x hx => .inl hx)
      replace hS := hS.step hh (fun x hx => .inl hx)
      have hus := hS.hp.ext.size
      refine o_end ?_
      refine sy_block ?_
      refine sy_rangeG (fun k NN v => ∃ NJ es cm done, NN = (([(B4, Obj.cells #[.int .i64 (i : Nat)] 3), (B3, Obj.cells #[.func (.func 39) #[ptr Bc 0] #[]] 70), (B2, Obj.cells #[.func (.yield ly) #[] #[]] 70), (bm, Obj.map es cm)] ++ dls Ds)).map Prod.fst ++ NJ ∧ casesL d p = done ++ (rowL d p i ((restS (lenR d i) p 1).drop k) ++ restI d p (i + 1)) ∧ J done.length NJ v ∧ MemoV enc2 (leftV d) es ∧ SyN u [bm] N0 NJ ([(B4, Obj.cells #[.int .i64 (i : Nat)] 3), (B3, Obj.cells #[.func (.func 39) #[ptr Bc 0] #[]] 70), (B2, Obj.cells #[.func (.yield ly) #[] #[]] 70), (bm, Obj.map es cm)] ++ dls Ds) v) (fun k c NN v => ∃ NJ es cm kk, NN = (([(B4, Obj.cells #[.int .i64 (i : Nat)] 3), (B3, Obj.cells #[.func (.func 39) #[ptr Bc 0] #[]] 70), (B2, Obj.cells #[.func (.yield ly) #[] #[]] 70), (bm, Obj.map es cm)] ++ dls Ds)).map Prod.fst ++ NJ ∧ c = .ret ∧ K kk NJ v ∧ MemoV enc2 (leftV d) es ∧ SyN u [bm] N0 NJ ([(B4, Obj.cells #[.int .i64 (i : Nat)] 3), (B3, Obj.cells #[.func (.func 39) #[ptr Bc 0] #[]] 70), (B2, Obj.cells #[.func (.yield ly) #[] #[]] 70), (bm, Obj.map es cm)] ++ dls Ds) v) ((([(B4, Obj.cells #[.int .i64 (i : Nat)] 3), (B3, Obj.cells #[.func (.func 39) #[ptr Bc 0] #[]] 70), (B2, Obj.cells #[.func (.yield ly) #[] #[]] 70), (bm, Obj.map es cm)] ++ dls Ds)).map Prod.fst ++ N) hf Try.en_90 rfl (it90 d p sa sb ca cb bm Bc Ba Bb i (by omega) hV.nl hV.nr hp0 hp3) rfl (by intro x hx; obtain ⟨y, _, rfl⟩ := List.mem_map.1 hx; rfl) ?_ ?_ ?_ ?_ ?_ ?_ ?_ ?_ ?_ ?_
      · exact ⟨N, es, cm, done, rfl, by rw [List.drop_zero, hcs, restI_step (by omega)], hJ, hM, hS.less (.cons _ (.cons _ (.refl _)))⟩
      · intro N1 w1 e1 g1
        have hnd := hS.hp.nodup
        have hn1 := (List.nodup_cons.1 hnd).1
        have hn2 := (List.nodup_cons.1 (List.nodup_cons.1 hnd).2).1
        exact (Held.cons (hS.hp.at (i := 1) rfl) (fun h => by
          rcases List.mem_append.1 h with h | h
          · exact hn2 h
          · exact hS.off _ h (.tail _ (.head _))) (Held.cons (hS.hp.at (i := 0) rfl) (fun h => by
          rcases List.mem_append.1 h with h | h
          · exact hn1 (.tail _ h)
          · exact hS.off _ h (.head _)) (Held.cons (hS.old hc hcn) (fun h => by
          rcases List.mem_append.1 h with h | h
          · exact (hS.less (.cons _ (.cons _ (.refl _)))).oldN hc (fun h => hcn (List.mem_append_left _ h)) h
          · rcases hS.gr _ h with h | h
            · exact hcn (List.mem_append_right _ h)
            · have := (Array.getElem?_eq_some_iff.1 hc).1; omega) (Held.nil _ _)))).step (e1.mono (by simp)) g1
      · rintro k NN v ⟨NJ, es, cm, done, rfl, _, _, _, h4⟩; exact h4.ltA
      · rintro k c NN v ⟨NJ, es, cm, kk, rfl, _, _, _, h4⟩; exact h4.ltA
      · rintro k NN v v' O ⟨NJ, es, cm, done, rfl, h1, h2, h3, h4⟩ e hO1
        have hw : ∀ x ∈ O, u.heap.size ≤ x := fun x hx => by
          rcases (hO1 x hx).2 with h | h
          · cases h
          · omega
        exact ⟨NJ, es, cm, done, rfl, h1, hJe _ _ _ _ _ h2 e (fun x hx => ⟨fun h => (hO1 x hx).1 (List.mem_append_right _ h), .inr (hw x hx)⟩), h3, h4.others e fun x hx => ⟨fun h => (hO1 x hx).1 (List.mem_append_left _ h), hw x hx⟩⟩
      · rintro k c NN v v' O ⟨NJ, es, cm, kk, rfl, h1, h2, h3, h4⟩ e hO1
        have hw : ∀ x ∈ O, u.heap.size ≤ x := fun x hx => by
          rcases (hO1 x hx).2 with h | h
          · cases h
          · omega
        exact ⟨NJ, es, cm, kk, rfl, h1, hKe _ _ _ _ _ h2 e (fun x hx => ⟨fun h => (hO1 x hx).1 (List.mem_append_right _ h), .inr (hw x hx)⟩), h3, h4.others e fun x hx => ⟨fun h => (hO1 x hx).1 (List.mem_append_left _ h), hw x hx⟩⟩
      ·rintro k x fn D l NN w a tm hx hSt hr hlN hDN hwl hwD hf
       obtain ⟨NJ, es, cm, done, rfl, hcs, hJ, hM, hS⟩ := hSt
       obtain ⟨s, hs, rfl⟩ : ∃ s, (restS (lenR d i) p 1)[k]? = some s ∧ x = sA s := by
         rw [List.getElem?_map] at hx
         cases e : (restS (lenR d i) p 1)[k]? with
         | none => rw [e] at hx; cases hx
         | some p => rw [e] at hx; cases hx; exact ⟨p, rfl, rfl⟩
       have hslt := restS_lt hs
       have hp10 := pow_le_10 (hL i)
       have hx12 : (setX i s).1 < 65536 ∧ (setX i s).2 < 65536 := by unfold setX; split <;> constructor <;> simp only <;> omega
       have hlD : l ≠ D := by have := hr.nodup; simp at this; exact this
       replace hS := (hS.add (hr.at (i := 1) rfl) (fun h => hDN (List.mem_append_right _ h)) (fun h => hDN (List.mem_append_left _ h)) (by omega)).add (hr.at (i := 0) rfl) (fun h => hlN (List.mem_append_right _ h)) (fun h => by
         rcases List.mem_cons.1 h with h | h
         · exact hlD h
         · exact hlN (List.mem_append_left _ h)) (by omega)
       have hh := hS.hp.own
       have hT := SyN.init hh hS.off hS.lt (fun x hx => hx)
       have m1 := hS.old hB1 hB1n
       have m1n := hS.oldN hB1 hB1m
       refine sy_ops ?_
       refine o_v hf hh (yv_assign rfl) ?_; clear hf a; intro a hf
       refine ops_end ?_
       refine then_n (Go.Sy.begun (i := 0) hh rfl fun w hh => ?_)
       refine sy_block ?_
       refine sy_sq ?_
       refine o_alloc hf hh Try.ze_73 ?_; clear hf hh a; intro B6 a w hf hh
       refine o_end ?_
       refine sy_sq ?_
       refine o_v hf hh (y_ld Try.sc_3 rfl) ?_; clear hf a; intro a hf
       refine o_v hf hh (yv_move rfl) ?_; clear hf a; intro a hf
       refine o_v hf hh (y_ia Try.ae_73 rfl rfl) ?_; clear hf a; intro a hf
       refine o_store (i := 0) hf hh Try.sz_71 (hx := rfl) (hi := atI (i := 0) rfl) (hy := rfl) (hl := by rcases (show i = 0 ∨ i = 1 by omega) with rfl | rfl <;> rfl) fun w hh => ?_
       replace hh := Hp.headEq (c' := (enc2 (setX i s)).cells) hh (by rcases (show i = 0 ∨ i = 1 by omega) with rfl | rfl <;> rfl)
       refine o_end ?_
       refine sy_seq ?_
       refine sy_sq ?_
       refine o_v hf hh (y_ld Try.sc_70 rfl) ?_; clear hf a; intro a hf
       refine o_v hf hh (y_lds Try.ag_73 rfl) ?_; clear hf a; intro a hf
       replace hJ := hJe _ _ _ _ _ hJ hh.ext (hS.side fun x hx => .inl hx)
       replace hS := hS.step hh (fun x hx => .inl hx)
       replace hT := hT.step hh (fun x hx => .inl hx)
       replace hh := hS.hp.own
       refine o_call hf Try.en_39 rfl rfl rfl (p39 d p sa sb ca cb bm Bc _ (hS.old hc hcn) _ _ (hS.hp.at (i := 6) rfl) hM (hmA hS.hp.ext) (hmB hS.hp.ext) hV (setX i s) hx12.1 hx12.2) ?_; clear hf a; intro v a w hR hf
       obtain ⟨rfl, es', cm', hM, hx⟩ := hR; replace hh := hh.turn (i := 6) rfl hx.ext (hx.at (i := 0) rfl); clear hx
       refine o_v hf hh (yv_not rfl) ?_; clear hf a; intro a hf
       refine o_end ?_
       refine sy_cond hf rfl (fun hg10 => ?_) (fun hg10 => ?_)
       ·have hG10 := hg10; try simp only [gS] at hG10
        refine sy_exit ?_
        refine then_e ?_
        refine blk_e ?_
        first
          | (have hJ := ho1 (by assumption)
             replace hJ := hJe _ _ _ _ _ hJ hh.ext (hS.side fun x hx => .inl hx)
             replace hS := hS.step hh (fun x hx => .inl hx)
             replace hT := hT.step hh (fun x hx => .inl hx)
             obtain ⟨e1, e2, e3, e4, e5, e6⟩ := (hT.less (.cons _ (.refl _))).round
             exact ⟨_, ⟨N', _, _, done ++ [setX i s], rfl, by rw [hxy, List.append_assoc]; rfl, by rw [List.length_append]; exact hJ, hM, hS.less (.cons _ (.cons _ (.cons _ (.refl _))))⟩, e1, e2, e3, e4, e5, e6⟩)
          | (replace hJ := hJe _ _ _ _ _ hJ hh.ext (hS.side fun x hx => .inl hx)
             replace hS := hS.step hh (fun x hx => .inl hx)
             replace hT := hT.step hh (fun x hx => .inl hx)
             obtain ⟨e1, e2, e3, e4, e5, e6⟩ := (hT.less (.cons _ (.refl _))).round
             exact ⟨_, ⟨NJ, _, _, done, rfl, by rw [hcs, rowL_drop hs, if_neg (by simp_all)]; rfl, hJ, hM, hS.less (.cons _ (.cons _ (.cons _ (.refl _))))⟩, e1, e2, e3, e4, e5, e6⟩)
       ·have hG10 := hg10; try simp only [gS] at hG10
        refine sy_skip ?_
        refine then_n ?_
        refine sy_sq ?_
        refine o_v hf hh (y_ld Try.sc_70 rfl) ?_; clear hf a; intro a hf
        refine o_v hf hh (y_lds Try.ag_73 rfl) ?_; clear hf a; intro a hf
        replace hJ := hJe _ _ _ _ _ hJ hh.ext (hS.side fun x hx => .inl hx)
        replace hS := hS.step hh (fun x hx => .inl hx)
        replace hT := hT.step hh (fun x hx => .inl hx)
        replace hh := hS.hp.own
        have hxy : casesL d p = done ++ setX i s :: (rowL d p i ((restS (lenR d i) p 1).drop (k + 1)) ++ restI d p (i + 1)) := by
          rw [hcs, rowL_drop hs, if_pos (by assumption)]; rfl
        refine ops_yield hf rfl rfl (.inl rfl) rfl (hy _ _ _ _ (at_doneC hxy) hJ) ?_; clear hf a; intro v a w hR hf
        obtain ⟨N', hgr, hex, hR⟩ := hR
        have hR2 : ∃ o : Bool, v = .bool o ∧ (o = true → J (done.length + 1) N' w) ∧ (o = false → K done.length N' w) ∧ ∀ x ∈ N', x < w.heap.size := by
          rcases hR with ⟨rfl, h⟩ | ⟨rfl, h⟩
          · exact ⟨true, rfl, fun _ => h, (fun h => by cases h), hJl _ _ _ h⟩
          · exact ⟨false, rfl, (fun h => by cases h), fun _ => h, hKl _ _ _ h⟩
        clear hR
        obtain ⟨o, rfl, ho1, ho2, hlN'⟩ := hR2
        replace hS := hS.yield hex hgr hlN'
        replace hT := hT.yield hex hgr hlN'
        replace hh := hS.hp.own
        
        refine o_v hf hh (yv_not rfl) ?_; clear hf a; intro a hf
        refine o_end ?_
        refine sy_cond hf rfl (fun hg12 => ?_) (fun hg12 => ?_)
        ·have hG12 := hg12; try simp only [gS] at hG12
         refine sy_ret ?_
         refine blk_r ?_
         have hK := ho2 (by assumption)
         replace hK := hKe _ _ _ _ _ hK hh.ext (hS.side fun x hx => .inl hx)
         replace hS := hS.step hh (fun x hx => .inl hx)
         replace hT := hT.step hh (fun x hx => .inl hx)
         obtain ⟨e1, e2, e3, e4, e5, e6⟩ := (hT.less (.cons _ (.refl _))).round
         exact ⟨_, ⟨N', _, _, _, rfl, rfl, hK, hM, hS.less (.cons _ (.cons _ (.cons _ (.refl _))))⟩, e1, e2, e3, e4, e5, e6⟩
        ·have hG12 := hg12; try simp only [gS] at hG12
         refine sy_skip ?_
         refine blk_n ?_
         first
           | (have hJ := ho1 (by assumption)
              replace hJ := hJe _ _ _ _ _ hJ hh.ext (hS.side fun x hx => .inl hx)
              replace hS := hS.step hh (fun x hx => .inl hx)
              replace hT := hT.step hh (fun x hx => .inl hx)
              obtain ⟨e1, e2, e3, e4, e5, e6⟩ := (hT.less (.cons _ (.refl _))).round
              exact ⟨_, ⟨N', _, _, done ++ [setX i s], rfl, by rw [hxy, List.append_assoc]; rfl, by rw [List.length_append]; exact hJ, hM, hS.less (.cons _ (.cons _ (.cons _ (.refl _))))⟩, e1, e2, e3, e4, e5, e6⟩)
           | (replace hJ := hJe _ _ _ _ _ hJ hh.ext (hS.side fun x hx => .inl hx)
              replace hS := hS.step hh (fun x hx => .inl hx)
              replace hT := hT.step hh (fun x hx => .inl hx)
              obtain ⟨e1, e2, e3, e4, e5, e6⟩ := (hT.less (.cons _ (.refl _))).round
              exact ⟨_, ⟨NJ, _, _, done, rfl, by rw [hcs, rowL_drop hs, if_neg (by simp_all)]; rfl, hJ, hM, hS.less (.cons _ (.cons _ (.cons _ (.refl _))))⟩, e1, e2, e3, e4, e5, e6⟩)
      ·rintro D NN N2 a w hSt hOw hDN hDv hwD hf
       obtain ⟨NJ, es, cm, done, rfl, hcs, hJ, hM, hS⟩ := hSt
       rw [List.length_map, List.drop_length] at hcs
       replace hcs : casesL d p = done ++ restI d p (i + 1) := hcs
       replace hS := hS.add hDv (fun h => hDN (List.mem_append_right _ h)) (fun h => hDN (List.mem_append_left _ h)) (by omega)
       have hh := hS.hp.own
       refine blk_n ?_
       refine ng_n ?_
       refine blk_n ?_
       refine then_n ?_
       refine sy_ops ?_
       refine o_v hf hh (y_add rfl rfl) ?_; clear hf a; intro a hf
       refine o_v hf hh (yv_move rfl) ?_; clear hf a; intro a hf
       refine ops_end ?_
       refine then_n ?_
       replace hJ := hJe _ _ _ _ _ hJ hh.ext (hS.side fun x hx => .inl hx)
       replace hS := hS.step hh (fun x hx => .inl hx)
       exact ⟨(i + 1, D :: Ds), ⟨⟨by simp only; omega, done, NJ, es, cm, hcs, hJ, hM, (hS.less (.cons_cons _ (.cons _ (.refl _)))).perm (List.perm_middle (l₁ := [_, _, _])).symm⟩, (hf.head (by repeat' (first | exact True.intro | refine And.intro rfl ?_)) (Keep.cons rfl (Keep.cons rfl (Keep.cons rfl (Keep.cons rfl (Keep.cons rfl (Keep.cons rfl (Keep.cons rfl (Keep.cons rfl (Keep.app rfl (Keep.rm rfl Keep.base)))))))))))⟩, by simp only; omega⟩
      ·rintro k c D NN N2 a w hX hOw hDN hDv hwD hf
       obtain ⟨NJ, es, cm, kk, rfl, rfl, hK, hM, hS⟩ := hX
       replace hS := hS.add hDv (fun h => hDN (List.mem_append_right _ h)) (fun h => hDN (List.mem_append_left _ h)) (by omega)
       refine sy_ret ?_
       refine blk_r ?_
       refine ng_r ?_
       refine blk_r ?_
       refine then_r ?_
       refine then_r ?_
       refine blk_r ?_
       first
         | (have hS1 := (hS.less (.cons_cons _ (.cons _ (.cons _ (.cons _ (.refl _)))))).perm (.cons _ (List.perm_append_comm (l₁ := [_]) (l₂ := dls Ds)))
            exact fin70 (Ds := D :: Ds) hf rfl hO hS1 hM fun w' e => .inr ⟨_, hKe _ _ _ _ _ hK e (hS1.side fun x hx => .inl hx)⟩)
         | (have hK := ho2 (by assumption)
            replace hK := hKe _ _ _ _ _ hK hh.ext (hS.side fun x hx => .inl hx)
            replace hS := hS.step hh (fun x hx => .inl hx)
            have hS1 := hS.less (.cons _ (.cons _ (.refl _)))
            exact fin70 (Ds := []) hf rfl hO hS1 hM fun w' e => .inr ⟨_, hKe _ _ _ _ _ hK e (hS1.side fun x hx => .inl hx)⟩)
         | (rw [restI_end (by omega), List.append_nil] at hcs
            replace hJ := hJe _ _ _ _ _ hJ hh.ext (hS.side fun x hx => .inl hx)
            replace hS := hS.step hh (fun x hx => .inl hx)
            have hS1 := (hS.less (.cons _ (.cons _ (.refl _)))).perm (List.perm_append_comm (l₁ := [_]) (l₂ := dls Ds))
            exact fin70 (Ds := Ds) hf rfl hO hS1 hM fun w' e => .inl (by rw [hcs, List.length_map]; exact hJe _ _ _ _ _ hJ e (hS1.side fun x hx => .inl hx)))
         | omega
      · rintro N v v' b h hb e; exact h.step (e.mono (by simpa using hb)) (.refl _ _)
     ·have hG6 := hg6; try simp only [gS] at hG6
      refine sy_exit ?_
      refine then_e ?_
      refine then_e ?_
      refine blk_e ?_
      first
        | (have hS1 := (hS.less (.cons_cons _ (.cons _ (.cons _ (.cons _ (.refl _)))))).perm (.cons _ (List.perm_append_comm (l₁ := [_]) (l₂ := dls Ds)))
           exact fin70 (Ds := D :: Ds) hf rfl hO hS1 hM fun w' e => .inr ⟨_, hKe _ _ _ _ _ hK e (hS1.side fun x hx => .inl hx)⟩)
        | (have hK := ho2 (by assumption)
           replace hK := hKe _ _ _ _ _ hK hh.ext (hS.side fun x hx => .inl hx)
           replace hS := hS.step hh (fun x hx => .inl hx)
           have hS1 := hS.less (.cons _ (.cons _ (.refl _)))
           exact fin70 (Ds := []) hf rfl hO hS1 hM fun w' e => .inr ⟨_, hKe _ _ _ _ _ hK e (hS1.side fun x hx => .inl hx)⟩)
        | (rw [restI_end (by omega), List.append_nil] at hcs
           replace hJ := hJe _ _ _ _ _ hJ hh.ext (hS.side fun x hx => .inl hx)
           replace hS := hS.step hh (fun x hx => .inl hx)
           have hS1 := (hS.less (.cons _ (.cons _ (.refl _)))).perm (List.perm_append_comm (l₁ := [_]) (l₂ := dls Ds))
           exact fin70 (Ds := Ds) hf rfl hO hS1 hM fun w' e => .inl (by rw [hcs, List.length_map]; exact hJe _ _ _ _ _ hJ e (hS1.side fun x hx => .inl hx)))
        | omega
  ·have hG2 := hg2; try simp only [gS] at hG2
   refine o_off hf ?_; clear hf a; intro a hf
   refine o_off hf ?_; clear hf a; intro a hf
   refine o_off hf ?_; clear hf a; intro a hf
   refine o_off hf ?_; clear hf a; intro a hf
   refine o_v hf hh (y_pf rfl rfl) ?_; clear hf a; intro a hf
   refine o_end ?_
   refine c_f hf ?_
   refine sy_skip ?_
   refine then_n ?_
   refine sy_sq ?_
   refine o_v hf hh (yv_move rfl) ?_; clear hf a; intro a hf
   refine o_end ?_
   refine sy_block ?_
   refine sy_loopM (σ := Nat × List Nat) [4, 18, 19, 20, 21, 22, 23, 36] (fun s => mkd (s.2)) (fun s => [(18, .int .i64 (s.1 : Nat))]) (fun s => fun w' => s.1 ≤ 2 ∧ ∃ done N es cm, casesL d p = done ++ restI d p s.1 ∧ J done.length N w' ∧ MemoV enc2 (leftV d) es ∧ SyN u [bm] N0 N ([(B3, .cells #[.func (.func 39) #[ptr Bc 0] #[]] 70), (B2, .cells #[.func (.yield ly) #[] #[]] 70), (bm, .map es cm)] ++ dls s.2) w') (fun s => 2 - s.1) ((0, [])) hf rfl ?_ ?_ ?_
   · repeat' (first | exact True.intro | refine And.intro rfl ?_)
   · first
     | (have hJ := ho1 (by assumption)
        replace hJ := hJe _ _ _ _ _ hJ hh.ext (hS.side fun x hx => .inl hx)
        replace hS := hS.step hh (fun x hx => .inl hx)
        exact ⟨Nat.zero_le _, [(0, 0)], N', _, _, hxy, hJ, hM, hS⟩)
     | (have hcs : casesL d p = [] ++ restI d p 0 := by
          unfold casesL; simp only [List.filter_cons, List.filter_nil]; rw [if_neg (by simp_all)]
        replace hJ := hJe _ _ _ _ _ hJ hh.ext (hS.side fun x hx => .inl hx)
        replace hS := hS.step hh (fun x hx => .inl hx)
        exact ⟨Nat.zero_le _, [], N0, _, _, hcs, hJ, hM, hS⟩)
   ·rintro s a w ⟨hi2, done, N, es, cm, hcs, hJ, hM, hS⟩ hf
    obtain ⟨i, Ds⟩ := s
    simp only at hi2 hcs hS hf ⊢
    have m1 := hS.old hB1 hB1n
    have m1n := hS.oldN hB1 hB1m
    have hh := hS.hp.own
    refine sy_sq ?_
    refine o_v hf hh (yv_bin rfl rfl rfl) ?_; clear hf a; intro a hf
    refine o_end ?_
    refine sy_seq ?_
    refine sy_cond hf rfl (fun hg14 => ?_) (fun hg14 => ?_)
    ·have hG14 := hg14; try simp only [gS] at hG14
     refine sy_skip ?_
     refine then_n ?_
     refine sy_seq ?_
     refine sy_block ?_
     refine sy_sq ?_
     refine o_v hf hh (yv_move rfl) ?_; clear hf a; intro a hf
     refine o_alloc hf hh Try.ze_3 ?_; clear hf hh a; intro B4 a w hf hh
     refine o_store hf hh Try.sz_3 fun w hh => ?_
     refine o_end ?_
     refine sy_scope ?_
     refine sy_seq ?_
     refine sy_label ?_
     refine then_n ?_
     refine sy_sq ?_
     refine o_v hf hh (y_ld Try.sc_66 rfl) ?_; clear hf a; intro a hf
     refine o_v hf hh (y_ld Try.sc_3 rfl) ?_; clear hf a; intro a hf
     refine o_call hf Try.en_71 rfl rfl rfl (p71 Bc i _) ?_; clear hf a; intro v a w hR hf
     obtain ⟨Ba, Bb, rfl, hx⟩ := hR; replace hh := hh.join hx; clear hx
     replace hJ := hJe _ _ _ _ _ hJ hh.ext (hS.side fun x hx => .inl hx)
     replace hS := hS.step hh (fun x hx => .inl hx)
     have hus := hS.hp.ext.size
     refine o_end ?_
     refine sy_block ?_
     refine sy_rangeG (fun k NN v => ∃ NJ es cm done, NN = (([(B4, Obj.cells #[.int .i64 (i : Nat)] 3), (B3, Obj.cells #[.func (.func 39) #[ptr Bc 0] #[]] 70), (B2, Obj.cells #[.func (.yield ly) #[] #[]] 70), (bm, Obj.map es cm)] ++ dls Ds)).map Prod.fst ++ NJ ∧ casesL d p = done ++ (rowL d p i ((restS (lenR d i) p 1).drop k) ++ restI d p (i + 1)) ∧ J done.length NJ v ∧ MemoV enc2 (leftV d) es ∧ SyN u [bm] N0 NJ ([(B4, Obj.cells #[.int .i64 (i : Nat)] 3), (B3, Obj.cells #[.func (.func 39) #[ptr Bc 0] #[]] 70), (B2, Obj.cells #[.func (.yield ly) #[] #[]] 70), (bm, Obj.map es cm)] ++ dls Ds) v) (fun k c NN v => ∃ NJ es cm kk, NN = (([(B4, Obj.cells #[.int .i64 (i : Nat)] 3), (B3, Obj.cells #[.func (.func 39) #[ptr Bc 0] #[]] 70), (B2, Obj.cells #[.func (.yield ly) #[] #[]] 70), (bm, Obj.map es cm)] ++ dls Ds)).map Prod.fst ++ NJ ∧ c = .ret ∧ K kk NJ v ∧ MemoV enc2 (leftV d) es ∧ SyN u [bm] N0 NJ ([(B4, Obj.cells #[.int .i64 (i : Nat)] 3), (B3, Obj.cells #[.func (.func 39) #[ptr Bc 0] #[]] 70), (B2, Obj.cells #[.func (.yield ly) #[] #[]] 70), (bm, Obj.map es cm)] ++ dls Ds) v) ((([(B4, Obj.cells #[.int .i64 (i : Nat)] 3), (B3, Obj.cells #[.func (.func 39) #[ptr Bc 0] #[]] 70), (B2, Obj.cells #[.func (.yield ly) #[] #[]] 70), (bm, Obj.map es cm)] ++ dls Ds)).map Prod.fst ++ N) hf Try.en_90 rfl (it90 d p sa sb ca cb bm Bc Ba Bb i (by omega) hV.nl hV.nr hp0 hp3) rfl (by intro x hx; obtain ⟨y, _, rfl⟩ := List.mem_map.1 hx; rfl) ?_ ?_ ?_ ?_ ?_ ?_ ?_ ?_ ?_ ?_
     · exact ⟨N, es, cm, done, rfl, by rw [List.drop_zero, hcs, restI_step (by omega)], hJ, hM, hS.less (.cons _ (.cons _ (.refl _)))⟩
     · intro N1 w1 e1 g1
       have hnd := hS.hp.nodup
       have hn1 := (List.nodup_cons.1 hnd).1
       have hn2 := (List.nodup_cons.1 (List.nodup_cons.1 hnd).2).1
       exact (Held.cons (hS.hp.at (i := 1) rfl) (fun h => by
         rcases List.mem_append.1 h with h | h
         · exact hn2 h
         · exact hS.off _ h (.tail _ (.head _))) (Held.cons (hS.hp.at (i := 0) rfl) (fun h => by
         rcases List.mem_append.1 h with h | h
         · exact hn1 (.tail _ h)
         · exact hS.off _ h (.head _)) (Held.cons (hS.old hc hcn) (fun h => by
         rcases List.mem_append.1 h with h | h
         · exact (hS.less (.cons _ (.cons _ (.refl _)))).oldN hc (fun h => hcn (List.mem_append_left _ h)) h
         · rcases hS.gr _ h with h | h
           · exact hcn (List.mem_append_right _ h)
           · have := (Array.getElem?_eq_some_iff.1 hc).1; omega) (Held.nil _ _)))).step (e1.mono (by simp)) g1
     · rintro k NN v ⟨NJ, es, cm, done, rfl, _, _, _, h4⟩; exact h4.ltA
     · rintro k c NN v ⟨NJ, es, cm, kk, rfl, _, _, _, h4⟩; exact h4.ltA
     · rintro k NN v v' O ⟨NJ, es, cm, done, rfl, h1, h2, h3, h4⟩ e hO1
       have hw : ∀ x ∈ O, u.heap.size ≤ x := fun x hx => by
         rcases (hO1 x hx).2 with h | h
         · cases h
         · omega
       exact ⟨NJ, es, cm, done, rfl, h1, hJe _ _ _ _ _ h2 e (fun x hx => ⟨fun h => (hO1 x hx).1 (List.mem_append_right _ h), .inr (hw x hx)⟩), h3, h4.others e fun x hx => ⟨fun h => (hO1 x hx).1 (List.mem_append_left _ h), hw x hx⟩⟩
     · rintro k c NN v v' O ⟨NJ, es, cm, kk, rfl, h1, h2, h3, h4⟩ e hO1
       have hw : ∀ x ∈ O, u.heap.size ≤ x := fun x hx => by
         rcases (hO1 x hx).2 with h | h
         · cases h
         · omega
       exact ⟨NJ, es, cm, kk, rfl, h1, hKe _ _ _ _ _ h2 e (fun x hx => ⟨fun h => (hO1 x hx).1 (List.mem_append_right _ h), .inr (hw x hx)⟩), h3, h4.others e fun x hx => ⟨fun h => (hO1 x hx).1 (List.mem_append_left _ h), hw x hx⟩⟩
     ·rintro k x fn D l NN w a tm hx hSt hr hlN hDN hwl hwD hf
      obtain ⟨NJ, es, cm, done, rfl, hcs, hJ, hM, hS⟩ := hSt
      obtain ⟨s, hs, rfl⟩ : ∃ s, (restS (lenR d i) p 1)[k]? = some s ∧ x = sA s := by
        rw [List.getElem?_map] at hx
        cases e : (restS (lenR d i) p 1)[k]? with
        | none => rw [e] at hx; cases hx
        | some p => rw [e] at hx; cases hx; exact ⟨p, rfl, rfl⟩
      have hslt := restS_lt hs
      have hp10 := pow_le_10 (hL i)
      have hx12 : (setX i s).1 < 65536 ∧ (setX i s).2 < 65536 := by unfold setX; split <;> constructor <;> simp only <;> omega
      have hlD : l ≠ D := by have := hr.nodup; simp at this; exact this
      replace hS := (hS.add (hr.at (i := 1) rfl) (fun h => hDN (List.mem_append_right _ h)) (fun h => hDN (List.mem_append_left _ h)) (by omega)).add (hr.at (i := 0) rfl) (fun h => hlN (List.mem_append_right _ h)) (fun h => by
        rcases List.mem_cons.1 h with h | h
        · exact hlD h
        · exact hlN (List.mem_append_left _ h)) (by omega)
      have hh := hS.hp.own
      have hT := SyN.init hh hS.off hS.lt (fun x hx => hx)
      have m1 := hS.old hB1 hB1n
      have m1n := hS.oldN hB1 hB1m
      refine sy_ops ?_
      refine o_v hf hh (yv_assign rfl) ?_; clear hf a; intro a hf
      refine ops_end ?_
      refine then_n (Go.Sy.begun (i := 0) hh rfl fun w hh => ?_)
      refine sy_block ?_
      refine sy_sq ?_
      refine o_alloc hf hh Try.ze_73 ?_; clear hf hh a; intro B6 a w hf hh
      refine o_end ?_
      refine sy_sq ?_
      refine o_v hf hh (y_ld Try.sc_3 rfl) ?_; clear hf a; intro a hf
      refine o_v hf hh (yv_move rfl) ?_; clear hf a; intro a hf
      refine o_v hf hh (y_ia Try.ae_73 rfl rfl) ?_; clear hf a; intro a hf
      refine o_store (i := 0) hf hh Try.sz_71 (hx := rfl) (hi := atI (i := 0) rfl) (hy := rfl) (hl := by rcases (show i = 0 ∨ i = 1 by omega) with rfl | rfl <;> rfl) fun w hh => ?_
      replace hh := Hp.headEq (c' := (enc2 (setX i s)).cells) hh (by rcases (show i = 0 ∨ i = 1 by omega) with rfl | rfl <;> rfl)
      refine o_end ?_
      refine sy_seq ?_
      refine sy_sq ?_
      refine o_v hf hh (y_ld Try.sc_70 rfl) ?_; clear hf a; intro a hf
      refine o_v hf hh (y_lds Try.ag_73 rfl) ?_; clear hf a; intro a hf
      replace hJ := hJe _ _ _ _ _ hJ hh.ext (hS.side fun x hx => .inl hx)
      replace hS := hS.step hh (fun x hx => .inl hx)
      replace hT := hT.step hh (fun x hx => .inl hx)
      replace hh := hS.hp.own
      refine o_call hf Try.en_39 rfl rfl rfl (p39 d p sa sb ca cb bm Bc _ (hS.old hc hcn) _ _ (hS.hp.at (i := 6) rfl) hM (hmA hS.hp.ext) (hmB hS.hp.ext) hV (setX i s) hx12.1 hx12.2) ?_; clear hf a; intro v a w hR hf
      obtain ⟨rfl, es', cm', hM, hx⟩ := hR; replace hh := hh.turn (i := 6) rfl hx.ext (hx.at (i := 0) rfl); clear hx
      refine o_v hf hh (yv_not rfl) ?_; clear hf a; intro a hf
      refine o_end ?_
      refine sy_cond hf rfl (fun hg18 => ?_) (fun hg18 => ?_)
      ·have hG18 := hg18; try simp only [gS] at hG18
       refine sy_exit ?_
       refine then_e ?_
       refine blk_e ?_
       first
         | (have hJ := ho1 (by assumption)
            replace hJ := hJe _ _ _ _ _ hJ hh.ext (hS.side fun x hx => .inl hx)
            replace hS := hS.step hh (fun x hx => .inl hx)
            replace hT := hT.step hh (fun x hx => .inl hx)
            obtain ⟨e1, e2, e3, e4, e5, e6⟩ := (hT.less (.cons _ (.refl _))).round
            exact ⟨_, ⟨N', _, _, done ++ [setX i s], rfl, by rw [hxy, List.append_assoc]; rfl, by rw [List.length_append]; exact hJ, hM, hS.less (.cons _ (.cons _ (.cons _ (.refl _))))⟩, e1, e2, e3, e4, e5, e6⟩)
         | (replace hJ := hJe _ _ _ _ _ hJ hh.ext (hS.side fun x hx => .inl hx)
            replace hS := hS.step hh (fun x hx => .inl hx)
            replace hT := hT.step hh (fun x hx => .inl hx)
            obtain ⟨e1, e2, e3, e4, e5, e6⟩ := (hT.less (.cons _ (.refl _))).round
            exact ⟨_, ⟨NJ, _, _, done, rfl, by rw [hcs, rowL_drop hs, if_neg (by simp_all)]; rfl, hJ, hM, hS.less (.cons _ (.cons _ (.cons _ (.refl _))))⟩, e1, e2, e3, e4, e5, e6⟩)
      ·have hG18 := hg18; try simp only [gS] at hG18
       refine sy_skip ?_
       refine then_n ?_
       refine sy_sq ?_
       refine o_v hf hh (y_ld Try.sc_70 rfl) ?_; clear hf a; intro a hf
       refine o_v hf hh (y_lds Try.ag_73 rfl) ?_; clear hf a; intro a hf
       replace hJ := hJe _ _ _ _ _ hJ hh.ext (hS.side fun x hx => .inl hx)
       replace hS := hS.step hh (fun x hx => .inl hx)
       replace hT := hT.step hh (fun x hx => .inl hx)
       replace hh := hS.hp.own
       have hxy : casesL d p = done ++ setX i s :: (rowL d p i ((restS (lenR d i) p 1).drop (k + 1)) ++ restI d p (i + 1)) := by
         rw [hcs, rowL_drop hs, if_pos (by assumption)]; rfl
       refine ops_yield hf rfl rfl (.inl rfl) rfl (hy _ _ _ _ (at_doneC hxy) hJ) ?_; clear hf a; intro v a w hR hf
       obtain ⟨N', hgr, hex, hR⟩ := hR
       have hR2 : ∃ o : Bool, v = .bool o ∧ (o = true → J (done.length + 1) N' w) ∧ (o = false → K done.length N' w) ∧ ∀ x ∈ N', x < w.heap.size := by
         rcases hR with ⟨rfl, h⟩ | ⟨rfl, h⟩
         · exact ⟨true, rfl, fun _ => h, (fun h => by cases h), hJl _ _ _ h⟩
         · exact ⟨false, rfl, (fun h => by cases h), fun _ => h, hKl _ _ _ h⟩
       clear hR
       obtain ⟨o, rfl, ho1, ho2, hlN'⟩ := hR2
       replace hS := hS.yield hex hgr hlN'
       replace hT := hT.yield hex hgr hlN'
       replace hh := hS.hp.own
       
       refine o_v hf hh (yv_not rfl) ?_; clear hf a; intro a hf
       refine o_end ?_
       refine sy_cond hf rfl (fun hg20 => ?_) (fun hg20 => ?_)
       ·have hG20 := hg20; try simp only [gS] at hG20
        refine sy_ret ?_
        refine blk_r ?_
        have hK := ho2 (by assumption)
        replace hK := hKe _ _ _ _ _ hK hh.ext (hS.side fun x hx => .inl hx)
        replace hS := hS.step hh (fun x hx => .inl hx)
        replace hT := hT.step hh (fun x hx => .inl hx)
        obtain ⟨e1, e2, e3, e4, e5, e6⟩ := (hT.less (.cons _ (.refl _))).round
        exact ⟨_, ⟨N', _, _, _, rfl, rfl, hK, hM, hS.less (.cons _ (.cons _ (.cons _ (.refl _))))⟩, e1, e2, e3, e4, e5, e6⟩
       ·have hG20 := hg20; try simp only [gS] at hG20
        refine sy_skip ?_
        refine blk_n ?_
        first
          | (have hJ := ho1 (by assumption)
             replace hJ := hJe _ _ _ _ _ hJ hh.ext (hS.side fun x hx => .inl hx)
             replace hS := hS.step hh (fun x hx => .inl hx)
             replace hT := hT.step hh (fun x hx => .inl hx)
             obtain ⟨e1, e2, e3, e4, e5, e6⟩ := (hT.less (.cons _ (.refl _))).round
             exact ⟨_, ⟨N', _, _, done ++ [setX i s], rfl, by rw [hxy, List.append_assoc]; rfl, by rw [List.length_append]; exact hJ, hM, hS.less (.cons _ (.cons _ (.cons _ (.refl _))))⟩, e1, e2, e3, e4, e5, e6⟩)
          | (replace hJ := hJe _ _ _ _ _ hJ hh.ext (hS.side fun x hx => .inl hx)
             replace hS := hS.step hh (fun x hx => .inl hx)
             replace hT := hT.step hh (fun x hx => .inl hx)
             obtain ⟨e1, e2, e3, e4, e5, e6⟩ := (hT.less (.cons _ (.refl _))).round
             exact ⟨_, ⟨NJ, _, _, done, rfl, by rw [hcs, rowL_drop hs, if_neg (by simp_all)]; rfl, hJ, hM, hS.less (.cons _ (.cons _ (.cons _ (.refl _))))⟩, e1, e2, e3, e4, e5, e6⟩)
     ·rintro D NN N2 a w hSt hOw hDN hDv hwD hf
      obtain ⟨NJ, es, cm, done, rfl, hcs, hJ, hM, hS⟩ := hSt
      rw [List.length_map, List.drop_length] at hcs
      replace hcs : casesL d p = done ++ restI d p (i + 1) := hcs
      replace hS := hS.add hDv (fun h => hDN (List.mem_append_right _ h)) (fun h => hDN (List.mem_append_left _ h)) (by omega)
      have hh := hS.hp.own
      refine blk_n ?_
      refine ng_n ?_
      refine blk_n ?_
      refine then_n ?_
      refine sy_ops ?_
      refine o_v hf hh (y_add rfl rfl) ?_; clear hf a; intro a hf
      refine o_v hf hh (yv_move rfl) ?_; clear hf a; intro a hf
      refine ops_end ?_
      refine then_n ?_
      replace hJ := hJe _ _ _ _ _ hJ hh.ext (hS.side fun x hx => .inl hx)
      replace hS := hS.step hh (fun x hx => .inl hx)
      exact ⟨(i + 1, D :: Ds), ⟨⟨by simp only; omega, done, NJ, es, cm, hcs, hJ, hM, (hS.less (.cons_cons _ (.cons _ (.refl _)))).perm (List.perm_middle (l₁ := [_, _, _])).symm⟩, (hf.head (by repeat' (first | exact True.intro | refine And.intro rfl ?_)) (Keep.cons rfl (Keep.cons rfl (Keep.cons rfl (Keep.cons rfl (Keep.cons rfl (Keep.cons rfl (Keep.cons rfl (Keep.cons rfl (Keep.app rfl (Keep.rm rfl Keep.base)))))))))))⟩, by simp only; omega⟩
     ·rintro k c D NN N2 a w hX hOw hDN hDv hwD hf
      obtain ⟨NJ, es, cm, kk, rfl, rfl, hK, hM, hS⟩ := hX
      replace hS := hS.add hDv (fun h => hDN (List.mem_append_right _ h)) (fun h => hDN (List.mem_append_left _ h)) (by omega)
      refine sy_ret ?_
      refine blk_r ?_
      refine ng_r ?_
      refine blk_r ?_
      refine then_r ?_
      refine then_r ?_
      refine blk_r ?_
      first
        | (have hS1 := (hS.less (.cons_cons _ (.cons _ (.cons _ (.cons _ (.refl _)))))).perm (.cons _ (List.perm_append_comm (l₁ := [_]) (l₂ := dls Ds)))
           exact fin70 (Ds := D :: Ds) hf rfl hO hS1 hM fun w' e => .inr ⟨_, hKe _ _ _ _ _ hK e (hS1.side fun x hx => .inl hx)⟩)
        | (have hK := ho2 (by assumption)
           replace hK := hKe _ _ _ _ _ hK hh.ext (hS.side fun x hx => .inl hx)
           replace hS := hS.step hh (fun x hx => .inl hx)
           have hS1 := hS.less (.cons _ (.cons _ (.refl _)))
           exact fin70 (Ds := []) hf rfl hO hS1 hM fun w' e => .inr ⟨_, hKe _ _ _ _ _ hK e (hS1.side fun x hx => .inl hx)⟩)
        | (rw [restI_end (by omega), List.append_nil] at hcs
           replace hJ := hJe _ _ _ _ _ hJ hh.ext (hS.side fun x hx => .inl hx)
           replace hS := hS.step hh (fun x hx => .inl hx)
           have hS1 := (hS.less (.cons _ (.cons _ (.refl _)))).perm (List.perm_append_comm (l₁ := [_]) (l₂ := dls Ds))
           exact fin70 (Ds := Ds) hf rfl hO hS1 hM fun w' e => .inl (by rw [hcs, List.length_map]; exact hJe _ _ _ _ _ hJ e (hS1.side fun x hx => .inl hx)))
        | omega
     · rintro N v v' b h hb e; exact h.step (e.mono (by simpa using hb)) (.refl _ _)
    ·have hG14 := hg14; try simp only [gS] at hG14
     refine sy_exit ?_
     refine then_e ?_
     refine then_e ?_
     refine blk_e ?_
     first
       | (have hS1 := (hS.less (.cons_cons _ (.cons _ (.cons _ (.cons _ (.refl _)))))).perm (.cons _ (List.perm_append_comm (l₁ := [_]) (l₂ := dls Ds)))
          exact fin70 (Ds := D :: Ds) hf rfl hO hS1 hM fun w' e => .inr ⟨_, hKe _ _ _ _ _ hK e (hS1.side fun x hx => .inl hx)⟩)
       | (have hK := ho2 (by assumption)
          replace hK := hKe _ _ _ _ _ hK hh.ext (hS.side fun x hx => .inl hx)
          replace hS := hS.step hh (fun x hx => .inl hx)
          have hS1 := hS.less (.cons _ (.cons _ (.refl _)))
          exact fin70 (Ds := []) hf rfl hO hS1 hM fun w' e => .inr ⟨_, hKe _ _ _ _ _ hK e (hS1.side fun x hx => .inl hx)⟩)
       | (rw [restI_end (by omega), List.append_nil] at hcs
          replace hJ := hJe _ _ _ _ _ hJ hh.ext (hS.side fun x hx => .inl hx)
          replace hS := hS.step hh (fun x hx => .inl hx)
          have hS1 := (hS.less (.cons _ (.cons _ (.refl _)))).perm (List.perm_append_comm (l₁ := [_]) (l₂ := dls Ds))
          exact fin70 (Ds := Ds) hf rfl hO hS1 hM fun w' e => .inl (by rw [hcs, List.length_map]; exact hJe _ _ _ _ _ hJ e (hS1.side fun x hx => .inl hx)))
       | omega
end Go.Proofs.Ytidieepndphodaa
