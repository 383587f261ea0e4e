/- Lemmas, in order: Tours that are valid. Orders of views; tours that are looked at. Views and orders. What opening a tour tells; steps of a walk. Tours that are opened; minutes. When one begins at a view. Plans in memory; how two of them compare. What makes plans better; lists that are compared. Two plans that are compared. Lists of plans in memory; the least of them. The least of some plans. The best sure order, told without fuel. Plans that are known: told by the blocks in which their orders lie. Plans in slices of one's own; how lists of blocks are ordered anew.. -/
import Derived.Test.YtccpgpnekoncoaaGreatQ16
namespace Go.Proofs.YtccpgpnekoncoaaGreat
open Go Go.Sy Go.WalM
theorem k103 (rows : List RowD) (sb : Option Addr) (n cw : Nat) (u : World) (hW : RowsAt u sb rows) (hn : n = rows.length) (hl : rows.length ≤ 100) : Calls Tryz.prog 103 #[.slice sb n cw] u (Ret fun v w' => ∃ X, OwnSl 22 1 v n (rvs rows) X ∧ Hp u [] X w') := by
  subst hn
  refine calls_of Tryz.func103 rfl rfl (fun a hf => ?_)
  have hh := Hp.init u []
  refine sy_sq ?_
  refine o_v hf hh (yv_assign rfl) ?_; clear hf a; intro a hf
  refine o_end ?_
  refine sy_seq ?_
  refine sy_sq ?_
  refine o_v hf hh (yv_move rfl) ?_; clear hf a; intro a hf
  refine o_v hf hh (yv_slNil Tryz.se_23 rfl rfl) ?_; clear hf a; intro a hf
  refine o_end ?_
  refine sy_cond hf rfl (fun hg2 => ?_) (fun hg2 => ?_)
  ·have hG2 := hg2; try simp only [gS] at hG2
   refine sy_sq ?_
   refine o_v hf hh (yv_assign rfl) ?_; clear hf a; intro a hf
   refine o_end ?_
   refine sy_ret ?_
   refine then_r ?_
   refine ret_r hf rfl rfl ?_
   first
     | exact ⟨X5, hO5, hh⟩
     | (have hz : rows = [] := by
          cases rows with
          | nil => rfl
          | cons x l => obtain ⟨_, _, _, _, _, e, _, _⟩ := hW 0 x rfl; subst e; simp_all
        subst hz
        exact ⟨[], OwnSl.nil _ _, hh⟩)
  ·have hG2 := hg2; try simp only [gS] at hG2
   refine sy_skip ?_
   refine then_n ?_
   refine sy_sq ?_
   refine ops_buildSl hf hh Tryz.bl_23_0 rfl rfl (.inl rfl) rfl ?_; clear hf hh; clear a; intro B5 a w hf hh
   refine o_v hf hh (yv_move rfl) ?_; clear hf a; intro a hf
   refine ops_appendV (e := 22) (size := 1) (xs := []) (news := rvs rows) (X := [(B5, .cells #[] 22)]) (Z := []) (m := 0) hf hh Tryz.eb_23 rfl rfl ⟨rfl, .inr ⟨B5, 0, #[], rfl, rfl, Nat.le_refl _, Nat.zero_le _, rfl, rfl⟩⟩ (rows_vals (hW.ext hh.ext)) (rvs_len rows) (by omega) (rvs_one rows) (by simp only [maxLen]; omega) (by omega) (.inl rfl) rfl ?_
   clear hf hh a; intro v4 X5 a w hO5 hf hh
   rw [Nat.zero_add, List.nil_append] at hO5
   rw [List.append_nil] at hh
   refine o_v hf hh (yv_assign rfl) ?_; clear hf a; intro a hf
   refine o_end ?_
   refine sy_ret ?_
   refine ret_r hf rfl rfl ?_
   first
     | exact ⟨X5, hO5, hh⟩
     | (have hz : rows = [] := by
          cases rows with
          | nil => rfl
          | cons x l => obtain ⟨_, _, _, _, _, e, _, _⟩ := hW 0 x rfl; subst e; simp_all
        subst hz
        exact ⟨[], OwnSl.nil _ _, hh⟩)
set_option maxRecDepth 100000 in
theorem k71 (t : TourD) (p : TPl) (u : World) (hA : TouAt u t p) : Calls Tryz.prog 71 #[.agg (touC t p)] u (Ret fun v w' => v = .bool (touB t) ∧ Ext [] u w') := by
  refine calls_of Tryz.func71 rfl rfl (fun a hf => ?_)
  have hh := Hp.init u []
  have hnf := hA.nf
  have hnw := hA.nw
  unfold touB
  rw [all_rows hA.e]
  refine sy_sq ?_
  refine o_box hf hh ?_; clear hf hh a; intro B1 a w hf hh
  refine o_v hf hh (yv_assign rfl) ?_; clear hf a; intro a hf
  refine o_end ?_
  refine sy_sq ?_
  refine o_v hf hh (yv_fieldAddr Tryz.fo_25_1 rfl) ?_; clear hf a; intro a hf
  refine o_v hf hh (y_ld Tryz.sc_22 rfl) ?_; clear hf a; intro a hf
  refine o_v hf hh (yv_len Tryz.se_22 rfl) ?_; clear hf a; intro a hf
  refine o_alloc hf hh Tryz.ze_3 ?_; clear hf hh a; intro B3 a w hf hh
  refine o_store hf hh Tryz.sz_3 fun w hh => ?_
  refine o_end ?_
  refine sy_sq ?_
  refine o_v hf hh (yv_makeFunc rfl rfl) ?_; clear hf a; intro a hf
  refine o_v hf hh (yv_assign rfl) ?_; clear hf a; intro a hf
  refine o_end ?_
  refine sy_seq ?_
  replace hh : Hp u [] [(B3, .cells #[.int .i64 (t.fr.length : Nat)] 3), (B1, .cells (touC t p) 25)] w := hh
  refine sy_treeC (.q 0 0 (.p 1 (.p 2 (.p 3 (.q 0 4 (.p 5 (.q 0 6 (.p 7 (.p 8 (.p 9 (.p 10 (.q 0 11 (.e1 12 (.p 13 (.p 14 (.p 15 (.q 0 16 (.p 18 (.q 0 19 (.p 20 (.q 0 21 (.p 22 (.q 0 23 (.p 26 (.e2 17 (.e1 24 (.e1 25 (.e1 27 (.p 28 (.p 29 (.p 30 (.fin))))))) 24 (.e1 17 (.e1 25 (.e1 27 (.p 28 (.p 29 (.p 30 (.fin)))))))))))))))))))))))))))))))) [[]] [(AtE u [] [(B3, .cells #[.int .i64 (t.fr.length : Nat)] 3), (B1, .cells (touC t p) 25)], [])] Tryz.follows (by kernel_rfl) rfl hh (fun w hh => ?_)
  refine mc_q rfl rfl (AtE.of hh (by intro q hq; simp only [List.mem_cons, List.mem_append, List.not_mem_nil, or_false] at hq ⊢; rcases hq with h | h <;> simp [h])) hf (y_ld Tryz.sc_3 rfl) (.inl rfl) rfl rfl ?_; clear hf a; intro a hf
  refine mc_p rfl   hf (yv_bin rfl rfl rfl) (.inl rfl) rfl rfl ?_; clear hf a; intro a hf
  refine mc_p rfl   hf (yv_move rfl) (.inl rfl) rfl rfl ?_; clear hf a; intro a hf
  refine guard_any hf (t := 11) rfl (fun hg2 => ?_) (fun hg2 => ?_)
  ·have hG2 := hg2; try simp only [gS] at hG2
   refine mc_p rfl   hf (yv_fieldAddr Tryz.fo_25_2 rfl) (gon rfl rfl rfl (by first | assumption | rfl | (simp; done) | (simp; omega))) rfl rfl ?_; clear hf a; intro a hf
   refine mc_q rfl rfl (AtE.of hh (by intro q hq; simp only [List.mem_cons, List.mem_append, List.not_mem_nil, or_false] at hq ⊢; rcases hq with h | h <;> simp [h])) hf (y_ld Tryz.sc_23 rfl) (gon rfl rfl rfl (by first | assumption | rfl | (simp; done) | (simp; omega))) rfl rfl ?_; clear hf a; intro a hf
   refine mc_p rfl   hf (yv_len Tryz.se_23 rfl) (gon rfl rfl rfl (by first | assumption | rfl | (simp; done) | (simp; omega))) rfl rfl ?_; clear hf a; intro a hf
   refine mc_q rfl rfl (AtE.of hh (by intro q hq; simp only [List.mem_cons, List.mem_append, List.not_mem_nil, or_false] at hq ⊢; rcases hq with h | h <;> simp [h])) hf (y_ld Tryz.sc_3 rfl) (gon rfl rfl rfl (by first | assumption | rfl | (simp; done) | (simp; omega))) rfl rfl ?_; clear hf a; intro a hf
   refine mc_p rfl   hf (yv_bin rfl rfl rfl) (gon rfl rfl rfl (by first | assumption | rfl | (simp; done) | (simp; omega))) rfl rfl ?_; clear hf a; intro a hf
   refine mc_p rfl   hf (y_pt rfl rfl) (.inl rfl) rfl rfl ?_; clear hf a; intro a hf
   refine mc_p rfl   hf (yv_move rfl) (.inl rfl) rfl rfl ?_; clear hf a; intro a hf
   refine guard_any hf (t := 18) rfl (fun hg4 => ?_) (fun hg4 => ?_)
   ·have hG4 := hg4; try simp only [gS] at hG4
    refine mc_p rfl   hf (yv_fieldAddr Tryz.fo_25_0 rfl) (gon rfl rfl rfl (by first | assumption | rfl | (simp; done) | (simp; omega))) rfl rfl ?_; clear hf a; intro a hf
    refine mc_q rfl rfl (AtE.of hh (by intro q hq; simp only [List.mem_cons, List.mem_append, List.not_mem_nil, or_false] at hq ⊢; rcases hq with h | h <;> simp [h])) hf (y_ld Tryz.sc_3 rfl) (gon rfl rfl rfl (by first | assumption | rfl | (simp; done) | (simp; omega))) rfl rfl ?_; clear hf a; intro a hf
    refine mc_e rfl fun Q1 => ?_
    refine o_call hf Tryz.en_101 rfl rfl rfl (k101 _ _ _ _) ?_; clear hf a; intro v a w hR hf
    obtain ⟨rfl, hx⟩ := hR; replace hh := hh.more hx; clear hx
    refine ops_end ?_
    refine then_n ⟨⟨fun _ _ => (AtE.of hh (by intro q hq; simp only [List.mem_cons, List.mem_append, List.not_mem_nil, or_false] at hq ⊢; rcases hq with h | h <;> simp [h])), trivial⟩, ?_⟩
    refine mc_p rfl   hf (y_pt rfl rfl) (.inl rfl) rfl rfl ?_; clear hf a; intro a hf
    refine mc_p rfl   hf (yv_move rfl) (.inl rfl) rfl rfl ?_; clear hf a; intro a hf
    refine guard_any hf (t := 23) rfl (fun hg6 => ?_) (fun hg6 => ?_)
    ·have hG6 := hg6; try simp only [gS] at hG6
     refine mc_p rfl   hf (yv_fieldAddr Tryz.fo_25_2 rfl) (gon rfl rfl rfl (by first | assumption | rfl | (simp; done) | (simp; omega))) rfl rfl ?_; clear hf a; intro a hf
     refine mc_q rfl rfl (AtE.of hh (by intro q hq; simp only [List.mem_cons, List.mem_append, List.not_mem_nil, or_false] at hq ⊢; rcases hq with h | h <;> simp [h])) hf (y_ld Tryz.sc_23 rfl) (gon rfl rfl rfl (by first | assumption | rfl | (simp; done) | (simp; omega))) rfl rfl ?_; clear hf a; intro a hf
     refine mc_p rfl   hf (yv_fieldAddr Tryz.fo_25_1 rfl) (gon rfl rfl rfl (by first | assumption | rfl | (simp; done) | (simp; omega))) rfl rfl ?_; clear hf a; intro a hf
     refine mc_q rfl rfl (AtE.of hh (by intro q hq; simp only [List.mem_cons, List.mem_append, List.not_mem_nil, or_false] at hq ⊢; rcases hq with h | h <;> simp [h])) hf (y_ld Tryz.sc_22 rfl) (gon rfl rfl rfl (by first | assumption | rfl | (simp; done) | (simp; omega))) rfl rfl ?_; clear hf a; intro a hf
     refine mc_p rfl   hf (yv_fieldAddr Tryz.fo_25_3 rfl) (gon rfl rfl rfl (by first | assumption | rfl | (simp; done) | (simp; omega))) rfl rfl ?_; clear hf a; intro a hf
     refine mc_q rfl rfl (AtE.of hh (by intro q hq; simp only [List.mem_cons, List.mem_append, List.not_mem_nil, or_false] at hq ⊢; rcases hq with h | h <;> simp [h])) hf (y_ld Tryz.sc_22 rfl) (gon rfl rfl rfl (by first | assumption | rfl | (simp; done) | (simp; omega))) rfl rfl ?_; clear hf a; intro a hf
     refine mc_p rfl   hf (yv_fieldAddr Tryz.fo_25_4 rfl) (gon rfl rfl rfl (by first | assumption | rfl | (simp; done) | (simp; omega))) rfl rfl ?_; clear hf a; intro a hf
     refine mc_q rfl rfl (AtE.of hh (by intro q hq; simp only [List.mem_cons, List.mem_append, List.not_mem_nil, or_false] at hq ⊢; rcases hq with h | h <;> simp [h])) hf (y_ld Tryz.sc_22 rfl) (gon rfl rfl rfl (by first | assumption | rfl | (simp; done) | (simp; omega))) rfl rfl ?_; clear hf a; intro a hf
     refine mc_p rfl   hf (yv_move rfl) (gon rfl rfl rfl (by first | assumption | rfl | (simp; done) | (simp; omega))) rfl rfl ?_; clear hf a; intro a hf
     refine ⟨?_, ?_⟩
     ·refine mc_e rfl fun Q1 => ?_
      refine o_call hf Tryz.en_103 rfl rfl rfl (k103 p.rows p.sw _ p.cw _ (hA.g.ext hh.ext) (rows_len hA.e).symm (by have := rows_len hA.e; omega)) ?_; clear hf a; intro v26 a w hR hf
      obtain ⟨Xc, hOc, hx⟩ := hR
      replace hh := hh.join hx; clear hx
      refine ops_end ?_
      refine then_n ⟨⟨fun _ _ => (AtE.of hh (by intro q hq; simp only [List.mem_cons, List.mem_append, List.not_mem_nil, or_false] at hq ⊢; rcases hq with h | h <;> simp [h])), trivial⟩, ?_⟩
      refine mc_e rfl fun Q1 => ?_
      refine ops_buildSl hf hh Tryz.bl_23_3 rfl rfl (gon rfl rfl rfl (by first | assumption | rfl | (simp; done) | (simp; omega))) rfl ?_; clear hf hh; clear a; intro B33 a w hf hh
      refine ops_end ?_
      refine then_n ⟨⟨fun _ _ => (AtE.of hh (by intro q hq; simp only [List.mem_cons, List.mem_append, List.not_mem_nil, or_false] at hq ⊢; rcases hq with h | h <;> simp [h])), trivial⟩, ?_⟩
      refine mc_e rfl fun Q1 => ?_
      replace hh : Hp u [] ((B33, .cells #[.slice p.sf t.fr.length p.cf, .slice p.ss t.stay.length p.cs, .slice p.sl t.light.length p.cl] 22) :: (Xc ++ [(B3, .cells #[.int .i64 (t.fr.length : Nat)] 3), (B1, .cells (touC t p) 25)])) w := by
        first
        | exact hh
        | exact hh.perm List.perm_middle
      refine ops_append (e := 22) (size := 1) (xs := rvs p.rows) (news := [.slice p.sf t.fr.length p.cf, .slice p.ss t.stay.length p.cs, .slice p.sl t.light.length p.cl]) (X := Xc) (Z := [(B3, .cells #[.int .i64 (t.fr.length : Nat)] 3), (B1, .cells (touC t p) 25)]) (m := t.ways.length) (q := 3) hf hh Tryz.eb_23 rfl rfl hOc rfl rfl rfl (by simp only [maxLen]; omega) (by omega) (gon rfl rfl rfl (by first | assumption | rfl | (simp; done) | (simp; omega))) rfl ?_; clear hf hh a; intro v34 X9 a w hO9 hf hh
      obtain ⟨oa9, c9, rfl, hR9⟩ := own_rows (l := allR t p) (by rw [rvs_all]; exact hO9) (fun q hq => hh.get q (by simp [hq]))
      refine ops_end ?_
      refine then_n ⟨⟨fun _ _ => (AtE.of hh (by intro q hq; simp only [List.mem_cons, List.mem_append, List.not_mem_nil, or_false] at hq ⊢; rcases hq with h | h <;> simp [h])), trivial⟩, ?_⟩
      refine mc_e rfl fun Q1 => ?_
      refine o_call hf Tryz.en_102 rfl rfl rfl (k102 (fun r => spsB ((t.fr.length : Nat) : Int) r.1) (allR t p) oa9 _ c9 99 #[ptr B3 0] _ hR9 rfl (by rw [allR_len hA.e]; omega) Tryz.en_99 (fun x hx w1 e => k99 x _ B3 w1 ((hA.all x hx).1.ext (hh.ext.trans e)) (hA.all x hx).2 (e.get (hh.get (B3, .cells #[.int .i64 (t.fr.length : Nat)] 3) (by simp))))) ?_; clear hf a; intro v a w hR hf
      obtain ⟨rfl, hx⟩ := hR; replace hh := hh.more hx; clear hx
      refine ops_end ?_
      refine then_n ⟨⟨fun _ _ => (AtE.of hh (by intro q hq; simp only [List.mem_cons, List.mem_append, List.not_mem_nil, or_false] at hq ⊢; rcases hq with h | h <;> simp [h])), trivial⟩, ?_⟩
      refine mc_p rfl   hf (yv_not rfl) (gon rfl rfl rfl (by first | assumption | rfl | (simp; done) | (simp; omega))) rfl rfl ?_; clear hf a; intro a hf
      refine mc_p rfl   hf (y_pt rfl rfl) (.inl rfl) rfl rfl ?_; clear hf a; intro a hf
      refine mc_p rfl   hf (yv_assign rfl) (.inl rfl) rfl rfl ?_; clear hf a; intro a hf
      refine mc_end ?_
      refine then_n ?_
      refine sy_ret ?_
      refine ret_r hf rfl rfl ?_
      refine ⟨congrArg Value.bool ?_, hh.ext⟩
      clear hf hh
      first
        | (simp_all; done)
        | (rw [Bool.eq_iff_iff]; simp_all <;> omega)
     ·refine mc_e rfl fun Q1 => ?_
      refine ops_buildSl hf hh Tryz.bl_23_3 rfl rfl (gon rfl rfl rfl (by first | assumption | rfl | (simp; done) | (simp; omega))) rfl ?_; clear hf hh; clear a; intro B33 a w hf hh
      refine ops_end ?_
      refine then_n ⟨⟨fun _ _ => (AtE.of hh (by intro q hq; simp only [List.mem_cons, List.mem_append, List.not_mem_nil, or_false] at hq ⊢; rcases hq with h | h <;> simp [h])), trivial⟩, ?_⟩
      refine mc_e rfl fun Q1 => ?_
      refine o_call hf Tryz.en_103 rfl rfl rfl (k103 p.rows p.sw _ p.cw _ (hA.g.ext hh.ext) (rows_len hA.e).symm (by have := rows_len hA.e; omega)) ?_; clear hf a; intro v26 a w hR hf
      obtain ⟨Xc, hOc, hx⟩ := hR
      replace hh := hh.join hx; clear hx
      refine ops_end ?_
      refine then_n ⟨⟨fun _ _ => (AtE.of hh (by intro q hq; simp only [List.mem_cons, List.mem_append, List.not_mem_nil, or_false] at hq ⊢; rcases hq with h | h <;> simp [h])), trivial⟩, ?_⟩
      refine mc_e rfl fun Q1 => ?_
      replace hh : Hp u [] ((B33, .cells #[.slice p.sf t.fr.length p.cf, .slice p.ss t.stay.length p.cs, .slice p.sl t.light.length p.cl] 22) :: (Xc ++ [(B3, .cells #[.int .i64 (t.fr.length : Nat)] 3), (B1, .cells (touC t p) 25)])) w := by
        first
        | exact hh
        | exact hh.perm List.perm_middle
      refine ops_append (e := 22) (size := 1) (xs := rvs p.rows) (news := [.slice p.sf t.fr.length p.cf, .slice p.ss t.stay.length p.cs, .slice p.sl t.light.length p.cl]) (X := Xc) (Z := [(B3, .cells #[.int .i64 (t.fr.length : Nat)] 3), (B1, .cells (touC t p) 25)]) (m := t.ways.length) (q := 3) hf hh Tryz.eb_23 rfl rfl hOc rfl rfl rfl (by simp only [maxLen]; omega) (by omega) (gon rfl rfl rfl (by first | assumption | rfl | (simp; done) | (simp; omega))) rfl ?_; clear hf hh a; intro v34 X9 a w hO9 hf hh
      obtain ⟨oa9, c9, rfl, hR9⟩ := own_rows (l := allR t p) (by rw [rvs_all]; exact hO9) (fun q hq => hh.get q (by simp [hq]))
      refine ops_end ?_
      refine then_n ⟨⟨fun _ _ => (AtE.of hh (by intro q hq; simp only [List.mem_cons, List.mem_append, List.not_mem_nil, or_false] at hq ⊢; rcases hq with h | h <;> simp [h])), trivial⟩, ?_⟩
      refine mc_e rfl fun Q1 => ?_
      refine o_call hf Tryz.en_102 rfl rfl rfl (k102 (fun r => spsB ((t.fr.length : Nat) : Int) r.1) (allR t p) oa9 _ c9 99 #[ptr B3 0] _ hR9 rfl (by rw [allR_len hA.e]; omega) Tryz.en_99 (fun x hx w1 e => k99 x _ B3 w1 ((hA.all x hx).1.ext (hh.ext.trans e)) (hA.all x hx).2 (e.get (hh.get (B3, .cells #[.int .i64 (t.fr.length : Nat)] 3) (by simp))))) ?_; clear hf a; intro v a w hR hf
      obtain ⟨rfl, hx⟩ := hR; replace hh := hh.more hx; clear hx
      refine ops_end ?_
      refine then_n ⟨⟨fun _ _ => (AtE.of hh (by intro q hq; simp only [List.mem_cons, List.mem_append, List.not_mem_nil, or_false] at hq ⊢; rcases hq with h | h <;> simp [h])), trivial⟩, ?_⟩
      refine mc_p rfl   hf (yv_not rfl) (gon rfl rfl rfl (by first | assumption | rfl | (simp; done) | (simp; omega))) rfl rfl ?_; clear hf a; intro a hf
      refine mc_p rfl   hf (y_pt rfl rfl) (.inl rfl) rfl rfl ?_; clear hf a; intro a hf
      refine mc_p rfl   hf (yv_assign rfl) (.inl rfl) rfl rfl ?_; clear hf a; intro a hf
      refine mc_end ?_
      refine then_n ?_
      refine sy_ret ?_
      refine ret_r hf rfl rfl ?_
      refine ⟨congrArg Value.bool ?_, hh.ext⟩
      clear hf hh
      first
        | (simp_all; done)
        | (rw [Bool.eq_iff_iff]; simp_all <;> omega)
    ·have hG6 := hg6; try simp only [gS] at hG6
     refine mc_off rfl hf (goff rfl rfl rfl (by first | assumption | rfl | (simp; done) | (simp; omega))) rfl rfl ?_; clear hf a; intro a hf
     refine mc_offq rfl rfl (AtE.of hh (by intro q hq; simp only [List.mem_cons, List.mem_append, List.not_mem_nil, or_false] at hq ⊢; rcases hq with h | h <;> simp [h])) hf (goff rfl rfl rfl (by first | assumption | rfl | (simp; done) | (simp; omega))) rfl rfl ?_; clear hf a; intro a hf
     refine mc_off rfl hf (goff rfl rfl rfl (by first | assumption | rfl | (simp; done) | (simp; omega))) rfl rfl ?_; clear hf a; intro a hf
     refine mc_offq rfl rfl (AtE.of hh (by intro q hq; simp only [List.mem_cons, List.mem_append, List.not_mem_nil, or_false] at hq ⊢; rcases hq with h | h <;> simp [h])) hf (goff rfl rfl rfl (by first | assumption | rfl | (simp; done) | (simp; omega))) rfl rfl ?_; clear hf a; intro a hf
     refine mc_off rfl hf (goff rfl rfl rfl (by first | assumption | rfl | (simp; done) | (simp; omega))) rfl rfl ?_; clear hf a; intro a hf
     refine mc_offq rfl rfl (AtE.of hh (by intro q hq; simp only [List.mem_cons, List.mem_append, List.not_mem_nil, or_false] at hq ⊢; rcases hq with h | h <;> simp [h])) hf (goff rfl rfl rfl (by first | assumption | rfl | (simp; done) | (simp; omega))) rfl rfl ?_; clear hf a; intro a hf
     refine mc_off rfl hf (goff rfl rfl rfl (by first | assumption | rfl | (simp; done) | (simp; omega))) rfl rfl ?_; clear hf a; intro a hf
     refine mc_offq rfl rfl (AtE.of hh (by intro q hq; simp only [List.mem_cons, List.mem_append, List.not_mem_nil, or_false] at hq ⊢; rcases hq with h | h <;> simp [h])) hf (goff rfl rfl rfl (by first | assumption | rfl | (simp; done) | (simp; omega))) rfl rfl ?_; clear hf a; intro a hf
     refine mc_off rfl hf (goff rfl rfl rfl (by first | assumption | rfl | (simp; done) | (simp; omega))) rfl rfl ?_; clear hf a; intro a hf
     refine ⟨?_, ?_⟩
     ·refine mc_e rfl fun Q1 => ?_
      refine o_off hf ?_; clear hf a; intro a hf
      refine ops_end ?_
      refine then_n ⟨⟨fun _ _ => (AtE.of hh (by intro q hq; simp only [List.mem_cons, List.mem_append, List.not_mem_nil, or_false] at hq ⊢; rcases hq with h | h <;> simp [h])), trivial⟩, ?_⟩
      refine mc_e rfl fun Q1 => ?_
      refine o_off hf ?_; clear hf a; intro a hf
      refine ops_end ?_
      refine then_n ⟨⟨fun _ _ => (AtE.of hh (by intro q hq; simp only [List.mem_cons, List.mem_append, List.not_mem_nil, or_false] at hq ⊢; rcases hq with h | h <;> simp [h])), trivial⟩, ?_⟩
      refine mc_e rfl fun Q1 => ?_
      refine o_off hf ?_; clear hf a; intro a hf
      refine ops_end ?_
      refine then_n ⟨⟨fun _ _ => (AtE.of hh (by intro q hq; simp only [List.mem_cons, List.mem_append, List.not_mem_nil, or_false] at hq ⊢; rcases hq with h | h <;> simp [h])), trivial⟩, ?_⟩
      refine mc_e rfl fun Q1 => ?_
      refine o_off hf ?_; clear hf a; intro a hf
      refine ops_end ?_
      refine then_n ⟨⟨fun _ _ => (AtE.of hh (by intro q hq; simp only [List.mem_cons, List.mem_append, List.not_mem_nil, or_false] at hq ⊢; rcases hq with h | h <;> simp [h])), trivial⟩, ?_⟩
      refine mc_off rfl hf (goff rfl rfl rfl (by first | assumption | rfl | (simp; done) | (simp; omega))) rfl rfl ?_; clear hf a; intro a hf
      refine mc_p rfl   hf (y_pf rfl rfl) (.inl rfl) rfl rfl ?_; clear hf a; intro a hf
      refine mc_p rfl   hf (yv_assign rfl) (.inl rfl) rfl rfl ?_; clear hf a; intro a hf
      refine mc_end ?_
      refine then_n ?_
      refine sy_ret ?_
      refine ret_r hf rfl rfl ?_
      refine ⟨congrArg Value.bool ?_, hh.ext⟩
      clear hf hh
      first
        | (simp_all; done)
        | (rw [Bool.eq_iff_iff]; simp_all <;> omega)
     ·refine mc_e rfl fun Q1 => ?_
      refine o_off hf ?_; clear hf a; intro a hf
      refine ops_end ?_
      refine then_n ⟨⟨fun _ _ => (AtE.of hh (by intro q hq; simp only [List.mem_cons, List.mem_append, List.not_mem_nil, or_false] at hq ⊢; rcases hq with h | h <;> simp [h])), trivial⟩, ?_⟩
      refine mc_e rfl fun Q1 => ?_
      refine o_off hf ?_; clear hf a; intro a hf
      refine ops_end ?_
      refine then_n ⟨⟨fun _ _ => (AtE.of hh (by intro q hq; simp only [List.mem_cons, List.mem_append, List.not_mem_nil, or_false] at hq ⊢; rcases hq with h | h <;> simp [h])), trivial⟩, ?_⟩
      refine mc_e rfl fun Q1 => ?_
      refine o_off hf ?_; clear hf a; intro a hf
      refine ops_end ?_
      refine then_n ⟨⟨fun _ _ => (AtE.of hh (by intro q hq; simp only [List.mem_cons, List.mem_append, List.not_mem_nil, or_false] at hq ⊢; rcases hq with h | h <;> simp [h])), trivial⟩, ?_⟩
      refine mc_e rfl fun Q1 => ?_
      refine o_off hf ?_; clear hf a; intro a hf
      refine ops_end ?_
      refine then_n ⟨⟨fun _ _ => (AtE.of hh (by intro q hq; simp only [List.mem_cons, List.mem_append, List.not_mem_nil, or_false] at hq ⊢; rcases hq with h | h <;> simp [h])), trivial⟩, ?_⟩
      refine mc_off rfl hf (goff rfl rfl rfl (by first | assumption | rfl | (simp; done) | (simp; omega))) rfl rfl ?_; clear hf a; intro a hf
      refine mc_p rfl   hf (y_pf rfl rfl) (.inl rfl) rfl rfl ?_; clear hf a; intro a hf
      refine mc_p rfl   hf (yv_assign rfl) (.inl rfl) rfl rfl ?_; clear hf a; intro a hf
      refine mc_end ?_
      refine then_n ?_
      refine sy_ret ?_
      refine ret_r hf rfl rfl ?_
      refine ⟨congrArg Value.bool ?_, hh.ext⟩
      clear hf hh
      first
        | (simp_all; done)
        | (rw [Bool.eq_iff_iff]; simp_all <;> omega)
   ·have hG4 := hg4; try simp only [gS] at hG4
    refine mc_off rfl hf (goff rfl rfl rfl (by first | assumption | rfl | (simp; done) | (simp; omega))) rfl rfl ?_; clear hf a; intro a hf
    refine mc_offq rfl rfl (AtE.of hh (by intro q hq; simp only [List.mem_cons, List.mem_append, List.not_mem_nil, or_false] at hq ⊢; rcases hq with h | h <;> simp [h])) hf (goff rfl rfl rfl (by first | assumption | rfl | (simp; done) | (simp; omega))) rfl rfl ?_; clear hf a; intro a hf
    refine mc_e rfl fun Q1 => ?_
    refine o_off hf ?_; clear hf a; intro a hf
    refine ops_end ?_
    refine then_n ⟨⟨fun _ _ => (AtE.of hh (by intro q hq; simp only [List.mem_cons, List.mem_append, List.not_mem_nil, or_false] at hq ⊢; rcases hq with h | h <;> simp [h])), trivial⟩, ?_⟩
    refine mc_p rfl   hf (y_pf rfl rfl) (.inl rfl) rfl rfl ?_; clear hf a; intro a hf
    refine mc_p rfl   hf (yv_move rfl) (.inl rfl) rfl rfl ?_; clear hf a; intro a hf
    refine mc_off rfl hf (goff rfl rfl rfl (by first | assumption | rfl | (simp; done) | (simp; omega))) rfl rfl ?_; clear hf a; intro a hf
    refine mc_offq rfl rfl (AtE.of hh (by intro q hq; simp only [List.mem_cons, List.mem_append, List.not_mem_nil, or_false] at hq ⊢; rcases hq with h | h <;> simp [h])) hf (goff rfl rfl rfl (by first | assumption | rfl | (simp; done) | (simp; omega))) rfl rfl ?_; clear hf a; intro a hf
    refine mc_off rfl hf (goff rfl rfl rfl (by first | assumption | rfl | (simp; done) | (simp; omega))) rfl rfl ?_; clear hf a; intro a hf
    refine mc_offq rfl rfl (AtE.of hh (by intro q hq; simp only [List.mem_cons, List.mem_append, List.not_mem_nil, or_false] at hq ⊢; rcases hq with h | h <;> simp [h])) hf (goff rfl rfl rfl (by first | assumption | rfl | (simp; done) | (simp; omega))) rfl rfl ?_; clear hf a; intro a hf
    refine mc_off rfl hf (goff rfl rfl rfl (by first | assumption | rfl | (simp; done) | (simp; omega))) rfl rfl ?_; clear hf a; intro a hf
    refine mc_offq rfl rfl (AtE.of hh (by intro q hq; simp only [List.mem_cons, List.mem_append, List.not_mem_nil, or_false] at hq ⊢; rcases hq with h | h <;> simp [h])) hf (goff rfl rfl rfl (by first | assumption | rfl | (simp; done) | (simp; omega))) rfl rfl ?_; clear hf a; intro a hf
    refine mc_off rfl hf (goff rfl rfl rfl (by first | assumption | rfl | (simp; done) | (simp; omega))) rfl rfl ?_; clear hf a; intro a hf
    refine mc_offq rfl rfl (AtE.of hh (by intro q hq; simp only [List.mem_cons, List.mem_append, List.not_mem_nil, or_false] at hq ⊢; rcases hq with h | h <;> simp [h])) hf (goff rfl rfl rfl (by first | assumption | rfl | (simp; done) | (simp; omega))) rfl rfl ?_; clear hf a; intro a hf
    refine mc_off rfl hf (goff rfl rfl rfl (by first | assumption | rfl | (simp; done) | (simp; omega))) rfl rfl ?_; clear hf a; intro a hf
    refine ⟨?_, ?_⟩
    ·refine mc_e rfl fun Q1 => ?_
     refine o_off hf ?_; clear hf a; intro a hf
     refine ops_end ?_
     refine then_n ⟨⟨fun _ _ => (AtE.of hh (by intro q hq; simp only [List.mem_cons, List.mem_append, List.not_mem_nil, or_false] at hq ⊢; rcases hq with h | h <;> simp [h])), trivial⟩, ?_⟩
     refine mc_e rfl fun Q1 => ?_
     refine o_off hf ?_; clear hf a; intro a hf
     refine ops_end ?_
     refine then_n ⟨⟨fun _ _ => (AtE.of hh (by intro q hq; simp only [List.mem_cons, List.mem_append, List.not_mem_nil, or_false] at hq ⊢; rcases hq with h | h <;> simp [h])), trivial⟩, ?_⟩
     refine mc_e rfl fun Q1 => ?_
     refine o_off hf ?_; clear hf a; intro a hf
     refine ops_end ?_
     refine then_n ⟨⟨fun _ _ => (AtE.of hh (by intro q hq; simp only [List.mem_cons, List.mem_append, List.not_mem_nil, or_false] at hq ⊢; rcases hq with h | h <;> simp [h])), trivial⟩, ?_⟩
     refine mc_e rfl fun Q1 => ?_
     refine o_off hf ?_; clear hf a; intro a hf
     refine ops_end ?_
     refine then_n ⟨⟨fun _ _ => (AtE.of hh (by intro q hq; simp only [List.mem_cons, List.mem_append, List.not_mem_nil, or_false] at hq ⊢; rcases hq with h | h <;> simp [h])), trivial⟩, ?_⟩
     refine mc_off rfl hf (goff rfl rfl rfl (by first | assumption | rfl | (simp; done) | (simp; omega))) rfl rfl ?_; clear hf a; intro a hf
     refine mc_p rfl   hf (y_pf rfl rfl) (.inl rfl) rfl rfl ?_; clear hf a; intro a hf
     refine mc_p rfl   hf (yv_assign rfl) (.inl rfl) rfl rfl ?_; clear hf a; intro a hf
     refine mc_end ?_
     refine then_n ?_
     refine sy_ret ?_
     refine ret_r hf rfl rfl ?_
     refine ⟨congrArg Value.bool ?_, hh.ext⟩
     clear hf hh
     first
       | (simp_all; done)
       | (rw [Bool.eq_iff_iff]; simp_all <;> omega)
    ·refine mc_e rfl fun Q1 => ?_
     refine o_off hf ?_; clear hf a; intro a hf
     refine ops_end ?_
     refine then_n ⟨⟨fun _ _ => (AtE.of hh (by intro q hq; simp only [List.mem_cons, List.mem_append, List.not_mem_nil, or_false] at hq ⊢; rcases hq with h | h <;> simp [h])), trivial⟩, ?_⟩
     refine mc_e rfl fun Q1 => ?_
     refine o_off hf ?_; clear hf a; intro a hf
     refine ops_end ?_
     refine then_n ⟨⟨fun _ _ => (AtE.of hh (by intro q hq; simp only [List.mem_cons, List.mem_append, List.not_mem_nil, or_false] at hq ⊢; rcases hq with h | h <;> simp [h])), trivial⟩, ?_⟩
     refine mc_e rfl fun Q1 => ?_
     refine o_off hf ?_; clear hf a; intro a hf
     refine ops_end ?_
     refine then_n ⟨⟨fun _ _ => (AtE.of hh (by intro q hq; simp only [List.mem_cons, List.mem_append, List.not_mem_nil, or_false] at hq ⊢; rcases hq with h | h <;> simp [h])), trivial⟩, ?_⟩
     refine mc_e rfl fun Q1 => ?_
     refine o_off hf ?_; clear hf a; intro a hf
     refine ops_end ?_
     refine then_n ⟨⟨fun _ _ => (AtE.of hh (by intro q hq; simp only [List.mem_cons, List.mem_append, List.not_mem_nil, or_false] at hq ⊢; rcases hq with h | h <;> simp [h])), trivial⟩, ?_⟩
     refine mc_off rfl hf (goff rfl rfl rfl (by first | assumption | rfl | (simp; done) | (simp; omega))) rfl rfl ?_; clear hf a; intro a hf
     refine mc_p rfl   hf (y_pf rfl rfl) (.inl rfl) rfl rfl ?_; clear hf a; intro a hf
     refine mc_p rfl   hf (yv_assign rfl) (.inl rfl) rfl rfl ?_; clear hf a; intro a hf
     refine mc_end ?_
     refine then_n ?_
     refine sy_ret ?_
     refine ret_r hf rfl rfl ?_
     refine ⟨congrArg Value.bool ?_, hh.ext⟩
     clear hf hh
     first
       | (simp_all; done)
       | (rw [Bool.eq_iff_iff]; simp_all <;> omega)
  ·have hG2 := hg2; try simp only [gS] at hG2
   refine mc_off rfl hf (goff rfl rfl rfl (by first | assumption | rfl | (simp; done) | (simp; omega))) rfl rfl ?_; clear hf a; intro a hf
   refine mc_offq rfl rfl (AtE.of hh (by intro q hq; simp only [List.mem_cons, List.mem_append, List.not_mem_nil, or_false] at hq ⊢; rcases hq with h | h <;> simp [h])) hf (goff rfl rfl rfl (by first | assumption | rfl | (simp; done) | (simp; omega))) rfl rfl ?_; clear hf a; intro a hf
   refine mc_off rfl hf (goff rfl rfl rfl (by first | assumption | rfl | (simp; done) | (simp; omega))) rfl rfl ?_; clear hf a; intro a hf
   refine mc_offq rfl rfl (AtE.of hh (by intro q hq; simp only [List.mem_cons, List.mem_append, List.not_mem_nil, or_false] at hq ⊢; rcases hq with h | h <;> simp [h])) hf (goff rfl rfl rfl (by first | assumption | rfl | (simp; done) | (simp; omega))) rfl rfl ?_; clear hf a; intro a hf
   refine mc_off rfl hf (goff rfl rfl rfl (by first | assumption | rfl | (simp; done) | (simp; omega))) rfl rfl ?_; clear hf a; intro a hf
   refine mc_p rfl   hf (y_pf rfl rfl) (.inl rfl) rfl rfl ?_; clear hf a; intro a hf
   refine mc_p rfl   hf (yv_move rfl) (.inl rfl) rfl rfl ?_; clear hf a; intro a hf
   refine mc_off rfl hf (goff rfl rfl rfl (by first | assumption | rfl | (simp; done) | (simp; omega))) rfl rfl ?_; clear hf a; intro a hf
   refine mc_offq rfl rfl (AtE.of hh (by intro q hq; simp only [List.mem_cons, List.mem_append, List.not_mem_nil, or_false] at hq ⊢; rcases hq with h | h <;> simp [h])) hf (goff rfl rfl rfl (by first | assumption | rfl | (simp; done) | (simp; omega))) rfl rfl ?_; clear hf a; intro a hf
   refine mc_e rfl fun Q1 => ?_
   refine o_off hf ?_; clear hf a; intro a hf
   refine ops_end ?_
   refine then_n ⟨⟨fun _ _ => (AtE.of hh (by intro q hq; simp only [List.mem_cons, List.mem_append, List.not_mem_nil, or_false] at hq ⊢; rcases hq with h | h <;> simp [h])), trivial⟩, ?_⟩
   refine mc_p rfl   hf (y_pf rfl rfl) (.inl rfl) rfl rfl ?_; clear hf a; intro a hf
   refine mc_p rfl   hf (yv_move rfl) (.inl rfl) rfl rfl ?_; clear hf a; intro a hf
   refine mc_off rfl hf (goff rfl rfl rfl (by first | assumption | rfl | (simp; done) | (simp; omega))) rfl rfl ?_; clear hf a; intro a hf
   refine mc_offq rfl rfl (AtE.of hh (by intro q hq; simp only [List.mem_cons, List.mem_append, List.not_mem_nil, or_false] at hq ⊢; rcases hq with h | h <;> simp [h])) hf (goff rfl rfl rfl (by first | assumption | rfl | (simp; done) | (simp; omega))) rfl rfl ?_; clear hf a; intro a hf
   refine mc_off rfl hf (goff rfl rfl rfl (by first | assumption | rfl | (simp; done) | (simp; omega))) rfl rfl ?_; clear hf a; intro a hf
   refine mc_offq rfl rfl (AtE.of hh (by intro q hq; simp only [List.mem_cons, List.mem_append, List.not_mem_nil, or_false] at hq ⊢; rcases hq with h | h <;> simp [h])) hf (goff rfl rfl rfl (by first | assumption | rfl | (simp; done) | (simp; omega))) rfl rfl ?_; clear hf a; intro a hf
   refine mc_off rfl hf (goff rfl rfl rfl (by first | assumption | rfl | (simp; done) | (simp; omega))) rfl rfl ?_; clear hf a; intro a hf
   refine mc_offq rfl rfl (AtE.of hh (by intro q hq; simp only [List.mem_cons, List.mem_append, List.not_mem_nil, or_false] at hq ⊢; rcases hq with h | h <;> simp [h])) hf (goff rfl rfl rfl (by first | assumption | rfl | (simp; done) | (simp; omega))) rfl rfl ?_; clear hf a; intro a hf
   refine mc_off rfl hf (goff rfl rfl rfl (by first | assumption | rfl | (simp; done) | (simp; omega))) rfl rfl ?_; clear hf a; intro a hf
   refine mc_offq rfl rfl (AtE.of hh (by intro q hq; simp only [List.mem_cons, List.mem_append, List.not_mem_nil, or_false] at hq ⊢; rcases hq with h | h <;> simp [h])) hf (goff rfl rfl rfl (by first | assumption | rfl | (simp; done) | (simp; omega))) rfl rfl ?_; clear hf a; intro a hf
   refine mc_off rfl hf (goff rfl rfl rfl (by first | assumption | rfl | (simp; done) | (simp; omega))) rfl rfl ?_; clear hf a; intro a hf
   refine ⟨?_, ?_⟩
   ·refine mc_e rfl fun Q1 => ?_
    refine o_off hf ?_; clear hf a; intro a hf
    refine ops_end ?_
    refine then_n ⟨⟨fun _ _ => (AtE.of hh (by intro q hq; simp only [List.mem_cons, List.mem_append, List.not_mem_nil, or_false] at hq ⊢; rcases hq with h | h <;> simp [h])), trivial⟩, ?_⟩
    refine mc_e rfl fun Q1 => ?_
    refine o_off hf ?_; clear hf a; intro a hf
    refine ops_end ?_
    refine then_n ⟨⟨fun _ _ => (AtE.of hh (by intro q hq; simp only [List.mem_cons, List.mem_append, List.not_mem_nil, or_false] at hq ⊢; rcases hq with h | h <;> simp [h])), trivial⟩, ?_⟩
    refine mc_e rfl fun Q1 => ?_
    refine o_off hf ?_; clear hf a; intro a hf
    refine ops_end ?_
    refine then_n ⟨⟨fun _ _ => (AtE.of hh (by intro q hq; simp only [List.mem_cons, List.mem_append, List.not_mem_nil, or_false] at hq ⊢; rcases hq with h | h <;> simp [h])), trivial⟩, ?_⟩
    refine mc_e rfl fun Q1 => ?_
    refine o_off hf ?_; clear hf a; intro a hf
    refine ops_end ?_
    refine then_n ⟨⟨fun _ _ => (AtE.of hh (by intro q hq; simp only [List.mem_cons, List.mem_append, List.not_mem_nil, or_false] at hq ⊢; rcases hq with h | h <;> simp [h])), trivial⟩, ?_⟩
    refine mc_off rfl hf (goff rfl rfl rfl (by first | assumption | rfl | (simp; done) | (simp; omega))) rfl rfl ?_; clear hf a; intro a hf
    refine mc_p rfl   hf (y_pf rfl rfl) (.inl rfl) rfl rfl ?_; clear hf a; intro a hf
    refine mc_p rfl   hf (yv_assign rfl) (.inl rfl) rfl rfl ?_; clear hf a; intro a hf
    refine mc_end ?_
    refine then_n ?_
    refine sy_ret ?_
    refine ret_r hf rfl rfl ?_
    refine ⟨congrArg Value.bool ?_, hh.ext⟩
    clear hf hh
    first
      | (simp_all; done)
      | (rw [Bool.eq_iff_iff]; simp_all <;> omega)
   ·refine mc_e rfl fun Q1 => ?_
    refine o_off hf ?_; clear hf a; intro a hf
    refine ops_end ?_
    refine then_n ⟨⟨fun _ _ => (AtE.of hh (by intro q hq; simp only [List.mem_cons, List.mem_append, List.not_mem_nil, or_false] at hq ⊢; rcases hq with h | h <;> simp [h])), trivial⟩, ?_⟩
    refine mc_e rfl fun Q1 => ?_
    refine o_off hf ?_; clear hf a; intro a hf
    refine ops_end ?_
    refine then_n ⟨⟨fun _ _ => (AtE.of hh (by intro q hq; simp only [List.mem_cons, List.mem_append, List.not_mem_nil, or_false] at hq ⊢; rcases hq with h | h <;> simp [h])), trivial⟩, ?_⟩
    refine mc_e rfl fun Q1 => ?_
    refine o_off hf ?_; clear hf a; intro a hf
    refine ops_end ?_
    refine then_n ⟨⟨fun _ _ => (AtE.of hh (by intro q hq; simp only [List.mem_cons, List.mem_append, List.not_mem_nil, or_false] at hq ⊢; rcases hq with h | h <;> simp [h])), trivial⟩, ?_⟩
    refine mc_e rfl fun Q1 => ?_
    refine o_off hf ?_; clear hf a; intro a hf
    refine ops_end ?_
    refine then_n ⟨⟨fun _ _ => (AtE.of hh (by intro q hq; simp only [List.mem_cons, List.mem_append, List.not_mem_nil, or_false] at hq ⊢; rcases hq with h | h <;> simp [h])), trivial⟩, ?_⟩
    refine mc_off rfl hf (goff rfl rfl rfl (by first | assumption | rfl | (simp; done) | (simp; omega))) rfl rfl ?_; clear hf a; intro a hf
    refine mc_p rfl   hf (y_pf rfl rfl) (.inl rfl) rfl rfl ?_; clear hf a; intro a hf
    refine mc_p rfl   hf (yv_assign rfl) (.inl rfl) rfl rfl ?_; clear hf a; intro a hf
    refine mc_end ?_
    refine then_n ?_
    refine sy_ret ?_
    refine ret_r hf rfl rfl ?_
    refine ⟨congrArg Value.bool ?_, hh.ext⟩
    clear hf hh
    first
      | (simp_all; done)
      | (rw [Bool.eq_iff_iff]; simp_all <;> omega)
end Go.Proofs.YtccpgpnekoncoaaGreat

namespace Go.WalM
open Go Go.Sy
/-- A tour that is looked at: with how many views there are. -/
abbrev tpC (t : TourD) (p : TPl) : Array Value := #[.int .i64 t.dawn, .slice p.sf t.fr.length p.cf, .slice p.sw t.ways.length p.cw, .slice p.ss t.stay.length p.cs, .slice p.sl t.light.length p.cl, .int .i64 (t.fr.length : Nat)]
def ordB (n : Nat) (l : List Int) : Bool := (l.all fun v => inW v 0 ((n : Int) - 1)) && decide l.Nodup
theorem inW_iff {v a b : Int} : inW v a b = true ↔ a ≤ v ∧ v ≤ b := by unfold inW; rw [Bool.and_eq_true, decide_eq_true_eq, decide_eq_true_eq]
theorem ordB_iff {n : Nat} {l : List Int} : ordB n l = true ↔ (∀ v ∈ l, 0 ≤ v ∧ v < n) ∧ l.Nodup := by
  unfold ordB
  rw [Bool.and_eq_true, decide_eq_true_eq, List.all_eq_true]
  refine ⟨fun h => ⟨fun v hv => ?_, h.2⟩, fun h => ⟨fun v hv => ?_, h.2⟩⟩
  · have := inW_iff.1 (h.1 v hv); omega
  · have := h.1 v hv; exact inW_iff.2 (by omega)
theorem take_snoc {α : Type} {l : List α} {i : Nat} {v : α} (h : l[i]? = some v) : l.take (i + 1) = l.take i ++ [v] := by rw [List.take_add_one, h]; rfl
theorem ordB_next {n : Nat} {l : List Int} {i : Nat} {v : Int} (h : l[i]? = some v) (ho : ordB n (l.take i) = true) (h1 : 0 ≤ v ∧ v < n) (h2 : v ∉ l.take i) : ordB n (l.take (i + 1)) = true := by
  rw [ordB_iff] at ho ⊢
  rw [take_snoc h]
  refine ⟨fun x hx => ?_, List.nodup_append.2 ⟨ho.2, List.nodup_cons.2 ⟨List.not_mem_nil, List.nodup_nil⟩, fun a ha b hb e => ?_⟩⟩
  · rcases List.mem_append.1 hx with hx | hx
    · exact ho.1 x hx
    · rw [List.mem_singleton.1 hx]; exact h1
  · rw [List.mem_singleton.1 hb] at e
    exact h2 (e ▸ ha)
theorem ordB_bad {n : Nat} {l : List Int} {i : Nat} {v : Int} (h : l[i]? = some v) (h1 : inW v 0 ((n : Int) - 1) = false ∨ v ∈ l.take i) : ordB n l = false := by
  rw [Bool.eq_false_iff]
  intro ho
  rw [ordB_iff] at ho
  rcases h1 with h1 | h1
  · have := ho.1 v (List.mem_of_getElem? h)
    rw [Bool.eq_false_iff] at h1
    exact h1 (inW_iff.2 (by omega))
  · have h2 := ho.2
    rw [← List.take_append_drop (i + 1) l, take_snoc h] at h2
    exact (List.nodup_append.1 (List.nodup_append.1 h2).1).2.2 v h1 v (.head _) rfl
def seenV (l : List Int) : Array Value := ((List.range 6).map fun j => Value.bool (decide (((j : Nat) : Int) ∈ l))).toArray
theorem seen_nil : seenV [] = #[.bool false, .bool false, .bool false, .bool false, .bool false, .bool false] := by unfold seenV; rfl
theorem seen_size (l : List Int) : (seenV l).size = 6 := by unfold seenV; simp
theorem seen_at {l : List Int} {v : Int} (h0 : 0 ≤ v) (h1 : v < 6) : (seenV l)[0 + v.toNat * 1]? = some (.bool (decide (v ∈ l))) := by
  obtain ⟨k, rfl⟩ : ∃ k : Nat, v = k := ⟨v.toNat, by omega⟩
  rw [Int.toNat_natCast, Nat.zero_add, Nat.mul_one]
  unfold seenV
  rw [List.getElem?_toArray, List.getElem?_map, List.getElem?_range (by omega)]; rfl
theorem seen_put {l : List Int} {v : Int} (h0 : 0 ≤ v) (h1 : v < 6) : spl (seenV l) (0 + v.toNat * 1) [.bool true] = seenV (l ++ [v]) := by
  obtain ⟨k, rfl⟩ : ∃ k : Nat, v = k := ⟨v.toNat, by omega⟩
  rw [Int.toNat_natCast, Nat.zero_add, Nat.mul_one, spl_one _ _ (by rw [seen_size]; omega)]
  apply Array.ext'
  apply List.ext_getElem?
  intro j
  rw [Array.getElem?_toList, Array.getElem?_toList, Array.getElem?_setIfInBounds, seen_size]
  unfold seenV
  rw [List.getElem?_toArray, List.getElem?_toArray, List.getElem?_map, List.getElem?_map]
  by_cases hj : j < 6
  · rw [List.getElem?_range hj]
    by_cases e : k = j
    · subst e
      rw [if_pos rfl, if_pos (by omega)]
      simp
    · rw [if_neg e]
      have : ¬ ((j : Int) = (k : Int)) := by omega
      simp [this]
  · rw [if_neg (by omega), List.getElem?_eq_none (by simp; omega)]; rfl
end Go.WalM

namespace Go.Proofs.YtccpgpnekoncoaaGreat
open Go Go.Sy Go.WalM
theorem k78 (t : TourD) (p : TPl) (x : Int) (Bt : Nat) (u : World) (hB : u.heap[Bt]? = some (.cells (tpC t p) 136 (0, 0))) (hn : t.fr.length ≤ 6) : Calls Tryz.prog 78 #[ptr Bt 0, .int .i64 x] u (Ret fun v w' => v = .bool (inW x 0 (((t.fr.length : Nat) : Int) - 1)) ∧ Ext [] u w') := by
  refine calls_of Tryz.func78 rfl rfl (fun a hf => ?_)
  have hh := Hp.init u []
  refine sy_sq ?_
  refine o_v hf hh (yv_assign rfl) ?_; clear hf a; intro a hf
  refine o_end ?_
  refine sy_sq ?_
  refine o_v hf hh (yv_move rfl) ?_; clear hf a; intro a hf
  refine o_v hf hh (yv_move rfl) ?_; clear hf a; intro a hf
  refine o_v hf hh (yv_nilCheck rfl) ?_; clear hf a; intro a hf
  refine o_v hf hh (yv_fieldAddr Tryz.fo_136_1 rfl) ?_; clear hf a; intro a hf
  refine o_v hf hh (y_ld Tryz.sc_3 rfl) ?_; clear hf a; intro a hf
  refine o_v hf hh (y_sub rfl rfl) ?_; clear hf a; intro a hf
  refine o_call hf Tryz.en_101 rfl rfl rfl (k101 _ _ _ _) ?_; clear hf a; intro v a w hR hf
  obtain ⟨rfl, hx⟩ := hR; replace hh := hh.more hx; clear hx
  refine o_v hf hh (yv_assign rfl) ?_; clear hf a; intro a hf
  refine o_end ?_
  refine sy_ret ?_
  refine ret_r hf rfl rfl ?_
  exact ⟨rfl, hh.ext⟩
set_option maxRecDepth 100000 in
theorem k38 (t : TourD) (p : TPl) (l : List Int) (so : Option Addr) (co : Nat) (Bt : Nat) (u : World) (hB : u.heap[Bt]? = some (.cells (tpC t p) 136 (0, 0))) (hn : t.fr.length ≤ 6) (hL : VwAt u so l) (hl : l.length ≤ 4000000000) : Calls Tryz.prog 38 #[ptr Bt 0, .slice so l.length co] u (Ret fun v w' => v = .bool (ordB t.fr.length l) ∧ Ext [] u w') := by
  refine calls_of Tryz.func38 rfl rfl (fun a hf => ?_)
  have hh := Hp.init u []
  refine sy_sq ?_
  refine o_v hf hh (yv_assign rfl) ?_; clear hf a; intro a hf
  refine o_end ?_
  refine sy_sq ?_
  refine o_alloc hf hh Tryz.ze_148 ?_; clear hf hh a; intro B5 a w hf hh
  refine o_end ?_
  refine sy_seq ?_
  refine sy_seq ?_
  replace hh : Hp u [] [(B5, .cells (seenV (l.take 0)) 148)] w := by rw [List.take_zero, seen_nil]; exact hh
  refine sy_ops ?_
  refine o_v hf hh (yv_move rfl) ?_; clear hf a; intro a hf
  refine o_v hf hh (yv_len Tryz.se_28 rfl) ?_; clear hf a; intro a hf
  refine o_v hf hh (yv_move rfl) ?_; clear hf a; intro a hf
  refine o_end ?_
  refine sy_block ?_
  refine sy_loopH (σ := Nat) [4, 7, 10, 11, 12, 13, 14, 15, 16, 17, 18, 19, 20, 21, 22, 23, 24, 25] (fun i => [(10, .int .i64 (i : Nat))]) (fun i => fun w => i ≤ l.length ∧ ordB t.fr.length (l.take i) = true ∧ Hp u [] [(B5, .cells (seenV (l.take i)) 148)] w) (fun i => l.length - i) (0) hf ?_ ?_ ?_
  · repeat' (first | exact True.intro | refine And.intro rfl ?_)
  · exact ⟨Nat.zero_le _, rfl, hh⟩
  ·rintro i a w ⟨hi, hq, hh⟩ hf
   refine sy_sq ?_
   refine o_v hf hh (yv_bin rfl rfl rfl) ?_; clear hf a; intro a hf
   refine o_end ?_
   refine sy_seq ?_
   refine sy_cond hf rfl (fun hg2 => ?_) (fun hg2 => ?_)
   ·have hG2 := hg2; try simp only [gS] at hG2
    refine sy_skip ?_
    refine then_n ?_
    refine sy_seq ?_
    refine sy_block ?_
    refine sy_seq ?_
    obtain ⟨x, hx⟩ := ex_ofW (l := l) (i := i) (by omega)
    obtain ⟨blk, off, cc, T, fr, e, hb, hc⟩ := hL i x hx; subst e
    refine sy_ops ?_
    refine o_v hf hh (y_ix Tryz.se_28 rfl rfl) ?_; clear hf a; intro a hf
    refine o_v hf hh (y_ld Tryz.sc_3 rfl) ?_; clear hf a; intro a hf
    refine o_v hf hh (yv_assign rfl) ?_; clear hf a; intro a hf
    refine o_end ?_
    refine sy_seq ?_
    refine sy_sq ?_
    refine o_v hf hh (yv_move rfl) ?_; clear hf a; intro a hf
    refine o_v hf hh (yv_move rfl) ?_; clear hf a; intro a hf
    refine o_call hf Tryz.en_78 rfl rfl rfl (k78 t p x Bt _ (hh.old hB) hn) ?_; clear hf a; intro v a w hR hf
    obtain ⟨rfl, hx⟩ := hR; replace hh := hh.more hx; clear hx
    refine o_v hf hh (yv_not rfl) ?_; clear hf a; intro a hf
    refine o_v hf hh (yv_move rfl) ?_; clear hf a; intro a hf
    refine guard_split hf (t := 18) rfl (fun hg4 => ?_) (fun hg4 => ?_)
    ·have hG4 := hg4; try simp only [gS] at hG4
     refine o_off hf ?_; clear hf a; intro a hf
     refine o_off hf ?_; clear hf a; intro a hf
     refine o_off hf ?_; clear hf a; intro a hf
     refine o_v hf hh (y_pt rfl rfl) ?_; clear hf a; intro a hf
     refine o_end ?_
     refine c_t hf ?_
     refine sy_sq ?_
     refine o_v hf hh (yv_assign rfl) ?_; clear hf a; intro a hf
     refine o_end ?_
     refine sy_ret ?_
     refine then_r ?_
     refine blk_r ?_
     refine then_r ?_
     refine then_r ?_
     refine blk_r ?_
     refine then_r ?_
     refine ret_r hf rfl rfl ?_
     exact ⟨congrArg Value.bool (ordB_bad hx (by simp_all)).symm, hh.ext⟩
    ·have hG4 := hg4; try simp only [gS] at hG4
     refine o_v hf hh (yv_move rfl) ?_; clear hf a; intro a hf
     have hv : 0 ≤ x ∧ x < 6 := by
       have hi : inW x 0 (((t.fr.length : Nat) : Int) - 1) = true := by simp_all
       have := inW_iff.1 hi
       omega
     have hsa := seen_at (l := l.take i) hv.1 hv.2
     refine o_v hf hh (y_ia Tryz.ae_148 rfl rfl) ?_; clear hf a; intro a hf
     refine o_v hf hh (y_ld Tryz.sc_4 rfl (hb := fun _ h => h.get (B5, .cells (seenV (l.take i)) 148) (by simp)) (hv := hsa)) ?_; clear hf a; intro a hf
     refine o_v hf hh (y_pf rfl rfl) ?_; clear hf a; intro a hf
     refine o_end ?_
     refine sy_cond hf rfl (fun hg7 => ?_) (fun hg7 => ?_)
     ·have hG7 := hg7; try simp only [gS] at hG7
      refine sy_sq ?_
      refine o_v hf hh (yv_assign rfl) ?_; clear hf a; intro a hf
      refine o_end ?_
      refine sy_ret ?_
      refine then_r ?_
      refine blk_r ?_
      refine then_r ?_
      refine then_r ?_
      refine blk_r ?_
      refine then_r ?_
      refine ret_r hf rfl rfl ?_
      exact ⟨congrArg Value.bool (ordB_bad hx (by simp_all)).symm, hh.ext⟩
     ·have hG7 := hg7; try simp only [gS] at hG7
      refine sy_skip ?_
      refine then_n ?_
      have hin : inW x 0 (((t.fr.length : Nat) : Int) - 1) = true := by simp_all
      have hv : 0 ≤ x ∧ x < 6 := by
        have := inW_iff.1 hin
        omega
      have hni : x ∉ l.take i := by simp_all
      refine sy_ops ?_
      refine o_v hf hh (yv_move rfl) ?_; clear hf a; intro a hf
      refine o_v hf hh (y_ia Tryz.ae_148 rfl rfl) ?_; clear hf a; intro a hf
      refine o_store (i := 0) hf hh Tryz.sz_4 (hx := rfl) (hi := atI (i := 0) rfl) (hy := rfl) (hl := Nat.ble_eq_true_of_le (by rw [seen_size]; omega)) fun w hh => ?_
      replace hh : Hp u [] [(B5, .cells (seenV (l.take (i + 1))) 148)] w := by rw [take_snoc hx, ← seen_put hv.1 hv.2]; exact hh
      refine ops_end ?_
      refine blk_n ?_
      refine then_n ?_
      refine sy_ops ?_
      refine o_v hf hh (y_add rfl rfl) ?_; clear hf a; intro a hf
      refine o_v hf hh (yv_move rfl) ?_; clear hf a; intro a hf
      refine ops_end ?_
      refine then_n ?_
      exact ⟨i + 1, ⟨⟨by omega, ordB_next hx hq (by have := inW_iff.1 hin; omega) hni, hh⟩, (hf.head (by repeat' (first | exact True.intro | refine And.intro rfl ?_)) (Keep.cons rfl (Keep.cons rfl (Keep.cons rfl (Keep.cons rfl (Keep.cons rfl (Keep.cons rfl (Keep.cons rfl (Keep.cons rfl (Keep.cons rfl (Keep.cons rfl (Keep.cons rfl (Keep.cons rfl (Keep.cons rfl (Keep.cons rfl (Keep.cons rfl (Keep.cons rfl (Keep.cons rfl (Keep.app rfl (Keep.rm rfl Keep.base))))))))))))))))))))⟩, by omega⟩
   ·have hG2 := hg2; try simp only [gS] at hG2
    refine sy_exit ?_
    refine then_e ?_
    refine then_e ?_
    refine blk_e ?_
    refine then_n ?_
    refine sy_sq ?_
    refine o_v hf hh (yv_assign rfl) ?_; clear hf a; intro a hf
    refine o_end ?_
    refine sy_ret ?_
    refine ret_r hf rfl rfl ?_
    obtain rfl : i = l.length := by omega
    rw [List.take_length] at hq
    exact ⟨congrArg Value.bool hq.symm, hh.ext⟩
theorem k31 (Bt : Nat) (w : World) : Calls Tryz.prog 31 #[ptr Bt 0] w (Ret fun v w' => v = .bool true ∧ Ext [] w w') := by
  refine calls_of Tryz.func31 rfl rfl (fun a hf => ?_)
  have hh := Hp.init w []
  refine sy_sq ?_
  refine o_v hf hh (yv_assign rfl) ?_; clear hf a; intro a hf
  refine o_end ?_
  refine sy_sq ?_
  refine o_v hf hh (yv_assign rfl) ?_; clear hf a; intro a hf
  refine o_end ?_
  refine sy_ret ?_
  refine ret_r hf rfl rfl ?_
  exact ⟨rfl, hh.ext⟩
end Go.Proofs.YtccpgpnekoncoaaGreat

namespace Go.WalM
open Go Go.Sy
def opnE (t : TourD) (b : Bool) : Int := if touB t then if b then 0 else 2 else 1
theorem opnE_zero {t : TourD} {b : Bool} : opnE t b = 0 ↔ touB t = true ∧ b = true := by
  unfold opnE
  cases touB t <;> cases b <;> simp
theorem sp_at {l : List (Int × Int)} {v : Nat} (h : v < l.length) : l[v]? = some (sp0 l v) := by
  unfold sp0
  rw [List.getD_eq_getElem?_getD, List.getElem?_eq_getElem h]; rfl
theorem sp_ok {l : List (Int × Int)} {v : Nat} (h : v < l.length) (ho : ∀ s ∈ l, okS s) : okS (sp0 l v) := ho _ (List.mem_of_getElem? (sp_at h))
theorem way_at {t : TourD} {p : TPl} (he : p.rows.map Prod.fst = t.ways) {f : Nat} (h : f < t.ways.length) : ∃ r, p.rows[f]? = some r ∧ r.1 = t.ways.getD f [] := by
  have h1 : f < p.rows.length := by rw [rows_len he]; exact h
  refine ⟨p.rows[f], by rw [List.getElem?_eq_getElem h1], ?_⟩
  rw [← he, List.getD_eq_getElem?_getD, List.getElem?_map, List.getElem?_eq_getElem h1]; rfl
def IsFr (t : TourD) (fr : Int) : Prop := fr = -1 ∨ (0 ≤ fr ∧ fr < t.n)
theorem way_ok {t : TourD} (hO : TourOk t) {fr : Int} (hf : IsFr t fr) {v : Nat} (h : v < t.n) : okS (wayV t fr v) := by
  unfold wayV
  rcases hf with rfl | ⟨h0, h1⟩
  · rw [if_pos rfl]; exact sp_ok h hO.f
  · rw [if_neg (by omega)]
    have hw := hO.wl
    have h2 : fr.toNat < t.ways.length := by rw [hw]; show _ < t.n; omega
    have h3 : t.ways.getD fr.toNat [] ∈ t.ways := by
      rw [List.getD_eq_getElem?_getD, List.getElem?_eq_getElem h2]; exact List.getElem_mem h2
    exact sp_ok (by rw [(hO.w _ h3).1]; exact h) (hO.w _ h3).2
theorem cells_two {c : Array Value} {o : Nat} {a b : Value} (h : cellsAt c o 2 = some [a, b]) : c[o]? = some a ∧ c[o + 1]? = some b := by
  cases ha : c[o]? with
  | none => simp [cellsAt, ha] at h
  | some x =>
    cases hb : c[o + 1]? with
    | none => simp [cellsAt, ha, hb] at h
    | some y =>
      simp [cellsAt, ha, hb] at h
      exact ⟨by rw [h.1], by rw [h.2]⟩
end Go.WalM

namespace Go.Proofs.YtccpgpnekoncoaaGreat
open Go Go.Sy Go.WalM
theorem k30 (t : TourD) (p : TPl) (u : World) (hR : TouAt u t p) (f : Nat) (fcs : Array Value) (b : Bool) (hE : Enters Tryz.prog f)
    (hcall : touB t = true → ∀ (Bc : Nat) (w' : World), Ext [] u w' → w'.heap[Bc]? = some (.cells (tpC t p) 136 (0, 0)) → Calls Tryz.prog f (#[] ++ [ptr Bc 0].toArray ++ fcs) w' (Ret fun v w'' => v = .bool b ∧ Ext [] w' w'')) :
    Calls Tryz.prog 30 #[.agg (touC t p), .func (.func f) #[] fcs] u (RetX (fun v w' => opnE t b = 0 ∧ ∃ Bc, v = ptr Bc 0 ∧ Hp u [] [(Bc, .cells (tpC t p) 136)] w') (fun ch w' => ch = misW (opnE t b) ∧ opnE t b ≠ 0 ∧ Ext [] u w')) := by
  refine calls_ofX Tryz.func30 rfl rfl (fun a hf => ?_)
  have hh := Hp.init u []
  have hnf := hR.nf
  refine sy_sq ?_
  refine o_box hf hh ?_; clear hf hh a; intro B2 a w hf hh
  refine o_v hf hh (yv_assign rfl) ?_; clear hf a; intro a hf
  refine o_end ?_
  refine sy_sq ?_
  refine o_v hf hh (y_lds Tryz.ag_25 rfl) ?_; clear hf a; intro a hf
  refine o_call hf Tryz.en_71 rfl rfl rfl (k71 t p _ (hR.ext hh.ext)) ?_; clear hf a; intro v a w hR hf
  obtain ⟨rfl, hx⟩ := hR; replace hh := hh.more hx; clear hx
  refine o_callX hf Tryz.en_67 rfl rfl rfl (k67 _ 1 _) ?_ ?_
  ·clear hf a; intro v a w hR hf
   obtain ⟨hb1, hx⟩ := hR; replace hh := hh.more hx; clear hx
   refine o_end ?_
   refine sy_sq ?_
   refine o_v hf hh (y_lds Tryz.ag_25 rfl) ?_; clear hf a; intro a hf
   refine o_v hf hh (yv_fieldAddr Tryz.fo_25_1 rfl) ?_; clear hf a; intro a hf
   refine o_v hf hh (y_ld Tryz.sc_22 rfl) ?_; clear hf a; intro a hf
   refine o_v hf hh (yv_len Tryz.se_22 rfl) ?_; clear hf a; intro a hf
   refine o_v hf hh (yv_buildS Tryz.bs_136 rfl rfl) ?_; clear hf a; intro a hf
   refine o_box hf hh ?_; clear hf hh a; intro B14 a w hf hh
   refine o_v hf hh (yv_assign rfl) ?_; clear hf a; intro a hf
   refine o_end ?_
   refine sy_sq ?_
   refine o_v hf hh (yv_move rfl) ?_; clear hf a; intro a hf
   refine o_v hf hh (yv_move rfl) ?_; clear hf a; intro a hf
   refine o_call hf hE rfl rfl rfl (hcall hb1 _ _ hh.ext (hh.at (i := 0) rfl)) ?_; clear hf a; intro v a w hR hf
   obtain ⟨rfl, hx⟩ := hR; replace hh := hh.more hx; clear hx
   refine o_callX hf Tryz.en_67 rfl rfl rfl (k67 _ 2 _) ?_ ?_
   ·clear hf a; intro v a w hR hf
    obtain ⟨hb2, hx⟩ := hR; replace hh := hh.more hx; clear hx
    refine o_end ?_
    refine sy_sq ?_
    refine o_v hf hh (yv_move rfl) ?_; clear hf a; intro a hf
    refine o_v hf hh (yv_assign rfl) ?_; clear hf a; intro a hf
    refine o_end ?_
    refine sy_ret ?_
    refine ret_x ?_
    refine ret_r hf rfl rfl ?_
    exact ⟨by simp [opnE, hb1, hb2], _, rfl, hh.less (.cons_cons _ (.cons _ (.refl _)))⟩
   ·intro ch w hX hf
    obtain ⟨hb2, hch, hx⟩ := hX; replace hh := hh.more hx; clear hx
    refine then_p ?_
    refine pan_x hf ?_
    exact ⟨by rw [hch]; simp [opnE, hb1, hb2], by simp [opnE, hb1, hb2], hh.ext⟩
  ·intro ch w hX hf
   obtain ⟨hb1, hch, hx⟩ := hX; replace hh := hh.more hx; clear hx
   refine then_p ?_
   refine pan_x hf ?_
   exact ⟨by rw [hch]; simp [opnE, hb1], by simp [opnE, hb1], hh.ext⟩
theorem k75 (m s : Int × Int) (u : World) (h0 : -1000000000 ≤ m.1 ∧ m.1 ≤ 1000000000) (h1 : -1000000000 ≤ m.2 ∧ m.2 ≤ 1000000000) (h2 : -1000000000 ≤ s.1 ∧ s.1 ≤ 1000000000) (h3 : -1000000000 ≤ s.2 ∧ s.2 ≤ 1000000000) : Calls Tryz.prog 75 #[swV m, swV s] u (Ret fun v w' => v = swV (m.1 + s.1, m.2 + s.2) ∧ Ext [] u w') := by
  refine calls_of Tryz.func75 rfl rfl (fun a hf => ?_)
  have hh := Hp.init u []
  refine sy_sq ?_
  refine o_box hf hh ?_; clear hf hh a; intro B2 a w hf hh
  refine o_box hf hh ?_; clear hf hh a; intro B3 a w hf hh
  refine o_alloc hf hh Tryz.ze_131 ?_; clear hf hh a; intro B4 a w hf hh
  refine o_end ?_
  refine sy_sq ?_
  refine o_v hf hh (yv_fieldAddr Tryz.fo_131_0 rfl) ?_; clear hf a; intro a hf
  refine o_v hf hh (y_ld Tryz.sc_3 rfl) ?_; clear hf a; intro a hf
  refine o_v hf hh (yv_fieldAddr Tryz.fo_49_0 rfl) ?_; clear hf a; intro a hf
  refine o_v hf hh (y_ld Tryz.sc_3 rfl) ?_; clear hf a; intro a hf
  refine o_v hf hh (y_add rfl rfl) ?_; clear hf a; intro a hf
  refine o_v hf hh (yv_fieldAddr Tryz.fo_131_1 rfl) ?_; clear hf a; intro a hf
  refine o_v hf hh (y_ld Tryz.sc_3 rfl) ?_; clear hf a; intro a hf
  refine o_v hf hh (yv_fieldAddr Tryz.fo_49_1 rfl) ?_; clear hf a; intro a hf
  refine o_v hf hh (y_ld Tryz.sc_3 rfl) ?_; clear hf a; intro a hf
  refine o_v hf hh (y_add rfl rfl) ?_; clear hf a; intro a hf
  refine o_v hf hh (yv_buildS Tryz.bs_131 rfl rfl) ?_; clear hf a; intro a hf
  refine o_store hf hh Tryz.sz_131 fun w hh => ?_
  replace hh : Hp u [] [(B4, .cells #[.int .i64 (m.1 + s.1), .int .i64 (m.2 + s.2)] 131), (B3, .cells #[.int .i64 s.1, .int .i64 s.2] 49), (B2, .cells #[.int .i64 m.1, .int .i64 m.2] 131)] w := hh
  refine o_end ?_
  refine sy_ret ?_
  refine ret_c (vs := [swV (m.1 + s.1, m.2 + s.2)]) hf ?_ ?_
  · exact ⟨⟨B4, 0, _, _, _, rfl, hh.at (i := 0) rfl, .inr ⟨2, _, Tryz.ag_131, rfl, rfl⟩⟩, True.intro⟩
  · exact ⟨rfl, hh.ext⟩
theorem k104 (m : Int × Int) (n : Int) (u : World) : Calls Tryz.prog 104 #[swV m, .int .i64 n] u (Ret fun v w' => v = swV (max m.1 n, max m.2 n) ∧ Ext [] u w') := by
  refine calls_of Tryz.func104 rfl rfl (fun a hf => ?_)
  have hh := Hp.init u []
  refine sy_sq ?_
  refine o_box hf hh ?_; clear hf hh a; intro B2 a w hf hh
  refine o_alloc hf hh Tryz.ze_131 ?_; clear hf hh a; intro B4 a w hf hh
  refine o_end ?_
  refine sy_sq ?_
  refine o_v hf hh (yv_fieldAddr Tryz.fo_131_0 rfl) ?_; clear hf a; intro a hf
  refine o_v hf hh (y_ld Tryz.sc_3 rfl) ?_; clear hf a; intro a hf
  refine o_v hf hh (yv_move rfl) ?_; clear hf a; intro a hf
  refine o_v hf hh (yv_max rfl rfl) ?_; clear hf a; intro a hf
  refine o_v hf hh (yv_fieldAddr Tryz.fo_131_1 rfl) ?_; clear hf a; intro a hf
  refine o_v hf hh (y_ld Tryz.sc_3 rfl) ?_; clear hf a; intro a hf
  refine o_v hf hh (yv_move rfl) ?_; clear hf a; intro a hf
  refine o_v hf hh (yv_max rfl rfl) ?_; clear hf a; intro a hf
  refine o_v hf hh (yv_buildS Tryz.bs_131 rfl rfl) ?_; clear hf a; intro a hf
  refine o_store hf hh Tryz.sz_131 fun w hh => ?_
  replace hh : Hp u [] [(B4, .cells #[.int .i64 (max m.1 n), .int .i64 (max m.2 n)] 131), (B2, .cells #[.int .i64 m.1, .int .i64 m.2] 131)] w := hh
  refine o_end ?_
  refine sy_ret ?_
  refine ret_c (vs := [swV (max m.1 n, max m.2 n)]) hf ?_ ?_
  · exact ⟨⟨B4, 0, _, _, _, rfl, hh.at (i := 0) rfl, .inr ⟨2, _, Tryz.ag_131, rfl, rfl⟩⟩, True.intro⟩
  · exact ⟨rfl, hh.ext⟩
theorem k74 (t : TourD) (p : TPl) (Bt : Nat) (u : World) (hB : u.heap[Bt]? = some (.cells (tpC t p) 136 (0, 0))) (hA : TouAt u t p) (hO : TourOk t) (v : Nat) (m : Int × Int) (hv : v < t.fr.length) : Calls Tryz.prog 74 #[.agg #[], ptr Bt 0, .int .i64 (v : Nat), swV m] u (Ret fun z w' => z = .bool (surV t v m) ∧ Ext [] u w') := by
  refine calls_of Tryz.func74 rfl rfl (fun a hf => ?_)
  have hh := Hp.init u []
  obtain ⟨sf, sw, ss, sl, cf, cw, cs, cl, rows⟩ := p
  have hll : t.light.length = t.fr.length := hO.ll
  obtain ⟨blk1, off1, cc1, T1, fr1, es1, hb1, hc1⟩ := hA.l v _ (sp_at (l := t.light) (v := v) (by omega))
  dsimp only at es1; subst es1
  have hp1 := (cells_two hc1).1
  have hq1 := (cells_two hc1).2
  refine sy_sq ?_
  refine o_box hf hh ?_; clear hf hh a; intro B4 a w hf hh
  refine o_box hf hh ?_; clear hf hh a; intro B7 a w hf hh
  refine o_v hf hh (yv_assign rfl) ?_; clear hf a; intro a hf
  refine o_end ?_
  refine sy_seq ?_
  refine sy_tree1 (.p 0 (.q 0 1 (.p 2 (.p 3 (.p 4 (.p 5 (.q 0 6 (.p 7 (.p 8 (.p 9 (.q 0 10 (.p 11 (.p 12 (.fin)))))))))))))) [] Tryz.follows (by kernel_rfl) hh (fun w hh => ?_)
  refine mc_p rfl   hf (yv_fieldAddr Tryz.fo_131_1 rfl) (.inl rfl) rfl rfl ?_; clear hf a; intro a hf
  refine mc_q rfl rfl hh hf (y_ld Tryz.sc_3 rfl) (.inl rfl) rfl rfl ?_; clear hf a; intro a hf
  refine mc_p rfl   hf (yv_move rfl) (.inl rfl) rfl rfl ?_; clear hf a; intro a hf
  refine mc_p rfl   hf (yv_nilCheck rfl) (.inl rfl) rfl rfl ?_; clear hf a; intro a hf
  refine mc_p rfl   hf (yv_fieldAddr Tryz.fo_136_0 rfl) (.inl rfl) rfl rfl ?_; clear hf a; intro a hf
  refine mc_p rfl   hf (yv_fieldAddr Tryz.fo_25_4 rfl) (.inl rfl) rfl rfl ?_; clear hf a; intro a hf
  refine mc_q rfl rfl hh hf (y_ld Tryz.sc_22 rfl) (.inl rfl) rfl rfl ?_; clear hf a; intro a hf
  refine mc_p rfl   hf (yv_move rfl) (.inl rfl) rfl rfl ?_; clear hf a; intro a hf
  refine mc_p rfl   hf (y_ix Tryz.se_22 rfl rfl) (.inl rfl) rfl rfl ?_; clear hf a; intro a hf
  refine mc_p rfl   hf (yv_fieldAddr Tryz.fo_49_1 rfl) (.inl rfl) rfl rfl ?_; clear hf a; intro a hf
  refine mc_q rfl rfl hh hf (y_ld Tryz.sc_3 rfl) (.inl rfl) rfl rfl ?_; clear hf a; intro a hf
  refine mc_p rfl   hf (yv_bin rfl rfl rfl) (.inl rfl) rfl rfl ?_; clear hf a; intro a hf
  refine mc_p rfl   hf (yv_assign rfl) (.inl rfl) rfl rfl ?_; clear hf a; intro a hf
  refine mc_end ?_
  refine then_n ?_
  refine sy_ret ?_
  refine ret_r hf rfl rfl ?_
  exact ⟨rfl, hh.ext⟩
end Go.Proofs.YtccpgpnekoncoaaGreat

namespace Go.Proofs.YtccpgpnekoncoaaGreat
open Go Go.Sy Go.WalM
set_option maxRecDepth 100000 in
theorem k73 (t : TourD) (p : TPl) (Bt : Nat) (u : World) (hB : u.heap[Bt]? = some (.cells (tpC t p) 136 (0, 0))) (hA : TouAt u t p) (hO : TourOk t) (fr : Int) (v : Nat) (m : Int × Int) (hfr : IsFr t fr) (hv : v < t.fr.length) (hm1 : -100000000 ≤ m.1 ∧ m.1 ≤ 100000000) (hm2 : -100000000 ≤ m.2 ∧ m.2 ≤ 100000000) : Calls Tryz.prog 73 #[ptr Bt 0, .int .i64 fr, .int .i64 (v : Nat), swV m] u (Ret fun z w' => z = swV (begV t fr v m) ∧ Ext [] u w') := by
  refine calls_of Tryz.func73 rfl rfl (fun a hf => ?_)
  have hh := Hp.init u []
  have hwo := way_ok hO hfr hv
  obtain ⟨hwo0, hwo1, hwo2⟩ := hwo
  have hn6 : t.fr.length ≤ 6 := hO.n6
  have hwl : t.ways.length = t.fr.length := hO.wl
  obtain ⟨sf, sw, ss, sl, cf, cw, cs, cl, rows⟩ := p
  have hll : t.light.length = t.fr.length := hO.ll
  obtain ⟨blk1, off1, cc1, T1, fr1, es1, hb1, hc1⟩ := hA.l v _ (sp_at (l := t.light) (v := v) (by omega))
  dsimp only at es1; subst es1
  have hp1 := (cells_two hc1).1
  have hq1 := (cells_two hc1).2
  obtain ⟨blk2, off2, cc2, T2, fr2, es2, hb2, hc2⟩ := hA.f v _ (sp_at (l := t.fr) (v := v) (by omega))
  dsimp only at es2; subst es2
  have hp2 := (cells_two hc2).1
  have hq2 := (cells_two hc2).2
  refine sy_sq ?_
  refine o_box hf hh ?_; clear hf hh a; intro B7 a w hf hh
  refine o_alloc hf hh Tryz.ze_131 ?_; clear hf hh a; intro B8 a w hf hh
  refine o_end ?_
  refine sy_sq ?_
  refine o_v hf hh (yv_move rfl) ?_; clear hf a; intro a hf
  refine o_v hf hh (yv_nilCheck rfl) ?_; clear hf a; intro a hf
  refine o_v hf hh (yv_fieldAddr Tryz.fo_136_0 rfl) ?_; clear hf a; intro a hf
  refine o_v hf hh (yv_fieldAddr Tryz.fo_25_1 rfl) ?_; clear hf a; intro a hf
  refine o_v hf hh (y_ld Tryz.sc_22 rfl) ?_; clear hf a; intro a hf
  refine o_v hf hh (yv_move rfl) ?_; clear hf a; intro a hf
  refine o_v hf hh (y_ix Tryz.se_22 rfl rfl) ?_; clear hf a; intro a hf
  refine o_v hf hh (y_lds Tryz.ag_49 rfl) ?_; clear hf a; intro a hf
  refine o_alloc hf hh Tryz.ze_49 ?_; clear hf hh a; intro B9 a w hf hh
  refine o_store hf hh Tryz.sz_49 fun w hh => ?_
  refine o_end ?_
  refine sy_seq ?_
  refine sy_sq ?_
  refine o_v hf hh (yv_move rfl) ?_; clear hf a; intro a hf
  refine o_v hf hh (yv_bin rfl rfl rfl) ?_; clear hf a; intro a hf
  refine o_end ?_
  refine sy_cond hf rfl (fun hg2 => ?_) (fun hg2 => ?_)
  ·have hG2 := hg2; try simp only [gS] at hG2
   have hfb : 0 ≤ fr ∧ fr < ((t.fr.length : Nat) : Int) := by rcases hfr with h | h; omega; exact h
   have hk0 : ((fr.toNat : Nat) : Int) = fr := by omega
   obtain ⟨r, hr, hrw⟩ := way_at hA.e (f := fr.toNat) (by omega)
   dsimp only at hr
   have hrl : r.1.length = t.fr.length := by
     rw [hrw]
     have h3 : t.ways.getD fr.toNat [] ∈ t.ways := by
       rw [List.getD_eq_getElem?_getD, List.getElem?_eq_getElem (by omega)]; exact List.getElem_mem _
     exact (hO.w _ h3).1
   obtain ⟨blk3, off3, cc3, T3, fr3, es3, hb3, hp3⟩ := hA.g fr.toNat r hr
   dsimp only at es3; subst es3
   rw [hk0] at hp3
   obtain ⟨rl, rs, rc⟩ := r
   obtain ⟨blk4, off4, cc4, T4, fr4, es4, hb4, hc4⟩ := hA.r _ (List.mem_of_getElem? hr) v _ (sp_at (l := rl) (v := v) (by dsimp only at hrl; omega))
   dsimp only at es4 hrw hrl hp3; subst es4; subst hrw
   have hp4 := (cells_two hc4).1
   dsimp only [rowV] at hp3
   refine sy_ops ?_
   refine o_v hf hh (yv_move rfl) ?_; clear hf a; intro a hf
   refine o_v hf hh (yv_nilCheck rfl) ?_; clear hf a; intro a hf
   refine o_v hf hh (yv_fieldAddr Tryz.fo_136_0 rfl) ?_; clear hf a; intro a hf
   refine o_v hf hh (yv_fieldAddr Tryz.fo_25_2 rfl) ?_; clear hf a; intro a hf
   refine o_v hf hh (y_ld Tryz.sc_23 rfl) ?_; clear hf a; intro a hf
   refine o_v hf hh (yv_move rfl) ?_; clear hf a; intro a hf
   refine o_v hf hh (y_ix Tryz.se_23 rfl rfl) ?_; clear hf a; intro a hf
   refine o_v hf hh (y_ld Tryz.sc_22 rfl) ?_; clear hf a; intro a hf
   refine o_v hf hh (yv_move rfl) ?_; clear hf a; intro a hf
   refine o_v hf hh (y_ix Tryz.se_22 rfl rfl) ?_; clear hf a; intro a hf
   refine o_v hf hh (y_lds Tryz.ag_49 rfl) ?_; clear hf a; intro a hf
   refine o_store hf hh Tryz.sz_49 fun w hh => ?_
   refine o_end ?_
   refine sy_seq ?_
   replace hh : Hp u [] [(B9, .cells #[.int .i64 (wayV t fr v).1, .int .i64 (wayV t fr v).2] 49), (B8, .cells #[.int .i64 0, .int .i64 0] 131), (B7, .cells #[.int .i64 m.1, .int .i64 m.2] 131)] w := by
     unfold wayV
     first
     | (rw [if_pos (by omega)]; exact hh)
     | (rw [if_neg (by omega)]; exact hh)
   
   refine sy_ops ?_
   refine o_v hf hh (y_lds Tryz.ag_131 rfl) ?_; clear hf a; intro a hf
   refine o_v hf hh (y_lds Tryz.ag_49 rfl) ?_; clear hf a; intro a hf
   refine o_call hf Tryz.en_75 rfl rfl rfl (k75 m (wayV t fr v) _ (by omega) (by omega) (by omega) (by omega)) ?_; clear hf a; intro v a w hR hf
   obtain ⟨rfl, hx⟩ := hR; replace hh := hh.more hx; clear hx
   refine o_v hf hh (yv_makeFunc rfl rfl) ?_; clear hf a; intro a hf
   refine o_v hf hh (yv_assign rfl) ?_; clear hf a; intro a hf
   refine o_end ?_
   refine sy_sq ?_
   refine o_v hf hh (yv_move rfl) ?_; clear hf a; intro a hf
   refine o_v hf hh (yv_move rfl) ?_; clear hf a; intro a hf
   refine o_v hf hh (yv_nilCheck rfl) ?_; clear hf a; intro a hf
   refine o_v hf hh (yv_fieldAddr Tryz.fo_136_0 rfl) ?_; clear hf a; intro a hf
   refine o_v hf hh (yv_fieldAddr Tryz.fo_25_4 rfl) ?_; clear hf a; intro a hf
   refine o_v hf hh (y_ld Tryz.sc_22 rfl) ?_; clear hf a; intro a hf
   refine o_v hf hh (yv_move rfl) ?_; clear hf a; intro a hf
   refine o_v hf hh (y_ix Tryz.se_22 rfl rfl) ?_; clear hf a; intro a hf
   refine o_v hf hh (yv_fieldAddr Tryz.fo_49_0 rfl) ?_; clear hf a; intro a hf
   refine o_v hf hh (y_ld Tryz.sc_3 rfl) ?_; clear hf a; intro a hf
   refine o_call hf Tryz.en_104 rfl rfl rfl (k104 (m.1 + (wayV t fr v).1, m.2 + (wayV t fr v).2) (sp0 t.light v).1 _) ?_; clear hf a; intro v a w hR hf
   obtain ⟨rfl, hx⟩ := hR; replace hh := hh.more hx; clear hx
   refine o_store hf hh Tryz.sz_131 fun w hh => ?_
   refine o_end ?_
   refine sy_ret ?_
   refine ret_c (vs := [swV (begV t fr v m)]) hf ?_ ?_
   · exact ⟨⟨B8, 0, _, _, _, rfl, hh.at (i := 1) rfl, .inr ⟨2, _, Tryz.ag_131, rfl, rfl⟩⟩, True.intro⟩
   · exact ⟨rfl, hh.ext⟩
  ·have hG2 := hg2; try simp only [gS] at hG2
   refine sy_skip ?_
   refine then_n ?_
   refine sy_seq ?_
   replace hh : Hp u [] [(B9, .cells #[.int .i64 (wayV t fr v).1, .int .i64 (wayV t fr v).2] 49), (B8, .cells #[.int .i64 0, .int .i64 0] 131), (B7, .cells #[.int .i64 m.1, .int .i64 m.2] 131)] w := by
     unfold wayV
     first
     | (rw [if_pos (by omega)]; exact hh)
     | (rw [if_neg (by omega)]; exact hh)
   
   refine sy_ops ?_
   refine o_v hf hh (y_lds Tryz.ag_131 rfl) ?_; clear hf a; intro a hf
   refine o_v hf hh (y_lds Tryz.ag_49 rfl) ?_; clear hf a; intro a hf
   refine o_call hf Tryz.en_75 rfl rfl rfl (k75 m (wayV t fr v) _ (by omega) (by omega) (by omega) (by omega)) ?_; clear hf a; intro v a w hR hf
   obtain ⟨rfl, hx⟩ := hR; replace hh := hh.more hx; clear hx
   refine o_v hf hh (yv_makeFunc rfl rfl) ?_; clear hf a; intro a hf
   refine o_v hf hh (yv_assign rfl) ?_; clear hf a; intro a hf
   refine o_end ?_
   refine sy_sq ?_
   refine o_v hf hh (yv_move rfl) ?_; clear hf a; intro a hf
   refine o_v hf hh (yv_move rfl) ?_; clear hf a; intro a hf
   refine o_v hf hh (yv_nilCheck rfl) ?_; clear hf a; intro a hf
   refine o_v hf hh (yv_fieldAddr Tryz.fo_136_0 rfl) ?_; clear hf a; intro a hf
   refine o_v hf hh (yv_fieldAddr Tryz.fo_25_4 rfl) ?_; clear hf a; intro a hf
   refine o_v hf hh (y_ld Tryz.sc_22 rfl) ?_; clear hf a; intro a hf
   refine o_v hf hh (yv_move rfl) ?_; clear hf a; intro a hf
   refine o_v hf hh (y_ix Tryz.se_22 rfl rfl) ?_; clear hf a; intro a hf
   refine o_v hf hh (yv_fieldAddr Tryz.fo_49_0 rfl) ?_; clear hf a; intro a hf
   refine o_v hf hh (y_ld Tryz.sc_3 rfl) ?_; clear hf a; intro a hf
   refine o_call hf Tryz.en_104 rfl rfl rfl (k104 (m.1 + (wayV t fr v).1, m.2 + (wayV t fr v).2) (sp0 t.light v).1 _) ?_; clear hf a; intro v a w hR hf
   obtain ⟨rfl, hx⟩ := hR; replace hh := hh.more hx; clear hx
   refine o_store hf hh Tryz.sz_131 fun w hh => ?_
   refine o_end ?_
   refine sy_ret ?_
   refine ret_c (vs := [swV (begV t fr v m)]) hf ?_ ?_
   · exact ⟨⟨B8, 0, _, _, _, rfl, hh.at (i := 1) rfl, .inr ⟨2, _, Tryz.ag_131, rfl, rfl⟩⟩, True.intro⟩
   · exact ⟨rfl, hh.ext⟩
end Go.Proofs.YtccpgpnekoncoaaGreat

namespace Go.WalM
open Go Go.Sy
def ints (l : List Nat) : List Int := l.map fun v => ((v : Nat) : Int)
theorem ints_len (l : List Nat) : (ints l).length = l.length := List.length_map _
theorem ints_at {l : List Nat} {i x : Nat} (h : l[i]? = some x) : (ints l)[i]? = some ((x : Nat) : Int) := by unfold ints; rw [List.getElem?_map, h]; rfl
/-- A plan, and where its order lies. -/
abbrev PlnD := PlanD × Option Addr × Nat
abbrev plnC (p : PlnD) : List Value := [.slice p.2.1 p.1.1.length p.2.2, .int .i64 p.1.2]
abbrev plnV (p : PlnD) : Value := .agg #[.slice p.2.1 p.1.1.length p.2.2, .int .i64 p.1.2]
def PlnAt (w : World) (p : PlnD) : Prop := VwAt w p.2.1 (ints p.1.1)
theorem PlnAt.ext {w w' : World} {p : PlnD} (h : PlnAt w p) (e : Ext [] w w') : PlnAt w' p := VwAt.ext h e
theorem vw_at {w : World} {sa : Option Addr} {l : List Nat} (h : VwAt w sa (ints l)) {i x : Nat} (hi : l[i]? = some x) : ∃ blk off c T fr, sa = some ⟨blk, off, none⟩ ∧ w.heap[blk]? = some (.cells c T fr) ∧ c[off + ((i : Nat) : Int).toNat * 1]? = some (.int .i64 ((x : Nat) : Int)) := h i _ (ints_at hi)
theorem cmpL_step {l m : List Nat} {i x y : Nat} (hx : l[i]? = some x) (hy : m[i]? = some y) : cmpL (l.drop i) (m.drop i) = if cmpI x y ≠ 0 then cmpI x y else cmpL (l.drop (i + 1)) (m.drop (i + 1)) := by
  rw [List.drop_eq_getElem_cons (len_ofW hx), List.drop_eq_getElem_cons (len_ofW hy), (List.getElem?_eq_some_iff.1 hx).2, (List.getElem?_eq_some_iff.1 hy).2]; rfl
theorem cmpL_more {l m : List Nat} {i x : Nat} (hx : l[i]? = some x) (hy : m.length ≤ i) : cmpL (l.drop i) (m.drop i) = 1 := by
  rw [List.drop_eq_getElem_cons (len_ofW hx), List.drop_eq_nil_of_le hy]; rfl
theorem cmpL_end {l m : List Nat} {i : Nat} (hl : l.length ≤ i) : cmpL (l.drop i) (m.drop i) = if i < m.length then -1 else 0 := by
  rw [List.drop_eq_nil_of_le hl]
  split
  · rename_i h
    rw [List.drop_eq_getElem_cons h]; rfl
  · rename_i h
    rw [List.drop_eq_nil_of_le (by omega)]; rfl
end Go.WalM

namespace Go.Proofs.YtccpgpnekoncoaaGreat
open Go Go.Sy Go.WalM
theorem k121 (x : Int) (u : World) : Calls Tryz.prog 121 #[.int .i64 x] u (Ret fun v w' => v = .bool false ∧ Ext [] u w') := by
  refine calls_of Tryz.func121 rfl rfl (fun a hf => ?_)
  have hh := Hp.init u []
  refine sy_sq ?_
  refine o_v hf hh (yv_assign rfl) ?_; clear hf a; intro a hf
  refine o_end ?_
  refine sy_sq ?_
  refine o_v hf hh (yv_move rfl) ?_; clear hf a; intro a hf
  refine o_v hf hh (yv_move rfl) ?_; clear hf a; intro a hf
  refine o_v hf hh (yv_bin rfl rfl rfl) ?_; clear hf a; intro a hf
  refine o_v hf hh (yv_assign rfl) ?_; clear hf a; intro a hf
  refine o_end ?_
  refine sy_ret ?_
  refine ret_r hf rfl rfl ?_
  exact ⟨by simp [tup], hh.ext⟩
theorem k87 (x y : Int) (u : World) : Calls Tryz.prog 87 #[.int .i64 x, .int .i64 y] u (Ret fun v w' => v = .int .i64 (cmpI x y) ∧ Ext [] u w') := by
  refine calls_of Tryz.func87 rfl rfl (fun a hf => ?_)
  have hh := Hp.init u []
  unfold cmpI
  refine sy_sq ?_
  refine o_v hf hh (yv_assign rfl) ?_; clear hf a; intro a hf
  refine o_end ?_
  refine sy_sq ?_
  refine o_v hf hh (yv_move rfl) ?_; clear hf a; intro a hf
  refine o_call hf Tryz.en_121 rfl rfl rfl (k121 _ _) ?_; clear hf a; intro v a w hR hf
  obtain ⟨rfl, hx⟩ := hR; replace hh := hh.more hx; clear hx
  refine o_v hf hh (yv_assign rfl) ?_; clear hf a; intro a hf
  refine o_end ?_
  refine sy_sq ?_
  refine o_v hf hh (yv_move rfl) ?_; clear hf a; intro a hf
  refine o_call hf Tryz.en_121 rfl rfl rfl (k121 _ _) ?_; clear hf a; intro v a w hR hf
  obtain ⟨rfl, hx⟩ := hR; replace hh := hh.more hx; clear hx
  refine o_v hf hh (yv_assign rfl) ?_; clear hf a; intro a hf
  refine o_end ?_
  refine sy_seq ?_
  refine sy_sq ?_
  refine o_v hf hh (yv_move rfl) ?_; clear hf a; intro a hf
  refine o_end ?_
  refine c_f hf ?_
  refine sy_skip ?_
  refine then_n ?_
  refine sy_seq ?_
  refine sy_sq ?_
  refine o_v hf hh (yv_move rfl) ?_; clear hf a; intro a hf
  refine o_end ?_
  refine c_f hf ?_
  refine sy_skip ?_
  refine then_n ?_
  refine sy_seq ?_
  refine sy_sq ?_
  refine o_v hf hh (yv_move rfl) ?_; clear hf a; intro a hf
  refine o_v hf hh (yv_move rfl) ?_; clear hf a; intro a hf
  refine o_v hf hh (yv_bin rfl rfl rfl) ?_; clear hf a; intro a hf
  refine o_end ?_
  refine sy_cond hf rfl (fun hg4 => ?_) (fun hg4 => ?_)
  ·have hG4 := hg4; try simp only [gS] at hG4
   refine sy_sq ?_
   refine o_v hf hh (yv_assign rfl) ?_; clear hf a; intro a hf
   refine o_end ?_
   refine sy_ret ?_
   refine then_r ?_
   refine ret_r hf rfl rfl ?_
   refine ⟨congrArg (Value.int .i64) ?_, hh.ext⟩
   first
     | (rw [if_pos (by omega)]; done)
     | (rw [if_neg (by omega), if_pos (by omega)]; done)
     | (rw [if_neg (by omega), if_neg (by omega)]; done)
  ·have hG4 := hg4; try simp only [gS] at hG4
   refine sy_skip ?_
   refine then_n ?_
   refine sy_seq ?_
   refine sy_sq ?_
   refine o_v hf hh (yv_move rfl) ?_; clear hf a; intro a hf
   refine o_v hf hh (yv_move rfl) ?_; clear hf a; intro a hf
   refine o_v hf hh (yv_bin rfl rfl rfl) ?_; clear hf a; intro a hf
   refine o_end ?_
   refine sy_cond hf rfl (fun hg6 => ?_) (fun hg6 => ?_)
   ·have hG6 := hg6; try simp only [gS] at hG6
    refine sy_sq ?_
    refine o_v hf hh (yv_assign rfl) ?_; clear hf a; intro a hf
    refine o_end ?_
    refine sy_ret ?_
    refine then_r ?_
    refine ret_r hf rfl rfl ?_
    refine ⟨congrArg (Value.int .i64) ?_, hh.ext⟩
    first
      | (rw [if_pos (by omega)]; done)
      | (rw [if_neg (by omega), if_pos (by omega)]; done)
      | (rw [if_neg (by omega), if_neg (by omega)]; done)
   ·have hG6 := hg6; try simp only [gS] at hG6
    refine sy_skip ?_
    refine then_n ?_
    refine sy_sq ?_
    refine o_v hf hh (yv_assign rfl) ?_; clear hf a; intro a hf
    refine o_end ?_
    refine sy_ret ?_
    refine ret_r hf rfl rfl ?_
    refine ⟨congrArg (Value.int .i64) ?_, hh.ext⟩
    first
      | (rw [if_pos (by omega)]; done)
      | (rw [if_neg (by omega), if_pos (by omega)]; done)
      | (rw [if_neg (by omega), if_neg (by omega)]; done)
theorem k138 (p : PlnD) (u : World) (hl : p.1.1.length ≤ 1000) : Calls Tryz.prog 138 #[plnV p] u (Ret fun v w' => v = .int .i64 (-((p.1.1.length : Nat) : Int)) ∧ Ext [] u w') := by
  refine calls_of Tryz.func138 rfl rfl (fun a hf => ?_)
  have hh := Hp.init u []
  refine sy_sq ?_
  refine o_box hf hh ?_; clear hf hh a; intro B1 a w hf hh
  refine o_v hf hh (yv_assign rfl) ?_; clear hf a; intro a hf
  refine o_end ?_
  refine sy_sq ?_
  refine o_v hf hh (yv_fieldAddr Tryz.fo_74_0 rfl) ?_; clear hf a; intro a hf
  refine o_v hf hh (y_ld Tryz.sc_28 rfl) ?_; clear hf a; intro a hf
  refine o_v hf hh (yv_len Tryz.se_28 rfl) ?_; clear hf a; intro a hf
  refine o_v hf hh (yv_neg rfl (by omega) (by omega)) ?_; clear hf a; intro a hf
  refine o_v hf hh (yv_assign rfl) ?_; clear hf a; intro a hf
  refine o_end ?_
  refine sy_ret ?_
  refine ret_r hf rfl rfl ?_
  exact ⟨rfl, hh.ext⟩
theorem k139 (p : PlnD) (u : World) : Calls Tryz.prog 139 #[plnV p] u (Ret fun v w' => v = .int .i64 p.1.2 ∧ Ext [] u w') := by
  refine calls_of Tryz.func139 rfl rfl (fun a hf => ?_)
  have hh := Hp.init u []
  refine sy_sq ?_
  refine o_box hf hh ?_; clear hf hh a; intro B1 a w hf hh
  refine o_v hf hh (yv_assign rfl) ?_; clear hf a; intro a hf
  refine o_end ?_
  refine sy_sq ?_
  refine o_v hf hh (yv_fieldAddr Tryz.fo_74_1 rfl) ?_; clear hf a; intro a hf
  refine o_v hf hh (y_ld Tryz.sc_3 rfl) ?_; clear hf a; intro a hf
  refine o_v hf hh (yv_assign rfl) ?_; clear hf a; intro a hf
  refine o_end ?_
  refine sy_ret ?_
  refine ret_r hf rfl rfl ?_
  exact ⟨rfl, hh.ext⟩
theorem k105 (u : World) : Calls Tryz.prog 105 #[] u (Ret fun v w' => ∃ B, v = .slice (some ⟨B, 0, none⟩) 2 2 ∧ Hp u [] [(B, .cells #[.func (.func 138) #[] #[], .func (.func 139) #[] #[]] 189)] w') := by
  refine calls_of Tryz.func105 rfl rfl (fun a hf => ?_)
  have hh := Hp.init u []
  refine sy_sq ?_
  refine o_v hf hh (yv_assign rfl) ?_; clear hf a; intro a hf
  refine o_end ?_
  refine sy_sq ?_
  refine o_v hf hh (yv_buildS Tryz.bs_189 rfl rfl) ?_; clear hf a; intro a hf
  refine o_v hf hh (yv_buildS Tryz.bs_189 rfl rfl) ?_; clear hf a; intro a hf
  refine ops_buildSl hf hh Tryz.bl_185_2 rfl rfl (.inl rfl) rfl ?_; clear hf hh; clear a; intro B3 a w hf hh
  refine o_v hf hh (yv_assign rfl) ?_; clear hf a; intro a hf
  refine o_end ?_
  refine sy_ret ?_
  refine ret_r hf rfl rfl ?_
  exact ⟨_, rfl, hh⟩
theorem k106 (l m : List Nat) (sa sb : Option Addr) (ca cb : Nat) (u : World) (hA : VwAt u sa (ints l)) (hB : VwAt u sb (ints m)) (hl : l.length ≤ 1000) (hm : m.length ≤ 1000) : Calls Tryz.prog 106 #[.slice sa l.length ca, .slice sb m.length cb] u (Ret fun v w' => v = .int .i64 (cmpL l m) ∧ Ext [] u w') := by
  refine calls_of Tryz.func106 rfl rfl (fun a hf => ?_)
  have hh := Hp.init u []
  refine sy_sq ?_
  refine o_v hf hh (yv_assign rfl) ?_; clear hf a; intro a hf
  refine o_end ?_
  refine sy_seq ?_
  refine sy_sq ?_
  refine o_v hf hh (yv_move rfl) ?_; clear hf a; intro a hf
  refine o_v hf hh (yv_len Tryz.se_28 rfl) ?_; clear hf a; intro a hf
  refine o_v hf hh (yv_move rfl) ?_; clear hf a; intro a hf
  refine o_end ?_
  refine sy_block ?_
  refine sy_loopF (σ := Nat) [4, 5, 6, 7, 8, 11, 12, 13, 14, 15, 16, 17, 18, 19, 20, 21, 22, 23, 24, 25, 26, 27, 28, 29, 30] (fun i => [(11, .int .i64 (i : Nat))]) (fun i => i ≤ l.length ∧ cmpL l m = cmpL (l.drop i) (m.drop i)) (fun i => l.length - i) (0) hf hh ?_ ?_ ?_
  · repeat' (first | exact True.intro | refine And.intro rfl ?_)
  · exact ⟨Nat.zero_le _, rfl⟩
  ·rintro i a w ⟨hi, hq⟩ hf hh
   refine sy_sq ?_
   refine o_v hf hh (yv_bin rfl rfl rfl) ?_; clear hf a; intro a hf
   refine o_end ?_
   refine sy_seq ?_
   refine sy_cond hf rfl (fun hg2 => ?_) (fun hg2 => ?_)
   ·have hG2 := hg2; try simp only [gS] at hG2
    refine sy_skip ?_
    refine then_n ?_
    refine sy_seq ?_
    refine sy_block ?_
    refine sy_seq ?_
    obtain ⟨x, hx⟩ := ex_ofW (l := l) (i := i) (by omega)
    obtain ⟨blk1, off1, cc1, T1, fr1, e1, hb1, hc1⟩ := vw_at hA hx; subst e1
    refine sy_ops ?_
    refine o_v hf hh (yv_move rfl) ?_; clear hf a; intro a hf
    refine o_v hf hh (y_ix Tryz.se_28 rfl rfl) ?_; clear hf a; intro a hf
    refine o_v hf hh (y_ld Tryz.sc_3 rfl) ?_; clear hf a; intro a hf
    refine o_v hf hh (yv_assign rfl) ?_; clear hf a; intro a hf
    refine o_v hf hh (yv_assign rfl) ?_; clear hf a; intro a hf
    refine o_end ?_
    refine sy_seq ?_
    refine sy_sq ?_
    refine o_v hf hh (yv_move rfl) ?_; clear hf a; intro a hf
    refine o_v hf hh (yv_move rfl) ?_; clear hf a; intro a hf
    refine o_v hf hh (yv_len Tryz.se_28 rfl) ?_; clear hf a; intro a hf
    refine o_v hf hh (yv_bin rfl rfl rfl) ?_; clear hf a; intro a hf
    refine o_end ?_
    refine sy_cond hf rfl (fun hg4 => ?_) (fun hg4 => ?_)
    ·have hG4 := hg4; try simp only [gS] at hG4
     refine sy_sq ?_
     refine o_v hf hh (yv_assign rfl) ?_; clear hf a; intro a hf
     refine o_end ?_
     refine sy_ret ?_
     refine then_r ?_
     refine blk_r ?_
     refine then_r ?_
     refine then_r ?_
     refine blk_r ?_
     refine then_r ?_
     refine ret_r hf rfl rfl ?_
     exact ⟨congrArg (Value.int .i64) (by rw [hq, cmpL_more hx (by omega)]), hh.ext⟩
    ·have hG4 := hg4; try simp only [gS] at hG4
     refine sy_skip ?_
     refine then_n ?_
     refine sy_seq ?_
     obtain ⟨y, hy⟩ := ex_ofW (l := m) (i := i) (by omega)
     obtain ⟨blk2, off2, cc2, T2, fr2, e2, hb2, hc2⟩ := vw_at hB hy; subst e2
     refine sy_ops ?_
     refine o_v hf hh (yv_move rfl) ?_; clear hf a; intro a hf
     refine o_v hf hh (yv_move rfl) ?_; clear hf a; intro a hf
     refine o_v hf hh (y_ix Tryz.se_28 rfl rfl) ?_; clear hf a; intro a hf
     refine o_v hf hh (y_ld Tryz.sc_3 rfl) ?_; clear hf a; intro a hf
     refine o_v hf hh (yv_assign rfl) ?_; clear hf a; intro a hf
     refine o_end ?_
     refine sy_sq ?_
     refine o_v hf hh (yv_move rfl) ?_; clear hf a; intro a hf
     refine o_v hf hh (yv_move rfl) ?_; clear hf a; intro a hf
     refine o_call hf Tryz.en_87 rfl rfl rfl (k87 _ _ _) ?_; clear hf a; intro v a w hR hf
     obtain ⟨rfl, hx⟩ := hR; replace hh := hh.more hx; clear hx
     refine o_v hf hh (yv_assign rfl) ?_; clear hf a; intro a hf
     refine o_end ?_
     refine sy_sq ?_
     refine o_v hf hh (yv_move rfl) ?_; clear hf a; intro a hf
     refine o_v hf hh (yv_bin rfl rfl rfl) ?_; clear hf a; intro a hf
     refine o_end ?_
     refine sy_cond hf rfl (fun hg7 => ?_) (fun hg7 => ?_)
     ·have hG7 := hg7; try simp only [gS] at hG7
      refine sy_sq ?_
      refine o_v hf hh (yv_move rfl) ?_; clear hf a; intro a hf
      refine o_v hf hh (yv_assign rfl) ?_; clear hf a; intro a hf
      refine o_end ?_
      refine sy_ret ?_
      refine blk_r ?_
      refine then_r ?_
      refine then_r ?_
      refine blk_r ?_
      refine then_r ?_
      refine ret_r hf rfl rfl ?_
      exact ⟨congrArg (Value.int .i64) (by rw [hq, cmpL_step hx hy, if_pos (by assumption)]), hh.ext⟩
     ·have hG7 := hg7; try simp only [gS] at hG7
      refine sy_skip ?_
      refine blk_n ?_
      refine then_n ?_
      refine sy_ops ?_
      refine o_v hf hh (y_add rfl rfl) ?_; clear hf a; intro a hf
      refine o_v hf hh (yv_move rfl) ?_; clear hf a; intro a hf
      refine ops_end ?_
      refine then_n ?_
      exact ⟨i + 1, ⟨⟨by omega, by rw [hq, cmpL_step hx hy, if_neg (by simp_all)]⟩, (hf.head (by repeat' (first | exact True.intro | refine And.intro rfl ?_)) (Keep.cons rfl (Keep.cons rfl (Keep.cons rfl (Keep.cons rfl (Keep.cons rfl (Keep.cons rfl (Keep.cons rfl (Keep.cons rfl (Keep.cons rfl (Keep.cons rfl (Keep.cons rfl (Keep.cons rfl (Keep.cons rfl (Keep.cons rfl (Keep.cons rfl (Keep.cons rfl (Keep.cons rfl (Keep.cons rfl (Keep.cons rfl (Keep.cons rfl (Keep.cons rfl (Keep.cons rfl (Keep.cons rfl (Keep.app rfl (Keep.rm rfl Keep.base)))))))))))))))))))))))))), hh⟩, by omega⟩
   ·have hG2 := hg2; try simp only [gS] at hG2
    refine sy_exit ?_
    refine then_e ?_
    refine then_e ?_
    refine blk_e ?_
    refine then_n ?_
    refine sy_seq ?_
    refine sy_sq ?_
    refine o_v hf hh (yv_move rfl) ?_; clear hf a; intro a hf
    refine o_v hf hh (yv_len Tryz.se_28 rfl) ?_; clear hf a; intro a hf
    refine o_v hf hh (yv_move rfl) ?_; clear hf a; intro a hf
    refine o_v hf hh (yv_len Tryz.se_28 rfl) ?_; clear hf a; intro a hf
    refine o_v hf hh (yv_bin rfl rfl rfl) ?_; clear hf a; intro a hf
    refine o_end ?_
    refine sy_cond hf rfl (fun hg9 => ?_) (fun hg9 => ?_)
    ·have hG9 := hg9; try simp only [gS] at hG9
     refine sy_sq ?_
     refine o_v hf hh (yv_assign rfl) ?_; clear hf a; intro a hf
     refine o_end ?_
     refine sy_ret ?_
     refine then_r ?_
     refine ret_r hf rfl rfl ?_
     exact ⟨congrArg (Value.int .i64) (by rw [hq, cmpL_end (by omega), if_pos (by omega)]), hh.ext⟩
    ·have hG9 := hg9; try simp only [gS] at hG9
     refine sy_skip ?_
     refine then_n ?_
     refine sy_sq ?_
     refine o_v hf hh (yv_assign rfl) ?_; clear hf a; intro a hf
     refine o_end ?_
     refine sy_ret ?_
     refine ret_r hf rfl rfl ?_
     exact ⟨congrArg (Value.int .i64) (by rw [hq, cmpL_end (by omega), if_neg (by omega)]), hh.ext⟩
end Go.Proofs.YtccpgpnekoncoaaGreat

namespace Go.Proofs.YtccpgpnekoncoaaGreat
open Go Go.Sy Go.WalM
def rulV (i : Nat) (p : PlanD) : Int := if i = 0 then -((p.1.length : Nat) : Int) else p.2
def ruF (i : Nat) : Nat := if i = 0 then 138 else 139
theorem ruF_en (i : Nat) : Enters Tryz.prog (ruF i) := by
  unfold ruF
  split
  · exact Tryz.en_138
  · exact Tryz.en_139
theorem ruF_call (i : Nat) (p : PlnD) (u : World) (hl : p.1.1.length ≤ 1000) : Calls Tryz.prog (ruF i) #[plnV p] u (Ret fun v w' => v = .int .i64 (rulV i p.1) ∧ Ext [] u w') := by
  unfold ruF rulV
  split
  · exact k138 p u hl
  · exact k139 p u
theorem ruF_at {i : Nat} (h : i < 2) : cellsAt #[Value.func (.func 138) #[] #[], .func (.func 139) #[] #[]] (0 + ((i : Nat) : Int).toNat * 1) 1 = some [.func (.func (ruF i)) #[] #[]] := by
  rcases (show i = 0 ∨ i = 1 by omega) with rfl | rfl <;> rfl
theorem bet_end {p q : PlanD} (h : ∀ j, j < 2 → cmpI (rulV j p) (rulV j q) = 0) : betP p q = cmpL p.1 q.1 := by
  have h0 := h 0 (by omega)
  have h1 := h 1 (by omega)
  unfold rulV at h0 h1
  rw [if_pos rfl, if_pos rfl] at h0
  rw [if_neg (by omega), if_neg (by omega)] at h1
  unfold betP
  rw [h0, h1, if_neg (by decide), if_neg (by decide)]
theorem bet_hit {p q : PlanD} {i : Nat} (h : ∀ j, j < i → cmpI (rulV j p) (rulV j q) = 0) (hi : i < 2) (hn : cmpI (rulV i p) (rulV i q) ≠ 0) : betP p q = cmpI (rulV i p) (rulV i q) := by
  rcases (show i = 0 ∨ i = 1 by omega) with rfl | rfl
  · unfold rulV at hn ⊢
    rw [if_pos rfl, if_pos rfl] at hn ⊢
    unfold betP
    rw [if_pos hn]
  · have h0 := h 0 (by omega)
    unfold rulV at h0 hn ⊢
    rw [if_pos rfl, if_pos rfl] at h0
    rw [if_neg (by omega), if_neg (by omega)] at hn ⊢
    unfold betP
    rw [h0, if_neg (by decide), if_pos hn]
set_option maxRecDepth 100000 in
theorem k77 (p q : PlnD) (u : World) (hA : PlnAt u p) (hB : PlnAt u q) (lp : p.1.1.length ≤ 1000) (lq : q.1.1.length ≤ 1000) : Calls Tryz.prog 77 #[plnV p, plnV q] u (Ret fun v w' => v = .int .i64 (betP p.1 q.1) ∧ Ext [] u w') := by
  refine calls_of Tryz.func77 rfl rfl (fun a hf => ?_)
  have hh := Hp.init u []
  refine sy_sq ?_
  refine o_box hf hh ?_; clear hf hh a; intro B2 a w hf hh
  refine o_box hf hh ?_; clear hf hh a; intro B3 a w hf hh
  refine o_v hf hh (yv_assign rfl) ?_; clear hf a; intro a hf
  refine o_end ?_
  refine sy_seq ?_
  refine sy_sq ?_
  refine o_call hf Tryz.en_105 rfl rfl rfl (k105 _) ?_; clear hf a; intro v a w hR hf
  obtain ⟨Bs, rfl, hx⟩ := hR; replace hh := hh.join hx; clear hx
  replace hh : Hp u [] [(Bs, .cells #[.func (.func 138) #[] #[], .func (.func 139) #[] #[]] 189), (B3, .cells #[.slice q.2.1 q.1.1.length q.2.2, .int .i64 q.1.2] 74), (B2, .cells #[.slice p.2.1 p.1.1.length p.2.2, .int .i64 p.1.2] 74)] w := hh
  refine o_v hf hh (yv_len Tryz.se_185 rfl) ?_; clear hf a; intro a hf
  refine o_v hf hh (yv_move rfl) ?_; clear hf a; intro a hf
  refine o_end ?_
  refine sy_block ?_
  refine sy_loopF (σ := Nat) [4, 6, 7, 10, 11, 12, 13, 14, 15, 16, 17, 18, 19, 20, 21, 22, 23, 24, 25, 26] (fun i => [(10, .int .i64 (i : Nat))]) (fun i => i ≤ 2 ∧ ∀ j, j < i → cmpI (rulV j p.1) (rulV j q.1) = 0) (fun i => 2 - i) (0) hf hh ?_ ?_ ?_
  · repeat' (first | exact True.intro | refine And.intro rfl ?_)
  · exact ⟨Nat.zero_le _, fun j hj => absurd hj (Nat.not_lt_zero _)⟩
  ·rintro i a w ⟨hi, hq⟩ hf hh
   refine sy_sq ?_
   refine o_v hf hh (yv_bin rfl rfl rfl) ?_; clear hf a; intro a hf
   refine o_end ?_
   refine sy_seq ?_
   refine sy_cond hf rfl (fun hg3 => ?_) (fun hg3 => ?_)
   ·have hG3 := hg3; try simp only [gS] at hG3
    refine sy_skip ?_
    refine then_n ?_
    refine sy_seq ?_
    refine sy_block ?_
    refine sy_seq ?_
    have hci := ruF_at (i := i) (by omega)
    refine sy_ops ?_
    refine o_v hf hh (y_ix Tryz.se_185 rfl rfl) ?_; clear hf a; intro a hf
    refine o_v hf hh (y_lds Tryz.ag_189 rfl (hb := fun _ h => h.get (Bs, .cells #[.func (.func 138) #[] #[], .func (.func 139) #[] #[]] 189) (by simp)) (hv := hci)) ?_; clear hf a; intro a hf
    refine o_alloc hf hh Tryz.ze_189 ?_; clear hf hh a; intro B6 a w hf hh
    refine o_store hf hh Tryz.sz_189 fun w hh => ?_
    refine o_end ?_
    refine sy_seq ?_
    replace hh : Hp u [] [(B6, .cells #[.func (.func (ruF i)) #[] #[]] 189), (Bs, .cells #[.func (.func 138) #[] #[], .func (.func 139) #[] #[]] 189), (B3, .cells #[.slice q.2.1 q.1.1.length q.2.2, .int .i64 q.1.2] 74), (B2, .cells #[.slice p.2.1 p.1.1.length p.2.2, .int .i64 p.1.2] 74)] w := hh
    refine sy_treeC (.p 0 (.q 0 1 (.q 0 2 (.p 4 (.q 0 5 (.q 0 6 (.e1 3 (.e1 7 (.e1 8 (.p 9 (.fin))))))))))) [[]] [(AtE u [] [(B6, .cells #[.func (.func (ruF i)) #[] #[]] 189), (Bs, .cells #[.func (.func 138) #[] #[], .func (.func 139) #[] #[]] 189), (B3, .cells #[.slice q.2.1 q.1.1.length q.2.2, .int .i64 q.1.2] 74), (B2, .cells #[.slice p.2.1 p.1.1.length p.2.2, .int .i64 p.1.2] 74)], [])] Tryz.follows (by kernel_rfl) rfl hh (fun w hh => ?_)
    refine mc_p rfl   hf (yv_fieldAddr Tryz.fo_189_0 rfl) (.inl rfl) rfl rfl ?_; clear hf a; intro a hf
    refine mc_q rfl rfl (AtE.of hh (fun q hq => hq)) hf (y_ld Tryz.sc_187 rfl) (.inl rfl) rfl rfl ?_; clear hf a; intro a hf
    refine mc_q rfl rfl (AtE.of hh (fun q hq => hq)) hf (y_lds Tryz.ag_74 rfl) (.inl rfl) rfl rfl ?_; clear hf a; intro a hf
    refine mc_p rfl   hf (yv_fieldAddr Tryz.fo_189_0 rfl) (.inl rfl) rfl rfl ?_; clear hf a; intro a hf
    refine mc_q rfl rfl (AtE.of hh (fun q hq => hq)) hf (y_ld Tryz.sc_187 rfl) (.inl rfl) rfl rfl ?_; clear hf a; intro a hf
    refine mc_q rfl rfl (AtE.of hh (fun q hq => hq)) hf (y_lds Tryz.ag_74 rfl) (.inl rfl) rfl rfl ?_; clear hf a; intro a hf
    refine mc_e rfl fun Q1 => ?_
    refine o_call hf (ruF_en i) rfl rfl rfl (ruF_call i p _ lp) ?_; clear hf a; intro v a w hR hf
    obtain ⟨rfl, hx⟩ := hR; replace hh := hh.more hx; clear hx
    refine ops_end ?_
    refine then_n ⟨⟨fun _ _ => (AtE.of hh (fun q hq => hq)), trivial⟩, ?_⟩
    refine mc_e rfl fun Q1 => ?_
    refine o_call hf (ruF_en i) rfl rfl rfl (ruF_call i q _ lq) ?_; clear hf a; intro v a w hR hf
    obtain ⟨rfl, hx⟩ := hR; replace hh := hh.more hx; clear hx
    refine ops_end ?_
    refine then_n ⟨⟨fun _ _ => (AtE.of hh (fun q hq => hq)), trivial⟩, ?_⟩
    refine mc_e rfl fun Q1 => ?_
    refine o_call hf Tryz.en_87 rfl rfl rfl (k87 _ _ _) ?_; clear hf a; intro v a w hR hf
    obtain ⟨rfl, hx⟩ := hR; replace hh := hh.more hx; clear hx
    refine ops_end ?_
    refine then_n ⟨⟨fun _ _ => (AtE.of hh (fun q hq => hq)), trivial⟩, ?_⟩
    refine mc_p rfl   hf (yv_assign rfl) (.inl rfl) rfl rfl ?_; clear hf a; intro a hf
    refine mc_end ?_
    refine then_n ?_
    refine sy_sq ?_
    refine o_v hf hh (yv_move rfl) ?_; clear hf a; intro a hf
    refine o_v hf hh (yv_bin rfl rfl rfl) ?_; clear hf a; intro a hf
    refine o_end ?_
    refine sy_cond hf rfl (fun hg10 => ?_) (fun hg10 => ?_)
    ·have hG10 := hg10; try simp only [gS] at hG10
     refine sy_sq ?_
     refine o_v hf hh (yv_move rfl) ?_; clear hf a; intro a hf
     refine o_v hf hh (yv_assign rfl) ?_; clear hf a; intro a hf
     refine o_end ?_
     refine sy_ret ?_
     refine blk_r ?_
     refine then_r ?_
     refine then_r ?_
     refine blk_r ?_
     refine then_r ?_
     refine ret_r hf rfl rfl ?_
     exact ⟨congrArg (Value.int .i64) (bet_hit hq (by omega) (by assumption)).symm, hh.ext⟩
    ·have hG10 := hg10; try simp only [gS] at hG10
     refine sy_skip ?_
     refine blk_n ?_
     refine then_n ?_
     refine sy_ops ?_
     refine o_v hf hh (y_add rfl rfl) ?_; clear hf a; intro a hf
     refine o_v hf hh (yv_move rfl) ?_; clear hf a; intro a hf
     refine ops_end ?_
     refine then_n ?_
     exact ⟨i + 1, ⟨⟨by omega, fun j hj => by
       rcases (show j < i ∨ j = i by omega) with h | rfl
       · exact hq j h
       · assumption⟩, (hf.head (by repeat' (first | exact True.intro | refine And.intro rfl ?_)) (Keep.cons rfl (Keep.cons rfl (Keep.cons rfl (Keep.cons rfl (Keep.cons rfl (Keep.cons rfl (Keep.cons rfl (Keep.cons rfl (Keep.cons rfl (Keep.cons rfl (Keep.cons rfl (Keep.cons rfl (Keep.cons rfl (Keep.cons rfl (Keep.cons rfl (Keep.cons rfl (Keep.cons rfl (Keep.cons rfl (Keep.app rfl (Keep.rm rfl Keep.base))))))))))))))))))))), hh.less (.cons _ (List.Sublist.refl _))⟩, by omega⟩
   ·have hG3 := hg3; try simp only [gS] at hG3
    refine sy_exit ?_
    refine then_e ?_
    refine then_e ?_
    refine blk_e ?_
    refine then_n ?_
    refine sy_sq ?_
    refine o_v hf hh (yv_fieldAddr Tryz.fo_74_0 rfl) ?_; clear hf a; intro a hf
    refine o_v hf hh (y_ld Tryz.sc_28 rfl) ?_; clear hf a; intro a hf
    refine o_v hf hh (yv_fieldAddr Tryz.fo_74_0 rfl) ?_; clear hf a; intro a hf
    refine o_v hf hh (y_ld Tryz.sc_28 rfl) ?_; clear hf a; intro a hf
    refine o_call hf Tryz.en_106 rfl rfl rfl (k106 p.1.1 q.1.1 _ _ _ _ _ (hA.ext hh.ext) (hB.ext hh.ext) lp lq) ?_; clear hf a; intro v a w hR hf
    obtain ⟨rfl, hx⟩ := hR; replace hh := hh.more hx; clear hx
    refine o_v hf hh (yv_assign rfl) ?_; clear hf a; intro a hf
    refine o_end ?_
    refine sy_ret ?_
    refine ret_r hf rfl rfl ?_
    obtain rfl : i = 2 := by omega
    exact ⟨congrArg (Value.int .i64) (bet_end hq).symm, hh.ext⟩
end Go.Proofs.YtccpgpnekoncoaaGreat

namespace Go.WalM
open Go Go.Sy
def PlnsAt (w : World) (sa : Option Addr) (l : List PlnD) : Prop :=
  ∀ i s, l[i]? = some s → ∃ blk off c T fr, sa = some ⟨blk, off, none⟩ ∧ w.heap[blk]? = some (.cells c T fr) ∧ cellsAt c (off + ((i : Nat) : Int).toNat * 2) 2 = some (plnC s)
theorem PlnsAt.ext {w w' : World} {sa : Option Addr} {l : List PlnD} (h : PlnsAt w sa l) (e : Ext [] w w') : PlnsAt w' sa l := fun i s hi =>
  let ⟨blk, off, c, T, fr, h1, h2, h3⟩ := h i s hi
  ⟨blk, off, c, T, fr, h1, e.get h2, h3⟩
def leastD (f : PlnD) (l : List PlnD) : PlnD := l.foldl (fun f x => if betP x.1 f.1 < 0 then x else f) f
theorem leastD_snoc {f : PlnD} {l : List PlnD} {i : Nat} {x : PlnD} (h : l[i]? = some x) : leastD f (l.take (i + 1)) = if betP x.1 (leastD f (l.take i)).1 < 0 then x else leastD f (l.take i) := by
  unfold leastD
  rw [take_snoc h, List.foldl_append]; rfl
theorem leastD_mem (f : PlnD) (l : List PlnD) : leastD f l ∈ f :: l := by
  unfold leastD
  induction l generalizing f with
  | nil => exact .head _
  | cons x l ih =>
    rw [List.foldl_cons]
    rcases List.mem_cons.1 (ih (if betP x.1 f.1 < 0 then x else f)) with h | h
    · rw [h]
      split
      · exact .tail _ (.head _)
      · exact .head _
    · exact .tail _ (.tail _ h)
theorem leastD_take (f : PlnD) (l : List PlnD) (i : Nat) : leastD f (l.take i) ∈ f :: l := by
  rcases List.mem_cons.1 (leastD_mem f (l.take i)) with h | h
  · rw [h]; exact .head _
  · exact .tail _ (List.mem_of_mem_take h)
theorem leastD_fst (f : PlnD) (l : List PlnD) : (leastD f l).1 = leastP f.1 (l.map Prod.fst) := by
  unfold leastD leastP
  induction l generalizing f with
  | nil => rfl
  | cons x l ih =>
    rw [List.foldl_cons, List.map_cons, List.foldl_cons, ih]
    congr 1
    split <;> rfl
end Go.WalM

namespace Go.Proofs.YtccpgpnekoncoaaGreat
open Go Go.Sy Go.WalM
set_option maxRecDepth 100000 in
theorem k76 (f : PlnD) (l : List PlnD) (sa : Option Addr) (ca : Nat) (u : World) (hL : PlnsAt u sa l) (hl : l.length ≤ 1000) (hP : ∀ x ∈ f :: l, PlnAt u x ∧ x.1.1.length ≤ 1000) : Calls Tryz.prog 76 #[.func (.func 77) #[] #[], plnV f, .slice sa l.length ca] u (Ret fun v w' => v = plnV (leastD f l) ∧ Ext [] u w') := by
  refine calls_of Tryz.func76 rfl rfl (fun a hf => ?_)
  have hh := Hp.init u []
  refine sy_sq ?_
  refine o_box hf hh ?_; clear hf hh a; intro B4 a w hf hh
  refine o_alloc hf hh Tryz.ze_74 ?_; clear hf hh a; intro B6 a w hf hh
  refine o_end ?_
  refine sy_seq ?_
  refine sy_seq ?_
  replace hh : Hp u [] [(B6, .cells #[.slice none 0 0, .int .i64 0] 74), (B4, .cells #[.slice (leastD f (l.take 0)).2.1 (leastD f (l.take 0)).1.1.length (leastD f (l.take 0)).2.2, .int .i64 (leastD f (l.take 0)).1.2] 74)] w := hh
  refine sy_ops ?_
  refine o_v hf hh (yv_move rfl) ?_; clear hf a; intro a hf
  refine o_v hf hh (yv_len Tryz.se_142 rfl) ?_; clear hf a; intro a hf
  refine o_v hf hh (yv_move rfl) ?_; clear hf a; intro a hf
  refine o_end ?_
  refine sy_block ?_
  refine sy_loopH (σ := Nat) [8, 11, 12, 13, 14, 15, 16, 17, 18, 19, 20, 21] (fun i => [(11, .int .i64 (i : Nat))]) (fun i => fun w => i ≤ l.length ∧ Hp u [] [(B6, .cells #[.slice none 0 0, .int .i64 0] 74), (B4, .cells #[.slice (leastD f (l.take i)).2.1 (leastD f (l.take i)).1.1.length (leastD f (l.take i)).2.2, .int .i64 (leastD f (l.take i)).1.2] 74)] w) (fun i => l.length - i) (0) hf ?_ ?_ ?_
  · repeat' (first | exact True.intro | refine And.intro rfl ?_)
  · exact ⟨Nat.zero_le _, hh⟩
  ·rintro i a w ⟨hi, hh⟩ hf
   refine sy_sq ?_
   refine o_v hf hh (yv_bin rfl rfl rfl) ?_; clear hf a; intro a hf
   refine o_end ?_
   refine sy_seq ?_
   refine sy_cond hf rfl (fun hg2 => ?_) (fun hg2 => ?_)
   ·have hG2 := hg2; try simp only [gS] at hG2
    refine sy_skip ?_
    refine then_n ?_
    refine sy_seq ?_
    refine sy_block ?_
    refine sy_seq ?_
    obtain ⟨x, hx⟩ := ex_ofW (l := l) (i := i) (by omega)
    obtain ⟨blk, off, cc, T, fr, e, hb, hc⟩ := hL i x hx; subst e
    have hpx := hP x (.tail _ (List.mem_of_getElem? hx))
    have hpg := hP _ (leastD_take f l i)
    have hst := leastD_snoc (f := f) hx
    obtain ⟨g, hg⟩ : ∃ g, g = leastD f (l.take i) := ⟨_, rfl⟩
    rw [← hg] at hh hpg hst
    refine sy_ops ?_
    refine o_v hf hh (y_ix Tryz.se_142 rfl rfl) ?_; clear hf a; intro a hf
    refine o_v hf hh (y_lds Tryz.ag_74 rfl) ?_; clear hf a; intro a hf
    refine o_alloc hf hh Tryz.ze_74 ?_; clear hf hh a; intro B8 a w hf hh
    refine o_store hf hh Tryz.sz_74 fun w hh => ?_
    refine o_end ?_
    refine sy_seq ?_
    replace hh : Hp u [] [(B8, .cells #[.slice (x).2.1 (x).1.1.length (x).2.2, .int .i64 (x).1.2] 74), (B6, .cells #[.slice none 0 0, .int .i64 0] 74), (B4, .cells #[.slice (g).2.1 (g).1.1.length (g).2.2, .int .i64 (g).1.2] 74)] w := hh
    refine sy_ops ?_
    refine o_v hf hh (yv_move rfl) ?_; clear hf a; intro a hf
    refine o_v hf hh (y_lds Tryz.ag_74 rfl) ?_; clear hf a; intro a hf
    refine o_v hf hh (y_lds Tryz.ag_74 rfl) ?_; clear hf a; intro a hf
    refine o_call hf Tryz.en_77 rfl rfl rfl (k77 x g _ (hpx.1.ext hh.ext) (hpg.1.ext hh.ext) hpx.2 hpg.2) ?_; clear hf a; intro v a w hR hf
    obtain ⟨rfl, hx2⟩ := hR; replace hh := hh.more hx2; clear hx2
    refine o_v hf hh (yv_bin rfl rfl rfl) ?_; clear hf a; intro a hf
    refine o_end ?_
    refine sy_cond hf rfl (fun hg5 => ?_) (fun hg5 => ?_)
    ·have hG5 := hg5; try simp only [gS] at hG5
     refine sy_ops ?_
     refine o_v hf hh (y_lds Tryz.ag_74 rfl) ?_; clear hf a; intro a hf
     refine o_store hf hh Tryz.sz_74 fun w hh => ?_
     refine ops_end ?_
     refine blk_n ?_
     refine then_n ?_
     first
     | replace hh : Hp u [] [(B8, .cells #[.slice (x).2.1 (x).1.1.length (x).2.2, .int .i64 (x).1.2] 74), (B6, .cells #[.slice none 0 0, .int .i64 0] 74), (B4, .cells #[.slice (leastD f (l.take (i + 1))).2.1 (leastD f (l.take (i + 1))).1.1.length (leastD f (l.take (i + 1))).2.2, .int .i64 (leastD f (l.take (i + 1))).1.2] 74)] w := by rw [hst, if_pos (by omega)]; exact hh
     | replace hh : Hp u [] [(B8, .cells #[.slice (x).2.1 (x).1.1.length (x).2.2, .int .i64 (x).1.2] 74), (B6, .cells #[.slice none 0 0, .int .i64 0] 74), (B4, .cells #[.slice (leastD f (l.take (i + 1))).2.1 (leastD f (l.take (i + 1))).1.1.length (leastD f (l.take (i + 1))).2.2, .int .i64 (leastD f (l.take (i + 1))).1.2] 74)] w := by rw [hst, if_neg (by omega)]; exact hh
     refine sy_ops ?_
     refine o_v hf hh (y_add rfl rfl) ?_; clear hf a; intro a hf
     refine o_v hf hh (yv_move rfl) ?_; clear hf a; intro a hf
     refine ops_end ?_
     refine then_n ?_
     exact ⟨i + 1, ⟨⟨by omega, hh.less (.cons _ (.refl _))⟩, (hf.head (by repeat' (first | exact True.intro | refine And.intro rfl ?_)) (Keep.cons rfl (Keep.cons rfl (Keep.cons rfl (Keep.cons rfl (Keep.cons rfl (Keep.cons rfl (Keep.cons rfl (Keep.cons rfl (Keep.cons rfl (Keep.cons rfl (Keep.cons rfl (Keep.cons rfl (Keep.app rfl (Keep.rm rfl Keep.base)))))))))))))))⟩, by omega⟩
    ·have hG5 := hg5; try simp only [gS] at hG5
     refine sy_skip ?_
     refine blk_n ?_
     refine then_n ?_
     first
     | replace hh : Hp u [] [(B8, .cells #[.slice (x).2.1 (x).1.1.length (x).2.2, .int .i64 (x).1.2] 74), (B6, .cells #[.slice none 0 0, .int .i64 0] 74), (B4, .cells #[.slice (leastD f (l.take (i + 1))).2.1 (leastD f (l.take (i + 1))).1.1.length (leastD f (l.take (i + 1))).2.2, .int .i64 (leastD f (l.take (i + 1))).1.2] 74)] w := by rw [hst, if_pos (by omega)]; exact hh
     | replace hh : Hp u [] [(B8, .cells #[.slice (x).2.1 (x).1.1.length (x).2.2, .int .i64 (x).1.2] 74), (B6, .cells #[.slice none 0 0, .int .i64 0] 74), (B4, .cells #[.slice (leastD f (l.take (i + 1))).2.1 (leastD f (l.take (i + 1))).1.1.length (leastD f (l.take (i + 1))).2.2, .int .i64 (leastD f (l.take (i + 1))).1.2] 74)] w := by rw [hst, if_neg (by omega)]; exact hh
     refine sy_ops ?_
     refine o_v hf hh (y_add rfl rfl) ?_; clear hf a; intro a hf
     refine o_v hf hh (yv_move rfl) ?_; clear hf a; intro a hf
     refine ops_end ?_
     refine then_n ?_
     exact ⟨i + 1, ⟨⟨by omega, hh.less (.cons _ (.refl _))⟩, (hf.head (by repeat' (first | exact True.intro | refine And.intro rfl ?_)) (Keep.cons rfl (Keep.cons rfl (Keep.cons rfl (Keep.cons rfl (Keep.cons rfl (Keep.cons rfl (Keep.cons rfl (Keep.cons rfl (Keep.cons rfl (Keep.cons rfl (Keep.cons rfl (Keep.app rfl (Keep.rm rfl Keep.base))))))))))))))⟩, by omega⟩
   ·have hG2 := hg2; try simp only [gS] at hG2
    refine sy_exit ?_
    refine then_e ?_
    refine then_e ?_
    refine blk_e ?_
    refine then_n ?_
    refine sy_seq ?_
    obtain rfl : i = l.length := by omega
    rw [List.take_length] at hh
    refine sy_ops ?_
    refine o_v hf hh (y_lds Tryz.ag_74 rfl) ?_; clear hf a; intro a hf
    refine o_store hf hh Tryz.sz_74 fun w hh => ?_
    refine o_end ?_
    refine sy_ret ?_
    refine ret_c (vs := [plnV (leastD f l)]) hf ?_ ?_
    · exact ⟨⟨B6, 0, _, _, _, rfl, hh.at (i := 0) rfl, .inr ⟨2, _, Tryz.ag_74, rfl, rfl⟩⟩, True.intro⟩
    · exact ⟨rfl, hh.ext⟩
end Go.Proofs.YtccpgpnekoncoaaGreat

namespace Go.WalM
open Go Go.Sy
/-- How many views have not been seen. -/
def unS (t : TourD) (seen : Nat) : Nat := ((List.range t.n).filter fun v => !seen.testBit v).length
theorem filter_lt {α : Type} {p q : α → Bool} : ∀ {l : List α}, (∀ x, p x = true → q x = true) → ∀ {v : α}, v ∈ l → q v = true → p v = false → (l.filter p).length < (l.filter q).length
  | [], _, v, h, _, _ => by cases h
  | x :: l, hpq, v, h, hq, hp => by
    have hle : ∀ l : List α, (l.filter p).length ≤ (l.filter q).length := by
      intro l
      induction l with
      | nil => exact Nat.le_refl _
      | cons y l ih =>
        rw [List.filter_cons, List.filter_cons]
        cases hy : p y
        · rw [if_neg (by decide)]
          split
          · rw [List.length_cons]; omega
          · exact ih
        · rw [if_pos rfl, if_pos (hpq y hy), List.length_cons, List.length_cons]; omega
    rw [List.filter_cons, List.filter_cons]
    rcases List.mem_cons.1 h with rfl | h
    · rw [if_neg (by rw [hp]; decide), if_pos hq, List.length_cons]
      have := hle l
      omega
    · have ih := filter_lt hpq h hq hp
      cases hx : p x
      · rw [if_neg (by decide)]
        split
        · rw [List.length_cons]; omega
        · exact ih
      · rw [if_pos rfl, if_pos (hpq x hx), List.length_cons, List.length_cons]; omega
theorem unS_less {t : TourD} {seen v : Nat} (hv : v < t.n) (hs : seen.testBit v = false) : unS t (seen ||| 2 ^ v) < unS t seen := by
  unfold unS
  refine filter_lt (fun x hx => ?_) (List.mem_range.2 hv) (by rw [hs]; rfl) (by rw [bit_or]; simp)
  rw [bit_or] at hx
  simp at hx ⊢
  exact hx.1
theorem fm_congr {α β : Type} {f g : α → Option β} : ∀ {l : List α}, (∀ x ∈ l, f x = g x) → l.filterMap f = l.filterMap g
  | [], _ => rfl
  | x :: l, h => by rw [List.filterMap_cons, List.filterMap_cons, h x (.head _), fm_congr fun y hy => h y (.tail _ hy)]
theorem bst_fuel (t : TourD) : ∀ (k j seen : Nat) (fr left : Int), unS t seen ≤ k → unS t seen ≤ j → bstP t k seen fr left = bstP t j seen fr left := by
  have hz : ∀ (j seen : Nat) (fr left : Int), unS t seen = 0 → bstP t j seen fr left = ([], left) := by
    intro j seen fr left h
    cases j with
    | zero => rfl
    | succ j =>
      have : (List.range t.n).filterMap (nextP t (bstP t j) seen fr left) = [] := by
        rw [List.filterMap_eq_nil_iff]
        intro v hv
        unfold nextP
        have h2 : seen.testBit v = true := by
          unfold unS at h
          rw [List.length_eq_zero_iff, List.filter_eq_nil_iff] at h
          have := h v hv
          simpa using this
        rw [if_pos h2]
      rw [bstP, this]; rfl
  intro k
  induction k with
  | zero =>
    intro j seen fr left h _
    rw [hz 0 seen fr left (by omega), hz j seen fr left (by omega)]
  | succ k ih =>
    intro j seen fr left h1 h2
    cases j with
    | zero => rw [hz _ seen fr left (by omega), hz _ seen fr left (by omega)]
    | succ j =>
      rw [bstP, bstP]
      congr 1
      refine fm_congr fun v hv => ?_
      unfold nextP
      cases hs : seen.testBit v
      · have h3 := unS_less (List.mem_range.1 hv) hs
        rw [ih j (seen ||| 2 ^ v) v (aftV t v (begV t fr v (left, left))).2 (by omega) (by omega)]
      · rfl
def bestF (t : TourD) (seen : Nat) (fr left : Int) : PlanD := bstP t (unS t seen) seen fr left
theorem bestF_of {t : TourD} {k seen : Nat} (h : unS t seen ≤ k) (fr left : Int) : bstP t k seen fr left = bestF t seen fr left := bst_fuel t _ _ _ _ _ h (Nat.le_refl _)
theorem bestF_step (t : TourD) (seen : Nat) (fr left : Int) : bestF t seen fr left = leastP ([], left) ((List.range t.n).filterMap (nextP t (bestF t) seen fr left)) := by
  have h := bestF_of (t := t) (k := unS t seen + 1) (seen := seen) (by omega) fr left
  rw [← h, bstP]
  congr 1
  refine fm_congr fun v hv => ?_
  unfold nextP
  cases hs : seen.testBit v
  · have h3 := unS_less (List.mem_range.1 hv) hs
    rw [bestF_of (t := t) (k := unS t seen) (seen := seen ||| 2 ^ v) (by omega)]
  · rfl
theorem unS_le (t : TourD) (seen : Nat) : unS t seen ≤ t.n := by
  unfold unS
  have := List.length_filter_le (fun v => !seen.testBit v) (List.range t.n)
  rw [List.length_range] at this
  exact this
theorem most_best (t : TourD) : mostP t = bestF t 0 (-1) t.dawn := by
  have := unS_le t 0
  exact bestF_of (by omega) _ _
/-- The plans by way of the first views. -/
def wayL (t : TourD) (seen : Nat) (fr left : Int) (i : Nat) : List PlanD := (List.range i).filterMap (nextP t (bestF t) seen fr left)
theorem wayL_no {t : TourD} {seen : Nat} {fr left : Int} {i : Nat} (h : nextP t (bestF t) seen fr left i = none) : wayL t seen fr left (i + 1) = wayL t seen fr left i := by
  unfold wayL
  rw [List.range_succ, List.filterMap_append, List.filterMap_cons, h]; simp
theorem wayL_put {t : TourD} {seen : Nat} {fr left : Int} {i : Nat} {p : PlanD} (h : nextP t (bestF t) seen fr left i = some p) : wayL t seen fr left (i + 1) = wayL t seen fr left i ++ [p] := by
  unfold wayL
  rw [List.range_succ, List.filterMap_append, List.filterMap_cons, h]; simp
end Go.WalM

namespace Go.WalM
open Go Go.Sy
abbrev Key3 := Nat × Int × Int
abbrev encK (s : Key3) : Value := .agg #[.int .i64 ((s.1 : Nat) : Int), .int .i64 s.2.1, .int .i64 s.2.2]
def ints3 (s : Key3) : List Int := [((s.1 : Nat) : Int), s.2.1, s.2.2]
theorem ints3_inj (p q : Key3) (h : ints3 p = ints3 q) : p = q := by
  obtain ⟨a, b, c⟩ := p
  obtain ⟨a', b', c'⟩ := q
  unfold ints3 at h
  simp only [List.cons.injEq, and_true] at h
  obtain ⟨h1, h2, h3⟩ := h
  have h1 : a = a' := by omega
  rw [h1, h2, h3]
def PlnF (t : TourD) (K : List (Nat × Obj)) (s : Key3) (v : Value) : Prop :=
  ∃ pl : PlnD, v = plnV pl ∧ pl.1 = bestF t s.1 s.2.1 s.2.2 ∧ ∀ w : World, (∀ q ∈ K, w.heap[q.1]? = some q.2) → PlnAt w pl
theorem PlnF.more {t : TourD} {K K' : List (Nat × Obj)} {s : Key3} {v : Value} (h : PlnF t K s v) (hs : ∀ q ∈ K, q ∈ K') : PlnF t K' s v :=
  let ⟨pl, h1, h2, h3⟩ := h
  ⟨pl, h1, h2, fun w hw => h3 w fun q hq => hw q (hs q hq)⟩
theorem best_len (t : TourD) (seen : Nat) (fr left : Int) : (bestF t seen fr left).1.length ≤ t.n :=
  nodup_le (fun v hv => ((bst_ord t _ _ _ _).1 v hv).1) (bst_ord t _ _ _ _).2
def MapsOnlyW (M : List Nat) (w : World) : Prop := ∀ b ∈ M, ∃ es c, w.heap[b]? = some (.map es c)
theorem MapsOnlyW.get {M : List Nat} {w w' : World} {b : Nat} {c : Array Value} {T : TypeId} {fr : Nat × Nat} (h : MapsOnlyW M w) (e : Ext M w w') (hb : w.heap[b]? = some (.cells c T fr)) : w'.heap[b]? = some (.cells c T fr) := by
  have hm : b ∉ M := fun hm => by
    obtain ⟨es, c', h1⟩ := h b hm
    rw [hb] at h1; cases h1
  rw [e.block b (Array.getElem?_eq_some_iff.1 hb).1 hm]; exact hb
section
variable {M : List Nat} {w w' : World}
theorem SpAt.extM {sa : Option Addr} {l : List (Int × Int)} (h : SpAt w sa l) (hm : MapsOnlyW M w) (e : Ext M w w') : SpAt w' sa l := fun i s hi =>
  let ⟨blk, off, c, T, fr, h1, h2, h3⟩ := h i s hi
  ⟨blk, off, c, T, fr, h1, hm.get e h2, h3⟩
theorem RowsAt.extM {sa : Option Addr} {l : List RowD} (h : RowsAt w sa l) (hm : MapsOnlyW M w) (e : Ext M w w') : RowsAt w' sa l := fun i s hi =>
  let ⟨blk, off, c, T, fr, h1, h2, h3⟩ := h i s hi
  ⟨blk, off, c, T, fr, h1, hm.get e h2, h3⟩
theorem TouAt.extM {t : TourD} {p : TPl} (h : TouAt w t p) (hm : MapsOnlyW M w) (e : Ext M w w') : TouAt w' t p :=
  ⟨h.f.extM hm e, h.g.extM hm e, fun r hr => (h.r r hr).extM hm e, h.e, h.s.extM hm e, h.l.extM hm e, h.nf, h.nw, h.ns, h.nl, h.nr⟩
end
/-- What the search for the best order reads. -/
structure BeC (u : World) (t : TourD) (p : TPl) (Bt Bm Br Bf bm T1 T2 T3 T4 nf : Nat) : Prop where
  b : u.heap[Bt]? = some (.cells (tpC t p) T1 (0, 0))
  m : u.heap[Bm]? = some (.cells #[.map (some bm)] T2 (0, 0))
  r : u.heap[Br]? = some (.cells #[ptr Bt 0] T3 (0, 0))
  f : u.heap[Bf]? = some (.cells #[.func (.func nf) #[] #[ptr Bm 0, ptr Br 0, ptr Bf 0]] T4 (0, 0))
  a : TouAt u t p
theorem BeC.extM {u w : World} {t : TourD} {p : TPl} {Bt Bm Br Bf bm T1 T2 T3 T4 nf : Nat} {M : List Nat} (h : BeC u t p Bt Bm Br Bf bm T1 T2 T3 T4 nf) (hm : MapsOnlyW M u) (e : Ext M u w) : BeC w t p Bt Bm Br Bf bm T1 T2 T3 T4 nf :=
  ⟨hm.get e h.b, hm.get e h.m, hm.get e h.r, hm.get e h.f, h.a.extM hm e⟩
/-- Plans in a row, as cells. -/
def plnL (ps : List PlnD) : List Value := ps.flatMap plnC
theorem plnL_len (ps : List PlnD) : (plnL ps).length = ps.length * 2 := by
  unfold plnL
  induction ps with
  | nil => rfl
  | cons p ps ih => rw [List.flatMap_cons, List.length_append, ih]; show 2 + ps.length * 2 = (ps.length + 1) * 2; omega
theorem plnL_snoc (ps : List PlnD) (p : PlnD) : plnL (ps ++ [p]) = plnL ps ++ plnC p := by
  unfold plnL
  rw [List.flatMap_append]; simp
theorem beg_bd {t : TourD} (hO : TourOk t) {fr : Int} (hf : IsFr t fr) {v : Nat} (h : v < t.fr.length) {left : Int} (hl : 0 ≤ left ∧ left ≤ 2880) : 0 ≤ (begV t fr v (left, left)).1 ∧ (begV t fr v (left, left)).1 ≤ 4320 ∧ 0 ≤ (begV t fr v (left, left)).2 ∧ (begV t fr v (left, left)).2 ≤ 4320 := by
  obtain ⟨w0, w1, w2⟩ := way_ok hO hf h
  obtain ⟨l0, l1, l2⟩ := sp_ok (l := t.light) (v := v) (by rw [hO.ll]; exact h) hO.l
  unfold begV
  dsimp only
  omega
end Go.WalM

namespace Go.WalM
open Go Go.Sy
theorem perm_in {α : Type} (K F X Y : List α) : (K ++ (F ++ (X ++ Y))).Perm (F ++ (X ++ (K ++ Y))) :=
  (List.perm_append_comm_assoc K F (X ++ Y)).trans ((List.perm_append_comm_assoc K X Y).append_left F)
theorem perm_out {α : Type} (A F X R : List α) : (A ++ (F ++ (X ++ R))).Perm (X ++ (F ++ (A ++ R))) :=
  ((perm_in A F X R).trans (List.perm_append_comm_assoc F X (A ++ R)))
abbrev ivs (l : List Nat) : List Value := l.map fun v => .int .i64 ((v : Nat) : Int)
theorem ivs_len (l : List Nat) : (ivs l).length = l.length := List.length_map _
theorem ivs_one (l : List Nat) : (ivs l).all (·.oneCell') = true := by
  unfold ivs
  rw [List.all_map]
  exact List.all_eq_true.2 fun r _ => rfl
theorem vw_vals {w : World} {sa : Option Addr} {l : List Nat} (h : VwAt w sa (ints l)) : ValsIn w sa (ivs l) := by
  cases l with
  | nil => exact .inl rfl
  | cons r l =>
    obtain ⟨blk, off, c, T, fr, h1, h2, h3⟩ := vw_at h (i := 0) (x := r) rfl
    refine .inr ⟨blk, off, c, T, fr, h1, h2, fun j v hv => ?_⟩
    unfold ivs at hv
    rw [List.getElem?_map, Option.map_eq_some_iff] at hv
    obtain ⟨x, hx, rfl⟩ := hv
    obtain ⟨blk', off', c', T', fr', g1, g2, g3⟩ := vw_at h hx
    rw [h1] at g1
    cases g1
    rw [h2] at g2
    cases g2
    rw [Int.toNat_natCast, Nat.mul_one] at g3
    exact g3
theorem own_vw {e : Nat} {v : Value} {m : Nat} {l : List Nat} {X : List (Nat × Obj)} (h : OwnSl e 1 v m (ivs l) X) : ∃ oa cap, v = .slice oa l.length cap ∧ ∀ w : World, (∀ q ∈ X, w.heap[q.1]? = some q.2) → VwAt w oa (ints l) := by
  obtain ⟨hl, h⟩ := h
  rw [ivs_len] at hl
  have hm : m = l.length := by omega
  subst hm
  rcases h with ⟨rfl, h0, rfl⟩ | ⟨B, cap, cur, rfl, rfl, h1, h2, h3, h4⟩
  · refine ⟨none, 0, by rw [h0], fun w _ i r hi => ?_⟩
    have := len_ofW hi
    rw [ints_len] at this
    omega
  · refine ⟨_, cap, rfl, fun w hX i r hi => ⟨B, 0, cur, e, _, rfl, hX _ (.head _), ?_⟩⟩
    have hi2 := len_ofW hi
    rw [ints_len] at hi2
    have : (cur.toList.take (l.length * 1))[i]? = some (.int .i64 r) := by
      rw [h4]
      unfold ivs
      unfold ints at hi
      rw [List.getElem?_map] at hi ⊢
      rw [Option.map_eq_some_iff] at hi
      obtain ⟨x, hx, rfl⟩ := hi
      rw [hx]; rfl
    rw [List.getElem?_take, if_pos (by omega)] at this
    rw [Int.toNat_natCast, Nat.mul_one, Nat.zero_add, ← Array.getElem?_toList]
    exact this
theorem plnL_at : ∀ {ps : List PlnD} {i : Nat} {x : PlnD}, ps[i]? = some x → (plnL ps)[i * 2]? = some (.slice x.2.1 x.1.1.length x.2.2) ∧ (plnL ps)[i * 2 + 1]? = some (.int .i64 x.1.2)
  | p :: ps, 0, x, h => by
    have h : p = x := by simpa using h
    subst h
    exact ⟨rfl, rfl⟩
  | p :: ps, i + 1, x, h => by
    have h : ps[i]? = some x := by simpa using h
    have ih := plnL_at h
    have e : plnL (p :: ps) = .slice p.2.1 p.1.1.length p.2.2 :: .int .i64 p.1.2 :: plnL ps := rfl
    rw [e, show (i + 1) * 2 = i * 2 + 1 + 1 by omega, List.getElem?_cons_succ, List.getElem?_cons_succ, List.getElem?_cons_succ, List.getElem?_cons_succ]
    exact ih
theorem cellsAt_two {c : Array Value} {o : Nat} {a b : Value} (h1 : c[o]? = some a) (h2 : c[o + 1]? = some b) : cellsAt c o 2 = some [a, b] := by simp [cellsAt, h1, h2]
theorem own_plns {v : Value} {n : Nat} {f : PlnD} {rest : List PlnD} {X : List (Nat × Obj)} (h : OwnSl 74 2 v n (plnL (f :: rest)) X) : ∃ B cap cur, v = .slice (some ⟨B, 0, none⟩) (rest.length + 1) cap ∧ X = [(B, .cells cur 74 (0, 0))] ∧ rest.length + 1 ≤ cap ∧ cellsAt cur 0 2 = some (plnC f) ∧
    ∀ w : World, w.heap[B]? = some (.cells cur 74 (0, 0)) → PlnsAt w (if cap = 1 then some ⟨B, 0, none⟩ else (some (⟨B, 0, none⟩ : Addr)).map (·.add (1 * 2))) rest := by
  obtain ⟨hl, h⟩ := h
  rw [plnL_len] at hl
  have hm : n = rest.length + 1 := by rw [List.length_cons] at hl; omega
  subst hm
  rcases h with ⟨_, h0, _⟩ | ⟨B, cap, cur, rfl, rfl, h1, h2, h3, h4⟩
  · omega
  · have hat : ∀ {i : Nat} {x : PlnD}, (f :: rest)[i]? = some x → cellsAt cur (i * 2) 2 = some (plnC x) := fun {i x} hx => by
      have hi := len_ofW hx
      rw [List.length_cons] at hi
      obtain ⟨a1, a2⟩ := plnL_at hx
      rw [← h4, List.getElem?_take, if_pos (by omega), Array.getElem?_toList] at a1 a2
      exact cellsAt_two a1 a2
    refine ⟨B, cap, cur, rfl, rfl, h1, hat (i := 0) rfl, fun w hw i s hi => ?_⟩
    have hi2 := len_ofW hi
    have h5 := hat (i := i + 1) (x := s) (by simpa using hi)
    rw [if_neg (by omega)]
    refine ⟨B, 2, cur, 74, (0, 0), rfl, hw, ?_⟩
    rw [Int.toNat_natCast, show 2 + i * 2 = (i + 1) * 2 by omega]
    exact h5
theorem wayL_len (t : TourD) (seen : Nat) (fr left : Int) (i : Nat) : (wayL t seen fr left i).length ≤ i := by
  have := List.length_filterMap_le (nextP t (bestF t) seen fr left) (List.range i)
  rw [List.length_range] at this
  exact this
theorem best_bd {t : TourD} (hO : TourOk t) {fr : Int} (hf : IsFr t fr) {v : Nat} (h : v < t.fr.length) {left : Int} (hl : 0 ≤ left ∧ left ≤ 2880) (hs : surV t v (begV t fr v (left, left)) = true) : 0 ≤ (aftV t v (begV t fr v (left, left))).2 ∧ (aftV t v (begV t fr v (left, left))).2 ≤ 2880 := by
  have hb := beg_bd hO hf h hl
  obtain ⟨l0, l1, l2⟩ := sp_ok (l := t.light) (v := v) (by rw [hO.ll]; exact h) hO.l
  obtain ⟨s0, s1, s2⟩ := sp_ok (l := t.stay) (v := v) (by rw [hO.sl]; exact h) hO.s
  have hs := of_decide_eq_true hs
  unfold aftV
  dsimp only
  omega
theorem next_no {t : TourD} {seen v : Nat} {fr left : Int} (h : seen.testBit v = true ∨ surV t v (begV t fr v (left, left)) = false) : nextP t (bestF t) seen fr left v = none := by
  unfold nextP
  rcases h with h | h
  · rw [if_pos h]
  · split
    · rfl
    · rw [if_neg (by rw [h]; decide)]
theorem next_yes {t : TourD} {seen v : Nat} {fr left : Int} (h1 : seen.testBit v = false) (h2 : surV t v (begV t fr v (left, left)) = true) {pl : PlanD} (hp : pl = bestF t (seen ||| 2 ^ v) v (aftV t v (begV t fr v (left, left))).2) : nextP t (bestF t) seen fr left v = some (v :: pl.1, pl.2) := by
  unfold nextP
  rw [if_neg (by rw [h1]; decide), if_pos h2, hp]
theorem seen_lt {t : TourD} {seen v : Nat} (hs : seen < 64) (hv : v < 6) : seen ||| 2 ^ v < 64 :=
  Nat.or_lt_two_pow (n := 6) hs (Nat.pow_lt_pow_right (by decide) hv)
theorem way_len {t : TourD} {seen : Nat} {fr left : Int} {i : Nat} {p : PlanD} (h : p ∈ ([], left) :: wayL t seen fr left i) : p.1.length ≤ t.n + 1 := by
  rcases List.mem_cons.1 h with rfl | h
  · exact Nat.zero_le _
  · unfold wayL at h
    obtain ⟨v, _, he⟩ := List.mem_filterMap.1 h
    unfold nextP at he
    split at he
    · cases he
    · split at he
      · injection he with he
        rw [← he]
        have := best_len t (seen ||| 2 ^ v) (v : Int) (aftV t v (begV t fr v (left, left))).2
        show _ + 1 ≤ _
        omega
      · cases he
end Go.WalM

