/- Lemmas, in order: Twice. Owes. Cards that are sold, one after the other. Cards that are sold.. -/
import Derived.Test.YtkfkifkdncdhoaaQ5
namespace Go.Proofs.Ytkfkifkdncdhoaa
open Go Go.Sy Go.RoyM
theorem p21 (d : RoyD) (p : Pl) (u : World) (hRR : RoyAt u d p) : Calls Try.prog 21 #[.agg (royC d p)] u (Ret fun v w' => v = .tuple #[.int .i64 ((twA d).1 : Nat), .int .i64 ((twA d).2 : Nat), .int .i64 (twE d)] ∧ Ext [] u w') := by
  refine calls_ofM Try.func21 rfl rfl (fun a hf => ?_)
  have hh := Hp.init u []
  obtain ⟨st, sp, ss, sr, sd, ct, cp, cs, cr, cd⟩ := p
  have hr4 := hRR.n4
  have hcap := hRR.cap
  dsimp only at hcap
  refine sy_sq ?_
  refine o_box hf hh ?_; clear hf hh a; intro B1 a w hf hh
  refine o_v hf hh (yv_assign rfl) ?_; clear hf a; intro a hf
  refine o_v hf hh (yv_assign rfl) ?_; clear hf a; intro a hf
  refine o_alloc hf hh Try.ze_26 ?_; clear hf hh a; intro B4 a w hf hh
  refine o_end ?_
  refine sy_sq ?_
  refine o_v hf hh (yv_makeFunc rfl rfl) ?_; clear hf a; intro a hf
  refine o_defer hf ?_; clear hf a; intro a hf
  refine o_end ?_
  refine sy_sq ?_
  refine o_v hf hh (y_lds Try.ag_37 rfl) ?_; clear hf a; intro a hf
  refine o_callX hf Try.en_57 rfl rfl rfl (p57 d _ _ (hRR.ext hh.ext) 58 _ true Try.en_58 (fun hok Bc w2 e hc => p58 _ w2)) ?_ ?_
  ·clear hf a; intro v a w hR hf
   obtain ⟨he, Bc, rfl, hx⟩ := hR; replace hh := hh.join hx; clear hx
   obtain ⟨hok, hask⟩ := openE_zero.1 he
   have hO := royB_iff.1 hok
   refine o_v hf hh (yv_assign rfl) ?_; clear hf a; intro a hf
   refine o_end ?_
   refine sy_seq ?_
   refine sy_sq ?_
   refine o_v hf hh (yv_move rfl) ?_; clear hf a; intro a hf
   refine o_v hf hh (yv_nilCheck rfl) ?_; clear hf a; intro a hf
   refine o_v hf hh (yv_fieldAddr Try.fo_80_0 rfl) ?_; clear hf a; intro a hf
   refine o_v hf hh (yv_fieldAddr Try.fo_37_3 rfl) ?_; clear hf a; intro a hf
   refine o_v hf hh (y_ld Try.sc_35 rfl) ?_; clear hf a; intro a hf
   refine o_v hf hh (yv_len Try.se_35 rfl) ?_; clear hf a; intro a hf
   refine o_v hf hh (yv_move rfl) ?_; clear hf a; intro a hf
   refine o_end ?_
   refine sy_block ?_
   refine sy_loopF (σ := Nat) [2, 3, 6, 7, 8, 9, 19, 20, 21, 22, 23, 24, 25, 26, 27, 28, 29, 30, 31, 32, 33, 34, 35, 36, 37, 38, 39, 40, 41, 42, 43, 44, 45, 46, 47, 48, 49, 50, 51, 52, 53] (fun i => [(19, .int .i64 (i : Nat))]) (fun i => i ≤ d.reps.length ∧ twF d.reps i = none) (fun i => d.reps.length - i) (0) hf hh ?_ ?_ ?_
   · repeat' (first | exact True.intro | refine And.intro rfl ?_)
   · exact ⟨Nat.zero_le _, rfl⟩
   ·rintro i a w ⟨hi, h0⟩ hf hh
    refine sy_sq ?_
    refine o_v hf hh (yv_bin rfl rfl rfl) ?_; clear hf a; intro a hf
    refine o_end ?_
    refine sy_seq ?_
    refine sy_cond hf rfl (fun hg3 => ?_) (fun hg3 => ?_)
    ·have hG3 := hg3; try simp only [gS] at hG3
     refine sy_skip ?_
     refine then_n ?_
     refine sy_seq ?_
     refine sy_block ?_
     refine sy_seq ?_
     obtain ⟨m, hm⟩ := ex_of (l := d.reps) (i := i) (by omega)
     obtain ⟨blk, off, cc, T, fr, e, hb, hc⟩ := hRR.rp i m hm; dsimp only at e; subst e
     have hmo := hO.r m (List.mem_of_getElem? hm)
     have hml := crd_lt hmo
     refine sy_ops ?_
     refine o_v hf hh (yv_move rfl) ?_; clear hf a; intro a hf
     refine o_v hf hh (y_ix Try.se_35 rfl rfl) ?_; clear hf a; intro a hf
     refine o_v hf hh (y_lds Try.ag_66 rfl) ?_; clear hf a; intro a hf
     refine o_alloc hf hh Try.ze_66 ?_; clear hf hh a; intro B7 a w hf hh
     refine o_v hf hh (yv_assign rfl) ?_; clear hf a; intro a hf
     refine o_store hf hh Try.sz_66 fun w hh => ?_
     refine o_end ?_
     refine sy_sq ?_
     refine o_v hf hh (yv_move rfl) ?_; clear hf a; intro a hf
     refine o_v hf hh (yv_nilCheck rfl) ?_; clear hf a; intro a hf
     refine o_v hf hh (yv_fieldAddr Try.fo_80_0 rfl) ?_; clear hf a; intro a hf
     refine o_v hf hh (yv_fieldAddr Try.fo_37_3 rfl) ?_; clear hf a; intro a hf
     refine o_v hf hh (y_ld Try.sc_35 rfl) ?_; clear hf a; intro a hf
     refine o_v hf hh (yv_move rfl) ?_; clear hf a; intro a hf
     refine o_v hf hh (yv_cutHi (a := some ⟨blk, off, none⟩) (n := d.reps.length) (c := cr) (m := i) Try.se_35 rfl rfl (by omega)) ?_; clear hf a; intro a hf
     refine o_v hf hh (yv_len Try.se_35 rfl) ?_; clear hf a; intro a hf
     refine o_v hf hh (yv_move rfl) ?_; clear hf a; intro a hf
     refine o_end ?_
     refine sy_block ?_
     refine sy_loopF (σ := Nat) [2, 3, 8, 9, 32, 33, 34, 35, 36, 37, 38, 39, 40, 41, 42, 43, 44, 45, 46, 47, 48, 49, 50, 51, 52] (fun j => [(32, .int .i64 (j : Nat))]) (fun j => j ≤ i ∧ ∀ z, z < j → ∀ t, d.reps[z]? = some t → meetB m t = false) (fun j => i - j) (0) hf hh ?_ ?_ ?_
     · repeat' (first | exact True.intro | refine And.intro rfl ?_)
     · exact ⟨Nat.zero_le _, fun z hz => absurd hz (by omega)⟩
     ·rintro j a w ⟨hj, hno⟩ hf hh
      refine sy_sq ?_
      refine o_v hf hh (yv_bin rfl rfl rfl) ?_; clear hf a; intro a hf
      refine o_end ?_
      refine sy_seq ?_
      refine sy_cond hf rfl (fun hg6 => ?_) (fun hg6 => ?_)
      ·have hG6 := hg6; try simp only [gS] at hG6
       refine sy_skip ?_
       refine then_n ?_
       refine sy_seq ?_
       refine sy_block ?_
       refine sy_seq ?_
       obtain ⟨m2, hm2⟩ := ex_of (l := d.reps) (i := j) (by omega)
       obtain ⟨blk2, off2, cc2, T2, fr2, e2, hb2, hc2⟩ := hRR.rp j m2 hm2; dsimp only at e2; cases e2
       rw [hb] at hb2; cases hb2
       have hmo2 := hO.r m2 (List.mem_of_getElem? hm2)
       have hml2 := crd_lt hmo2
       refine sy_ops ?_
       refine o_v hf hh (yv_move rfl) ?_; clear hf a; intro a hf
       refine o_v hf hh (y_ix Try.se_35 rfl rfl) ?_; clear hf a; intro a hf
       refine o_v hf hh (y_lds Try.ag_66 rfl) ?_; clear hf a; intro a hf
       refine o_alloc hf hh Try.ze_66 ?_; clear hf hh a; intro B9 a w hf hh
       refine o_v hf hh (yv_assign rfl) ?_; clear hf a; intro a hf
       refine o_store hf hh Try.sz_66 fun w hh => ?_
       refine o_end ?_
       refine sy_seq ?_
       refine sy_tree1 (.p 0 (.q 0 1 (.p 2 (.q 0 3 (.p 4 (.p 5 (.q 0 6 (.q 0 8 (.e1 7 (.e1 9 (.p 10 (.p 11 (.p 12 (.fin)))))))))))))) [] Try.follows (by kernel_rfl) hh (fun w hh => ?_)
       refine mc_p rfl   hf (yv_fieldAddr Try.fo_66_1 rfl) (.inl rfl) rfl rfl ?_; clear hf a; intro a hf
       refine mc_q rfl rfl hh hf (y_ld Try.sc_3 rfl) (.inl rfl) rfl rfl ?_; clear hf a; intro a hf
       refine mc_p rfl   hf (yv_fieldAddr Try.fo_66_1 rfl) (.inl rfl) rfl rfl ?_; clear hf a; intro a hf
       refine mc_q rfl rfl hh hf (y_ld Try.sc_3 rfl) (.inl rfl) rfl rfl ?_; clear hf a; intro a hf
       refine mc_p rfl   hf (yv_bin rfl rfl rfl) (.inl rfl) rfl rfl ?_; clear hf a; intro a hf
       refine mc_p rfl   hf (yv_move rfl) (.inl rfl) rfl rfl ?_; clear hf a; intro a hf
       refine guard_any hf (t := 42) rfl (fun hg8 => ?_) (fun hg8 => ?_)
       ·have hG8 := hg8; try simp only [gS] at hG8
        refine mc_q rfl rfl hh hf (y_lds Try.ag_66 rfl) (gon rfl rfl rfl (by first | assumption | rfl | (simp; done) | (simp; omega))) rfl rfl ?_; clear hf a; intro a hf
        refine mc_q rfl rfl hh hf (y_lds Try.ag_66 rfl) (gon rfl rfl rfl (by first | assumption | rfl | (simp; done) | (simp; omega))) rfl rfl ?_; clear hf a; intro a hf
        refine mc_e rfl fun Q1 => ?_
        refine o_call hf Try.en_59 rfl rfl rfl (p59 d m hmo _) ?_; clear hf a; intro v a w hR hf
        obtain ⟨rfl, hx⟩ := hR; replace hh := hh.more hx; clear hx
        refine ops_end ?_
        refine then_n ⟨⟨fun _ _ => hh, trivial⟩, ?_⟩
        refine mc_e rfl fun Q1 => ?_
        refine o_call hf Try.en_59 rfl rfl rfl (p59 d m2 hmo2 _) ?_; clear hf a; intro v a w hR hf
        obtain ⟨rfl, hx⟩ := hR; replace hh := hh.more hx; clear hx
        refine ops_end ?_
        refine then_n ⟨⟨fun _ _ => hh, trivial⟩, ?_⟩
        refine mc_p rfl   hf (yv_andU rfl rfl (by omega) (by omega)) (gon rfl rfl rfl (by first | assumption | rfl | (simp; done) | (simp; omega))) rfl rfl ?_; clear hf a; intro a hf
        refine mc_p rfl   hf (yv_bin rfl rfl rfl) (gon rfl rfl rfl (by first | assumption | rfl | (simp; done) | (simp; omega))) rfl rfl ?_; clear hf a; intro a hf
        refine mc_p rfl   hf (y_pt rfl rfl) (.inl rfl) rfl rfl ?_; clear hf a; intro a hf
        refine mc_end ?_
        refine then_n ?_
        refine sy_cond hf rfl (fun hg13 => ?_) (fun hg13 => ?_)
        ·have hG13 := hg13; try simp only [gS] at hG13
         refine sy_sq ?_
         refine o_v hf hh (yv_move rfl) ?_; clear hf a; intro a hf
         refine o_v hf hh (yv_move rfl) ?_; clear hf a; intro a hf
         refine o_v hf hh (yv_assign rfl) ?_; clear hf a; intro a hf
         refine o_v hf hh (yv_assign rfl) ?_; clear hf a; intro a hf
         refine o_store hf hh Try.sz_26 fun w hh => ?_
         refine o_end ?_
         refine sy_ret ?_
         refine blk_r ?_
         refine then_r ?_
         refine then_r ?_
         refine blk_r ?_
         refine blk_r ?_
         refine then_r ?_
         refine then_r ?_
         refine blk_r ?_
         refine then_r ?_
         have hmt : meetB m m2 = true := by unfold meetB; clear hf hh; simp only [Bool.and_eq_true, decide_eq_true_eq]; exact ⟨by omega, by omega⟩
         have htw : twV d = some (i, j) := by unfold twV; rw [hok, if_pos rfl]; exact twF_hit h0 hm (by omega) hm2 hmt hno
         have ha : twA d = (i, j) := by unfold twA; rw [htw]; rfl
         have hte : twE d = 0 := by unfold twE; rw [hok, htw]; rfl
         rw [ha, hte]
         exact ret_d (Ds := []) hf hh Try.en_55 (fun w' => d55r B4 w') fun w' hh => ⟨[.int .i64 (i : Nat), .int .i64 (j : Nat), .int .i64 0], ⟨rfl, rfl, ⟨B4, 0, _, _, _, rfl, hh.at (i := 3) rfl, .inl ⟨Try.sc_26, rfl⟩⟩, True.intro⟩, rfl, hh.ext⟩
        ·have hG13 := hg13; try simp only [gS] at hG13
         refine sy_skip ?_
         refine blk_n ?_
         refine then_n ?_
         refine sy_ops ?_
         refine o_v hf hh (y_add rfl rfl) ?_; clear hf a; intro a hf
         refine o_v hf hh (yv_move rfl) ?_; clear hf a; intro a hf
         refine ops_end ?_
         refine then_n ?_
         have hmt : meetB m m2 = false := by unfold meetB; clear hf hh; rw [Bool.eq_false_iff]; intro h; simp only [Bool.and_eq_true, decide_eq_true_eq] at h; omega
         exact ⟨j + 1, ⟨⟨by omega, fun z hz t ht => by
           rcases (show z < j ∨ z = j by omega) with h | h
           · exact hno z h t ht
           · subst h; rw [hm2] at ht; cases ht; exact hmt⟩, (hf.head (by repeat' (first | exact True.intro | refine And.intro rfl ?_)) (Keep.cons rfl (Keep.cons rfl (Keep.cons rfl (Keep.cons rfl (Keep.cons rfl (Keep.cons rfl (Keep.cons rfl (Keep.cons rfl (Keep.cons rfl (Keep.cons rfl (Keep.cons rfl (Keep.cons rfl (Keep.cons rfl (Keep.cons rfl (Keep.cons rfl (Keep.cons rfl (Keep.cons rfl (Keep.cons rfl (Keep.cons rfl (Keep.cons rfl (Keep.cons rfl (Keep.app rfl (Keep.rm rfl Keep.base)))))))))))))))))))))))), hh.less (.cons _ (List.Sublist.refl _))⟩, by omega⟩
       ·have hG8 := hg8; try simp only [gS] at hG8
        refine mc_offq rfl rfl hh hf (goff rfl rfl rfl (by first | assumption | rfl | (simp; done) | (simp; omega))) rfl rfl ?_; clear hf a; intro a hf
        refine mc_offq rfl rfl hh hf (goff rfl rfl rfl (by first | assumption | rfl | (simp; done) | (simp; omega))) rfl rfl ?_; clear hf a; intro a hf
        refine mc_e rfl fun Q1 => ?_
        refine o_off hf ?_; clear hf a; intro a hf
        refine ops_end ?_
        refine then_n ⟨⟨fun _ _ => hh, trivial⟩, ?_⟩
        refine mc_e rfl fun Q1 => ?_
        refine o_off hf ?_; clear hf a; intro a hf
        refine ops_end ?_
        refine then_n ⟨⟨fun _ _ => hh, trivial⟩, ?_⟩
        refine mc_off rfl hf (goff rfl rfl rfl (by first | assumption | rfl | (simp; done) | (simp; omega))) rfl rfl ?_; clear hf a; intro a hf
        refine mc_off rfl hf (goff rfl rfl rfl (by first | assumption | rfl | (simp; done) | (simp; omega))) rfl rfl ?_; clear hf a; intro a hf
        refine mc_p rfl   hf (y_pf rfl rfl) (.inl rfl) rfl rfl ?_; clear hf a; intro a hf
        refine mc_end ?_
        refine then_n ?_
        refine c_f hf ?_
        refine sy_skip ?_
        refine blk_n ?_
        refine then_n ?_
        refine sy_ops ?_
        refine o_v hf hh (y_add rfl rfl) ?_; clear hf a; intro a hf
        refine o_v hf hh (yv_move rfl) ?_; clear hf a; intro a hf
        refine ops_end ?_
        refine then_n ?_
        have hmt : meetB m m2 = false := by unfold meetB; clear hf hh; rw [Bool.eq_false_iff]; intro h; simp only [Bool.and_eq_true, decide_eq_true_eq] at h; omega
        exact ⟨j + 1, ⟨⟨by omega, fun z hz t ht => by
          rcases (show z < j ∨ z = j by omega) with h | h
          · exact hno z h t ht
          · subst h; rw [hm2] at ht; cases ht; exact hmt⟩, (hf.head (by repeat' (first | exact True.intro | refine And.intro rfl ?_)) (Keep.cons rfl (Keep.cons rfl (Keep.cons rfl (Keep.cons rfl (Keep.cons rfl (Keep.cons rfl (Keep.cons rfl (Keep.cons rfl (Keep.cons rfl (Keep.cons rfl (Keep.cons rfl (Keep.cons rfl (Keep.cons rfl (Keep.cons rfl (Keep.cons rfl (Keep.cons rfl (Keep.cons rfl (Keep.cons rfl (Keep.cons rfl (Keep.cons rfl (Keep.cons rfl (Keep.app rfl (Keep.rm rfl Keep.base)))))))))))))))))))))))), hh.less (.cons _ (List.Sublist.refl _))⟩, by omega⟩
      ·have hG6 := hg6; try simp only [gS] at hG6
       refine sy_exit ?_
       refine then_e ?_
       refine then_e ?_
       refine blk_e ?_
       refine blk_n ?_
       refine then_n ?_
       refine sy_ops ?_
       refine o_v hf hh (y_add rfl rfl) ?_; clear hf a; intro a hf
       refine o_v hf hh (yv_move rfl) ?_; clear hf a; intro a hf
       refine ops_end ?_
       refine then_n ?_
       exact ⟨i + 1, ⟨⟨by omega, twF_miss h0 hm fun z hz => hno z (by omega)⟩, (hf.head (by repeat' (first | exact True.intro | refine And.intro rfl ?_)) (Keep.cons rfl (Keep.cons rfl (Keep.cons rfl (Keep.app rfl (Keep.rm rfl (Keep.cons rfl (Keep.cons rfl (Keep.cons rfl (Keep.cons rfl (Keep.cons rfl (Keep.cons rfl (Keep.cons rfl (Keep.cons rfl (Keep.cons rfl (Keep.cons rfl (Keep.cons rfl (Keep.cons rfl (Keep.cons rfl (Keep.cons rfl (Keep.cons rfl (Keep.app rfl (Keep.rm rfl Keep.base))))))))))))))))))))))), hh.less (.cons _ (List.Sublist.refl _))⟩, by omega⟩
    ·have hG3 := hg3; try simp only [gS] at hG3
     refine sy_exit ?_
     refine then_e ?_
     refine then_e ?_
     refine blk_e ?_
     refine then_n ?_
     refine sy_sq ?_
     refine o_v hf hh (yv_assign rfl) ?_; clear hf a; intro a hf
     refine o_v hf hh (yv_assign rfl) ?_; clear hf a; intro a hf
     refine o_store hf hh Try.sz_26 fun w hh => ?_
     refine o_end ?_
     refine sy_ret ?_
     have htw : twV d = none := by unfold twV; rw [hok, if_pos rfl, ← show i = d.reps.length by omega]; exact h0
     have ha : twA d = (0, 0) := by unfold twA; rw [htw]; rfl
     have hte : twE d = 4 := by unfold twE; rw [hok, htw]; rfl
     rw [ha, hte]
     exact ret_d (Ds := []) hf hh Try.en_55 (fun w' => d55r B4 w') fun w' hh => ⟨[.int .i64 0, .int .i64 0, .int .i64 4], ⟨rfl, rfl, ⟨B4, 0, _, _, _, rfl, hh.at (i := 1) rfl, .inl ⟨Try.sc_26, rfl⟩⟩, True.intro⟩, rfl, hh.ext⟩
  ·intro ch w hX hf
   obtain ⟨rfl, he, hx⟩ := hX; replace hh := hh.more hx; clear hx
   refine then_p ?_
   have hno : royB d = false := by unfold openE at he; cases h : royB d <;> simp_all
   have e1 : openE d true = 1 := by unfold openE; rw [hno]; rfl
   have ha : twA d = (0, 0) := by unfold twA twV; rw [hno]; rfl
   have hte : twE d = 1 := by unfold twE; rw [hno]; rfl
   rw [ha, hte, e1] at *
   exact pan_d (Ds := []) hf hh Try.en_55 (fun w' hh => d55p B4 _ 0 w' (hh.at (i := 0) rfl)) fun w' w'' hh h2 => ⟨[.int .i64 0, .int .i64 0, .int .i64 1], ⟨rfl, rfl, ⟨B4, 0, _, _, _, rfl, h2.at (i := 0) rfl, .inl ⟨Try.sc_26, rfl⟩⟩, True.intro⟩, rfl, (hh.turn (i := 0) rfl h2.ext (h2.at (i := 0) rfl)).ext⟩
end Go.Proofs.Ytkfkifkdncdhoaa
namespace Go.Proofs.Ytkfkifkdncdhoaa
open Go Go.Sy Go.RoyM
theorem p25 (d : RoyD) (p : Pl) (g : Int) (u : World) (hRR : RoyAt u d p) : Calls Try.prog 25 #[.agg (royC d p), .int .i64 g] u (Ret fun v w' => v = .tuple #[.agg #[.int .i64 (oweV d g).1, .int .i64 (oweV d g).2], .int .i64 (oweE d g)] ∧ Ext [] u w') := by
  refine calls_ofM Try.func25 rfl rfl (fun a hf => ?_)
  have hh := Hp.init u []
  obtain ⟨st, sp, ss, sr, sd, ct, cp, cs, cr, cd⟩ := p
  have hr4 := hRR.n1
  have hr2 := hRR.n2
  refine sy_sq ?_
  refine o_box hf hh ?_; clear hf hh a; intro B2 a w hf hh
  refine o_box hf hh ?_; clear hf hh a; intro B3 a w hf hh
  refine o_alloc hf hh Try.ze_43 ?_; clear hf hh a; intro B4 a w hf hh
  refine o_alloc hf hh Try.ze_26 ?_; clear hf hh a; intro B5 a w hf hh
  refine o_end ?_
  refine sy_sq ?_
  refine o_v hf hh (yv_makeFunc rfl rfl) ?_; clear hf a; intro a hf
  refine o_defer hf ?_; clear hf a; intro a hf
  refine o_end ?_
  refine sy_sq ?_
  refine o_v hf hh (y_lds Try.ag_37 rfl) ?_; clear hf a; intro a hf
  refine o_v hf hh (yv_makeFunc rfl rfl) ?_; clear hf a; intro a hf
  refine o_callX hf Try.en_57 rfl rfl rfl (p57 d _ _ (hRR.ext hh.ext) 70 _ (isAg d g) Try.en_70 (fun hok Bc w2 e hc => p70 d _ Bc w2 hc B3 g (e.get (hh.at (i := 2) rfl)) hRR.n1)) ?_ ?_
  ·clear hf a; intro v a w hR hf
   obtain ⟨he, Bc, rfl, hx⟩ := hR; replace hh := hh.join hx; clear hx
   obtain ⟨hok, hask⟩ := openE_zero.1 he
   have hO := royB_iff.1 hok
   obtain ⟨hg0, hg1⟩ := inI_bd hask
   have hnt := hO.nt
   have hnp := hO.np
   have hpd := hO.npd
   obtain ⟨q, rfl⟩ : ∃ q : Nat, g = q := ⟨g.toNat, by omega⟩
   obtain ⟨tm, htm⟩ := ex_of (l := d.terms) (i := q) (by omega)
   obtain ⟨pd, hpdq⟩ := ex_of (l := d.paid) (i := q) (by omega)
   have hto := hO.t tm (List.mem_of_getElem? htm)
   have hpb := hO.pd pd (List.mem_of_getElem? hpdq)
   obtain ⟨blk, off, cc, T, fr, e, hb, hc⟩ := hRR.pd q pd hpdq; dsimp only at e; subst e
   obtain ⟨blk3, off3, cc3, T3, fr3, e3, hb3, hc3⟩ := hRR.tm q tm htm; dsimp only at e3; subst e3
   have e0 : oweE d q = 0 := he
   refine o_v hf hh (yv_assign rfl) ?_; clear hf a; intro a hf
   refine o_end ?_
   refine sy_seq ?_
   refine sy_tree1 (.p 0 (.p 1 (.p 2 (.p 3 (.q 0 4 (.q 0 5 (.p 6 (.q 0 7 (.p 8 (.p 10 (.p 11 (.p 12 (.p 13 (.q 0 14 (.q 0 15 (.p 16 (.q 0 17 (.p 18 (.e2 9 (.p 20 (.e1 19 (.p 21 (.fin)))) 19 (.e1 9 (.p 20 (.p 21 (.fin))))))))))))))))))))))) [] Try.follows (by kernel_rfl) hh (fun w hh => ?_)
   refine mc_p rfl   hf (yv_move rfl) (.inl rfl) rfl rfl ?_; clear hf a; intro a hf
   refine mc_p rfl   hf (yv_nilCheck rfl) (.inl rfl) rfl rfl ?_; clear hf a; intro a hf
   refine mc_p rfl   hf (yv_fieldAddr Try.fo_80_0 rfl) (.inl rfl) rfl rfl ?_; clear hf a; intro a hf
   refine mc_p rfl   hf (yv_fieldAddr Try.fo_37_4 rfl) (.inl rfl) rfl rfl ?_; clear hf a; intro a hf
   refine mc_q rfl rfl hh hf (y_ld Try.sc_22 rfl) (.inl rfl) rfl rfl ?_; clear hf a; intro a hf
   refine mc_q rfl rfl hh hf (y_ld Try.sc_3 rfl) (.inl rfl) rfl rfl ?_; clear hf a; intro a hf
   refine mc_p rfl   hf (y_ix Try.se_22 rfl rfl) (.inl rfl) rfl rfl ?_; clear hf a; intro a hf
   refine mc_q rfl rfl hh hf (y_ld Try.sc_3 rfl) (.inl rfl) rfl rfl ?_; clear hf a; intro a hf
   refine mc_p rfl   hf (yv_neg rfl (by omega) (by omega)) (.inl rfl) rfl rfl ?_; clear hf a; intro a hf
   refine mc_p rfl   hf (yv_move rfl) (.inl rfl) rfl rfl ?_; clear hf a; intro a hf
   refine mc_p rfl   hf (yv_nilCheck rfl) (.inl rfl) rfl rfl ?_; clear hf a; intro a hf
   refine mc_p rfl   hf (yv_fieldAddr Try.fo_80_0 rfl) (.inl rfl) rfl rfl ?_; clear hf a; intro a hf
   refine mc_p rfl   hf (yv_fieldAddr Try.fo_37_4 rfl) (.inl rfl) rfl rfl ?_; clear hf a; intro a hf
   refine mc_q rfl rfl hh hf (y_ld Try.sc_22 rfl) (.inl rfl) rfl rfl ?_; clear hf a; intro a hf
   refine mc_q rfl rfl hh hf (y_ld Try.sc_3 rfl) (.inl rfl) rfl rfl ?_; clear hf a; intro a hf
   refine mc_p rfl   hf (y_ix Try.se_22 rfl rfl) (.inl rfl) rfl rfl ?_; clear hf a; intro a hf
   refine mc_q rfl rfl hh hf (y_ld Try.sc_3 rfl) (.inl rfl) rfl rfl ?_; clear hf a; intro a hf
   refine mc_p rfl   hf (yv_neg rfl (by omega) (by omega)) (.inl rfl) rfl rfl ?_; clear hf a; intro a hf
   refine ⟨?_, ?_⟩
   ·refine mc_e rfl fun Q1 => ?_
    refine ops_buildSl hf hh Try.bl_22_1 rfl rfl (.inl rfl) rfl ?_; clear hf hh; clear a; intro B26 a w hf hh
    refine ops_end ?_
    refine then_n ⟨⟨fun _ _ => (hh.less (.cons _ (List.Sublist.refl _))), trivial⟩, ?_⟩
    refine mc_p rfl   hf (yv_assign rfl) (.inl rfl) rfl rfl ?_; clear hf a; intro a hf
    refine mc_e rfl fun Q1 => ?_
    refine ops_buildSl hf hh Try.bl_22_1 rfl rfl (.inl rfl) rfl ?_; clear hf hh; clear a; intro B36 a w hf hh
    refine ops_end ?_
    refine then_n ⟨⟨fun _ _ => (hh.less (.cons _ (.cons _ (List.Sublist.refl _)))), trivial⟩, ?_⟩
    refine mc_p rfl   hf (yv_assign rfl) (.inl rfl) rfl rfl ?_; clear hf a; intro a hf
    refine mc_end ?_
    refine then_n ?_
    refine sy_seq ?_
    refine sy_sq ?_
    refine o_v hf hh (yv_move rfl) ?_; clear hf a; intro a hf
    refine o_v hf hh (yv_nilCheck rfl) ?_; clear hf a; intro a hf
    refine o_v hf hh (yv_fieldAddr Try.fo_80_0 rfl) ?_; clear hf a; intro a hf
    refine o_v hf hh (yv_fieldAddr Try.fo_37_1 rfl) ?_; clear hf a; intro a hf
    refine o_v hf hh (y_ld Try.sc_22 rfl) ?_; clear hf a; intro a hf
    refine o_v hf hh (yv_len Try.se_22 rfl) ?_; clear hf a; intro a hf
    refine o_v hf hh (yv_move rfl) ?_; clear hf a; intro a hf
    refine o_end ?_
    refine sy_block ?_
    refine sy_loopH (σ := Nat × Value × List (Nat × Obj) × Value × List (Nat × Obj)) [7, 8, 9, 10, 11, 12, 43, 44, 45, 46, 47, 48, 49, 50, 51, 52, 53, 54, 55, 56, 57, 58, 59, 60, 61, 62, 63, 64, 65, 66, 67, 68, 69, 70, 71, 72, 73, 74, 75, 76, 77, 78, 79, 80, 81, 82, 83, 84, 85] (fun s => [(7, s.2.1), (8, s.2.2.2.1), (43, .int .i64 (s.1 : Nat))]) (fun s => fun w' => s.1 ≤ d.prices.length ∧ OwnSl 3 1 s.2.1 (s.1 + 1) (ivs (lowL d q s.1)) s.2.2.1 ∧ OwnSl 3 1 s.2.2.2.1 (s.1 + 1) (ivs (higL d q s.1)) s.2.2.2.2 ∧ Hp u [] ([(Bc, .cells (royC d ⟨some ⟨blk3, off3, none⟩, sp, ss, sr, some ⟨blk, off, none⟩, ct, cp, cs, cr, cd⟩) 80), (B5, .cells #[.int .i64 0] 26), (B4, .cells #[.int .i64 0, .int .i64 0] 43), (B3, .cells #[.int .i64 (q : Nat)] 3)] ++ (s.2.2.1 ++ s.2.2.2.2)) w') (fun s => d.prices.length - s.1) ((0, .slice (some ⟨B26, 0, none⟩) 1 1, [(B26, .cells #[.int .i64 (-pd)] 3)], .slice (some ⟨B36, 0, none⟩) 1 1, [(B36, .cells #[.int .i64 (-pd)] 3)])) hf ?_ ?_ ?_
    · repeat' (first | exact True.intro | refine And.intro rfl ?_)
    · have e9 : lowL d q 0 = [-pd] := by unfold lowL; rw [getD_at hpdq]; rfl
      have e8 : higL d q 0 = [-pd] := by unfold higL; rw [getD_at hpdq]; rfl
      refine ⟨Nat.zero_le _, by rw [e9]; exact ⟨rfl, .inr ⟨B26, 1, _, rfl, rfl, Nat.le_refl _, by simp only [maxLen]; omega, rfl, rfl⟩⟩, by rw [e8]; exact ⟨rfl, .inr ⟨B36, 1, _, rfl, rfl, Nat.le_refl _, by simp only [maxLen]; omega, rfl, rfl⟩⟩, ?_⟩
      first
      | exact (hh.perm ((List.perm_append_comm (l₁ := [_, _]) (l₂ := [_, _, _, _, _])).trans (.cons _ (.cons _ (.cons _ (.cons _ (.cons _ (.swap _ _ _)))))))).less (.cons_cons _ (.cons_cons _ (.cons_cons _ (.cons_cons _ (.cons _ (.refl _))))))
      | exact (hh.perm (List.perm_append_comm (l₁ := [_, _]) (l₂ := [_, _, _, _, _]))).less (.cons_cons _ (.cons_cons _ (.cons_cons _ (.cons_cons _ (.cons _ (.refl _))))))
    ·rintro s a w ⟨hi, hO1, hO2, hh⟩ hf
     obtain ⟨i, v7, X7, v8, X8⟩ := s; simp only at hi hO1 hO2 hh hf ⊢
     refine sy_sq ?_
     refine o_v hf hh (yv_bin rfl rfl rfl) ?_; clear hf a; intro a hf
     refine o_end ?_
     refine sy_seq ?_
     refine sy_cond hf rfl (fun hg3 => ?_) (fun hg3 => ?_)
     ·have hG3 := hg3; try simp only [gS] at hG3
      refine sy_skip ?_
      refine then_n ?_
      refine sy_seq ?_
      refine sy_block ?_
      refine sy_seq ?_
      obtain ⟨x, hx⟩ := ex_of (l := d.prices) (i := i) (by omega)
      obtain ⟨blk2, off2, cc2, T2, fr2, e2, hb2, hc2⟩ := hRR.pr i x hx; dsimp only at e2; subst e2
      have hxb := hO.p x (List.mem_of_getElem? hx)
      have hcb := clm_lt12 hO i q
      have hsb : surN d i q ≤ clm d i q := surT_le d i q 4
      have hp1 := pc_12 (x := surN d i q) (by omega)
      have hp2 := pc_12 hcb
      refine sy_ops ?_
      refine o_v hf hh (yv_move rfl) ?_; clear hf a; intro a hf
      refine o_v hf hh (y_ix Try.se_22 rfl rfl) ?_; clear hf a; intro a hf
      refine o_v hf hh (y_ld Try.sc_3 rfl) ?_; clear hf a; intro a hf
      refine o_v hf hh (yv_assign rfl) ?_; clear hf a; intro a hf
      refine o_v hf hh (yv_assign rfl) ?_; clear hf a; intro a hf
      refine o_end ?_
      refine sy_sq ?_
      refine o_v hf hh (yv_move rfl) ?_; clear hf a; intro a hf
      refine o_v hf hh (y_ld Try.sc_3 rfl) ?_; clear hf a; intro a hf
      refine o_v hf hh (yv_move rfl) ?_; clear hf a; intro a hf
      refine o_call hf Try.en_65 rfl rfl rfl (p65 d _ Bc _ (hh.at (i := 0) rfl) (hRR.ext hh.ext) hO q (by omega) i) ?_; clear hf a; intro v a w hR hf
      obtain ⟨rfl, hx⟩ := hR; replace hh := hh.more hx; clear hx
      refine o_v hf hh (yv_move rfl) ?_; clear hf a; intro a hf
      refine o_v hf hh (yv_extract rfl rfl) ?_; clear hf a; intro a hf
      refine o_v hf hh (yv_extract rfl rfl) ?_; clear hf a; intro a hf
      refine o_v hf hh (yv_assign rfl) ?_; clear hf a; intro a hf
      refine o_v hf hh (yv_assign rfl) ?_; clear hf a; intro a hf
      refine o_end ?_
      refine sy_seq ?_
      refine sy_tree1 (.p 0 (.p 1 (.p 2 (.p 3 (.p 4 (.q 0 5 (.q 0 6 (.p 7 (.q 0 8 (.p 9 (.p 10 (.e1 11 (.e1 12 (.e1 13 (.e1 14 (.p 15 (.fin))))))))))))))))) [14] Try.follows (by kernel_rfl) hh (fun w hh => ?_)
      refine mc_p rfl   hf (yv_move rfl) (.inl rfl) rfl rfl ?_; clear hf a; intro a hf
      refine mc_p rfl   hf (yv_move rfl) (.inl rfl) rfl rfl ?_; clear hf a; intro a hf
      refine mc_p rfl   hf (yv_nilCheck rfl) (.inl rfl) rfl rfl ?_; clear hf a; intro a hf
      refine mc_p rfl   hf (yv_fieldAddr Try.fo_80_0 rfl) (.inl rfl) rfl rfl ?_; clear hf a; intro a hf
      refine mc_p rfl   hf (yv_fieldAddr Try.fo_37_0 rfl) (.inl rfl) rfl rfl ?_; clear hf a; intro a hf
      refine mc_q rfl rfl hh hf (y_ld Try.sc_33 rfl) (.inl rfl) rfl rfl ?_; clear hf a; intro a hf
      refine mc_q rfl rfl hh hf (y_ld Try.sc_3 rfl) (.inl rfl) rfl rfl ?_; clear hf a; intro a hf
      refine mc_p rfl   hf (y_ix Try.se_33 rfl rfl) (.inl rfl) rfl rfl ?_; clear hf a; intro a hf
      refine mc_q rfl rfl hh hf (y_lds Try.ag_24 rfl) (.inl rfl) rfl rfl ?_; clear hf a; intro a hf
      refine mc_p rfl   hf (yv_move rfl) (.inl rfl) rfl rfl ?_; clear hf a; intro a hf
      refine mc_p rfl   hf (yv_move rfl) (.inl rfl) rfl rfl ?_; clear hf a; intro a hf
      refine mc_e rfl fun Q1 => ?_
      refine o_call hf Try.en_71 rfl rfl rfl (p71 (surN d i q) (by omega) _) ?_; clear hf a; intro v a w hR hf
      obtain ⟨rfl, hx⟩ := hR; replace hh := hh.more hx; clear hx
      refine ops_end ?_
      refine then_n ⟨⟨fun _ _ => hh, trivial⟩, ?_⟩
      refine mc_e rfl fun Q1 => ?_
      refine o_call hf Try.en_53 rfl rfl rfl (p53 tm hto x (pc (surN d i q) : Nat) hxb.1 hxb.2 (by omega) (by omega) _) ?_; clear hf a; intro v a w hR hf
      obtain ⟨rfl, hx⟩ := hR; replace hh := hh.more hx; clear hx
      refine ops_end ?_
      refine then_n ⟨⟨fun _ _ => hh, trivial⟩, ?_⟩
      refine mc_e rfl fun Q1 => ?_
      refine ops_buildSl hf hh Try.bl_22_1 rfl rfl (.inl rfl) rfl ?_; clear hf hh; clear a; intro B68 a w hf hh
      refine ops_end ?_
      refine then_n ⟨⟨fun _ _ => (hh.less (.cons _ (List.Sublist.refl _))), trivial⟩, ?_⟩
      refine mc_e rfl fun Q1 => ?_
      refine ops_append (e := 3) (size := 1) (xs := ivs (lowL d q i)) (X := X7) (Z := _) (m := i + 1) (q := 1) hf (hh.perm (.cons _ (perm_mid (A := [_, _, _, _])))) Try.eb_22 rfl rfl hO1 rfl rfl rfl (by simp only [maxLen]; omega) (by omega) (.inl rfl) rfl ?_; clear hf hh a; intro v7n X7n a w hO7n hf hh
      replace hh := hh.perm (perm_mid (A := X7n) (B := [_, _, _, _]))
      refine ops_end ?_
      refine then_n ⟨⟨fun h => Bool.noConfusion (show true = false from h), trivial⟩, ?_⟩
      refine mc_p rfl   hf (yv_assign rfl) (.inl rfl) rfl rfl ?_; clear hf a; intro a hf
      refine mc_end ?_
      refine then_n ?_
      refine sy_tree1 (.p 0 (.p 1 (.p 2 (.p 3 (.p 4 (.q 0 5 (.q 0 6 (.p 7 (.q 0 8 (.p 9 (.p 10 (.e1 11 (.e1 12 (.e1 13 (.e1 14 (.p 15 (.fin))))))))))))))))) [14] Try.follows (by kernel_rfl) hh (fun w hh => ?_)
      refine mc_p rfl   hf (yv_move rfl) (.inl rfl) rfl rfl ?_; clear hf a; intro a hf
      refine mc_p rfl   hf (yv_move rfl) (.inl rfl) rfl rfl ?_; clear hf a; intro a hf
      refine mc_p rfl   hf (yv_nilCheck rfl) (.inl rfl) rfl rfl ?_; clear hf a; intro a hf
      refine mc_p rfl   hf (yv_fieldAddr Try.fo_80_0 rfl) (.inl rfl) rfl rfl ?_; clear hf a; intro a hf
      refine mc_p rfl   hf (yv_fieldAddr Try.fo_37_0 rfl) (.inl rfl) rfl rfl ?_; clear hf a; intro a hf
      refine mc_q rfl rfl hh hf (y_ld Try.sc_33 rfl) (.inl rfl) rfl rfl ?_; clear hf a; intro a hf
      refine mc_q rfl rfl hh hf (y_ld Try.sc_3 rfl) (.inl rfl) rfl rfl ?_; clear hf a; intro a hf
      refine mc_p rfl   hf (y_ix Try.se_33 rfl rfl) (.inl rfl) rfl rfl ?_; clear hf a; intro a hf
      refine mc_q rfl rfl hh hf (y_lds Try.ag_24 rfl) (.inl rfl) rfl rfl ?_; clear hf a; intro a hf
      refine mc_p rfl   hf (yv_move rfl) (.inl rfl) rfl rfl ?_; clear hf a; intro a hf
      refine mc_p rfl   hf (yv_move rfl) (.inl rfl) rfl rfl ?_; clear hf a; intro a hf
      refine mc_e rfl fun Q1 => ?_
      refine o_call hf Try.en_71 rfl rfl rfl (p71 (clm d i q) (by omega) _) ?_; clear hf a; intro v a w hR hf
      obtain ⟨rfl, hx⟩ := hR; replace hh := hh.more hx; clear hx
      refine ops_end ?_
      refine then_n ⟨⟨fun _ _ => hh, trivial⟩, ?_⟩
      refine mc_e rfl fun Q1 => ?_
      refine o_call hf Try.en_53 rfl rfl rfl (p53 tm hto x (pc (clm d i q) : Nat) hxb.1 hxb.2 (by omega) (by omega) _) ?_; clear hf a; intro v a w hR hf
      obtain ⟨rfl, hx⟩ := hR; replace hh := hh.more hx; clear hx
      refine ops_end ?_
      refine then_n ⟨⟨fun _ _ => hh, trivial⟩, ?_⟩
      refine mc_e rfl fun Q1 => ?_
      refine ops_buildSl hf hh Try.bl_22_1 rfl rfl (.inl rfl) rfl ?_; clear hf hh; clear a; intro B83 a w hf hh
      refine ops_end ?_
      refine then_n ⟨⟨fun _ _ => (hh.less (.cons _ (List.Sublist.refl _))), trivial⟩, ?_⟩
      refine mc_e rfl fun Q1 => ?_
      refine ops_append (e := 3) (size := 1) (xs := ivs (higL d q i)) (X := X8) (Z := _) (m := i + 1) (q := 1) hf (hh.perm (.cons _ (perm_end (A := [_, _, _, _])))) Try.eb_22 rfl rfl hO2 rfl rfl rfl (by simp only [maxLen]; omega) (by omega) (.inl rfl) rfl ?_; clear hf hh a; intro v8n X8n a w hO8n hf hh
      replace hh := hh.perm (perm_back (A := [_, _, _, _]))
      refine ops_end ?_
      refine then_n ⟨⟨fun h => Bool.noConfusion (show true = false from h), trivial⟩, ?_⟩
      refine mc_p rfl   hf (yv_assign rfl) (.inl rfl) rfl rfl ?_; clear hf a; intro a hf
      refine mc_end ?_
      refine blk_n ?_
      refine then_n ?_
      refine sy_ops ?_
      refine o_v hf hh (y_add rfl rfl) ?_; clear hf a; intro a hf
      refine o_v hf hh (yv_move rfl) ?_; clear hf a; intro a hf
      refine ops_end ?_
      refine then_n ?_
      exact ⟨(i + 1, v7n, X7n, v8n, X8n), ⟨⟨by simp only; omega, by simp only; rw [lowL_succ, getD_at hx, ivs_app, term_at htm]; exact hO7n, by simp only; rw [higL_succ, getD_at hx, ivs_app, term_at htm]; exact hO8n, hh⟩, (hf.head (by repeat' (first | exact True.intro | refine And.intro rfl ?_)) (Keep.cons rfl (Keep.cons rfl (Keep.cons rfl (Keep.cons rfl (Keep.cons rfl (Keep.cons rfl (Keep.cons rfl (Keep.cons rfl (Keep.cons rfl (Keep.cons rfl (Keep.cons rfl (Keep.cons rfl (Keep.cons rfl (Keep.cons rfl (Keep.cons rfl (Keep.cons rfl (Keep.cons rfl (Keep.cons rfl (Keep.cons rfl (Keep.cons rfl (Keep.cons rfl (Keep.cons rfl (Keep.cons rfl (Keep.cons rfl (Keep.cons rfl (Keep.cons rfl (Keep.cons rfl (Keep.cons rfl (Keep.cons rfl (Keep.cons rfl (Keep.cons rfl (Keep.cons rfl (Keep.cons rfl (Keep.cons rfl (Keep.cons rfl (Keep.cons rfl (Keep.cons rfl (Keep.cons rfl (Keep.cons rfl (Keep.cons rfl (Keep.cons rfl (Keep.cons rfl (Keep.cons rfl (Keep.cons rfl (Keep.cons rfl (Keep.cons rfl (Keep.cons rfl (Keep.cons rfl (Keep.cons rfl (Keep.app rfl (Keep.rm rfl Keep.base))))))))))))))))))))))))))))))))))))))))))))))))))))⟩, by simp only; omega⟩
     ·have hG3 := hg3; try simp only [gS] at hG3
      refine sy_exit ?_
      refine then_e ?_
      refine then_e ?_
      refine blk_e ?_
      refine then_n ?_
      refine sy_seq ?_
      obtain rfl : i = d.prices.length := by omega
      obtain ⟨oa1, cp1, rfl, hl1, hA1⟩ := own_iat hO1 (w := w) (fun x hx => hh.get x (by simp [hx]))
      obtain ⟨oa2, cp2, rfl, hl2, hA2⟩ := own_iat hO2 (w := w) (fun x hx => hh.get x (by simp [hx]))
      have hc1 := p72 (lowL d q d.prices.length) oa1 cp1 w hA1 (by omega) (owe_take hO (by omega) (fun k => pc (surN d k q)) (fun k => pc_12 (Nat.lt_of_le_of_lt (surT_le d k q 4) (clm_lt12 hO k q))))
      rw [← hl1] at hc1
      refine sy_ops ?_
      refine o_v hf hh (yv_move rfl) ?_; clear hf a; intro a hf
      refine o_call hf Try.en_72 rfl rfl rfl hc1 ?_; clear hf a; intro v a w hR hf
      obtain ⟨rfl, hx⟩ := hR; replace hh := hh.more hx
      have hc2 := p72 (higL d q d.prices.length) oa2 cp2 _ (hA2.ext hx) (by omega) (owe_take hO (by omega) (fun k => pc (clm d k q)) (fun k => pc_12 (clm_lt12 hO k q)))
      rw [← hl2] at hc2
      clear hx
      refine o_v hf hh (yv_move rfl) ?_; clear hf a; intro a hf
      refine o_call hf Try.en_72 rfl rfl rfl (hc2) ?_; clear hf a; intro v a w hR hf
      obtain ⟨rfl, hx⟩ := hR; replace hh := hh.more hx; clear hx
      refine o_v hf hh (yv_buildS Try.bs_43 rfl rfl) ?_; clear hf a; intro a hf
      refine o_store hf hh Try.sz_43 fun w hh => ?_
      refine o_store hf hh Try.sz_26 fun w hh => ?_
      refine o_end ?_
      refine sy_ret ?_
      have ev : oweV d q = (sumI (lowL d q d.prices.length), sumI (higL d q d.prices.length)) := by unfold oweV; rw [if_pos e0]; rfl
      rw [e0, ev]
      exact ret_d (Ds := []) hf hh Try.en_69 (fun w' => d69r B5 w') fun w' hh => ⟨[.agg #[.int .i64 (sumI (lowL d q d.prices.length)), .int .i64 (sumI (higL d q d.prices.length))], .int .i64 0], ⟨⟨B4, 0, _, _, _, rfl, hh.at (i := 2) rfl, .inr ⟨2, _, Try.ag_43, rfl, rfl⟩⟩, ⟨B5, 0, _, _, _, rfl, hh.at (i := 1) rfl, .inl ⟨Try.sc_26, rfl⟩⟩, True.intro⟩, rfl, hh.ext⟩
   ·refine mc_e rfl fun Q1 => ?_
    refine ops_buildSl hf hh Try.bl_22_1 rfl rfl (.inl rfl) rfl ?_; clear hf hh; clear a; intro B36 a w hf hh
    refine ops_end ?_
    refine then_n ⟨⟨fun _ _ => (hh.less (.cons _ (List.Sublist.refl _))), trivial⟩, ?_⟩
    refine mc_e rfl fun Q1 => ?_
    refine ops_buildSl hf hh Try.bl_22_1 rfl rfl (.inl rfl) rfl ?_; clear hf hh; clear a; intro B26 a w hf hh
    refine ops_end ?_
    refine then_n ⟨⟨fun _ _ => (hh.less (.cons _ (.cons _ (List.Sublist.refl _)))), trivial⟩, ?_⟩
    refine mc_p rfl   hf (yv_assign rfl) (.inl rfl) rfl rfl ?_; clear hf a; intro a hf
    refine mc_p rfl   hf (yv_assign rfl) (.inl rfl) rfl rfl ?_; clear hf a; intro a hf
    refine mc_end ?_
    refine then_n ?_
    refine sy_seq ?_
    refine sy_sq ?_
    refine o_v hf hh (yv_move rfl) ?_; clear hf a; intro a hf
    refine o_v hf hh (yv_nilCheck rfl) ?_; clear hf a; intro a hf
    refine o_v hf hh (yv_fieldAddr Try.fo_80_0 rfl) ?_; clear hf a; intro a hf
    refine o_v hf hh (yv_fieldAddr Try.fo_37_1 rfl) ?_; clear hf a; intro a hf
    refine o_v hf hh (y_ld Try.sc_22 rfl) ?_; clear hf a; intro a hf
    refine o_v hf hh (yv_len Try.se_22 rfl) ?_; clear hf a; intro a hf
    refine o_v hf hh (yv_move rfl) ?_; clear hf a; intro a hf
    refine o_end ?_
    refine sy_block ?_
    refine sy_loopH (σ := Nat × Value × List (Nat × Obj) × Value × List (Nat × Obj)) [7, 8, 9, 10, 11, 12, 43, 44, 45, 46, 47, 48, 49, 50, 51, 52, 53, 54, 55, 56, 57, 58, 59, 60, 61, 62, 63, 64, 65, 66, 67, 68, 69, 70, 71, 72, 73, 74, 75, 76, 77, 78, 79, 80, 81, 82, 83, 84, 85] (fun s => [(7, s.2.1), (8, s.2.2.2.1), (43, .int .i64 (s.1 : Nat))]) (fun s => fun w' => s.1 ≤ d.prices.length ∧ OwnSl 3 1 s.2.1 (s.1 + 1) (ivs (lowL d q s.1)) s.2.2.1 ∧ OwnSl 3 1 s.2.2.2.1 (s.1 + 1) (ivs (higL d q s.1)) s.2.2.2.2 ∧ Hp u [] ([(Bc, .cells (royC d ⟨some ⟨blk3, off3, none⟩, sp, ss, sr, some ⟨blk, off, none⟩, ct, cp, cs, cr, cd⟩) 80), (B5, .cells #[.int .i64 0] 26), (B4, .cells #[.int .i64 0, .int .i64 0] 43), (B3, .cells #[.int .i64 (q : Nat)] 3)] ++ (s.2.2.1 ++ s.2.2.2.2)) w') (fun s => d.prices.length - s.1) ((0, .slice (some ⟨B26, 0, none⟩) 1 1, [(B26, .cells #[.int .i64 (-pd)] 3)], .slice (some ⟨B36, 0, none⟩) 1 1, [(B36, .cells #[.int .i64 (-pd)] 3)])) hf ?_ ?_ ?_
    · repeat' (first | exact True.intro | refine And.intro rfl ?_)
    · have e9 : lowL d q 0 = [-pd] := by unfold lowL; rw [getD_at hpdq]; rfl
      have e8 : higL d q 0 = [-pd] := by unfold higL; rw [getD_at hpdq]; rfl
      refine ⟨Nat.zero_le _, by rw [e9]; exact ⟨rfl, .inr ⟨B26, 1, _, rfl, rfl, Nat.le_refl _, by simp only [maxLen]; omega, rfl, rfl⟩⟩, by rw [e8]; exact ⟨rfl, .inr ⟨B36, 1, _, rfl, rfl, Nat.le_refl _, by simp only [maxLen]; omega, rfl, rfl⟩⟩, ?_⟩
      first
      | exact (hh.perm ((List.perm_append_comm (l₁ := [_, _]) (l₂ := [_, _, _, _, _])).trans (.cons _ (.cons _ (.cons _ (.cons _ (.cons _ (.swap _ _ _)))))))).less (.cons_cons _ (.cons_cons _ (.cons_cons _ (.cons_cons _ (.cons _ (.refl _))))))
      | exact (hh.perm (List.perm_append_comm (l₁ := [_, _]) (l₂ := [_, _, _, _, _]))).less (.cons_cons _ (.cons_cons _ (.cons_cons _ (.cons_cons _ (.cons _ (.refl _))))))
    ·rintro s a w ⟨hi, hO1, hO2, hh⟩ hf
     obtain ⟨i, v7, X7, v8, X8⟩ := s; simp only at hi hO1 hO2 hh hf ⊢
     refine sy_sq ?_
     refine o_v hf hh (yv_bin rfl rfl rfl) ?_; clear hf a; intro a hf
     refine o_end ?_
     refine sy_seq ?_
     refine sy_cond hf rfl (fun hg16 => ?_) (fun hg16 => ?_)
     ·have hG16 := hg16; try simp only [gS] at hG16
      refine sy_skip ?_
      refine then_n ?_
      refine sy_seq ?_
      refine sy_block ?_
      refine sy_seq ?_
      obtain ⟨x, hx⟩ := ex_of (l := d.prices) (i := i) (by omega)
      obtain ⟨blk2, off2, cc2, T2, fr2, e2, hb2, hc2⟩ := hRR.pr i x hx; dsimp only at e2; subst e2
      have hxb := hO.p x (List.mem_of_getElem? hx)
      have hcb := clm_lt12 hO i q
      have hsb : surN d i q ≤ clm d i q := surT_le d i q 4
      have hp1 := pc_12 (x := surN d i q) (by omega)
      have hp2 := pc_12 hcb
      refine sy_ops ?_
      refine o_v hf hh (yv_move rfl) ?_; clear hf a; intro a hf
      refine o_v hf hh (y_ix Try.se_22 rfl rfl) ?_; clear hf a; intro a hf
      refine o_v hf hh (y_ld Try.sc_3 rfl) ?_; clear hf a; intro a hf
      refine o_v hf hh (yv_assign rfl) ?_; clear hf a; intro a hf
      refine o_v hf hh (yv_assign rfl) ?_; clear hf a; intro a hf
      refine o_end ?_
      refine sy_sq ?_
      refine o_v hf hh (yv_move rfl) ?_; clear hf a; intro a hf
      refine o_v hf hh (y_ld Try.sc_3 rfl) ?_; clear hf a; intro a hf
      refine o_v hf hh (yv_move rfl) ?_; clear hf a; intro a hf
      refine o_call hf Try.en_65 rfl rfl rfl (p65 d _ Bc _ (hh.at (i := 0) rfl) (hRR.ext hh.ext) hO q (by omega) i) ?_; clear hf a; intro v a w hR hf
      obtain ⟨rfl, hx⟩ := hR; replace hh := hh.more hx; clear hx
      refine o_v hf hh (yv_move rfl) ?_; clear hf a; intro a hf
      refine o_v hf hh (yv_extract rfl rfl) ?_; clear hf a; intro a hf
      refine o_v hf hh (yv_extract rfl rfl) ?_; clear hf a; intro a hf
      refine o_v hf hh (yv_assign rfl) ?_; clear hf a; intro a hf
      refine o_v hf hh (yv_assign rfl) ?_; clear hf a; intro a hf
      refine o_end ?_
      refine sy_seq ?_
      refine sy_tree1 (.p 0 (.p 1 (.p 2 (.p 3 (.p 4 (.q 0 5 (.q 0 6 (.p 7 (.q 0 8 (.p 9 (.p 10 (.e1 11 (.e1 12 (.e1 13 (.e1 14 (.p 15 (.fin))))))))))))))))) [14] Try.follows (by kernel_rfl) hh (fun w hh => ?_)
      refine mc_p rfl   hf (yv_move rfl) (.inl rfl) rfl rfl ?_; clear hf a; intro a hf
      refine mc_p rfl   hf (yv_move rfl) (.inl rfl) rfl rfl ?_; clear hf a; intro a hf
      refine mc_p rfl   hf (yv_nilCheck rfl) (.inl rfl) rfl rfl ?_; clear hf a; intro a hf
      refine mc_p rfl   hf (yv_fieldAddr Try.fo_80_0 rfl) (.inl rfl) rfl rfl ?_; clear hf a; intro a hf
      refine mc_p rfl   hf (yv_fieldAddr Try.fo_37_0 rfl) (.inl rfl) rfl rfl ?_; clear hf a; intro a hf
      refine mc_q rfl rfl hh hf (y_ld Try.sc_33 rfl) (.inl rfl) rfl rfl ?_; clear hf a; intro a hf
      refine mc_q rfl rfl hh hf (y_ld Try.sc_3 rfl) (.inl rfl) rfl rfl ?_; clear hf a; intro a hf
      refine mc_p rfl   hf (y_ix Try.se_33 rfl rfl) (.inl rfl) rfl rfl ?_; clear hf a; intro a hf
      refine mc_q rfl rfl hh hf (y_lds Try.ag_24 rfl) (.inl rfl) rfl rfl ?_; clear hf a; intro a hf
      refine mc_p rfl   hf (yv_move rfl) (.inl rfl) rfl rfl ?_; clear hf a; intro a hf
      refine mc_p rfl   hf (yv_move rfl) (.inl rfl) rfl rfl ?_; clear hf a; intro a hf
      refine mc_e rfl fun Q1 => ?_
      refine o_call hf Try.en_71 rfl rfl rfl (p71 (surN d i q) (by omega) _) ?_; clear hf a; intro v a w hR hf
      obtain ⟨rfl, hx⟩ := hR; replace hh := hh.more hx; clear hx
      refine ops_end ?_
      refine then_n ⟨⟨fun _ _ => hh, trivial⟩, ?_⟩
      refine mc_e rfl fun Q1 => ?_
      refine o_call hf Try.en_53 rfl rfl rfl (p53 tm hto x (pc (surN d i q) : Nat) hxb.1 hxb.2 (by omega) (by omega) _) ?_; clear hf a; intro v a w hR hf
      obtain ⟨rfl, hx⟩ := hR; replace hh := hh.more hx; clear hx
      refine ops_end ?_
      refine then_n ⟨⟨fun _ _ => hh, trivial⟩, ?_⟩
      refine mc_e rfl fun Q1 => ?_
      refine ops_buildSl hf hh Try.bl_22_1 rfl rfl (.inl rfl) rfl ?_; clear hf hh; clear a; intro B68 a w hf hh
      refine ops_end ?_
      refine then_n ⟨⟨fun _ _ => (hh.less (.cons _ (List.Sublist.refl _))), trivial⟩, ?_⟩
      refine mc_e rfl fun Q1 => ?_
      refine ops_append (e := 3) (size := 1) (xs := ivs (lowL d q i)) (X := X7) (Z := _) (m := i + 1) (q := 1) hf (hh.perm (.cons _ (perm_mid (A := [_, _, _, _])))) Try.eb_22 rfl rfl hO1 rfl rfl rfl (by simp only [maxLen]; omega) (by omega) (.inl rfl) rfl ?_; clear hf hh a; intro v7n X7n a w hO7n hf hh
      replace hh := hh.perm (perm_mid (A := X7n) (B := [_, _, _, _]))
      refine ops_end ?_
      refine then_n ⟨⟨fun h => Bool.noConfusion (show true = false from h), trivial⟩, ?_⟩
      refine mc_p rfl   hf (yv_assign rfl) (.inl rfl) rfl rfl ?_; clear hf a; intro a hf
      refine mc_end ?_
      refine then_n ?_
      refine sy_tree1 (.p 0 (.p 1 (.p 2 (.p 3 (.p 4 (.q 0 5 (.q 0 6 (.p 7 (.q 0 8 (.p 9 (.p 10 (.e1 11 (.e1 12 (.e1 13 (.e1 14 (.p 15 (.fin))))))))))))))))) [14] Try.follows (by kernel_rfl) hh (fun w hh => ?_)
      refine mc_p rfl   hf (yv_move rfl) (.inl rfl) rfl rfl ?_; clear hf a; intro a hf
      refine mc_p rfl   hf (yv_move rfl) (.inl rfl) rfl rfl ?_; clear hf a; intro a hf
      refine mc_p rfl   hf (yv_nilCheck rfl) (.inl rfl) rfl rfl ?_; clear hf a; intro a hf
      refine mc_p rfl   hf (yv_fieldAddr Try.fo_80_0 rfl) (.inl rfl) rfl rfl ?_; clear hf a; intro a hf
      refine mc_p rfl   hf (yv_fieldAddr Try.fo_37_0 rfl) (.inl rfl) rfl rfl ?_; clear hf a; intro a hf
      refine mc_q rfl rfl hh hf (y_ld Try.sc_33 rfl) (.inl rfl) rfl rfl ?_; clear hf a; intro a hf
      refine mc_q rfl rfl hh hf (y_ld Try.sc_3 rfl) (.inl rfl) rfl rfl ?_; clear hf a; intro a hf
      refine mc_p rfl   hf (y_ix Try.se_33 rfl rfl) (.inl rfl) rfl rfl ?_; clear hf a; intro a hf
      refine mc_q rfl rfl hh hf (y_lds Try.ag_24 rfl) (.inl rfl) rfl rfl ?_; clear hf a; intro a hf
      refine mc_p rfl   hf (yv_move rfl) (.inl rfl) rfl rfl ?_; clear hf a; intro a hf
      refine mc_p rfl   hf (yv_move rfl) (.inl rfl) rfl rfl ?_; clear hf a; intro a hf
      refine mc_e rfl fun Q1 => ?_
      refine o_call hf Try.en_71 rfl rfl rfl (p71 (clm d i q) (by omega) _) ?_; clear hf a; intro v a w hR hf
      obtain ⟨rfl, hx⟩ := hR; replace hh := hh.more hx; clear hx
      refine ops_end ?_
      refine then_n ⟨⟨fun _ _ => hh, trivial⟩, ?_⟩
      refine mc_e rfl fun Q1 => ?_
      refine o_call hf Try.en_53 rfl rfl rfl (p53 tm hto x (pc (clm d i q) : Nat) hxb.1 hxb.2 (by omega) (by omega) _) ?_; clear hf a; intro v a w hR hf
      obtain ⟨rfl, hx⟩ := hR; replace hh := hh.more hx; clear hx
      refine ops_end ?_
      refine then_n ⟨⟨fun _ _ => hh, trivial⟩, ?_⟩
      refine mc_e rfl fun Q1 => ?_
      refine ops_buildSl hf hh Try.bl_22_1 rfl rfl (.inl rfl) rfl ?_; clear hf hh; clear a; intro B83 a w hf hh
      refine ops_end ?_
      refine then_n ⟨⟨fun _ _ => (hh.less (.cons _ (List.Sublist.refl _))), trivial⟩, ?_⟩
      refine mc_e rfl fun Q1 => ?_
      refine ops_append (e := 3) (size := 1) (xs := ivs (higL d q i)) (X := X8) (Z := _) (m := i + 1) (q := 1) hf (hh.perm (.cons _ (perm_end (A := [_, _, _, _])))) Try.eb_22 rfl rfl hO2 rfl rfl rfl (by simp only [maxLen]; omega) (by omega) (.inl rfl) rfl ?_; clear hf hh a; intro v8n X8n a w hO8n hf hh
      replace hh := hh.perm (perm_back (A := [_, _, _, _]))
      refine ops_end ?_
      refine then_n ⟨⟨fun h => Bool.noConfusion (show true = false from h), trivial⟩, ?_⟩
      refine mc_p rfl   hf (yv_assign rfl) (.inl rfl) rfl rfl ?_; clear hf a; intro a hf
      refine mc_end ?_
      refine blk_n ?_
      refine then_n ?_
      refine sy_ops ?_
      refine o_v hf hh (y_add rfl rfl) ?_; clear hf a; intro a hf
      refine o_v hf hh (yv_move rfl) ?_; clear hf a; intro a hf
      refine ops_end ?_
      refine then_n ?_
      exact ⟨(i + 1, v7n, X7n, v8n, X8n), ⟨⟨by simp only; omega, by simp only; rw [lowL_succ, getD_at hx, ivs_app, term_at htm]; exact hO7n, by simp only; rw [higL_succ, getD_at hx, ivs_app, term_at htm]; exact hO8n, hh⟩, (hf.head (by repeat' (first | exact True.intro | refine And.intro rfl ?_)) (Keep.cons rfl (Keep.cons rfl (Keep.cons rfl (Keep.cons rfl (Keep.cons rfl (Keep.cons rfl (Keep.cons rfl (Keep.cons rfl (Keep.cons rfl (Keep.cons rfl (Keep.cons rfl (Keep.cons rfl (Keep.cons rfl (Keep.cons rfl (Keep.cons rfl (Keep.cons rfl (Keep.cons rfl (Keep.cons rfl (Keep.cons rfl (Keep.cons rfl (Keep.cons rfl (Keep.cons rfl (Keep.cons rfl (Keep.cons rfl (Keep.cons rfl (Keep.cons rfl (Keep.cons rfl (Keep.cons rfl (Keep.cons rfl (Keep.cons rfl (Keep.cons rfl (Keep.cons rfl (Keep.cons rfl (Keep.cons rfl (Keep.cons rfl (Keep.cons rfl (Keep.cons rfl (Keep.cons rfl (Keep.cons rfl (Keep.cons rfl (Keep.cons rfl (Keep.cons rfl (Keep.cons rfl (Keep.cons rfl (Keep.cons rfl (Keep.cons rfl (Keep.cons rfl (Keep.cons rfl (Keep.cons rfl (Keep.app rfl (Keep.rm rfl Keep.base))))))))))))))))))))))))))))))))))))))))))))))))))))⟩, by simp only; omega⟩
     ·have hG16 := hg16; try simp only [gS] at hG16
      refine sy_exit ?_
      refine then_e ?_
      refine then_e ?_
      refine blk_e ?_
      refine then_n ?_
      refine sy_seq ?_
      obtain rfl : i = d.prices.length := by omega
      obtain ⟨oa1, cp1, rfl, hl1, hA1⟩ := own_iat hO1 (w := w) (fun x hx => hh.get x (by simp [hx]))
      obtain ⟨oa2, cp2, rfl, hl2, hA2⟩ := own_iat hO2 (w := w) (fun x hx => hh.get x (by simp [hx]))
      have hc1 := p72 (lowL d q d.prices.length) oa1 cp1 w hA1 (by omega) (owe_take hO (by omega) (fun k => pc (surN d k q)) (fun k => pc_12 (Nat.lt_of_le_of_lt (surT_le d k q 4) (clm_lt12 hO k q))))
      rw [← hl1] at hc1
      refine sy_ops ?_
      refine o_v hf hh (yv_move rfl) ?_; clear hf a; intro a hf
      refine o_call hf Try.en_72 rfl rfl rfl hc1 ?_; clear hf a; intro v a w hR hf
      obtain ⟨rfl, hx⟩ := hR; replace hh := hh.more hx
      have hc2 := p72 (higL d q d.prices.length) oa2 cp2 _ (hA2.ext hx) (by omega) (owe_take hO (by omega) (fun k => pc (clm d k q)) (fun k => pc_12 (clm_lt12 hO k q)))
      rw [← hl2] at hc2
      clear hx
      refine o_v hf hh (yv_move rfl) ?_; clear hf a; intro a hf
      refine o_call hf Try.en_72 rfl rfl rfl (hc2) ?_; clear hf a; intro v a w hR hf
      obtain ⟨rfl, hx⟩ := hR; replace hh := hh.more hx; clear hx
      refine o_v hf hh (yv_buildS Try.bs_43 rfl rfl) ?_; clear hf a; intro a hf
      refine o_store hf hh Try.sz_43 fun w hh => ?_
      refine o_store hf hh Try.sz_26 fun w hh => ?_
      refine o_end ?_
      refine sy_ret ?_
      have ev : oweV d q = (sumI (lowL d q d.prices.length), sumI (higL d q d.prices.length)) := by unfold oweV; rw [if_pos e0]; rfl
      rw [e0, ev]
      exact ret_d (Ds := []) hf hh Try.en_69 (fun w' => d69r B5 w') fun w' hh => ⟨[.agg #[.int .i64 (sumI (lowL d q d.prices.length)), .int .i64 (sumI (higL d q d.prices.length))], .int .i64 0], ⟨⟨B4, 0, _, _, _, rfl, hh.at (i := 2) rfl, .inr ⟨2, _, Try.ag_43, rfl, rfl⟩⟩, ⟨B5, 0, _, _, _, rfl, hh.at (i := 1) rfl, .inl ⟨Try.sc_26, rfl⟩⟩, True.intro⟩, rfl, hh.ext⟩
  ·intro ch w hX hf
   obtain ⟨rfl, he, hx⟩ := hX; replace hh := hh.more hx; clear hx
   refine then_p ?_
   have ev : oweV d g = (0, 0) := by unfold oweV; exact if_neg he
   rw [ev]
   exact pan_d (Ds := []) hf hh Try.en_69 (fun w' hh => d69p B5 _ 0 w' (hh.at (i := 0) rfl)) fun w' w'' hh h2 => ⟨[.agg #[.int .i64 0, .int .i64 0], .int .i64 (oweE d g)], ⟨⟨B4, 0, _, _, _, rfl, (hh.turn (i := 0) rfl h2.ext (h2.at (i := 0) rfl)).at (i := 1) rfl, .inr ⟨2, _, Try.ag_43, rfl, rfl⟩⟩, ⟨B5, 0, _, _, _, rfl, h2.at (i := 0) rfl, .inl ⟨Try.sc_26, rfl⟩⟩, True.intro⟩, rfl, (hh.turn (i := 0) rfl h2.ext (h2.at (i := 0) rfl)).ext⟩
end Go.Proofs.Ytkfkifkdncdhoaa
namespace Go.RoyM
open Go Go.Sy
/-- Things in memory that the rounds of a range do not turn. -/
def TOff {α : Type} (n : Nat) (enc : α → List Value) (N : List Nat) (w : World) (sa : Option Addr) (l : List α) : Prop :=
  ∀ i s, l[i]? = some s → ∃ blk off c T fr, sa = some ⟨blk, off, none⟩ ∧ blk ∉ N ∧ w.heap[blk]? = some (.cells c T fr) ∧ cellsAt c (off + ((i : Nat) : Int).toNat * n) n = some (enc s)
section
variable {α : Type} {n : Nat} {enc : α → List Value} {N N' : List Nat} {u w w' : World} {sa : Option Addr} {l : List α}
theorem TOff.at (h : TOff n enc N w sa l) : TAt n enc w sa l := fun i s hi => by
  obtain ⟨blk, off, c, T, fr, h1, _, h2, h3⟩ := h i s hi
  exact ⟨blk, off, c, T, fr, h1, h2, h3⟩
theorem TOff.step (h : TOff n enc N w sa l) (e : Ext N w w') (g : Grows N N' w) : TOff n enc N' w' sa l := fun i s hi => by
  obtain ⟨blk, off, c, T, fr, h1, h0, h2, h3⟩ := h i s hi
  refine ⟨blk, off, c, T, fr, h1, fun hx => ?_, e.getM h2 h0, h3⟩
  have := (Array.getElem?_eq_some_iff.1 h2).1
  rcases g _ hx with h4 | h4
  · exact h0 h4
  · omega
theorem TOff.ext (h : TOff n enc N w sa l) (e : Ext [] w w') : TOff n enc N w' sa l := h.step (e.mono (by simp)) (.refl _ _)
theorem TOff.new (h : TAt n enc u sa l) (e : Ext [] u w) (hN : ∀ x ∈ N, u.heap.size ≤ x) : TOff n enc N w sa l := fun i s hi => by
  obtain ⟨blk, off, c, T, fr, h1, h2, h3⟩ := h i s hi
  refine ⟨blk, off, c, T, fr, h1, fun hx => ?_, e.get h2, h3⟩
  have := (Array.getElem?_eq_some_iff.1 h2).1
  have := hN _ hx
  omega
end
abbrev sV (x : Nat × Nat) : Array Value := #[.int .i64 (x.1 : Nat), .int .u64 (x.2 : Nat)]
theorem soldT_pre (d : RoyD) (k : Int) (m : Nat) : ∀ n, ∃ R, soldT d k (m + n) = soldT d k m ++ R
  | 0 => ⟨[], (List.append_nil _).symm⟩
  | n + 1 => by
    obtain ⟨R, h⟩ := soldT_pre d k m n
    exact ⟨R ++ if whoN d k (m + n) = 0 then [] else [(m + n, whoN d k (m + n))], by rw [← Nat.add_assoc, soldT, h, List.append_assoc]⟩
theorem soldT_at {d : RoyD} {k : Int} {c : Nat} (hc : c < 12) (hw : whoN d k c ≠ 0) : ((soldL d k).map sV)[(soldT d k c).length]? = some (sV (c, whoN d k c)) := by
  obtain ⟨R, hR⟩ := soldT_pre d k (c + 1) (11 - c)
  have e : soldT d k (c + 1) = soldT d k c ++ [(c, whoN d k c)] := by rw [soldT, if_neg hw]
  rw [show c + 1 + (11 - c) = 12 by omega, e] at hR
  unfold soldL
  rw [hR, List.append_assoc, List.map_append, List.getElem?_append_right (by simp), List.length_map, Nat.sub_self]
  rfl
theorem soldT_put {d : RoyD} {k : Int} {c : Nat} (hw : whoN d k c ≠ 0) : (soldT d k (c + 1)).length = (soldT d k c).length + 1 := by
  rw [soldT, if_neg hw, List.length_append]; rfl
theorem soldT_no {d : RoyD} {k : Int} {c : Nat} (hw : whoN d k c = 0) : soldT d k (c + 1) = soldT d k c := by
  rw [soldT, if_pos hw, List.append_nil]
end Go.RoyM
namespace Go.Proofs.Ytkfkifkdncdhoaa
open Go Go.Sy Go.RoyM
theorem p82 (Bc : Nat) (k : Int) (u : World) : Calls Try.prog 82 #[ptr Bc 0, .int .i64 k] u (Ret fun v w' => ∃ B2 B3, v = .func (.func 100) #[] #[ptr B2 0, ptr B3 0] ∧ Hp u [] [(B3, .cells #[.int .i64 k] 3), (B2, .cells #[ptr Bc 0] 76)] w') := by
  refine calls_of Try.func82 rfl rfl (fun a hf => ?_)
  have hh := Hp.init u []
  refine sy_sq ?_
  refine o_box hf hh ?_; clear hf hh a; intro B2 a w hf hh
  refine o_box hf hh ?_; clear hf hh a; intro B3 a w hf hh
  refine o_v hf hh (yv_assign rfl) ?_; clear hf a; intro a hf
  refine o_end ?_
  refine sy_sq ?_
  refine o_v hf hh (yv_makeFunc rfl rfl) ?_; clear hf a; intro a hf
  refine o_v hf hh (yv_assign rfl) ?_; clear hf a; intro a hf
  refine o_end ?_
  refine sy_ret ?_
  refine ret_r hf rfl rfl ?_
  exact ⟨B2, B3, rfl, hh⟩
theorem it100 (d : RoyD) (p : Pl) (k : Int) (Bc B1 B2 : Nat) (hV : RoyOk d) (hr4 : d.reps.length ≤ 1000) :
    IterF Try.prog 100 #[] #[ptr B1 0, ptr B2 0] ((soldL d k).map sV) [] (fun N w => Held N w [(B1, .cells #[ptr Bc 0] 76), (B2, .cells #[.int .i64 k] 3), (Bc, .cells (royC d p) 80)] ∧ TOff 4 rpC N w p.sr d.reps) := by
  intro l J K u N0 hJl hKl hJe hKe hy hJ0 hOT
  obtain ⟨hO0, hT0⟩ := hOT
  show Calls Try.prog 100 #[.func (.yield l) #[] #[], ptr B1 0, ptr B2 0] u _
  have jE : ∀ {k N v v'}, J k N v → Ext [] v v' → J k N v' := fun h e => hJe _ _ _ _ [] h e (by simp)
  have kE : ∀ {k N v v'}, K k N v → Ext [] v v' → K k N v' := fun h e => hKe _ _ _ _ [] h e (by simp)
  have m1 := hO0.at 0 rfl; have m2 := hO0.at 1 rfl; have m3 := hO0.at 2 rfl
  have hlt0 := hJl _ _ _ hJ0
  refine calls_of Try.func100 rfl rfl (fun a hf => ?_)
  have hh := Hp.init u []
  refine sy_scope ?_
  refine sy_sq ?_
  refine o_v hf hh (y_ld Try.sc_76 rfl) ?_; clear hf a; intro a hf
  refine o_v hf hh (y_ld Try.sc_3 rfl) ?_; clear hf a; intro a hf
  refine o_call hf Try.en_96 rfl rfl rfl (p96 d p Bc _ (hh.old m3) (hT0.at.ext hh.ext) hr4 hV k) ?_; clear hf a; intro v a w hR hf
  obtain ⟨rfl, hx⟩ := hR; replace hh := hh.more hx; clear hx
  refine o_alloc hf hh Try.ze_120 ?_; clear hf hh a; intro B4 a w hf hh
  refine o_store hf hh Try.sz_120 fun w hh => ?_
  refine o_end ?_
  refine sy_seq ?_
  refine sy_label ?_
  refine then_n ?_
  refine sy_seq ?_
  have hO : Held N0 w [(B4, .cells (clmC d.reps k) 120), (B1, .cells #[ptr Bc 0] 76), (B2, .cells #[.int .i64 k] 3), (Bc, .cells (royC d p) 80)] := Held.cons (hh.at (i := 0) rfl) (fun h => by
    have h1 := hlt0 _ h
    rcases hh.mine _ (.head _) with h2 | h2
    · omega
    · cases h2) (hO0.ext hh.ext)
  refine sy_ops ?_
  refine o_v hf hh (yv_move rfl) ?_; clear hf a; intro a hf
  refine o_end ?_
  refine sy_block ?_
  refine sy_loopH (σ := Nat) [5, 6, 7, 8, 12, 13, 14, 15, 16, 17, 18, 19, 20, 21, 22, 23, 24, 25, 26, 27, 28, 29, 30, 31, 32, 33, 34, 35] (fun c => [(12, .int .i64 (c : Nat))]) (fun c => fun w' => c ≤ 12 ∧ ∃ N, J (soldT d k c).length N w' ∧ Held N w' [(B4, .cells (clmC d.reps k) 120), (B1, .cells #[ptr Bc 0] 76), (B2, .cells #[.int .i64 k] 3), (Bc, .cells (royC d p) 80)] ∧ TOff 4 rpC N w' p.sr d.reps) (fun c => 12 - c) (0) hf ?_ ?_ ?_
  · repeat' (first | exact True.intro | refine And.intro rfl ?_)
  · exact ⟨Nat.zero_le _, N0, jE hJ0 hh.ext, hO, hT0.ext hh.ext⟩
  ·rintro c a w ⟨hc12, N, hJ, hO, hT⟩ hf
   clear m1 m2 m3 hh
   have m4 := (hO).at 0 rfl; have m1 := (hO).at 1 rfl; have m2 := (hO).at 2 rfl; have m3 := (hO).at 3 rfl
   have hh := Hp.init w []
   refine sy_sq ?_
   refine o_v hf hh (yv_bin rfl rfl rfl) ?_; clear hf a; intro a hf
   refine o_end ?_
   refine sy_seq ?_
   refine sy_cond hf rfl (fun hg3 => ?_) (fun hg3 => ?_)
   ·have hG3 := hg3; try simp only [gS] at hG3
    refine sy_skip ?_
    refine then_n ?_
    refine sy_seq ?_
    refine sy_block ?_
    refine sy_sq ?_
    refine o_v hf hh (yv_move rfl) ?_; clear hf a; intro a hf
    refine o_v hf hh (yv_assign rfl) ?_; clear hf a; intro a hf
    refine o_end ?_
    refine sy_sq ?_
    refine o_v hf hh (yv_assign rfl) ?_; clear hf a; intro a hf
    refine o_end ?_
    refine sy_seq ?_
    refine sy_sq ?_
    refine o_v hf hh (y_lds Try.ag_120 rfl) ?_; clear hf a; intro a hf
    refine o_v hf hh (yv_move rfl) ?_; clear hf a; intro a hf
    refine o_end ?_
    refine sy_block ?_
    refine sy_loopF (σ := Nat) [6, 7, 8, 16, 17, 18, 19, 20, 21, 22, 23, 24, 25, 26, 27] (fun g => [(6, .int .u64 (whoT d k c g : Nat)), (16, .int .i64 (g : Nat))]) (fun g => g ≤ 4) (fun g => 4 - g) (0) hf hh ?_ ?_ ?_
    · repeat' (first | exact True.intro | refine And.intro rfl ?_)
    · omega
    ·rintro g a w hg4 hf hh
     refine sy_sq ?_
     refine o_v hf hh (yv_bin rfl rfl rfl) ?_; clear hf a; intro a hf
     refine o_end ?_
     refine sy_seq ?_
     refine sy_cond hf rfl (fun hg5 => ?_) (fun hg5 => ?_)
     ·have hG5 := hg5; try simp only [gS] at hG5
      refine sy_skip ?_
      refine then_n ?_
      refine sy_seq ?_
      refine sy_block ?_
      refine sy_seq ?_
      have hcg := clmC_at0 d.reps k (show g < 4 by omega)
      rw [clmL_all] at hcg
      have hwl := whoT_lt d k c g
      have hp2 : 2 ^ g ≤ 2 ^ 3 := Nat.pow_le_pow_right (by omega) (by omega)
      obtain ⟨q, hq⟩ : ∃ q, q = 2 ^ g := ⟨_, rfl⟩
      rw [← hq] at hwl hp2
      refine sy_ops ?_
      refine o_v hf hh (yv_move rfl) ?_; clear hf a; intro a hf
      refine o_v hf hh (yv_idxS Try.ae_120 Try.sc_81 rfl rfl hcg) ?_; clear hf a; intro a hf
      refine o_v hf hh (yv_assign rfl) ?_; clear hf a; intro a hf
      refine o_v hf hh (yv_assign rfl) ?_; clear hf a; intro a hf
      refine o_end ?_
      refine sy_sq ?_
      refine o_v hf hh (yv_move rfl) ?_; clear hf a; intro a hf
      refine o_v hf hh (yv_move rfl) ?_; clear hf a; intro a hf
      refine o_call hf Try.en_84 rfl rfl rfl (p84 (clm d k g) c (by have := clm_lt12 hV k g; omega) (by omega) _) ?_; clear hf a; intro v a w hR hf
      obtain ⟨rfl, hx⟩ := hR; replace hh := hh.more hx; clear hx
      refine o_end ?_
      refine sy_cond hf rfl (fun hg8 => ?_) (fun hg8 => ?_)
      ·have hG8 := hg8; try simp only [gS] at hG8
       refine sy_ops ?_
       refine o_v hf hh (yv_move rfl) ?_; clear hf a; intro a hf
       refine o_v hf hh (yv_move rfl) ?_; clear hf a; intro a hf
       refine o_v hf hh (yv_cast (yv_shl1 (.inr rfl) rfl rfl (by omega) (by omega)) (intv (b := ((q : Nat) : Int)) (by rw [hq, Int.toNat_natCast]))) ?_; clear hf a; intro a hf
       refine o_v hf hh (yv_orU rfl rfl (by omega) (by omega)) ?_; clear hf a; intro a hf
       refine o_v hf hh (yv_assign rfl) ?_; clear hf a; intro a hf
       refine ops_end ?_
       refine blk_n ?_
       refine then_n ?_
       refine sy_ops ?_
       refine o_v hf hh (y_add rfl rfl) ?_; clear hf a; intro a hf
       refine o_v hf hh (yv_move rfl) ?_; clear hf a; intro a hf
       refine ops_end ?_
       refine then_n ?_
       first
         | exact ⟨g + 1, ⟨by omega, hf.head ⟨congrArg (fun z => some (Value.int IntKind.u64 ((z : Nat) : Int))) (by rw [whoT, if_pos (by rw [← clm_bit hV]; assumption), hq]), rfl, True.intro⟩ (Keep.cons rfl (Keep.cons rfl (Keep.cons rfl (Keep.cons rfl (Keep.cons rfl (Keep.cons rfl (Keep.cons rfl (Keep.cons rfl (Keep.cons rfl (Keep.cons rfl (Keep.cons rfl (Keep.cons rfl (Keep.cons rfl (Keep.cons rfl (Keep.cons rfl (Keep.app rfl (Keep.rm rfl Keep.base))))))))))))))))), hh⟩, by omega⟩
         | exact ⟨g + 1, ⟨by omega, hf.head ⟨congrArg (fun z => some (Value.int IntKind.u64 ((z : Nat) : Int))) (by rw [whoT, if_neg (by rw [← clm_bit hV]; simp_all)]), rfl, True.intro⟩ (Keep.cons rfl (Keep.cons rfl (Keep.cons rfl (Keep.cons rfl (Keep.cons rfl (Keep.cons rfl (Keep.cons rfl (Keep.cons rfl (Keep.cons rfl (Keep.cons rfl (Keep.cons rfl (Keep.cons rfl (Keep.cons rfl (Keep.cons rfl (Keep.cons rfl (Keep.app rfl (Keep.rm rfl Keep.base))))))))))))))))), hh⟩, by omega⟩
         | omega
      ·have hG8 := hg8; try simp only [gS] at hG8
       refine sy_skip ?_
       refine blk_n ?_
       refine then_n ?_
       refine sy_ops ?_
       refine o_v hf hh (y_add rfl rfl) ?_; clear hf a; intro a hf
       refine o_v hf hh (yv_move rfl) ?_; clear hf a; intro a hf
       refine ops_end ?_
       refine then_n ?_
       first
         | exact ⟨g + 1, ⟨by omega, hf.head ⟨congrArg (fun z => some (Value.int IntKind.u64 ((z : Nat) : Int))) (by rw [whoT, if_pos (by rw [← clm_bit hV]; assumption), hq]), rfl, True.intro⟩ (Keep.cons rfl (Keep.cons rfl (Keep.cons rfl (Keep.cons rfl (Keep.cons rfl (Keep.cons rfl (Keep.cons rfl (Keep.cons rfl (Keep.cons rfl (Keep.cons rfl (Keep.app rfl (Keep.rm rfl Keep.base)))))))))))), hh⟩, by omega⟩
         | exact ⟨g + 1, ⟨by omega, hf.head ⟨congrArg (fun z => some (Value.int IntKind.u64 ((z : Nat) : Int))) (by rw [whoT, if_neg (by rw [← clm_bit hV]; simp_all)]), rfl, True.intro⟩ (Keep.cons rfl (Keep.cons rfl (Keep.cons rfl (Keep.cons rfl (Keep.cons rfl (Keep.cons rfl (Keep.cons rfl (Keep.cons rfl (Keep.cons rfl (Keep.cons rfl (Keep.app rfl (Keep.rm rfl Keep.base)))))))))))), hh⟩, by omega⟩
         | omega
     ·have hG5 := hg5; try simp only [gS] at hG5
      refine sy_exit ?_
      refine then_e ?_
      refine then_e ?_
      refine blk_e ?_
      refine then_n ?_
      refine sy_seq ?_
      refine sy_seq ?_
      obtain rfl : g = 4 := by omega
      refine sy_ops ?_
      refine o_v hf hh (yv_move rfl) ?_; clear hf a; intro a hf
      refine o_v hf hh (yv_bin rfl rfl rfl) ?_; clear hf a; intro a hf
      refine o_end ?_
      refine sy_cond hf rfl (fun hg12 => ?_) (fun hg12 => ?_)
      ·have hG12 := hg12; try simp only [gS] at hG12
       refine sy_exit ?_
       refine then_e ?_
       refine blk_e ?_
       refine then_n ?_
       refine sy_ops ?_
       refine o_v hf hh (y_add rfl rfl) ?_; clear hf a; intro a hf
       refine o_v hf hh (yv_move rfl) ?_; clear hf a; intro a hf
       refine ops_end ?_
       refine then_n ?_
       first
         | exact ⟨c + 1, ⟨⟨by omega, N', by rw [soldT_put hw0]; exact jE (ho1 (by assumption)) hh.ext, hO'.ext hh.ext, hT'.ext hh.ext⟩, (hf.head (by repeat' (first | exact True.intro | refine And.intro rfl ?_)) (Keep.cons rfl (Keep.cons rfl (Keep.cons rfl (Keep.cons rfl (Keep.cons rfl (Keep.app rfl (Keep.rm rfl (Keep.cons rfl (Keep.cons rfl (Keep.cons rfl (Keep.cons rfl (Keep.cons rfl (Keep.cons rfl (Keep.app rfl (Keep.rm rfl Keep.base))))))))))))))))⟩, by omega⟩
         | exact ⟨c + 1, ⟨⟨by omega, N, by rw [soldT_no (show whoN d k c = 0 by unfold whoN; omega)]; exact jE hJ hh.ext, hO.ext hh.ext, hT.ext hh.ext⟩, (hf.head (by repeat' (first | exact True.intro | refine And.intro rfl ?_)) (Keep.cons rfl (Keep.cons rfl (Keep.cons rfl (Keep.cons rfl (Keep.cons rfl (Keep.app rfl (Keep.rm rfl (Keep.cons rfl (Keep.cons rfl (Keep.cons rfl (Keep.cons rfl (Keep.cons rfl (Keep.cons rfl (Keep.app rfl (Keep.rm rfl Keep.base))))))))))))))))⟩, by omega⟩
         | omega
      ·have hG12 := hg12; try simp only [gS] at hG12
       refine sy_skip ?_
       refine then_n ?_
       refine sy_seq ?_
       have hw0 : whoN d k c ≠ 0 := by have hz : ¬ (((whoT d k c 4 : Nat) : Int) = 0) := (by assumption); unfold whoN; omega
       refine sy_ops ?_
       refine o_v hf hh (yv_move rfl) ?_; clear hf a; intro a hf
       refine o_v hf hh (yv_move rfl) ?_; clear hf a; intro a hf
       refine o_v hf hh (yv_move rfl) ?_; clear hf a; intro a hf
       refine ops_yield hf rfl rfl (.inl rfl) rfl (hy _ _ _ _ (soldT_at (by omega) hw0) (jE hJ hh.ext)) ?_; clear hf; clear a; intro v a w hR hf
       have hR2 : ∃ (o : Bool) (N' : List Nat), v = .bool o ∧ Held N' w [(B4, .cells (clmC d.reps k) 120), (B1, .cells #[ptr Bc 0] 76), (B2, .cells #[.int .i64 k] 3), (Bc, .cells (royC d p) 80)] ∧ TOff 4 rpC N' w p.sr d.reps ∧ (o = true → J ((soldT d k c).length + 1) N' w) ∧ (o = false → K (soldT d k c).length N' w) := by
         obtain ⟨N', hg, he, hR⟩ := hR
         have hO' := (hO.ext hh.ext).step he hg
         have hT' := (hT.ext hh.ext).step he hg
         rcases hR with ⟨rfl, h⟩ | ⟨rfl, h⟩
         · exact ⟨true, N', rfl, hO', hT', fun _ => h, fun h => by cases h⟩
         · exact ⟨false, N', rfl, hO', hT', (fun h => by cases h), fun _ => h⟩
       clear hR
       obtain ⟨o, N', rfl, hO', hT', ho1, ho2⟩ := hR2
       clear hh m1 m2 m3 m4; have m4 := (hO').at 0 rfl; have m1 := (hO').at 1 rfl; have m2 := (hO').at 2 rfl; have m3 := (hO').at 3 rfl
       have hh := Hp.init w []
       refine o_v hf hh (yv_not rfl) ?_; clear hf a; intro a hf
       refine o_end ?_
       refine sy_cond hf rfl (fun hg14 => ?_) (fun hg14 => ?_)
       ·have hG14 := hg14; try simp only [gS] at hG14
        refine sy_ret ?_
        refine blk_r ?_
        refine then_r ?_
        refine then_r ?_
        refine blk_r ?_
        refine ng_r ?_
        refine ret_r hf rfl rfl ?_
        first
          | exact ⟨N', ⟨(hO'.ext hh.ext).sub (by simp), hT'.ext hh.ext⟩, .inr ⟨_, kE (ho2 (by assumption)) hh.ext⟩⟩
          | (obtain rfl : c = 12 := by omega
             exact ⟨N, ⟨(hO.ext hh.ext).sub (by simp), hT.ext hh.ext⟩, .inl (by rw [List.length_map]; exact jE hJ hh.ext)⟩)
          | omega
       ·have hG14 := hg14; try simp only [gS] at hG14
        refine sy_skip ?_
        refine blk_n ?_
        refine then_n ?_
        refine sy_ops ?_
        refine o_v hf hh (y_add rfl rfl) ?_; clear hf a; intro a hf
        refine o_v hf hh (yv_move rfl) ?_; clear hf a; intro a hf
        refine ops_end ?_
        refine then_n ?_
        first
          | exact ⟨c + 1, ⟨⟨by omega, N', by rw [soldT_put hw0]; exact jE (ho1 (by assumption)) hh.ext, hO'.ext hh.ext, hT'.ext hh.ext⟩, (hf.head (by repeat' (first | exact True.intro | refine And.intro rfl ?_)) (Keep.cons rfl (Keep.cons rfl (Keep.cons rfl (Keep.cons rfl (Keep.cons rfl (Keep.cons rfl (Keep.cons rfl (Keep.cons rfl (Keep.cons rfl (Keep.cons rfl (Keep.app rfl (Keep.rm rfl (Keep.cons rfl (Keep.cons rfl (Keep.cons rfl (Keep.cons rfl (Keep.cons rfl (Keep.cons rfl (Keep.app rfl (Keep.rm rfl Keep.base)))))))))))))))))))))⟩, by omega⟩
          | exact ⟨c + 1, ⟨⟨by omega, N, by rw [soldT_no (show whoN d k c = 0 by unfold whoN; omega)]; exact jE hJ hh.ext, hO.ext hh.ext, hT.ext hh.ext⟩, (hf.head (by repeat' (first | exact True.intro | refine And.intro rfl ?_)) (Keep.cons rfl (Keep.cons rfl (Keep.cons rfl (Keep.cons rfl (Keep.cons rfl (Keep.cons rfl (Keep.cons rfl (Keep.cons rfl (Keep.cons rfl (Keep.cons rfl (Keep.app rfl (Keep.rm rfl (Keep.cons rfl (Keep.cons rfl (Keep.cons rfl (Keep.cons rfl (Keep.cons rfl (Keep.cons rfl (Keep.app rfl (Keep.rm rfl Keep.base)))))))))))))))))))))⟩, by omega⟩
          | omega
   ·have hG3 := hg3; try simp only [gS] at hG3
    refine sy_exit ?_
    refine then_e ?_
    refine then_e ?_
    refine blk_e ?_
    refine ng_n ?_
    refine ret_n hf rfl rfl ?_
    first
      | exact ⟨N', ⟨(hO'.ext hh.ext).sub (by simp), hT'.ext hh.ext⟩, .inr ⟨_, kE (ho2 (by assumption)) hh.ext⟩⟩
      | (obtain rfl : c = 12 := by omega
         exact ⟨N, ⟨(hO.ext hh.ext).sub (by simp), hT.ext hh.ext⟩, .inl (by rw [List.length_map]; exact jE hJ hh.ext)⟩)
      | omega
end Go.Proofs.Ytkfkifkdncdhoaa
