/- Lemmas, in order: The document's Claims and Owes; royalties that are great. All truths, as the document goes through them. All truths, as the document goes through them. Lists of truths in memory; the best of them. Truths that are made; the order of truths.. -/
import Derived.Test.YtkfkifkdncdhoaaQ14
namespace Go.Proofs.Ytkfkifkdncdhoaa
open Go Go.Sy Go.RoyM
/-- Royalties of any size in memory. -/
structure RoyIn (w : World) (d : RoyD) (p : Pl) : Prop where
  tm : TAt 3 tmC w p.st d.terms
  pr : IAt w p.sp d.prices
  sh : LAt w p.ss d.shares
  rp : TAt 4 rpC w p.sr d.reps
  pd : IAt w p.sd d.paid
  n1 : d.terms.length ≤ maxLen
  n2 : d.prices.length ≤ maxLen
  n3 : d.shares.length ≤ maxLen
  n4 : d.reps.length ≤ maxLen
  n5 : d.paid.length ≤ maxLen
  n6 : ∀ l ∈ d.shares, l.length ≤ maxLen
  cap : d.reps.length ≤ p.cr
  caps : d.shares.length ≤ p.cs
theorem RoyIn.ext {w w' : World} {d : RoyD} {p : Pl} (h : RoyIn w d p) (e : Ext [] w w') : RoyIn w' d p :=
  ⟨h.tm.ext e, h.pr.ext e, h.sh.ext e, h.rp.ext e, h.pd.ext e, h.n1, h.n2, h.n3, h.n4, h.n5, h.n6, h.cap, h.caps⟩
theorem RoyIn.at {w : World} {d : RoyD} {p : Pl} (h : RoyIn w d p) (hg : grB d = false) : RoyAt w d p := by
  obtain ⟨h1, h2, h3, h4, h5, h6⟩ := gr_no hg
  exact ⟨h.tm, h.pr, h.sh, h.rp, h.pd, by omega, by omega, by omega, by omega, by omega, fun l hl => by have := h6 l hl; omega, h.cap⟩
theorem p20 (d : RoyD) (p : Pl) (u : World) (hR : RoyIn u d p) : Calls Try.prog 20 #[.agg (royC d p)] u (Ret fun v w' => v = .bool (grB d) ∧ Ext [] u w') := by
  refine calls_of Try.func20 rfl rfl (fun a hf => ?_)
  have hh := Hp.init u []
  obtain ⟨st, sp, ss, sr, sd, ct, cp, cs, cr, cd⟩ := p
  have hn3 := hR.n3; simp only [maxLen] at hn3
  refine sy_sq ?_
  refine o_box hf hh ?_; clear hf hh a; intro B1 a w hf hh
  refine o_v hf hh (yv_assign rfl) ?_; clear hf a; intro a hf
  refine o_end ?_
  refine sy_sq ?_
  refine o_v hf hh (yv_assign rfl) ?_; clear hf a; intro a hf
  refine o_end ?_
  refine sy_seq ?_
  refine sy_sq ?_
  refine o_v hf hh (yv_fieldAddr Try.fo_37_2 rfl) ?_; clear hf a; intro a hf
  refine o_v hf hh (y_ld Try.sc_34 rfl) ?_; clear hf a; intro a hf
  refine o_v hf hh (yv_len Try.se_34 rfl) ?_; clear hf a; intro a hf
  refine o_v hf hh (yv_move rfl) ?_; clear hf a; intro a hf
  refine o_end ?_
  refine sy_block ?_
  refine sy_loopF (σ := Nat) [3, 5, 9, 10, 11, 12, 13, 14, 15, 16, 17] (fun i => [(3, .int .i64 (mxN (d.shares.take i) : Nat)), (9, .int .i64 (i : Nat))]) (fun i => i ≤ d.shares.length) (fun i => d.shares.length - i) (0) hf hh ?_ ?_ ?_
  · repeat' (first | exact True.intro | refine And.intro rfl ?_)
  · exact Nat.zero_le _
  ·rintro i a w hi hf hh
   refine sy_sq ?_
   refine o_v hf hh (yv_bin rfl rfl rfl) ?_; clear hf a; intro a hf
   refine o_end ?_
   refine sy_seq ?_
   refine sy_cond hf rfl (fun hg2 => ?_) (fun hg2 => ?_)
   ·have hG2 := hg2; try simp only [gS] at hG2
    refine sy_skip ?_
    refine then_n ?_
    refine sy_seq ?_
    refine sy_block ?_
    refine sy_seq ?_
    obtain ⟨x, hx⟩ := ex_of (l := d.shares) (i := i) (by omega)
    obtain ⟨blk, off, cc, T, fr, sb, cb, e, hb, hc, hI⟩ := hR.sh i x hx; dsimp only at e; subst e
    have hmt := mx_take hx
    refine sy_ops ?_
    refine o_v hf hh (y_ix Try.se_34 rfl rfl) ?_; clear hf a; intro a hf
    refine o_v hf hh (y_ld Try.sc_22 rfl) ?_; clear hf a; intro a hf
    refine o_v hf hh (yv_assign rfl) ?_; clear hf a; intro a hf
    refine o_end ?_
    refine sy_ops ?_
    refine o_v hf hh (yv_move rfl) ?_; clear hf a; intro a hf
    refine o_v hf hh (yv_move rfl) ?_; clear hf a; intro a hf
    refine o_v hf hh (yv_len Try.se_22 rfl) ?_; clear hf a; intro a hf
    refine o_v hf hh (yv_max rfl rfl) ?_; clear hf a; intro a hf
    refine o_v hf hh (yv_assign rfl) ?_; clear hf a; intro a hf
    refine ops_end ?_
    refine blk_n ?_
    refine then_n ?_
    refine sy_ops ?_
    refine o_v hf hh (y_add rfl rfl) ?_; clear hf a; intro a hf
    refine o_v hf hh (yv_move rfl) ?_; clear hf a; intro a hf
    refine ops_end ?_
    refine then_n ?_
    exact ⟨i + 1, ⟨by omega, hf.head ⟨congrArg some (intv (by rw [hmt]; omega)), rfl, True.intro⟩ (Keep.cons rfl (Keep.cons rfl (Keep.cons rfl (Keep.cons rfl (Keep.cons rfl (Keep.cons rfl (Keep.cons rfl (Keep.cons rfl (Keep.cons rfl (Keep.cons rfl (Keep.cons rfl (Keep.app rfl (Keep.rm rfl Keep.base))))))))))))), hh⟩, by omega⟩
   ·have hG2 := hg2; try simp only [gS] at hG2
    refine sy_exit ?_
    refine then_e ?_
    refine then_e ?_
    refine blk_e ?_
    refine then_n ?_
    refine sy_seq ?_
    obtain rfl : i = d.shares.length := by omega
    rw [List.take_length] at hf
    refine sy_ops ?_
    refine o_v hf hh (yv_fieldAddr Try.fo_37_0 rfl) ?_; clear hf a; intro a hf
    refine o_v hf hh (y_ld Try.sc_33 rfl) ?_; clear hf a; intro a hf
    refine o_v hf hh (yv_len Try.se_33 rfl) ?_; clear hf a; intro a hf
    refine o_v hf hh (yv_bin rfl rfl rfl) ?_; clear hf a; intro a hf
    refine o_v hf hh (yv_move rfl) ?_; clear hf a; intro a hf
    refine guard_split hf (t := 22) rfl (fun hg4 => ?_) (fun hg4 => ?_)
    ·have hG4 := hg4; try simp only [gS] at hG4
     refine o_off hf ?_; clear hf a; intro a hf
     refine o_off hf ?_; clear hf a; intro a hf
     refine o_off hf ?_; clear hf a; intro a hf
     refine o_off hf ?_; clear hf a; intro a hf
     refine o_v hf hh (y_pt rfl rfl) ?_; clear hf a; intro a hf
     refine o_v hf hh (yv_move rfl) ?_; clear hf a; intro a hf
     refine o_off hf ?_; clear hf a; intro a hf
     refine o_off hf ?_; clear hf a; intro a hf
     refine o_off hf ?_; clear hf a; intro a hf
     refine o_off hf ?_; clear hf a; intro a hf
     refine o_v hf hh (y_pt rfl rfl) ?_; clear hf a; intro a hf
     refine o_v hf hh (yv_move rfl) ?_; clear hf a; intro a hf
     refine o_off hf ?_; clear hf a; intro a hf
     refine o_off hf ?_; clear hf a; intro a hf
     refine o_off hf ?_; clear hf a; intro a hf
     refine o_off hf ?_; clear hf a; intro a hf
     refine o_v hf hh (y_pt rfl rfl) ?_; clear hf a; intro a hf
     refine o_v hf hh (yv_move rfl) ?_; clear hf a; intro a hf
     refine o_off hf ?_; clear hf a; intro a hf
     refine o_off hf ?_; clear hf a; intro a hf
     refine o_off hf ?_; clear hf a; intro a hf
     refine o_off hf ?_; clear hf a; intro a hf
     refine o_v hf hh (y_pt rfl rfl) ?_; clear hf a; intro a hf
     refine o_v hf hh (yv_move rfl) ?_; clear hf a; intro a hf
     refine o_off hf ?_; clear hf a; intro a hf
     refine o_off hf ?_; clear hf a; intro a hf
     refine o_v hf hh (y_pt rfl rfl) ?_; clear hf a; intro a hf
     refine o_v hf hh (yv_assign rfl) ?_; clear hf a; intro a hf
     refine o_end ?_
     refine sy_ret ?_
     refine ret_r hf rfl rfl ?_
     refine ⟨congrArg Value.bool ?_, hh.ext⟩
     clear hf hh
     unfold grB
     rw [Bool.eq_iff_iff]
     simp only [Bool.or_eq_true, decide_eq_true_eq]
     first
       | omega
       | (simp; omega)
    ·have hG4 := hg4; try simp only [gS] at hG4
     refine o_v hf hh (yv_fieldAddr Try.fo_37_1 rfl) ?_; clear hf a; intro a hf
     refine o_v hf hh (y_ld Try.sc_22 rfl) ?_; clear hf a; intro a hf
     refine o_v hf hh (yv_len Try.se_22 rfl) ?_; clear hf a; intro a hf
     refine o_v hf hh (yv_bin rfl rfl rfl) ?_; clear hf a; intro a hf
     refine o_v hf hh (y_pf rfl rfl) ?_; clear hf a; intro a hf
     refine o_v hf hh (yv_move rfl) ?_; clear hf a; intro a hf
     refine guard_split hf (t := 28) rfl (fun hg6 => ?_) (fun hg6 => ?_)
     ·have hG6 := hg6; try simp only [gS] at hG6
      refine o_off hf ?_; clear hf a; intro a hf
      refine o_off hf ?_; clear hf a; intro a hf
      refine o_off hf ?_; clear hf a; intro a hf
      refine o_off hf ?_; clear hf a; intro a hf
      refine o_v hf hh (y_pt rfl rfl) ?_; clear hf a; intro a hf
      refine o_v hf hh (yv_move rfl) ?_; clear hf a; intro a hf
      refine o_off hf ?_; clear hf a; intro a hf
      refine o_off hf ?_; clear hf a; intro a hf
      refine o_off hf ?_; clear hf a; intro a hf
      refine o_off hf ?_; clear hf a; intro a hf
      refine o_v hf hh (y_pt rfl rfl) ?_; clear hf a; intro a hf
      refine o_v hf hh (yv_move rfl) ?_; clear hf a; intro a hf
      refine o_off hf ?_; clear hf a; intro a hf
      refine o_off hf ?_; clear hf a; intro a hf
      refine o_off hf ?_; clear hf a; intro a hf
      refine o_off hf ?_; clear hf a; intro a hf
      refine o_v hf hh (y_pt rfl rfl) ?_; clear hf a; intro a hf
      refine o_v hf hh (yv_move rfl) ?_; clear hf a; intro a hf
      refine o_off hf ?_; clear hf a; intro a hf
      refine o_off hf ?_; clear hf a; intro a hf
      refine o_v hf hh (y_pt rfl rfl) ?_; clear hf a; intro a hf
      refine o_v hf hh (yv_assign rfl) ?_; clear hf a; intro a hf
      refine o_end ?_
      refine sy_ret ?_
      refine ret_r hf rfl rfl ?_
      refine ⟨congrArg Value.bool ?_, hh.ext⟩
      clear hf hh
      unfold grB
      rw [Bool.eq_iff_iff]
      simp only [Bool.or_eq_true, decide_eq_true_eq]
      first
        | omega
        | (simp; omega)
     ·have hG6 := hg6; try simp only [gS] at hG6
      refine o_v hf hh (yv_fieldAddr Try.fo_37_2 rfl) ?_; clear hf a; intro a hf
      refine o_v hf hh (y_ld Try.sc_34 rfl) ?_; clear hf a; intro a hf
      refine o_v hf hh (yv_len Try.se_34 rfl) ?_; clear hf a; intro a hf
      refine o_v hf hh (yv_bin rfl rfl rfl) ?_; clear hf a; intro a hf
      refine o_v hf hh (y_pf rfl rfl) ?_; clear hf a; intro a hf
      refine o_v hf hh (yv_move rfl) ?_; clear hf a; intro a hf
      refine guard_split hf (t := 34) rfl (fun hg8 => ?_) (fun hg8 => ?_)
      ·have hG8 := hg8; try simp only [gS] at hG8
       refine o_off hf ?_; clear hf a; intro a hf
       refine o_off hf ?_; clear hf a; intro a hf
       refine o_off hf ?_; clear hf a; intro a hf
       refine o_off hf ?_; clear hf a; intro a hf
       refine o_v hf hh (y_pt rfl rfl) ?_; clear hf a; intro a hf
       refine o_v hf hh (yv_move rfl) ?_; clear hf a; intro a hf
       refine o_off hf ?_; clear hf a; intro a hf
       refine o_off hf ?_; clear hf a; intro a hf
       refine o_off hf ?_; clear hf a; intro a hf
       refine o_off hf ?_; clear hf a; intro a hf
       refine o_v hf hh (y_pt rfl rfl) ?_; clear hf a; intro a hf
       refine o_v hf hh (yv_move rfl) ?_; clear hf a; intro a hf
       refine o_off hf ?_; clear hf a; intro a hf
       refine o_off hf ?_; clear hf a; intro a hf
       refine o_v hf hh (y_pt rfl rfl) ?_; clear hf a; intro a hf
       refine o_v hf hh (yv_assign rfl) ?_; clear hf a; intro a hf
       refine o_end ?_
       refine sy_ret ?_
       refine ret_r hf rfl rfl ?_
       refine ⟨congrArg Value.bool ?_, hh.ext⟩
       clear hf hh
       unfold grB
       rw [Bool.eq_iff_iff]
       simp only [Bool.or_eq_true, decide_eq_true_eq]
       first
         | omega
         | (simp; omega)
      ·have hG8 := hg8; try simp only [gS] at hG8
       refine o_v hf hh (yv_fieldAddr Try.fo_37_3 rfl) ?_; clear hf a; intro a hf
       refine o_v hf hh (y_ld Try.sc_35 rfl) ?_; clear hf a; intro a hf
       refine o_v hf hh (yv_len Try.se_35 rfl) ?_; clear hf a; intro a hf
       refine o_v hf hh (yv_bin rfl rfl rfl) ?_; clear hf a; intro a hf
       refine o_v hf hh (y_pf rfl rfl) ?_; clear hf a; intro a hf
       refine o_v hf hh (yv_move rfl) ?_; clear hf a; intro a hf
       refine guard_split hf (t := 40) rfl (fun hg10 => ?_) (fun hg10 => ?_)
       ·have hG10 := hg10; try simp only [gS] at hG10
        refine o_off hf ?_; clear hf a; intro a hf
        refine o_off hf ?_; clear hf a; intro a hf
        refine o_off hf ?_; clear hf a; intro a hf
        refine o_off hf ?_; clear hf a; intro a hf
        refine o_v hf hh (y_pt rfl rfl) ?_; clear hf a; intro a hf
        refine o_v hf hh (yv_move rfl) ?_; clear hf a; intro a hf
        refine o_off hf ?_; clear hf a; intro a hf
        refine o_off hf ?_; clear hf a; intro a hf
        refine o_v hf hh (y_pt rfl rfl) ?_; clear hf a; intro a hf
        refine o_v hf hh (yv_assign rfl) ?_; clear hf a; intro a hf
        refine o_end ?_
        refine sy_ret ?_
        refine ret_r hf rfl rfl ?_
        refine ⟨congrArg Value.bool ?_, hh.ext⟩
        clear hf hh
        unfold grB
        rw [Bool.eq_iff_iff]
        simp only [Bool.or_eq_true, decide_eq_true_eq]
        first
          | omega
          | (simp; omega)
       ·have hG10 := hg10; try simp only [gS] at hG10
        refine o_v hf hh (yv_fieldAddr Try.fo_37_4 rfl) ?_; clear hf a; intro a hf
        refine o_v hf hh (y_ld Try.sc_22 rfl) ?_; clear hf a; intro a hf
        refine o_v hf hh (yv_len Try.se_22 rfl) ?_; clear hf a; intro a hf
        refine o_v hf hh (yv_bin rfl rfl rfl) ?_; clear hf a; intro a hf
        refine o_v hf hh (y_pf rfl rfl) ?_; clear hf a; intro a hf
        refine o_v hf hh (yv_move rfl) ?_; clear hf a; intro a hf
        refine guard_split hf (t := 46) rfl (fun hg12 => ?_) (fun hg12 => ?_)
        ·have hG12 := hg12; try simp only [gS] at hG12
         refine o_off hf ?_; clear hf a; intro a hf
         refine o_off hf ?_; clear hf a; intro a hf
         refine o_v hf hh (y_pt rfl rfl) ?_; clear hf a; intro a hf
         refine o_v hf hh (yv_assign rfl) ?_; clear hf a; intro a hf
         refine o_end ?_
         refine sy_ret ?_
         refine ret_r hf rfl rfl ?_
         refine ⟨congrArg Value.bool ?_, hh.ext⟩
         clear hf hh
         unfold grB
         rw [Bool.eq_iff_iff]
         simp only [Bool.or_eq_true, decide_eq_true_eq]
         first
           | omega
           | (simp; omega)
        ·have hG12 := hg12; try simp only [gS] at hG12
         refine o_v hf hh (yv_move rfl) ?_; clear hf a; intro a hf
         refine o_v hf hh (yv_bin rfl rfl rfl) ?_; clear hf a; intro a hf
         refine o_v hf hh (y_pf rfl rfl) ?_; clear hf a; intro a hf
         refine o_v hf hh (yv_assign rfl) ?_; clear hf a; intro a hf
         refine o_end ?_
         refine sy_ret ?_
         refine ret_r hf rfl rfl ?_
         refine ⟨congrArg Value.bool ?_, hh.ext⟩
         clear hf hh
         unfold grB
         rw [Bool.eq_iff_iff]
         simp only [Bool.or_eq_true, decide_eq_true_eq]
         first
           | omega
           | (simp; omega)
theorem p24 (d : RoyD) (p : Pl) (g k : Int) (u : World) (hR : RoyAt u d p) : Calls Try.prog 24 #[.agg (royC d p), .int .i64 g, .int .i64 k] u (Ret fun v w' => v = .tuple #[.int .i64 ((claV d g k).1 : Nat), .int .i64 ((claV d g k).2 : Nat), .int .i64 (claE d g k)] ∧ Ext [] u w') := by
  refine calls_of Try.func24 rfl rfl (fun a hf => ?_)
  have hh := Hp.init u []
  refine sy_sq ?_
  refine o_box hf hh ?_; clear hf hh a; intro B3 a w hf hh
  refine o_v hf hh (yv_assign rfl) ?_; clear hf a; intro a hf
  refine o_v hf hh (yv_assign rfl) ?_; clear hf a; intro a hf
  refine o_v hf hh (yv_assign rfl) ?_; clear hf a; intro a hf
  refine o_end ?_
  refine sy_seq ?_
  refine sy_tree1 (.q 0 0 (.q 0 1 (.p 2 (.e1 3 (.p 4 (.q 0 5 (.p 6 (.e1 7 (.p 8 (.e1 9 (.p 10 (.fin)))))))))))) [] Try.follows (by kernel_rfl) hh (fun w hh => ?_)
  refine mc_q rfl rfl hh hf (y_lds Try.ag_37 rfl) (.inl rfl) rfl rfl ?_; clear hf a; intro a hf
  refine mc_q rfl rfl hh hf (y_lds Try.ag_37 rfl) (.inl rfl) rfl rfl ?_; clear hf a; intro a hf
  refine mc_p rfl   hf (yv_move rfl) (.inl rfl) rfl rfl ?_; clear hf a; intro a hf
  refine mc_e rfl fun Q1 => ?_
  refine o_call hf Try.en_67 rfl rfl rfl (p67 d p g _ hR.n1) ?_; clear hf a; intro v a w hR hf
  obtain ⟨rfl, hx⟩ := hR; replace hh := hh.more hx; clear hx
  refine ops_end ?_
  refine then_n ⟨⟨fun _ _ => hh, trivial⟩, ?_⟩
  refine mc_p rfl   hf (yv_move rfl) (.inl rfl) rfl rfl ?_; clear hf a; intro a hf
  refine guard_any hf (t := 16) rfl (fun hg2 => ?_) (fun hg2 => ?_)
  ·have hG2 := hg2; try simp only [gS] at hG2
   refine mc_q rfl rfl hh hf (y_lds Try.ag_37 rfl) (gon rfl rfl rfl (by first | assumption | rfl | (simp; done) | (simp; omega))) rfl rfl ?_; clear hf a; intro a hf
   refine mc_p rfl   hf (yv_move rfl) (gon rfl rfl rfl (by first | assumption | rfl | (simp; done) | (simp; omega))) rfl rfl ?_; clear hf a; intro a hf
   refine mc_e rfl fun Q1 => ?_
   refine o_call hf Try.en_43 rfl rfl rfl (p43 d p k _ hR.n2) ?_; clear hf a; intro v a w hR hf
   obtain ⟨rfl, hx⟩ := hR; replace hh := hh.more hx; clear hx
   refine ops_end ?_
   refine then_n ⟨⟨fun _ _ => hh, trivial⟩, ?_⟩
   refine mc_p rfl   hf (y_pt rfl rfl) (.inl rfl) rfl rfl ?_; clear hf a; intro a hf
   refine mc_e rfl fun Q1 => ?_
   first
     | (refine o_call hf Try.en_66 rfl rfl rfl (p66 d p _ _ (hR.ext hh.ext)) ?_; clear hf a; intro v a w hR2 hf
        rw [show openE d (isKd d k) = claE d g k by unfold claE; simp_all] at hR2)
     | (refine o_call hf Try.en_66 rfl rfl rfl (p66 d p _ _ (hR.ext hh.ext)) ?_; clear hf a; intro v a w hR2 hf
        rw [show openE d false = claE d g k by unfold claE; simp_all] at hR2)
   obtain ⟨rfl, hx⟩ := hR2; replace hh := hh.more hx; clear hx
   refine ops_end ?_
   refine then_n ⟨⟨fun _ _ => hh, trivial⟩, ?_⟩
   refine mc_p rfl   hf (yv_assign rfl) (.inl rfl) rfl rfl ?_; clear hf a; intro a hf
   refine mc_end ?_
   refine then_n ?_
   refine sy_seq ?_
   refine sy_sq ?_
   refine o_v hf hh (yv_move rfl) ?_; clear hf a; intro a hf
   refine o_v hf hh (yv_bin rfl rfl rfl) ?_; clear hf a; intro a hf
   refine o_end ?_
   refine sy_cond hf rfl (fun hg6 => ?_) (fun hg6 => ?_)
   ·have hG6 := hg6; try simp only [gS] at hG6
    refine sy_sq ?_
    refine o_v hf hh (yv_move rfl) ?_; clear hf a; intro a hf
    refine o_v hf hh (yv_assign rfl) ?_; clear hf a; intro a hf
    refine o_v hf hh (yv_assign rfl) ?_; clear hf a; intro a hf
    refine o_v hf hh (yv_assign rfl) ?_; clear hf a; intro a hf
    refine o_end ?_
    refine sy_ret ?_
    refine then_r ?_
    refine ret_r hf rfl rfl ?_
    first
      | (have e1 : claV d g k = (0, 0) := by unfold claV; rw [if_neg (by assumption)]
         exact ⟨by rw [e1]; rfl, hh.ext⟩)
      | exact ⟨by rw [e1, he]; rfl, hh.ext⟩
      | omega
   ·have hG6 := hg6; try simp only [gS] at hG6
    refine sy_skip ?_
    refine then_n ?_
    refine sy_seq ?_
    have he : claE d g k = 0 := by assumption
    obtain ⟨hok, hask⟩ := openE_zero.1 he
    have hO := royB_iff.1 hok
    rw [Bool.and_eq_true] at hask
    obtain ⟨hg0, hg1⟩ := inI_bd hask.1
    obtain ⟨q, rfl⟩ : ∃ q : Nat, g = q := ⟨g.toNat, by omega⟩
    have e1 : claV d q k = (surN d k q, clm d k q) := by unfold claV; rw [if_pos he]; rfl
    refine sy_ops ?_
    refine o_v hf hh (y_lds Try.ag_37 rfl) ?_; clear hf a; intro a hf
    refine o_v hf hh (yv_move rfl) ?_; clear hf a; intro a hf
    refine o_v hf hh (yv_move rfl) ?_; clear hf a; intro a hf
    refine o_call hf Try.en_68 rfl rfl rfl (p68 d p q k _ (hR.ext hh.ext) hO (by omega)) ?_; clear hf a; intro v a w hR hf
    obtain ⟨rfl, hx⟩ := hR; replace hh := hh.more hx; clear hx
    refine o_v hf hh (yv_move rfl) ?_; clear hf a; intro a hf
    refine o_v hf hh (yv_extract rfl rfl) ?_; clear hf a; intro a hf
    refine o_v hf hh (yv_extract rfl rfl) ?_; clear hf a; intro a hf
    refine o_v hf hh (yv_assign rfl) ?_; clear hf a; intro a hf
    refine o_v hf hh (yv_assign rfl) ?_; clear hf a; intro a hf
    refine o_end ?_
    refine sy_sq ?_
    refine o_v hf hh (yv_move rfl) ?_; clear hf a; intro a hf
    refine o_v hf hh (yv_move rfl) ?_; clear hf a; intro a hf
    refine o_v hf hh (yv_assign rfl) ?_; clear hf a; intro a hf
    refine o_v hf hh (yv_assign rfl) ?_; clear hf a; intro a hf
    refine o_v hf hh (yv_assign rfl) ?_; clear hf a; intro a hf
    refine o_end ?_
    refine sy_ret ?_
    refine ret_r hf rfl rfl ?_
    first
      | (have e1 : claV d g k = (0, 0) := by unfold claV; rw [if_neg (by assumption)]
         exact ⟨by rw [e1]; rfl, hh.ext⟩)
      | exact ⟨by rw [e1, he]; rfl, hh.ext⟩
      | omega
  ·have hG2 := hg2; try simp only [gS] at hG2
   refine mc_offq rfl rfl hh hf (goff rfl rfl rfl (by first | assumption | rfl | (simp; done) | (simp; omega))) rfl rfl ?_; clear hf a; intro a hf
   refine mc_off rfl hf (goff rfl rfl rfl (by first | assumption | rfl | (simp; done) | (simp; omega))) rfl rfl ?_; clear hf a; intro a hf
   refine mc_e rfl fun Q1 => ?_
   refine o_off hf ?_; clear hf a; intro a hf
   refine ops_end ?_
   refine then_n ⟨⟨fun _ _ => hh, trivial⟩, ?_⟩
   refine mc_p rfl   hf (y_pf rfl rfl) (.inl rfl) rfl rfl ?_; clear hf a; intro a hf
   refine mc_e rfl fun Q1 => ?_
   first
     | (refine o_call hf Try.en_66 rfl rfl rfl (p66 d p _ _ (hR.ext hh.ext)) ?_; clear hf a; intro v a w hR2 hf
        rw [show openE d (isKd d k) = claE d g k by unfold claE; simp_all] at hR2)
     | (refine o_call hf Try.en_66 rfl rfl rfl (p66 d p _ _ (hR.ext hh.ext)) ?_; clear hf a; intro v a w hR2 hf
        rw [show openE d false = claE d g k by unfold claE; simp_all] at hR2)
   obtain ⟨rfl, hx⟩ := hR2; replace hh := hh.more hx; clear hx
   refine ops_end ?_
   refine then_n ⟨⟨fun _ _ => hh, trivial⟩, ?_⟩
   refine mc_p rfl   hf (yv_assign rfl) (.inl rfl) rfl rfl ?_; clear hf a; intro a hf
   refine mc_end ?_
   refine then_n ?_
   refine sy_seq ?_
   refine sy_sq ?_
   refine o_v hf hh (yv_move rfl) ?_; clear hf a; intro a hf
   refine o_v hf hh (yv_bin rfl rfl rfl) ?_; clear hf a; intro a hf
   refine o_end ?_
   refine sy_cond hf rfl (fun hg12 => ?_) (fun hg12 => ?_)
   ·have hG12 := hg12; try simp only [gS] at hG12
    refine sy_sq ?_
    refine o_v hf hh (yv_move rfl) ?_; clear hf a; intro a hf
    refine o_v hf hh (yv_assign rfl) ?_; clear hf a; intro a hf
    refine o_v hf hh (yv_assign rfl) ?_; clear hf a; intro a hf
    refine o_v hf hh (yv_assign rfl) ?_; clear hf a; intro a hf
    refine o_end ?_
    refine sy_ret ?_
    refine then_r ?_
    refine ret_r hf rfl rfl ?_
    first
      | (have e1 : claV d g k = (0, 0) := by unfold claV; rw [if_neg (by assumption)]
         exact ⟨by rw [e1]; rfl, hh.ext⟩)
      | exact ⟨by rw [e1, he]; rfl, hh.ext⟩
      | omega
   ·have hG12 := hg12; try simp only [gS] at hG12
    refine sy_skip ?_
    refine then_n ?_
    refine sy_seq ?_
    have he : claE d g k = 0 := by assumption
    obtain ⟨hok, hask⟩ := openE_zero.1 he
    have hO := royB_iff.1 hok
    rw [Bool.and_eq_true] at hask
    obtain ⟨hg0, hg1⟩ := inI_bd hask.1
    obtain ⟨q, rfl⟩ : ∃ q : Nat, g = q := ⟨g.toNat, by omega⟩
    have e1 : claV d q k = (surN d k q, clm d k q) := by unfold claV; rw [if_pos he]; rfl
    refine sy_ops ?_
    refine o_v hf hh (y_lds Try.ag_37 rfl) ?_; clear hf a; intro a hf
    refine o_v hf hh (yv_move rfl) ?_; clear hf a; intro a hf
    refine o_v hf hh (yv_move rfl) ?_; clear hf a; intro a hf
    refine o_call hf Try.en_68 rfl rfl rfl (p68 d p q k _ (hR.ext hh.ext) hO (by omega)) ?_; clear hf a; intro v a w hR hf
    obtain ⟨rfl, hx⟩ := hR; replace hh := hh.more hx; clear hx
    refine o_v hf hh (yv_move rfl) ?_; clear hf a; intro a hf
    refine o_v hf hh (yv_extract rfl rfl) ?_; clear hf a; intro a hf
    refine o_v hf hh (yv_extract rfl rfl) ?_; clear hf a; intro a hf
    refine o_v hf hh (yv_assign rfl) ?_; clear hf a; intro a hf
    refine o_v hf hh (yv_assign rfl) ?_; clear hf a; intro a hf
    refine o_end ?_
    refine sy_sq ?_
    refine o_v hf hh (yv_move rfl) ?_; clear hf a; intro a hf
    refine o_v hf hh (yv_move rfl) ?_; clear hf a; intro a hf
    refine o_v hf hh (yv_assign rfl) ?_; clear hf a; intro a hf
    refine o_v hf hh (yv_assign rfl) ?_; clear hf a; intro a hf
    refine o_v hf hh (yv_assign rfl) ?_; clear hf a; intro a hf
    refine o_end ?_
    refine sy_ret ?_
    refine ret_r hf rfl rfl ?_
    first
      | (have e1 : claV d g k = (0, 0) := by unfold claV; rw [if_neg (by assumption)]
         exact ⟨by rw [e1]; rfl, hh.ext⟩)
      | exact ⟨by rw [e1, he]; rfl, hh.ext⟩
      | omega
set_option maxRecDepth 100000 in
theorem p26 (d : RoyD) (p : Pl) (g : Int) (u : World) (hRR : RoyAt u d p) : Calls Try.prog 26 #[.agg (royC d p), .int .i64 g] u (Ret fun v w' => v = .tuple #[.agg #[.int .i64 (oweV d g).1, .int .i64 (oweV d g).2], .int .i64 (oweE d g)] ∧ Ext [] u w') := by
  refine calls_of Try.func26 rfl rfl (fun a hf => ?_)
  have hh := Hp.init u []
  obtain ⟨st, sp, ss, sr, sd, ct, cp, cs, cr, cd⟩ := p
  have hr2 := hRR.n2
  refine sy_sq ?_
  refine o_box hf hh ?_; clear hf hh a; intro B2 a w hf hh
  refine o_alloc hf hh Try.ze_43 ?_; clear hf hh a; intro B4 a w hf hh
  refine o_v hf hh (yv_assign rfl) ?_; clear hf a; intro a hf
  refine o_end ?_
  refine sy_seq ?_
  refine sy_tree1 (.q 0 0 (.q 0 1 (.p 2 (.e1 3 (.e1 4 (.p 5 (.fin))))))) [] Try.follows (by kernel_rfl) hh (fun w hh => ?_)
  refine mc_q rfl rfl hh hf (y_lds Try.ag_37 rfl) (.inl rfl) rfl rfl ?_; clear hf a; intro a hf
  refine mc_q rfl rfl hh hf (y_lds Try.ag_37 rfl) (.inl rfl) rfl rfl ?_; clear hf a; intro a hf
  refine mc_p rfl   hf (yv_move rfl) (.inl rfl) rfl rfl ?_; clear hf a; intro a hf
  refine mc_e rfl fun Q1 => ?_
  refine o_call hf Try.en_67 rfl rfl rfl (p67 d _ g _ hRR.n1) ?_; clear hf a; intro v a w hR hf
  obtain ⟨rfl, hx⟩ := hR; replace hh := hh.more hx; clear hx
  refine ops_end ?_
  refine then_n ⟨⟨fun _ _ => hh, trivial⟩, ?_⟩
  refine mc_e rfl fun Q1 => ?_
  refine o_call hf Try.en_66 rfl rfl rfl (p66 d _ (isAg d g) _ (hRR.ext hh.ext)) ?_; clear hf a; intro v a w hR hf
  obtain ⟨rfl, hx⟩ := hR; replace hh := hh.more hx; clear hx
  refine ops_end ?_
  refine then_n ⟨⟨fun _ _ => hh, trivial⟩, ?_⟩
  refine mc_p rfl   hf (yv_assign rfl) (.inl rfl) rfl rfl ?_; clear hf a; intro a hf
  refine mc_end ?_
  refine then_n ?_
  refine sy_seq ?_
  refine sy_sq ?_
  refine o_v hf hh (yv_move rfl) ?_; clear hf a; intro a hf
  refine o_v hf hh (yv_bin rfl rfl rfl) ?_; clear hf a; intro a hf
  refine o_end ?_
  refine sy_cond hf rfl (fun hg4 => ?_) (fun hg4 => ?_)
  ·have hG4 := hg4; try simp only [gS] at hG4
   refine sy_sq ?_
   refine o_v hf hh (yv_buildS Try.bs_43 rfl rfl) ?_; clear hf a; intro a hf
   refine o_v hf hh (yv_move rfl) ?_; clear hf a; intro a hf
   refine o_store hf hh Try.sz_43 fun w hh => ?_
   refine o_v hf hh (yv_assign rfl) ?_; clear hf a; intro a hf
   refine o_end ?_
   refine sy_ret ?_
   refine then_r ?_
   refine ret_c (vs := [.agg #[.int .i64 0, .int .i64 0], .int .i64 (openE d (isAg d g))]) hf ?_ ?_
   · exact ⟨⟨B4, 0, _, _, _, rfl, hh.at (i := 0) rfl, .inr ⟨2, _, Try.ag_43, rfl, rfl⟩⟩, rfl, True.intro⟩
   · have ev : oweV d g = (0, 0) := by unfold oweV oweE; rw [if_neg (by assumption)]
     exact ⟨by rw [ev]; rfl, hh.ext⟩
  ·have hG4 := hg4; try simp only [gS] at hG4
   refine sy_skip ?_
   refine then_n ?_
   refine sy_seq ?_
   have he : openE d (isAg d g) = 0 := by assumption
   obtain ⟨hok, hask⟩ := openE_zero.1 he
   have hO := royB_iff.1 hok
   obtain ⟨hg0, hg1⟩ := inI_bd hask
   have hnt := hO.nt; have hnp := hO.np; have hpd := hO.npd
   obtain ⟨q, rfl⟩ : ∃ q : Nat, g = q := ⟨g.toNat, by omega⟩
   obtain ⟨tm, htm⟩ := ex_of (l := d.terms) (i := q) (by omega)
   obtain ⟨pd, hpdq⟩ := ex_of (l := d.paid) (i := q) (by omega)
   have hto := hO.t tm (List.mem_of_getElem? htm)
   have hpb := hO.pd pd (List.mem_of_getElem? hpdq)
   obtain ⟨blk, off, cc, T, fr, e, hb, hc⟩ := hRR.pd q pd hpdq; dsimp only at e; subst e
   obtain ⟨blk3, off3, cc3, T3, fr3, e3, hb3, hc3⟩ := hRR.tm q tm htm; dsimp only at e3; subst e3
   have e9 : lowL d q 0 = [-pd] := by unfold lowL; rw [getD_at hpdq]; rfl
   have e8 : higL d q 0 = [-pd] := by unfold higL; rw [getD_at hpdq]; rfl
   have ev : oweV d q = (sumI (lowL d q d.prices.length), sumI (higL d q d.prices.length)) := by unfold oweV; rw [if_pos (show oweE d q = 0 from he)]; rfl
   have hs12 : ∀ k, pc (surN d k q) ≤ 12 := fun k => pc_12 (sur_lt hO k q)
   have hc12 : ∀ k, pc (clm d k q) ≤ 12 := fun k => pc_12 (clm_lt12 hO k q)
   refine sy_tree1 (.p 0 (.q 0 1 (.p 2 (.p 3 (.q 0 4 (.p 5 (.p 6 (.q 0 7 (.p 8 (.p 9 (.q 0 10 (.p 11 (.p 12 (.e1 13 (.e1 14 (.fin)))))))))))))))) [14] Try.follows (by kernel_rfl) hh (fun w hh => ?_)
   refine mc_p rfl   hf (yv_fieldAddr Try.fo_37_4 rfl) (.inl rfl) rfl rfl ?_; clear hf a; intro a hf
   refine mc_q rfl rfl hh hf (y_ld Try.sc_22 rfl) (.inl rfl) rfl rfl ?_; clear hf a; intro a hf
   refine mc_p rfl   hf (yv_move rfl) (.inl rfl) rfl rfl ?_; clear hf a; intro a hf
   refine mc_p rfl   hf (y_ix Try.se_22 rfl rfl) (.inl rfl) rfl rfl ?_; clear hf a; intro a hf
   refine mc_q rfl rfl hh hf (y_ld Try.sc_3 rfl) (.inl rfl) rfl rfl ?_; clear hf a; intro a hf
   refine mc_p rfl   hf (yv_neg rfl (by omega) (by omega)) (.inl rfl) rfl rfl ?_; clear hf a; intro a hf
   refine mc_p rfl   hf (yv_fieldAddr Try.fo_37_4 rfl) (.inl rfl) rfl rfl ?_; clear hf a; intro a hf
   refine mc_q rfl rfl hh hf (y_ld Try.sc_22 rfl) (.inl rfl) rfl rfl ?_; clear hf a; intro a hf
   refine mc_p rfl   hf (yv_move rfl) (.inl rfl) rfl rfl ?_; clear hf a; intro a hf
   refine mc_p rfl   hf (y_ix Try.se_22 rfl rfl) (.inl rfl) rfl rfl ?_; clear hf a; intro a hf
   refine mc_q rfl rfl hh hf (y_ld Try.sc_3 rfl) (.inl rfl) rfl rfl ?_; clear hf a; intro a hf
   refine mc_p rfl   hf (yv_neg rfl (by omega) (by omega)) (.inl rfl) rfl rfl ?_; clear hf a; intro a hf
   refine mc_p rfl   hf (yv_buildS Try.bs_43 rfl rfl) (.inl rfl) rfl rfl ?_; clear hf a; intro a hf
   refine mc_e rfl fun Q1 => ?_
   refine o_alloc hf hh Try.ze_43 ?_; clear hf hh a; intro B7 a w hf hh
   refine ops_end ?_
   refine then_n ⟨⟨fun _ _ => (hh.less (.cons _ (List.Sublist.refl _))), trivial⟩, ?_⟩
   refine mc_e rfl fun Q1 => ?_
   refine o_store hf hh Try.sz_43 fun w hh => ?_
   refine ops_end ?_
   refine then_n ⟨⟨fun h => Bool.noConfusion (show true = false from h), trivial⟩, ?_⟩
   refine mc_end ?_
   refine then_n ?_
   refine sy_seq ?_
   refine sy_sq ?_
   refine o_v hf hh (yv_assign rfl) ?_; clear hf a; intro a hf
   refine o_end ?_
   refine sy_block ?_
   refine sy_loopH (σ := Nat) [8, 9, 10, 33, 34, 35, 36, 37, 38, 39, 40, 41, 42, 43, 44, 45, 46, 47, 48, 49, 50, 51, 52, 53, 54, 55, 56, 57, 58, 59, 60, 61, 62, 63, 64, 65, 66, 67, 68, 69, 70, 71, 72, 73, 74, 75, 76, 77, 78, 79, 80] (fun i => [(8, .int .i64 (i : Nat))]) (fun i => fun w' => i ≤ d.prices.length ∧ Hp u [] [(B7, .cells #[.int .i64 (sumI (lowL d q i)), .int .i64 (sumI (higL d q i))] 43), (B4, .cells #[.int .i64 0, .int .i64 0] 43), (B2, .cells (royC d ⟨some ⟨blk3, off3, none⟩, sp, ss, sr, some ⟨blk, off, none⟩, ct, cp, cs, cr, cd⟩) 37)] w') (fun i => d.prices.length - i) (0) hf ?_ ?_ ?_
   · repeat' (first | exact True.intro | refine And.intro rfl ?_)
   · refine ⟨Nat.zero_le _, ?_⟩
     rw [e9, e8]
     have e7 : sumI [-pd] = -pd := by rw [sumI_cons, sumI_nil]; omega
     rw [e7]; exact hh
   ·rintro i a w ⟨hi, hh⟩ hf
    refine sy_seq ?_
    refine sy_sq ?_
    refine o_v hf hh (yv_move rfl) ?_; clear hf a; intro a hf
    refine o_v hf hh (yv_fieldAddr Try.fo_37_1 rfl) ?_; clear hf a; intro a hf
    refine o_v hf hh (y_ld Try.sc_22 rfl) ?_; clear hf a; intro a hf
    refine o_v hf hh (yv_len Try.se_22 rfl) ?_; clear hf a; intro a hf
    refine o_v hf hh (yv_bin rfl rfl rfl) ?_; clear hf a; intro a hf
    refine o_end ?_
    refine sy_cond hf rfl (fun hg6 => ?_) (fun hg6 => ?_)
    ·have hG6 := hg6; try simp only [gS] at hG6
     refine sy_skip ?_
     refine then_n ?_
     refine sy_seq ?_
     refine sy_block ?_
     refine sy_seq ?_
     obtain ⟨x, hx⟩ := ex_of (l := d.prices) (i := i) (by omega)
     obtain ⟨blk2, off2, cc2, T2, fr2, e2, hb2, hc2⟩ := hRR.pr i x hx; dsimp only at e2; subst e2
     have hxb := hO.p x (List.mem_of_getElem? hx)
     have hl1 := low_sum (g := q) hx
     have hl2 := hig_sum (g := q) hx
     rw [term_at htm] at hl1 hl2
     have hq1 : -5497558138880 ≤ sumI (lowL d q i) ∧ sumI (lowL d q i) ≤ 5497558138880 := owe_bd hO (by omega) (fun k => pc (surN d k q)) (fun k => hs12 k) (by omega)
     have hq2 : -5497558138880 ≤ sumI (higL d q i) ∧ sumI (higL d q i) ≤ 5497558138880 := owe_bd hO (by omega) (fun k => pc (clm d k q)) (fun k => hc12 k) (by omega)
     have hw1 := com_bd hto hxb.1 hxb.2 (hs12 i)
     have hw2 := com_bd hto hxb.1 hxb.2 (hc12 i)
     have hz1 := hs12 i
     have hz2 := hc12 i
     refine sy_ops ?_
     refine o_v hf hh (y_lds Try.ag_37 rfl) ?_; clear hf a; intro a hf
     refine o_v hf hh (yv_move rfl) ?_; clear hf a; intro a hf
     refine o_v hf hh (yv_move rfl) ?_; clear hf a; intro a hf
     refine o_call hf Try.en_68 rfl rfl rfl (p68 d _ q (i : Nat) _ (hRR.ext hh.ext) hO (by omega)) ?_; clear hf a; intro v a w hR hf
     obtain ⟨rfl, hx⟩ := hR; replace hh := hh.more hx; clear hx
     refine o_v hf hh (yv_move rfl) ?_; clear hf a; intro a hf
     refine o_v hf hh (yv_extract rfl rfl) ?_; clear hf a; intro a hf
     refine o_v hf hh (yv_extract rfl rfl) ?_; clear hf a; intro a hf
     refine o_v hf hh (yv_assign rfl) ?_; clear hf a; intro a hf
     refine o_v hf hh (yv_assign rfl) ?_; clear hf a; intro a hf
     refine o_end ?_
     refine sy_seq ?_
     refine sy_tree1 (.p 0 (.q 0 1 (.p 2 (.q 0 3 (.p 4 (.p 5 (.q 0 6 (.p 7 (.q 0 8 (.p 9 (.p 10 (.q 0 11 (.p 12 (.e1 13 (.e1 14 (.p 15 (.p 16 (.e1 17 (.fin))))))))))))))))))) [17] Try.follows (by kernel_rfl) hh (fun w hh => ?_)
     refine mc_p rfl   hf (yv_fieldAddr Try.fo_43_0 rfl) (.inl rfl) rfl rfl ?_; clear hf a; intro a hf
     refine mc_q rfl rfl hh hf (y_ld Try.sc_3 rfl) (.inl rfl) rfl rfl ?_; clear hf a; intro a hf
     refine mc_p rfl   hf (yv_fieldAddr Try.fo_37_0 rfl) (.inl rfl) rfl rfl ?_; clear hf a; intro a hf
     refine mc_q rfl rfl hh hf (y_ld Try.sc_33 rfl) (.inl rfl) rfl rfl ?_; clear hf a; intro a hf
     refine mc_p rfl   hf (yv_move rfl) (.inl rfl) rfl rfl ?_; clear hf a; intro a hf
     refine mc_p rfl   hf (y_ix Try.se_33 rfl rfl) (.inl rfl) rfl rfl ?_; clear hf a; intro a hf
     refine mc_q rfl rfl hh hf (y_lds Try.ag_24 rfl) (.inl rfl) rfl rfl ?_; clear hf a; intro a hf
     refine mc_p rfl   hf (yv_fieldAddr Try.fo_37_1 rfl) (.inl rfl) rfl rfl ?_; clear hf a; intro a hf
     refine mc_q rfl rfl hh hf (y_ld Try.sc_22 rfl) (.inl rfl) rfl rfl ?_; clear hf a; intro a hf
     refine mc_p rfl   hf (yv_move rfl) (.inl rfl) rfl rfl ?_; clear hf a; intro a hf
     refine mc_p rfl   hf (y_ix Try.se_22 rfl rfl) (.inl rfl) rfl rfl ?_; clear hf a; intro a hf
     refine mc_q rfl rfl hh hf (y_ld Try.sc_3 rfl) (.inl rfl) rfl rfl ?_; clear hf a; intro a hf
     refine mc_p rfl   hf (yv_move rfl) (.inl rfl) rfl rfl ?_; clear hf a; intro a hf
     refine mc_e rfl fun Q1 => ?_
     refine o_call hf Try.en_73 rfl rfl rfl (p73 (surN d i q) (by have := sur_lt hO i q; omega) _) ?_; clear hf a; intro v a w hR hf
     obtain ⟨rfl, hx⟩ := hR; replace hh := hh.more hx; clear hx
     refine ops_end ?_
     refine then_n ⟨⟨fun _ _ => hh, trivial⟩, ?_⟩
     refine mc_e rfl fun Q1 => ?_
     refine o_call hf Try.en_54 rfl rfl rfl (p54 tm hto x (pc (surN d i q) : Nat) hxb.1 hxb.2 (by omega) (by omega) _) ?_; clear hf a; intro v a w hR hf
     obtain ⟨rfl, hx⟩ := hR; replace hh := hh.more hx; clear hx
     refine ops_end ?_
     refine then_n ⟨⟨fun _ _ => hh, trivial⟩, ?_⟩
     refine mc_p rfl   hf (yv_cast (yv_add rfl rfl (by omega) (by omega)) (intv (b := sumI (lowL d q (i + 1))) hl1.symm)) (.inl rfl) rfl rfl ?_; clear hf a; intro a hf
     refine mc_p rfl   hf (yv_fieldAddr Try.fo_43_0 rfl) (.inl rfl) rfl rfl ?_; clear hf a; intro a hf
     refine mc_e rfl fun Q1 => ?_
     refine o_store hf hh Try.sz_3 fun w hh => ?_
     refine ops_end ?_
     refine then_n ⟨⟨fun h => Bool.noConfusion (show true = false from h), trivial⟩, ?_⟩
     refine mc_end ?_
     refine then_n ?_
     refine sy_tree1 (.p 0 (.q 0 1 (.p 2 (.q 0 3 (.p 4 (.p 5 (.q 0 6 (.p 7 (.q 0 8 (.p 9 (.p 10 (.q 0 11 (.p 12 (.e1 13 (.e1 14 (.p 15 (.p 16 (.e1 17 (.fin))))))))))))))))))) [17] Try.follows (by kernel_rfl) hh (fun w hh => ?_)
     refine mc_p rfl   hf (yv_fieldAddr Try.fo_43_1 rfl) (.inl rfl) rfl rfl ?_; clear hf a; intro a hf
     refine mc_q rfl rfl hh hf (y_ld Try.sc_3 rfl) (.inl rfl) rfl rfl ?_; clear hf a; intro a hf
     refine mc_p rfl   hf (yv_fieldAddr Try.fo_37_0 rfl) (.inl rfl) rfl rfl ?_; clear hf a; intro a hf
     refine mc_q rfl rfl hh hf (y_ld Try.sc_33 rfl) (.inl rfl) rfl rfl ?_; clear hf a; intro a hf
     refine mc_p rfl   hf (yv_move rfl) (.inl rfl) rfl rfl ?_; clear hf a; intro a hf
     refine mc_p rfl   hf (y_ix Try.se_33 rfl rfl) (.inl rfl) rfl rfl ?_; clear hf a; intro a hf
     refine mc_q rfl rfl hh hf (y_lds Try.ag_24 rfl) (.inl rfl) rfl rfl ?_; clear hf a; intro a hf
     refine mc_p rfl   hf (yv_fieldAddr Try.fo_37_1 rfl) (.inl rfl) rfl rfl ?_; clear hf a; intro a hf
     refine mc_q rfl rfl hh hf (y_ld Try.sc_22 rfl) (.inl rfl) rfl rfl ?_; clear hf a; intro a hf
     refine mc_p rfl   hf (yv_move rfl) (.inl rfl) rfl rfl ?_; clear hf a; intro a hf
     refine mc_p rfl   hf (y_ix Try.se_22 rfl rfl) (.inl rfl) rfl rfl ?_; clear hf a; intro a hf
     refine mc_q rfl rfl hh hf (y_ld Try.sc_3 rfl) (.inl rfl) rfl rfl ?_; clear hf a; intro a hf
     refine mc_p rfl   hf (yv_move rfl) (.inl rfl) rfl rfl ?_; clear hf a; intro a hf
     refine mc_e rfl fun Q1 => ?_
     refine o_call hf Try.en_73 rfl rfl rfl (p73 (clm d i q) (by have := clm_lt12 hO i q; omega) _) ?_; clear hf a; intro v a w hR hf
     obtain ⟨rfl, hx⟩ := hR; replace hh := hh.more hx; clear hx
     refine ops_end ?_
     refine then_n ⟨⟨fun _ _ => hh, trivial⟩, ?_⟩
     refine mc_e rfl fun Q1 => ?_
     refine o_call hf Try.en_54 rfl rfl rfl (p54 tm hto x (pc (clm d i q) : Nat) hxb.1 hxb.2 (by omega) (by omega) _) ?_; clear hf a; intro v a w hR hf
     obtain ⟨rfl, hx⟩ := hR; replace hh := hh.more hx; clear hx
     refine ops_end ?_
     refine then_n ⟨⟨fun _ _ => hh, trivial⟩, ?_⟩
     refine mc_p rfl   hf (yv_cast (yv_add rfl rfl (by omega) (by omega)) (intv (b := sumI (higL d q (i + 1))) hl2.symm)) (.inl rfl) rfl rfl ?_; clear hf a; intro a hf
     refine mc_p rfl   hf (yv_fieldAddr Try.fo_43_1 rfl) (.inl rfl) rfl rfl ?_; clear hf a; intro a hf
     refine mc_e rfl fun Q1 => ?_
     refine o_store hf hh Try.sz_3 fun w hh => ?_
     refine ops_end ?_
     refine then_n ⟨⟨fun h => Bool.noConfusion (show true = false from h), trivial⟩, ?_⟩
     refine mc_end ?_
     refine blk_n ?_
     refine then_n ?_
     refine sy_ops ?_
     refine o_v hf hh (yv_move rfl) ?_; clear hf a; intro a hf
     refine o_v hf hh (y_add rfl rfl) ?_; clear hf a; intro a hf
     refine o_v hf hh (yv_assign rfl) ?_; clear hf a; intro a hf
     refine ops_end ?_
     refine then_n ?_
     exact ⟨i + 1, ⟨⟨by omega, hh⟩, (hf.head (by repeat' (first | exact True.intro | refine And.intro rfl ?_)) (Keep.cons rfl (Keep.cons rfl (Keep.cons rfl (Keep.cons rfl (Keep.cons rfl (Keep.cons rfl (Keep.cons rfl (Keep.cons rfl (Keep.cons rfl (Keep.cons rfl (Keep.cons rfl (Keep.cons rfl (Keep.cons rfl (Keep.cons rfl (Keep.cons rfl (Keep.cons rfl (Keep.cons rfl (Keep.cons rfl (Keep.cons rfl (Keep.cons rfl (Keep.cons rfl (Keep.cons rfl (Keep.cons rfl (Keep.cons rfl (Keep.cons rfl (Keep.cons rfl (Keep.cons rfl (Keep.cons rfl (Keep.cons rfl (Keep.cons rfl (Keep.cons rfl (Keep.cons rfl (Keep.cons rfl (Keep.cons rfl (Keep.cons rfl (Keep.cons rfl (Keep.cons rfl (Keep.cons rfl (Keep.cons rfl (Keep.cons rfl (Keep.cons rfl (Keep.cons rfl (Keep.cons rfl (Keep.cons rfl (Keep.cons rfl (Keep.cons rfl (Keep.cons rfl (Keep.cons rfl (Keep.cons rfl (Keep.cons rfl (Keep.cons rfl (Keep.app rfl (Keep.rm rfl Keep.base))))))))))))))))))))))))))))))))))))))))))))))))))))))⟩, by omega⟩
    ·have hG6 := hg6; try simp only [gS] at hG6
     refine sy_exit ?_
     refine then_e ?_
     refine then_e ?_
     refine blk_e ?_
     refine then_n ?_
     refine sy_seq ?_
     obtain rfl : i = d.prices.length := by omega
     refine sy_ops ?_
     refine o_v hf hh (y_lds Try.ag_43 rfl) ?_; clear hf a; intro a hf
     refine o_store hf hh Try.sz_43 fun w hh => ?_
     refine o_v hf hh (yv_assign rfl) ?_; clear hf a; intro a hf
     refine o_end ?_
     refine sy_ret ?_
     refine ret_c (vs := [.agg #[.int .i64 (sumI (lowL d q d.prices.length)), .int .i64 (sumI (higL d q d.prices.length))], .int .i64 0]) hf ?_ ?_
     · exact ⟨⟨B4, 0, _, _, _, rfl, hh.at (i := 1) rfl, .inr ⟨2, _, Try.ag_43, rfl, rfl⟩⟩, rfl, True.intro⟩
     · exact ⟨by rw [ev, show oweE d q = 0 from he]; rfl, hh.ext⟩
end Go.Proofs.Ytkfkifkdncdhoaa
namespace Go.RoyM
open Go Go.Sy
def wsL (d : RoyD) (k : Int) : List Nat := (soldL d k).map Prod.snd
def csL (d : RoyD) (k : Int) : List Nat := (soldL d k).map Prod.fst
/-- The truths that go on from some agents. -/
def trB (m : Nat) (ws : List Nat) (b : List Nat) : List (List Nat) := (truA m (ws.drop b.length)).map (b ++ ·)
theorem trB_end {m : Nat} {ws b : List Nat} (h : b.length = ws.length) : trB m ws b = [b] := by
  unfold trB
  rw [h, List.drop_length]
  simp [truA]
def curB (m : Nat) (ws b : List Nat) (l : List Nat) (j : Nat) : List (List Nat) := (l.take j).flatMap fun g => trB m ws (b ++ [g])
theorem curB_zero (m : Nat) (ws b l : List Nat) : curB m ws b l 0 = [] := by unfold curB; simp
theorem curB_next {m : Nat} {ws b l : List Nat} {j g : Nat} (h : l[j]? = some g) : curB m ws b l (j + 1) = curB m ws b l j ++ trB m ws (b ++ [g]) := by
  unfold curB
  rw [List.take_add_one, h, List.flatMap_append]
  simp
theorem curB_all {m : Nat} {ws b : List Nat} {w : Nat} (h : ws[b.length]? = some w) : curB m ws b (clrL m w) (clrL m w).length = trB m ws b := by
  have hi := len_of h
  unfold curB trB
  rw [List.take_length, List.drop_eq_getElem_cons hi, (List.getElem?_eq_some_iff.1 h).2, truA, fm_map]
  congr 1
  funext g
  rw [List.map_map, List.length_append]
  show List.map (fun t => b ++ [g] ++ t) (truA m (List.drop (b.length + 1) ws)) = _
  congr 1
  funext t
  simp
theorem flatMap_len {α β : Type} {f : α → List β} {c : Nat} : ∀ {l : List α}, (∀ x ∈ l, (f x).length ≤ c) → (l.flatMap f).length ≤ l.length * c
  | [], _ => by simp
  | x :: l, h => by
    have h1 := h x (.head _)
    have h2 := flatMap_len (l := l) (f := f) (c := c) fun y hy => h y (.tail _ hy)
    rw [List.flatMap_cons, List.length_append, List.length_cons, Nat.succ_mul]
    omega
theorem tru_len {m : Nat} (hm : m ≤ 4) : ∀ ws : List Nat, (truA m ws).length ≤ 4 ^ ws.length
  | [] => by simp [truA]
  | w :: ws => by
    have ih := tru_len hm ws
    rw [truA, List.length_cons, Nat.pow_succ]
    have h1 := flatMap_len (l := clrL m w) (f := fun g => (truA m ws).map (g :: ·)) (c := 4 ^ ws.length) fun g _ => by rw [List.length_map]; exact ih
    have h2 : (clrL m w).length ≤ 4 := by
      unfold clrL
      refine Nat.le_trans (List.length_filter_le _ _) ?_
      rw [List.length_range]; exact hm
    have h3 : (clrL m w).length * 4 ^ ws.length ≤ 4 * 4 ^ ws.length := Nat.mul_le_mul_right _ h2
    omega
theorem trB_len {m : Nat} (hm : m ≤ 4) {ws b : List Nat} (hw : ws.length ≤ 12) : (trB m ws b).length ≤ 16777216 := by
  unfold trB
  rw [List.length_map]
  refine Nat.le_trans (tru_len hm _) ?_
  have : 4 ^ (ws.drop b.length).length ≤ 4 ^ 12 := Nat.pow_le_pow_right (by omega) (by rw [List.length_drop]; omega)
  exact this
theorem curB_len {m : Nat} {ws b : List Nat} {w : Nat} (h : ws[b.length]? = some w) (j : Nat) : (curB m ws b (clrL m w) j).length ≤ (trB m ws b).length := by
  rw [← curB_all h]
  unfold curB
  rw [List.take_length]
  have h1 : (clrL m w).flatMap (fun g => trB m ws (b ++ [g])) = ((clrL m w).take j).flatMap (fun g => trB m ws (b ++ [g])) ++ ((clrL m w).drop j).flatMap (fun g => trB m ws (b ++ [g])) := by
    rw [← List.flatMap_append, List.take_append_drop]
  rw [h1, List.length_append]
  omega
theorem trB_nil (m : Nat) (ws : List Nat) : trB m ws [] = truA m ws := by unfold trB; simp
theorem nvs_len (l : List Nat) : (nvs l).length = l.length := List.length_map _
theorem nvs_1c (l : List Nat) : (nvs l).all (·.oneCell') = true := by
  rw [List.all_eq_true]
  intro v hv
  obtain ⟨x, _, rfl⟩ := List.mem_map.1 hv
  rfl
theorem nvs_at {l : List Nat} {i x : Nat} (h : l[i]? = some x) : (nvs l)[i]? = some (.int .i64 ((x : Nat) : Int)) := by unfold nvs; rw [List.getElem?_map, h]; rfl
/-- The agents who claim a card that is sold. -/
theorem claW {d : RoyD} (hO : RoyOk d) {k : Int} {i c w : Nat} (hc : (csL d k)[i]? = some c) (hw : (wsL d k)[i]? = some w) : claL d k c d.terms.length = clrL d.terms.length w := by
  unfold csL at hc; unfold wsL at hw
  rw [List.getElem?_map] at hc hw
  cases e : (soldL d k)[i]? with
  | none => rw [e] at hc; cases hc
  | some y =>
    rw [e] at hc hw; cases hc; cases hw
    rw [(soldT_mem.1 (List.mem_of_getElem? e)).2.1, who_clr hO, claL_eq]
theorem cs_len (d : RoyD) (k : Int) : (csL d k).length = (wsL d k).length := by unfold csL wsL; rw [List.length_map, List.length_map]
theorem ws_len (d : RoyD) (k : Int) : (wsL d k).length ≤ 12 := by unfold wsL; rw [List.length_map]; exact sold_len d k
/-- Which cards are sold: those that somebody claims. -/
theorem sold_iff {d : RoyD} (hO : RoyOk d) (k : Int) (c : Nat) : whoN d k c = 0 ↔ (claL d k c d.terms.length).length = 0 := by
  rw [claL_eq]
  constructor
  · intro h
    rw [← who_clr hO, h]
    unfold clrL
    simp
  · intro h
    refine Decidable.byContradiction fun hn => ?_
    have := clr_ne hO hn
    rw [who_clr hO] at this
    exact this (List.eq_nil_of_length_eq_zero h)
def csT (d : RoyD) (k : Int) (n : Nat) : List Nat := (soldT d k n).map Prod.fst
theorem csT_put {d : RoyD} {k : Int} {c : Nat} (h : ¬ whoN d k c = 0) : csT d k (c + 1) = csT d k c ++ [c] := by
  unfold csT
  rw [soldT, if_neg h, List.map_append]; rfl
theorem csT_no {d : RoyD} {k : Int} {c : Nat} (h : whoN d k c = 0) : csT d k (c + 1) = csT d k c := by unfold csT; rw [soldT, if_pos h, List.append_nil]
theorem csT_len (d : RoyD) (k : Int) (n : Nat) : (csT d k n).length ≤ n := by unfold csT; rw [List.length_map]; exact soldT_len n
theorem Ext.over {u0 u w : World} {M : List Nat} (h : Ext [] u0 u) (h' : Ext M u w) (hM : ∀ x ∈ M, u0.heap.size ≤ x) : Ext [] u0 w := h.chain h' fun x hx => .inr (hM x hx)
/-- How many cards an agent sold. -/
def cntG (t : List Nat) (g : Nat) : Nat := t.count g
theorem cnt_get : ∀ (t : List Nat) (n : Cts) (g : Nat), g < 4 → (∀ x ∈ t, x < 4) → cget (cnt n t) g = cget n g + t.count g
  | [], n, g, _, _ => by simp [cnt]
  | x :: t, n, g, hg, h => by
    have ih := cnt_get t (cinc n x) g hg fun y hy => h y (.tail _ hy)
    have e : cnt n (x :: t) = cnt (cinc n x) t := rfl
    rw [e, ih, cget_inc (h x (.head _)) hg, List.count_cons]
    by_cases hx : g = x
    · subst hx; simp; omega
    · have h1 : (x == g) = false := by simpa using fun e => hx e.symm
      rw [if_neg hx, h1]; simp
theorem cnt_zero {t : List Nat} (h : ∀ x ∈ t, x < 4) {g : Nat} (hg : g < 4) : cget (cnt (0, 0, 0, 0) t) g = t.count g := by
  rw [cnt_get t _ g hg h]
  rcases (show g = 0 ∨ g = 1 ∨ g = 2 ∨ g = 3 by omega) with rfl | rfl | rfl | rfl <;> simp [cget]
theorem tot_cnt {d : RoyD} (x : Int) {t : List Nat} (h : ∀ x ∈ t, x < 4) : ∀ g, g ≤ 4 → totF d x (cnt (0, 0, 0, 0) t) g = sumI ((List.range g).map fun j => comV (termN d j) x (t.count j : Nat))
  | 0, _ => by simp [totF, sumI]
  | g + 1, hg => by
    rw [totF, tot_cnt x h g (by omega), cnt_zero h (by omega), List.range_succ, List.map_append, sumI_app]
    show _ = _ + (0 + _)
    rw [Int.zero_add]; rfl
theorem count_take {t : List Nat} {i x g : Nat} (h : t[i]? = some x) : (t.take (i + 1)).count g = (t.take i).count g + if x = g then 1 else 0 := by
  rw [List.take_add_one, h, List.count_append]
  by_cases hx : x = g
  · subst hx; simp
  · simp [hx]
theorem cards_cnt : ∀ (t : List Nat) (n : Cts), cardsN (cnt n t) = cardsN n + t.length
  | [], n => by simp [cnt]
  | x :: t, n => by
    have e : cnt n (x :: t) = cnt (cinc n x) t := rfl
    rw [e, cards_cnt t, cardsN_inc, List.length_cons]; omega
theorem tru_mem {m : Nat} : ∀ {ws t : List Nat}, t ∈ truA m ws → t.length = ws.length ∧ ∀ x ∈ t, x < m
  | [], t, h => by simp [truA] at h; subst h; simp
  | w :: ws, t, h => by
    rw [truA] at h
    obtain ⟨g, hg, h⟩ := List.mem_flatMap.1 h
    obtain ⟨s, hs, rfl⟩ := List.mem_map.1 h
    obtain ⟨h1, h2⟩ := tru_mem hs
    refine ⟨by rw [List.length_cons, List.length_cons, h1], fun x hx => ?_⟩
    rcases List.mem_cons.1 hx with rfl | hx
    · unfold clrL at hg
      exact List.mem_range.1 (List.mem_filter.1 hg).1
    · exact h2 x hx
end Go.RoyM
namespace Go.Proofs.Ytkfkifkdncdhoaa
open Go Go.Sy Go.RoyM
theorem p42 (d : RoyD) (p : Pl) (k : Int) (u : World) (hR : RoyAt u d p) (hO : RoyOk d) : Calls Try.prog 42 #[.agg (royC d p), .int .i64 k] u (Ret fun v w' => ∃ X, OwnSl 3 1 v (csL d k).length (nvs (csL d k)) X ∧ Hp u [] X w') := by
  refine calls_of Try.func42 rfl rfl (fun a hf => ?_)
  have hh := Hp.init u []
  refine sy_sq ?_
  refine o_box hf hh ?_; clear hf hh a; intro B2 a w hf hh
  refine o_v hf hh (yv_assign rfl) ?_; clear hf a; intro a hf
  refine o_end ?_
  refine sy_sq ?_
  refine o_v hf hh (yv_assign rfl) ?_; clear hf a; intro a hf
  refine o_end ?_
  refine sy_seq ?_
  refine sy_sq ?_
  refine o_v hf hh (yv_assign rfl) ?_; clear hf a; intro a hf
  refine o_end ?_
  refine sy_block ?_
  refine sy_loopH (σ := Nat × Value × List (Nat × Obj)) [5, 6, 7, 8, 9, 10, 11, 12, 13, 14, 15, 16, 17, 18, 19, 20] (fun s => [(5, s.2.1), (6, .int .i64 (s.1 : Nat))]) (fun s => fun w' => s.1 ≤ 12 ∧ OwnSl 3 1 s.2.1 (csT d k s.1).length (nvs (csT d k s.1)) s.2.2 ∧ Hp u [] ([(B2, .cells (royC d p) 37)] ++ s.2.2) w') (fun s => 12 - s.1) ((0, .slice none 0 0, [])) hf ?_ ?_ ?_
  · repeat' (first | exact True.intro | refine And.intro rfl ?_)
  · exact ⟨Nat.zero_le _, OwnSl.nil _ _, hh⟩
  ·rintro s a w ⟨hc12, hOw, hh⟩ hf
   obtain ⟨c, v5, X⟩ := s; simp only at hc12 hOw hh hf ⊢
   refine sy_seq ?_
   refine sy_sq ?_
   refine o_v hf hh (yv_move rfl) ?_; clear hf a; intro a hf
   refine o_v hf hh (yv_bin rfl rfl rfl) ?_; clear hf a; intro a hf
   refine o_end ?_
   refine sy_cond hf rfl (fun hg2 => ?_) (fun hg2 => ?_)
   ·have hG2 := hg2; try simp only [gS] at hG2
    refine sy_skip ?_
    refine then_n ?_
    refine sy_seq ?_
    refine sy_block ?_
    refine sy_sq ?_
    refine o_v hf hh (y_lds Try.ag_37 rfl) ?_; clear hf a; intro a hf
    refine o_v hf hh (yv_move rfl) ?_; clear hf a; intro a hf
    refine o_v hf hh (yv_move rfl) ?_; clear hf a; intro a hf
    refine o_call hf Try.en_44 rfl rfl rfl (p44 d p k c _ (hR.ext hh.ext)) ?_; clear hf a; intro v a w hR hf
    obtain ⟨X4, hO4, hx⟩ := hR; obtain ⟨oa4, cp4, rfl⟩ := own_val hO4; replace hh := hh.more hx.ext; clear hx
    have hsi := sold_iff hO k c
    have hcl := claL_len d k c d.terms.length
    have hnt := hO.nt
    have hcs := csT_len d k c
    refine o_v hf hh (yv_len Try.se_22 rfl) ?_; clear hf a; intro a hf
    refine o_v hf hh (yv_bin rfl rfl rfl) ?_; clear hf a; intro a hf
    refine o_end ?_
    refine sy_cond hf rfl (fun hg5 => ?_) (fun hg5 => ?_)
    ·have hG5 := hg5; try simp only [gS] at hG5
     refine sy_ops ?_
     refine o_v hf hh (yv_move rfl) ?_; clear hf a; intro a hf
     refine o_v hf hh (yv_move rfl) ?_; clear hf a; intro a hf
     refine ops_buildSl hf hh Try.bl_22_1 rfl rfl (.inl rfl) rfl ?_; clear hf hh; clear a; intro B19 a w hf hh
     refine ops_append (e := 3) (size := 1) (xs := nvs (csT d k c)) (X := X) (Z := _) (m := (csT d k c).length) (q := 1) hf (hh.perm (.cons _ (List.perm_append_comm (l₁ := [_]) (l₂ := X)))) Try.eb_22 rfl rfl hOw rfl rfl rfl (by simp only [maxLen]; omega) (by omega) (.inl rfl) rfl ?_; clear hf hh a; intro v2 X2 a w hO2 hf hh
     replace hh := hh.perm List.perm_append_comm
     obtain ⟨oa2, cp2, rfl⟩ := own_val hO2
     refine o_v hf hh (yv_assign rfl) ?_; clear hf a; intro a hf
     refine ops_end ?_
     refine blk_n ?_
     refine then_n ?_
     refine sy_ops ?_
     refine o_v hf hh (yv_move rfl) ?_; clear hf a; intro a hf
     refine o_v hf hh (y_add rfl rfl) ?_; clear hf a; intro a hf
     refine o_v hf hh (yv_assign rfl) ?_; clear hf a; intro a hf
     refine ops_end ?_
     refine then_n ?_
     first
       | (have hn : ¬ whoN d k c = 0 := fun e => by have := hsi.1 e; omega
          exact ⟨(c + 1, _, X2), ⟨⟨by simp only; omega, by simp only; rw [csT_put hn, nvs_app, List.length_append]; exact hO2, hh⟩, (hf.head (by repeat' (first | exact True.intro | refine And.intro rfl ?_)) (Keep.cons rfl (Keep.cons rfl (Keep.cons rfl (Keep.cons rfl (Keep.cons rfl (Keep.cons rfl (Keep.cons rfl (Keep.cons rfl (Keep.cons rfl (Keep.cons rfl (Keep.cons rfl (Keep.cons rfl (Keep.cons rfl (Keep.cons rfl (Keep.cons rfl (Keep.cons rfl (Keep.app rfl (Keep.rm rfl Keep.base)))))))))))))))))))⟩, by simp only; omega⟩)
       | (have hn : whoN d k c = 0 := hsi.2 (by omega)
          exact ⟨(c + 1, v5, X), ⟨⟨by simp only; omega, by simp only; rw [csT_no hn]; exact hOw, hh⟩, (hf.head (by repeat' (first | exact True.intro | refine And.intro rfl ?_)) (Keep.cons rfl (Keep.cons rfl (Keep.cons rfl (Keep.cons rfl (Keep.cons rfl (Keep.cons rfl (Keep.cons rfl (Keep.cons rfl (Keep.cons rfl (Keep.cons rfl (Keep.cons rfl (Keep.cons rfl (Keep.cons rfl (Keep.cons rfl (Keep.cons rfl (Keep.cons rfl (Keep.app rfl (Keep.rm rfl Keep.base)))))))))))))))))))⟩, by simp only; omega⟩)
    ·have hG5 := hg5; try simp only [gS] at hG5
     refine sy_skip ?_
     refine blk_n ?_
     refine then_n ?_
     refine sy_ops ?_
     refine o_v hf hh (yv_move rfl) ?_; clear hf a; intro a hf
     refine o_v hf hh (y_add rfl rfl) ?_; clear hf a; intro a hf
     refine o_v hf hh (yv_assign rfl) ?_; clear hf a; intro a hf
     refine ops_end ?_
     refine then_n ?_
     first
       | (have hn : ¬ whoN d k c = 0 := fun e => by have := hsi.1 e; omega
          exact ⟨(c + 1, _, X2), ⟨⟨by simp only; omega, by simp only; rw [csT_put hn, nvs_app, List.length_append]; exact hO2, hh⟩, (hf.head (by repeat' (first | exact True.intro | refine And.intro rfl ?_)) (Keep.cons rfl (Keep.cons rfl (Keep.cons rfl (Keep.cons rfl (Keep.cons rfl (Keep.cons rfl (Keep.cons rfl (Keep.cons rfl (Keep.cons rfl (Keep.cons rfl (Keep.cons rfl (Keep.app rfl (Keep.rm rfl Keep.base))))))))))))))⟩, by simp only; omega⟩)
       | (have hn : whoN d k c = 0 := hsi.2 (by omega)
          exact ⟨(c + 1, v5, X), ⟨⟨by simp only; omega, by simp only; rw [csT_no hn]; exact hOw, hh⟩, (hf.head (by repeat' (first | exact True.intro | refine And.intro rfl ?_)) (Keep.cons rfl (Keep.cons rfl (Keep.cons rfl (Keep.cons rfl (Keep.cons rfl (Keep.cons rfl (Keep.cons rfl (Keep.cons rfl (Keep.cons rfl (Keep.cons rfl (Keep.cons rfl (Keep.app rfl (Keep.rm rfl Keep.base))))))))))))))⟩, by simp only; omega⟩)
   ·have hG2 := hg2; try simp only [gS] at hG2
    refine sy_exit ?_
    refine then_e ?_
    refine then_e ?_
    refine blk_e ?_
    refine then_n ?_
    refine sy_sq ?_
    refine o_v hf hh (yv_move rfl) ?_; clear hf a; intro a hf
    refine o_v hf hh (yv_assign rfl) ?_; clear hf a; intro a hf
    refine o_end ?_
    refine sy_ret ?_
    refine ret_r hf rfl rfl ?_
    obtain rfl : c = 12 := by omega
    exact ⟨X, hOw, hh.less (.cons _ (List.Sublist.refl _))⟩
set_option maxRecDepth 100000 in
theorem p45 (d : RoyD) (p : Pl) (q : Nat) (x : Int) (t : List Nat) (so : Option Addr) (co : Nat) (u : World) (hR : RoyAt u d p) (hO : RoyOk d) (hx : d.prices[q]? = some x) (hN : NAt u so t) (ht : t.length ≤ 12) (ht4 : ∀ x ∈ t, x < 4) : Calls Try.prog 45 #[.agg (royC d p), .int .i64 (q : Nat), .slice so t.length co] u (Ret fun v w' => v = .int .i64 (totV d x (cnt (0, 0, 0, 0) t)) ∧ Ext [] u w') := by
  refine calls_of Try.func45 rfl rfl (fun a hf => ?_)
  have hh := Hp.init u []
  obtain ⟨st, sp, ss, sr, sd, ct, cp, cs, cr, cd⟩ := p
  have hnt := hO.nt; have hnp := hO.np
  have hql := len_of hx
  have hxb := hO.p x (List.mem_of_getElem? hx)
  have hcO : ctOk (cnt (0, 0, 0, 0) t) 12 := ctOk_of (by rw [cards_cnt]; show 0 + t.length ≤ 12; omega)
  obtain ⟨blk2, off2, cc2, T2, fr2, e2, hb2, hc2⟩ := hR.pr q x hx; dsimp only at e2; subst e2
  refine sy_sq ?_
  refine o_box hf hh ?_; clear hf hh a; intro B3 a w hf hh
  refine o_v hf hh (yv_assign rfl) ?_; clear hf a; intro a hf
  refine o_end ?_
  refine sy_sq ?_
  refine o_v hf hh (yv_assign rfl) ?_; clear hf a; intro a hf
  refine o_end ?_
  refine sy_seq ?_
  refine sy_sq ?_
  refine o_v hf hh (yv_assign rfl) ?_; clear hf a; intro a hf
  refine o_end ?_
  refine sy_block ?_
  refine sy_loopF (σ := Nat) [7, 8, 9, 10, 11, 12, 13, 14, 15, 16, 17, 18, 19, 20, 21, 22, 23, 24, 25, 26, 27, 28, 29, 30, 31, 32, 33, 34, 35, 36, 37, 38, 39, 40, 41, 42, 43, 44, 45] (fun g => [(7, .int .i64 (totF d x (cnt (0, 0, 0, 0) t) g)), (8, .int .i64 (g : Nat))]) (fun g => g ≤ d.terms.length) (fun g => d.terms.length - g) (0) hf hh ?_ ?_ ?_
  · repeat' (first | exact True.intro | refine And.intro rfl ?_)
  · exact Nat.zero_le _
  ·rintro g a w hg hf hh
   refine sy_seq ?_
   refine sy_sq ?_
   refine o_v hf hh (yv_move rfl) ?_; clear hf a; intro a hf
   refine o_v hf hh (yv_fieldAddr Try.fo_37_0 rfl) ?_; clear hf a; intro a hf
   refine o_v hf hh (y_ld Try.sc_33 rfl) ?_; clear hf a; intro a hf
   refine o_v hf hh (yv_len Try.se_33 rfl) ?_; clear hf a; intro a hf
   refine o_v hf hh (yv_bin rfl rfl rfl) ?_; clear hf a; intro a hf
   refine o_end ?_
   refine sy_cond hf rfl (fun hg2 => ?_) (fun hg2 => ?_)
   ·have hG2 := hg2; try simp only [gS] at hG2
    refine sy_skip ?_
    refine then_n ?_
    refine sy_seq ?_
    refine sy_block ?_
    refine sy_sq ?_
    refine o_v hf hh (yv_assign rfl) ?_; clear hf a; intro a hf
    refine o_end ?_
    refine sy_seq ?_
    refine sy_sq ?_
    refine o_v hf hh (yv_assign rfl) ?_; clear hf a; intro a hf
    refine o_end ?_
    refine sy_block ?_
    refine sy_loopF (σ := Nat) [9, 10, 18, 19, 20, 21, 22, 23, 24, 25, 26, 27, 28, 29, 30, 31] (fun i => [(9, .int .i64 ((t.take i).count g : Nat)), (10, .int .i64 (i : Nat))]) (fun i => i ≤ t.length) (fun i => t.length - i) (0) hf hh ?_ ?_ ?_
    · repeat' (first | exact True.intro | refine And.intro rfl ?_)
    · exact Nat.zero_le _
    ·rintro i a w hi hf hh
     refine sy_seq ?_
     refine sy_sq ?_
     refine o_v hf hh (yv_move rfl) ?_; clear hf a; intro a hf
     refine o_v hf hh (yv_move rfl) ?_; clear hf a; intro a hf
     refine o_v hf hh (yv_len Try.se_22 rfl) ?_; clear hf a; intro a hf
     refine o_v hf hh (yv_bin rfl rfl rfl) ?_; clear hf a; intro a hf
     refine o_end ?_
     refine sy_cond hf rfl (fun hg4 => ?_) (fun hg4 => ?_)
     ·have hG4 := hg4; try simp only [gS] at hG4
      refine sy_skip ?_
      refine then_n ?_
      refine sy_seq ?_
      refine sy_block ?_
      refine sy_seq ?_
      obtain ⟨y, hy⟩ := ex_of (l := t) (i := i) (by omega)
      obtain ⟨blk3, off3, cc3, T3, fr3, e3, hb3, hc3⟩ := hN i y hy; subst e3
      have hct := count_take (g := g) hy
      have hcl : (t.take i).count g ≤ i := by
        have h1 := List.count_le_length (a := g) (l := t.take i)
        rw [List.length_take] at h1; omega
      refine sy_ops ?_
      refine o_v hf hh (yv_move rfl) ?_; clear hf a; intro a hf
      refine o_v hf hh (yv_move rfl) ?_; clear hf a; intro a hf
      refine o_v hf hh (y_ix Try.se_22 rfl rfl) ?_; clear hf a; intro a hf
      refine o_v hf hh (y_ld Try.sc_3 rfl) ?_; clear hf a; intro a hf
      refine o_v hf hh (yv_move rfl) ?_; clear hf a; intro a hf
      refine o_v hf hh (yv_bin rfl rfl rfl) ?_; clear hf a; intro a hf
      refine o_end ?_
      refine sy_cond hf rfl (fun hg6 => ?_) (fun hg6 => ?_)
      ·have hG6 := hg6; try simp only [gS] at hG6
       refine sy_ops ?_
       refine o_v hf hh (yv_move rfl) ?_; clear hf a; intro a hf
       refine o_v hf hh (y_add rfl rfl) ?_; clear hf a; intro a hf
       refine o_v hf hh (yv_assign rfl) ?_; clear hf a; intro a hf
       refine ops_end ?_
       refine blk_n ?_
       refine then_n ?_
       refine sy_ops ?_
       refine o_v hf hh (yv_move rfl) ?_; clear hf a; intro a hf
       refine o_v hf hh (y_add rfl rfl) ?_; clear hf a; intro a hf
       refine o_v hf hh (yv_assign rfl) ?_; clear hf a; intro a hf
       refine ops_end ?_
       refine then_n ?_
       first
         | exact ⟨i + 1, ⟨by omega, hf.head ⟨congrArg some (intv (by rw [hct, if_pos (by omega)]; omega)), rfl, True.intro⟩ (Keep.cons rfl (Keep.cons rfl (Keep.cons rfl (Keep.cons rfl (Keep.cons rfl (Keep.cons rfl (Keep.cons rfl (Keep.cons rfl (Keep.cons rfl (Keep.cons rfl (Keep.cons rfl (Keep.cons rfl (Keep.cons rfl (Keep.cons rfl (Keep.cons rfl (Keep.cons rfl (Keep.app rfl (Keep.rm rfl Keep.base)))))))))))))))))), hh⟩, by omega⟩
         | exact ⟨i + 1, ⟨by omega, hf.head ⟨congrArg some (intv (by rw [hct, if_neg (by omega)]; omega)), rfl, True.intro⟩ (Keep.cons rfl (Keep.cons rfl (Keep.cons rfl (Keep.cons rfl (Keep.cons rfl (Keep.cons rfl (Keep.cons rfl (Keep.cons rfl (Keep.cons rfl (Keep.cons rfl (Keep.cons rfl (Keep.cons rfl (Keep.cons rfl (Keep.cons rfl (Keep.cons rfl (Keep.cons rfl (Keep.app rfl (Keep.rm rfl Keep.base)))))))))))))))))), hh⟩, by omega⟩
      ·have hG6 := hg6; try simp only [gS] at hG6
       refine sy_skip ?_
       refine blk_n ?_
       refine then_n ?_
       refine sy_ops ?_
       refine o_v hf hh (yv_move rfl) ?_; clear hf a; intro a hf
       refine o_v hf hh (y_add rfl rfl) ?_; clear hf a; intro a hf
       refine o_v hf hh (yv_assign rfl) ?_; clear hf a; intro a hf
       refine ops_end ?_
       refine then_n ?_
       first
         | exact ⟨i + 1, ⟨by omega, hf.head ⟨congrArg some (intv (by rw [hct, if_pos (by omega)]; omega)), rfl, True.intro⟩ (Keep.cons rfl (Keep.cons rfl (Keep.cons rfl (Keep.cons rfl (Keep.cons rfl (Keep.cons rfl (Keep.cons rfl (Keep.cons rfl (Keep.cons rfl (Keep.cons rfl (Keep.cons rfl (Keep.cons rfl (Keep.cons rfl (Keep.app rfl (Keep.rm rfl Keep.base))))))))))))))), hh⟩, by omega⟩
         | exact ⟨i + 1, ⟨by omega, hf.head ⟨congrArg some (intv (by rw [hct, if_neg (by omega)]; omega)), rfl, True.intro⟩ (Keep.cons rfl (Keep.cons rfl (Keep.cons rfl (Keep.cons rfl (Keep.cons rfl (Keep.cons rfl (Keep.cons rfl (Keep.cons rfl (Keep.cons rfl (Keep.cons rfl (Keep.cons rfl (Keep.cons rfl (Keep.cons rfl (Keep.app rfl (Keep.rm rfl Keep.base))))))))))))))), hh⟩, by omega⟩
     ·have hG4 := hg4; try simp only [gS] at hG4
      refine sy_exit ?_
      refine then_e ?_
      refine then_e ?_
      refine blk_e ?_
      refine then_n ?_
      obtain rfl : i = t.length := by omega
      obtain ⟨tm, htm⟩ := ex_of (l := d.terms) (i := g) (by omega)
      obtain ⟨blk, off, cc, T, fr, e, hb, hc⟩ := hR.tm g tm htm; dsimp only at e; subst e
      have hto := hO.t tm (List.mem_of_getElem? htm)
      have hcg := cnt_zero ht4 (g := g) (by omega)
      have hc12 := hcO g (by omega)
      rw [List.take_length, ← hcg] at hf
      have h0 := tot_bd hO hxb.1 hxb.2 hcO g (by omega)
      have h1 := tot_bd hO hxb.1 hxb.2 hcO (g + 1) (by omega)
      have h2 := com_bd hto hxb.1 hxb.2 hc12
      have e9 : totF d x (cnt (0, 0, 0, 0) t) (g + 1) = totF d x (cnt (0, 0, 0, 0) t) g + comV tm x (cget (cnt (0, 0, 0, 0) t) g) := by rw [totF, getD_at htm]
      refine sy_tree1 (.p 0 (.p 1 (.q 0 2 (.p 3 (.p 4 (.q 0 5 (.p 6 (.q 0 7 (.p 8 (.p 9 (.q 0 10 (.p 11 (.e1 12 (.p 13 (.p 14 (.fin)))))))))))))))) [] Try.follows (by kernel_rfl) hh (fun w hh => ?_)
      refine mc_p rfl   hf (yv_move rfl) (.inl rfl) rfl rfl ?_; clear hf a; intro a hf
      refine mc_p rfl   hf (yv_fieldAddr Try.fo_37_0 rfl) (.inl rfl) rfl rfl ?_; clear hf a; intro a hf
      refine mc_q rfl rfl hh hf (y_ld Try.sc_33 rfl) (.inl rfl) rfl rfl ?_; clear hf a; intro a hf
      refine mc_p rfl   hf (yv_move rfl) (.inl rfl) rfl rfl ?_; clear hf a; intro a hf
      refine mc_p rfl   hf (y_ix Try.se_33 rfl rfl) (.inl rfl) rfl rfl ?_; clear hf a; intro a hf
      refine mc_q rfl rfl hh hf (y_lds Try.ag_24 rfl) (.inl rfl) rfl rfl ?_; clear hf a; intro a hf
      refine mc_p rfl   hf (yv_fieldAddr Try.fo_37_1 rfl) (.inl rfl) rfl rfl ?_; clear hf a; intro a hf
      refine mc_q rfl rfl hh hf (y_ld Try.sc_22 rfl) (.inl rfl) rfl rfl ?_; clear hf a; intro a hf
      refine mc_p rfl   hf (yv_move rfl) (.inl rfl) rfl rfl ?_; clear hf a; intro a hf
      refine mc_p rfl   hf (y_ix Try.se_22 rfl rfl) (.inl rfl) rfl rfl ?_; clear hf a; intro a hf
      refine mc_q rfl rfl hh hf (y_ld Try.sc_3 rfl) (.inl rfl) rfl rfl ?_; clear hf a; intro a hf
      refine mc_p rfl   hf (yv_move rfl) (.inl rfl) rfl rfl ?_; clear hf a; intro a hf
      refine mc_e rfl fun Q1 => ?_
      refine o_call hf Try.en_54 rfl rfl rfl (p54 tm hto x _ hxb.1 hxb.2 (by omega) (by omega) _) ?_; clear hf a; intro v a w hR hf
      obtain ⟨rfl, hx⟩ := hR; replace hh := hh.more hx; clear hx
      refine ops_end ?_
      refine then_n ⟨⟨fun _ _ => hh, trivial⟩, ?_⟩
      refine mc_p rfl   hf (y_add rfl rfl) (.inl rfl) rfl rfl ?_; clear hf a; intro a hf
      refine mc_p rfl   hf (yv_assign rfl) (.inl rfl) rfl rfl ?_; clear hf a; intro a hf
      refine mc_end ?_
      refine blk_n ?_
      refine then_n ?_
      refine sy_ops ?_
      refine o_v hf hh (yv_move rfl) ?_; clear hf a; intro a hf
      refine o_v hf hh (y_add rfl rfl) ?_; clear hf a; intro a hf
      refine o_v hf hh (yv_assign rfl) ?_; clear hf a; intro a hf
      refine ops_end ?_
      refine then_n ?_
      exact ⟨g + 1, ⟨by omega, hf.head ⟨congrArg some (intv e9.symm), rfl, True.intro⟩ (Keep.cons rfl (Keep.cons rfl (Keep.cons rfl (Keep.cons rfl (Keep.cons rfl (Keep.cons rfl (Keep.cons rfl (Keep.cons rfl (Keep.cons rfl (Keep.cons rfl (Keep.cons rfl (Keep.cons rfl (Keep.cons rfl (Keep.cons rfl (Keep.cons rfl (Keep.cons rfl (Keep.cons rfl (Keep.cons rfl (Keep.cons rfl (Keep.cons rfl (Keep.cons rfl (Keep.cons rfl (Keep.app rfl (Keep.rm rfl (Keep.cons rfl (Keep.cons rfl (Keep.cons rfl (Keep.cons rfl (Keep.cons rfl (Keep.cons rfl (Keep.cons rfl (Keep.app rfl (Keep.rm rfl Keep.base))))))))))))))))))))))))))))))))), hh⟩, by omega⟩
   ·have hG2 := hg2; try simp only [gS] at hG2
    refine sy_exit ?_
    refine then_e ?_
    refine then_e ?_
    refine blk_e ?_
    refine then_n ?_
    refine sy_sq ?_
    refine o_v hf hh (yv_move rfl) ?_; clear hf a; intro a hf
    refine o_v hf hh (yv_assign rfl) ?_; clear hf a; intro a hf
    refine o_end ?_
    refine sy_ret ?_
    refine ret_r hf rfl rfl ?_
    obtain rfl : g = d.terms.length := by omega
    exact ⟨rfl, hh.ext⟩
theorem p88 (d : RoyD) (p : Pl) (q : Nat) (x : Int) (t : List Nat) (so : Option Addr) (co : Nat) (u : World) (hR : RoyAt u d p) (hO : RoyOk d) (hx : d.prices[q]? = some x) (hN : NAt u so t) (ht : t.length ≤ 12) (ht4 : ∀ x ∈ t, x < 4) : Calls Try.prog 88 #[.agg (royC d p), .int .i64 (q : Nat), .slice so t.length co] u (Ret fun v w' => v = .int .i64 (poolV d q (cnt (0, 0, 0, 0) t)) ∧ Ext [] u w') := by
  refine calls_of Try.func88 rfl rfl (fun a hf => ?_)
  have hh := Hp.init u []
  obtain ⟨st, sp, ss, sr, sd, ct, cp, cs, cr, cd⟩ := p
  have hnp := hO.np
  have hql := len_of hx
  have hxb := hO.p x (List.mem_of_getElem? hx)
  have hcn : cardsN (cnt (0, 0, 0, 0) t) = t.length := by rw [cards_cnt]; exact Nat.zero_add _
  obtain ⟨f1, f2, f3, f4⟩ := pool_bd hO hxb.1 hxb.2 (n := cnt (0, 0, 0, 0) t) (by omega)
  rw [hcn] at f1 f2 f4
  have ep : priceN d q = x := getD_at hx
  have epv : poolV d q (cnt (0, 0, 0, 0) t) = (t.length : Nat) * x - totV d x (cnt (0, 0, 0, 0) t) := by unfold poolV; rw [ep, cards_N, hcn]
  obtain ⟨blk2, off2, cc2, T2, fr2, e2, hb2, hc2⟩ := hR.pr q x hx; dsimp only at e2; subst e2
  refine sy_sq ?_
  refine o_box hf hh ?_; clear hf hh a; intro B3 a w hf hh
  refine o_v hf hh (yv_assign rfl) ?_; clear hf a; intro a hf
  refine o_end ?_
  refine sy_seq ?_
  refine sy_tree1 (.p 0 (.p 1 (.p 2 (.q 0 3 (.p 4 (.p 5 (.q 0 6 (.p 7 (.q 0 8 (.p 9 (.p 10 (.e1 11 (.p 12 (.p 13 (.fin))))))))))))))) [] Try.follows (by kernel_rfl) hh (fun w hh => ?_)
  refine mc_p rfl   hf (yv_move rfl) (.inl rfl) rfl rfl ?_; clear hf a; intro a hf
  refine mc_p rfl   hf (yv_len Try.se_22 rfl) (.inl rfl) rfl rfl ?_; clear hf a; intro a hf
  refine mc_p rfl   hf (yv_fieldAddr Try.fo_37_1 rfl) (.inl rfl) rfl rfl ?_; clear hf a; intro a hf
  refine mc_q rfl rfl hh hf (y_ld Try.sc_22 rfl) (.inl rfl) rfl rfl ?_; clear hf a; intro a hf
  refine mc_p rfl   hf (yv_move rfl) (.inl rfl) rfl rfl ?_; clear hf a; intro a hf
  refine mc_p rfl   hf (y_ix Try.se_22 rfl rfl) (.inl rfl) rfl rfl ?_; clear hf a; intro a hf
  refine mc_q rfl rfl hh hf (y_ld Try.sc_3 rfl) (.inl rfl) rfl rfl ?_; clear hf a; intro a hf
  refine mc_p rfl   hf (y_mul rfl rfl) (.inl rfl) rfl rfl ?_; clear hf a; intro a hf
  refine mc_q rfl rfl hh hf (y_lds Try.ag_37 rfl) (.inl rfl) rfl rfl ?_; clear hf a; intro a hf
  refine mc_p rfl   hf (yv_move rfl) (.inl rfl) rfl rfl ?_; clear hf a; intro a hf
  refine mc_p rfl   hf (yv_move rfl) (.inl rfl) rfl rfl ?_; clear hf a; intro a hf
  refine mc_e rfl fun Q1 => ?_
  refine o_call hf Try.en_45 rfl rfl rfl (p45 d _ q x t so co _ (hR.ext hh.ext) hO hx (hN.ext hh.ext) ht ht4) ?_; clear hf a; intro v a w hR hf
  obtain ⟨rfl, hx⟩ := hR; replace hh := hh.more hx; clear hx
  refine ops_end ?_
  refine then_n ⟨⟨fun _ _ => hh, trivial⟩, ?_⟩
  refine mc_p rfl   hf (y_sub rfl rfl) (.inl rfl) rfl rfl ?_; clear hf a; intro a hf
  refine mc_p rfl   hf (yv_assign rfl) (.inl rfl) rfl rfl ?_; clear hf a; intro a hf
  refine mc_end ?_
  refine then_n ?_
  refine sy_ret ?_
  refine ret_r hf rfl rfl ?_
  exact ⟨intv epv.symm, hh.ext⟩
set_option maxRecDepth 100000 in
set_option maxHeartbeats 4000000 in
theorem p99 (d : RoyD) (p : Pl) (k : Int) (ws cs : List Nat) (sc : Option Addr) (cc0 : Nat) (u0 : World) (hR : RoyAt u0 d p) (hO : RoyOk d) (hws : ws = wsL d k) (hcs : cs = csL d k) (hC : NAt u0 sc cs) : ∀ (r : Nat) (u : World) (b : List Nat) (nb : Nat) (ob : Option Addr) (cpb : Nat) (vo : Value) (m : Nat) (hs : List Value) (X : List (Nat × Obj)) (hfu : nb + r = ws.length) (hu : Ext [] u0 u) (hXf : ∀ x ∈ X.map Prod.fst, u0.heap.size ≤ x) (hvb : ValsOff u X ob (nvs b)) (hOw : OwnSl 22 1 vo m hs X) (hX : ∀ x ∈ X, u.heap[x.1]? = some x.2) (hnb : nb = b.length) (hm : m + (trB d.terms.length ws b).length ≤ 1000000000),
    Calls Try.prog 99 #[.agg (royC d p), .int .i64 k, .slice sc cs.length cc0, .slice ob nb cpb, vo] u (Ret fun v w' => ∃ hs' X', OwnSl 22 1 v (m + (trB d.terms.length ws b).length) (hs ++ hs') X' ∧ HdsAt nvs List.length w' X' hs' (trB d.terms.length ws b) ∧ Hp u (X.map Prod.fst) X' w') := by
  have hlen : cs.length = ws.length := by rw [hws, hcs, cs_len]
  have hw12 : ws.length ≤ 12 := by rw [hws]; exact ws_len d k
  have hnt := hO.nt
  intro r
  induction r with
  | zero =>
    intro u b nb ob cpb vo m hs X hfu hu hXf hvb hOw hX hnb hm
    have htr : trB d.terms.length ws b = [b] := trB_end (by omega)
    rw [htr] at hm ⊢
    rw [show ([b] : List (List Nat)).length = 1 from rfl] at hm ⊢
    refine calls_of Try.func99 rfl rfl (fun a hf => ?_)
    have hh := ownSl_hp hOw hX
    refine sy_sq ?_
    refine o_box hf hh ?_; clear hf hh a; intro B5 a w hf hh
    refine o_v hf hh (yv_assign rfl) ?_; clear hf a; intro a hf
    refine o_end ?_
    refine sy_seq ?_
    refine sy_sq ?_
    refine o_v hf hh (yv_move rfl) ?_; clear hf a; intro a hf
    refine o_v hf hh (yv_len Try.se_22 rfl) ?_; clear hf a; intro a hf
    refine o_v hf hh (yv_move rfl) ?_; clear hf a; intro a hf
    refine o_v hf hh (yv_len Try.se_22 rfl) ?_; clear hf a; intro a hf
    refine o_v hf hh (yv_bin rfl rfl rfl) ?_; clear hf a; intro a hf
    refine o_end ?_
    refine c_t hf ?_
    refine sy_sq ?_
    refine o_v hf hh (yv_move rfl) ?_; clear hf a; intro a hf
    refine o_v hf hh (yv_move rfl) ?_; clear hf a; intro a hf
    refine ops_buildSl hf hh Try.bl_34_1 rfl rfl (.inl rfl) rfl ?_; clear hf hh; clear a; intro B20 a w hf hh
    refine ops_append (e := 22) (size := 1) (xs := hs) (X := X) (Z := [(B5, .cells (royC d p) 37)]) (m := m) (q := 1) hf (hh.perm (.cons _ (List.perm_append_comm (l₁ := [(B5, Obj.cells (royC d p) 37)]) (l₂ := X)))) Try.eb_34 rfl rfl hOw rfl rfl rfl (by simp only [maxLen]; omega) (by omega) (.inl rfl) rfl ?_; clear hf hh a; intro v1 X1 a w hO1 hf hh
    replace hh : Hp u (X.map Prod.fst) ((B5, .cells (royC d p) 37) :: X1) w := hh.perm List.perm_append_comm
    refine o_v hf hh (yv_assign rfl) ?_; clear hf a; intro a hf
    refine o_end ?_
    refine sy_ret ?_
    refine then_r ?_
    refine ret_r hf rfl rfl ?_
    exact ⟨_, X1, hO1, .one' (hvb.keep (hh.less (.cons _ (List.Sublist.refl _)))) hnb, hh.less (.cons _ (List.Sublist.refl _))⟩
  | succ r ih =>
    intro u b nb ob cpb vo m hs X hfu hu hXf hvb hOw hX hnb hm
    obtain ⟨wn, hwn⟩ := ex_of (l := ws) (i := b.length) (by omega)
    obtain ⟨cd9, hcn⟩ := ex_of (l := cs) (i := b.length) (by omega)
    obtain ⟨blk, off, cc, T, fr, e, hbc, hcc⟩ := hC b.length cd9 hcn; subst e
    have hbu := hu.get hbc
    have hbn : blk ∉ X.map Prod.fst := fun h => by
      have h1 := hXf _ h
      have h2 := (Array.getElem?_eq_some_iff.1 hbc).1
      omega
    obtain ⟨l, hl⟩ : ∃ l, l = clrL d.terms.length wn := ⟨_, rfl⟩
    have hcl : claL d k cd9 d.terms.length = l := by rw [hl]; exact claW hO (by rw [← hcs]; exact hcn) (by rw [← hws]; exact hwn)
    have hall : curB d.terms.length ws b l l.length = trB d.terms.length ws b := by rw [hl]; exact curB_all hwn
    have hle : ∀ j, (curB d.terms.length ws b l j).length ≤ (curB d.terms.length ws b l l.length).length := fun j => by rw [hall, hl]; exact curB_len hwn j
    have hll : l.length ≤ 4 := by rw [← hcl]; exact Nat.le_trans (claL_len _ _ _ _) hnt
    rw [← hall] at hm ⊢
    subst hnb
    refine calls_of Try.func99 rfl rfl (fun a hf => ?_)
    have hh := ownSl_hp hOw hX
    refine sy_sq ?_
    refine o_box hf hh ?_; clear hf hh a; intro B5 a w hf hh
    refine o_v hf hh (yv_assign rfl) ?_; clear hf a; intro a hf
    refine o_end ?_
    refine sy_seq ?_
    refine sy_sq ?_
    refine o_v hf hh (yv_move rfl) ?_; clear hf a; intro a hf
    refine o_v hf hh (yv_len Try.se_22 rfl) ?_; clear hf a; intro a hf
    refine o_v hf hh (yv_move rfl) ?_; clear hf a; intro a hf
    refine o_v hf hh (yv_len Try.se_22 rfl) ?_; clear hf a; intro a hf
    refine o_v hf hh (yv_bin rfl rfl rfl) ?_; clear hf a; intro a hf
    refine o_end ?_
    refine c_f hf ?_
    refine sy_skip ?_
    refine then_n ?_
    refine sy_seq ?_
    refine sy_tree1 (.q 0 0 (.p 1 (.p 2 (.p 3 (.p 4 (.p 5 (.q 0 6 (.e1 7 (.p 8 (.fin)))))))))) [] Try.follows (by kernel_rfl) hh (fun w hh => ?_)
    refine mc_q rfl rfl hh hf (y_lds Try.ag_37 rfl) (.inl rfl) rfl rfl ?_; clear hf a; intro a hf
    refine mc_p rfl   hf (yv_move rfl) (.inl rfl) rfl rfl ?_; clear hf a; intro a hf
    refine mc_p rfl   hf (yv_move rfl) (.inl rfl) rfl rfl ?_; clear hf a; intro a hf
    refine mc_p rfl   hf (yv_move rfl) (.inl rfl) rfl rfl ?_; clear hf a; intro a hf
    refine mc_p rfl   hf (yv_len Try.se_22 rfl) (.inl rfl) rfl rfl ?_; clear hf a; intro a hf
    refine mc_p rfl   hf (y_ix Try.se_22 rfl rfl) (.inl rfl) rfl rfl ?_; clear hf a; intro a hf
    refine mc_q rfl rfl hh hf (y_ld Try.sc_3 rfl) (.inl rfl) rfl rfl ?_; clear hf a; intro a hf
    refine mc_e rfl fun Q1 => ?_
    refine o_call hf Try.en_44 rfl rfl rfl (p44 d p k cd9 _ (hR.ext (Ext.over hu hh.ext hXf))) ?_; clear hf a; intro v a w hR hf
    obtain ⟨X4, hO4, hx⟩ := hR; rw [hcl] at hO4
    obtain ⟨oa4, cp4, rfl⟩ := own_val hO4
    have hvl := valsOff_own (Z := [(B5, Obj.cells (royC d p) 37)]) hO4 ((hh.join hx).perm (List.Perm.append_left _ (List.perm_append_comm (l₁ := [(B5, Obj.cells (royC d p) 37)]) (l₂ := X))))
    replace hh := hh.more hx.ext; clear hx
    refine ops_end ?_
    refine then_n ⟨⟨fun _ _ => hh, trivial⟩, ?_⟩
    refine mc_p rfl   hf (yv_assign rfl) (.inl rfl) rfl rfl ?_; clear hf a; intro a hf
    refine mc_end ?_
    refine then_n ?_
    refine sy_seq ?_
    refine sy_sq ?_
    refine o_v hf hh (yv_assign rfl) ?_; clear hf a; intro a hf
    refine o_end ?_
    refine sy_block ?_
    refine sy_loopH (σ := Nat × Value × List Value × List (Nat × Obj)) [4, 12, 30, 31, 32, 33, 34, 35, 36, 37, 38, 39, 40, 41, 42, 43, 44, 45, 46, 47, 48, 49] (fun q => [(12, .int .i64 ((q.1 : Nat) : Int)), (4, q.2.1)]) (fun q => fun w' => q.1 ≤ l.length ∧ OwnSl 22 1 q.2.1 (m + (curB d.terms.length ws b l q.1).length) (hs ++ q.2.2.1) q.2.2.2 ∧ HdsAt nvs List.length w' q.2.2.2 q.2.2.1 (curB d.terms.length ws b l q.1) ∧ Hp u (X.map Prod.fst) ((B5, .cells (royC d p) 37) :: q.2.2.2) w' ∧ ValsOff w' q.2.2.2 oa4 (nvs l)) (fun q => l.length - q.1) ((0, vo, [], X)) hf ?_ ?_ ?_
    · repeat' (first | exact True.intro | refine And.intro rfl ?_)
    · exact ⟨Nat.zero_le _, by rw [curB_zero]; simpa using hOw, by rw [curB_zero]; exact .nil, hh, hvl⟩
    ·rintro q a w ⟨hj, hO2, hD2, hh, hvl2⟩ hf
     obtain ⟨j, v2, hs2, X2⟩ := q
     simp only at hj hO2 hD2 hh hvl2 hf ⊢
     refine sy_seq ?_
     refine sy_sq ?_
     refine o_v hf hh (yv_move rfl) ?_; clear hf a; intro a hf
     refine o_v hf hh (yv_move rfl) ?_; clear hf a; intro a hf
     refine o_v hf hh (yv_len Try.se_22 rfl) ?_; clear hf a; intro a hf
     refine o_v hf hh (yv_bin rfl rfl rfl) ?_; clear hf a; intro a hf
     refine o_end ?_
     refine sy_cond hf rfl (fun hg4 => ?_) (fun hg4 => ?_)
     ·have hG4 := hg4; try simp only [gS] at hG4
      refine sy_skip ?_
      refine then_n ?_
      refine sy_seq ?_
      refine sy_block ?_
      have hh0 := hh
      have hsw := (hh.less (.cons _ (List.Sublist.refl _)) : Hp u (X.map Prod.fst) X2 w)
      have hu1 : Ext [] u0 w := Ext.over hu hh.ext hXf
      have hXf2 : ∀ x ∈ X2.map Prod.fst, u0.heap.size ≤ x := fun x hx => by
        obtain ⟨q, hq, rfl⟩ := List.mem_map.1 hx
        rcases hsw.mine q hq with h1 | h1
        · exact Nat.le_trans hu.size h1
        · exact hXf _ h1
      have hvb1 := hvb.keep hsw
      have hb5 := hh.get (B5, .cells (royC d p) 37) (.head _)
      have hb5n : B5 ∉ X2.map Prod.fst := by
        have h := hh.nodup
        rw [List.map_cons, List.nodup_cons] at h
        exact h.1
      have hX2 : ∀ x ∈ X2, w.heap[x.1]? = some x.2 := fun x hx => hh.get x (.tail _ hx)
      obtain ⟨g, hg⟩ := ex_of (l := l) (i := j) (by omega)
      obtain ⟨blk4, off4, cc4, T4, fr4, e4, hbln, hbl, hcl4⟩ : ∃ blk off c T fr, oa4 = some ⟨blk, off, none⟩ ∧ blk ∉ X2.map Prod.fst ∧ w.heap[blk]? = some (.cells c T fr) ∧ c[off + ((j : Nat) : Int).toNat * 1]? = some (.int .i64 ((g : Nat) : Int)) := by
        rcases hvl2 with h | ⟨blk, off, c, T, fr, h1, h2, h3, h4⟩
        · have := congrArg List.length h
          rw [nvs_len] at this
          simp at this
          rw [this] at hg; simp at hg
        · exact ⟨blk, off, c, T, fr, h1, h2, h3, by rw [Int.toNat_natCast, Nat.mul_one]; exact h4 j _ (nvs_at hg)⟩
      subst e4
      obtain ⟨u1, rfl⟩ : ∃ z, z = w := ⟨_, rfl⟩
      replace hh := ownSl_hp hO2 hX2
      have hcnx := curB_next (m := d.terms.length) (ws := ws) (b := b) hg
      have hlnx := congrArg List.length hcnx
      rw [List.length_append] at hlnx
      have hle1 := hle j
      have hle2 := hle (j + 1)
      refine sy_treeC (.q 0 0 (.p 1 (.p 2 (.p 4 (.p 6 (.p 7 (.p 8 (.q 0 9 (.p 12 (.e2 3 (.e2 5 (.e1 10 (.e1 11 (.e1 13 (.p 14 (.fin))))) 10 (.e1 5 (.e1 11 (.e1 13 (.p 14 (.fin)))))) 10 (.e1 3 (.e1 5 (.e1 11 (.e1 13 (.p 14 (.fin)))))))))))))))) [[]] [(AtE u1 (X2.map Prod.fst) [], [])] Try.follows (by kernel_rfl) rfl hh (fun w hh => ?_)
      refine mc_q rfl rfl (AtE.of hh (List.nil_subset _)) hf (y_lds Try.ag_37 rfl) (.inl rfl) rfl rfl ?_; clear hf a; intro a hf
      refine mc_p rfl   hf (yv_move rfl) (.inl rfl) rfl rfl ?_; clear hf a; intro a hf
      refine mc_p rfl   hf (yv_move rfl) (.inl rfl) rfl rfl ?_; clear hf a; intro a hf
      refine mc_p rfl   hf (yv_move rfl) (.inl rfl) rfl rfl ?_; clear hf a; intro a hf
      refine mc_p rfl   hf (yv_move rfl) (.inl rfl) rfl rfl ?_; clear hf a; intro a hf
      refine mc_p rfl   hf (yv_move rfl) (.inl rfl) rfl rfl ?_; clear hf a; intro a hf
      refine mc_p rfl   hf (y_ix Try.se_22 rfl rfl) (.inl rfl) rfl rfl ?_; clear hf a; intro a hf
      refine mc_q rfl rfl (AtE.of hh (List.nil_subset _)) hf (y_ld Try.sc_3 rfl) (.inl rfl) rfl rfl ?_; clear hf a; intro a hf
      refine mc_p rfl   hf (yv_move rfl) (.inl rfl) rfl rfl ?_; clear hf a; intro a hf
      refine ⟨?_, ?_⟩
      ·refine mc_e rfl fun Q1 => ?_
       refine ops_buildSl hf hh Try.bl_22_0 rfl rfl (.inl rfl) rfl ?_; clear hf hh; clear a; intro B39 a w hf hh
       refine ops_end ?_
       refine then_n ⟨⟨fun _ _ => (AtE.of hh (List.nil_subset _)), trivial⟩, ?_⟩
       refine ⟨?_, ?_⟩
       ·refine mc_e rfl fun Q1 => ?_
        first
          | (refine ops_appendV (e := 3) (size := 1) (xs := []) (news := nvs b) (X := [(B39, .cells #[] 3)]) (m := 0) hf hh Try.eb_22 rfl rfl ⟨rfl, .inr ⟨B39, 0, #[], rfl, rfl, Nat.le_refl _, Nat.zero_le _, rfl, rfl⟩⟩ (hvb1.ext hh.ext).vals (by rw [nvs_len, Nat.mul_one]) (by omega) (nvs_1c _) (by simp only [maxLen]; omega) (by omega) (.inl rfl) rfl ?_)
          | (refine ops_appendV (e := 3) (size := 1) (xs := []) (news := nvs b) (X := [(B39, .cells #[] 3)]) (m := 0) hf (hh.perm (.swap _ _ _)) Try.eb_22 rfl rfl ⟨rfl, .inr ⟨B39, 0, #[], rfl, rfl, Nat.le_refl _, Nat.zero_le _, rfl, rfl⟩⟩ (hvb1.ext hh.ext).vals (by rw [nvs_len, Nat.mul_one]) (by omega) (nvs_1c _) (by simp only [maxLen]; omega) (by omega) (.inl rfl) rfl ?_)
        clear hf hh a; intro v4 X5 a w hO5 hf hh
        rw [Nat.zero_add, List.nil_append] at hO5
        refine ops_end ?_
        refine then_n ⟨⟨fun _ _ => (AtE.of hh (List.nil_subset _)), trivial⟩, ?_⟩
        refine mc_e rfl fun Q1 => ?_
        refine ops_buildSl hf hh Try.bl_22_1 rfl rfl (.inl rfl) rfl ?_; clear hf hh; clear a; intro B46 a w hf hh
        refine ops_end ?_
        refine then_n ⟨⟨fun _ _ => (AtE.of hh (List.nil_subset _)), trivial⟩, ?_⟩
        refine mc_e rfl fun Q1 => ?_
        first
          | (refine ops_append (e := 3) (size := 1) (xs := nvs b) (X := X5) (Z := X2) (m := b.length) (q := 1) hf hh Try.eb_22 rfl rfl hO5 rfl rfl rfl (by simp only [maxLen]; omega) (by omega) (.inl rfl) rfl ?_)
          | (refine ops_append (e := 3) (size := 1) (xs := nvs b) (X := X5) (Z := X2) (m := b.length) (q := 1) hf (hh.perm List.perm_middle) Try.eb_22 rfl rfl hO5 rfl rfl rfl (by simp only [maxLen]; omega) (by omega) (.inl rfl) rfl ?_)
        clear hf hh a; intro v5 X6 a w hO6 hf hh
        replace hO6 : OwnSl 3 1 v5 (b.length + 1) (nvs (b ++ [g])) X6 := by rw [nvs_app]; exact hO6
        obtain ⟨oa5, cp5, rfl⟩ := own_val hO6
        refine ops_end ?_
        refine then_n ⟨⟨fun _ _ => (AtE.of hh (List.nil_subset _)), trivial⟩, ?_⟩
        refine mc_e rfl fun Q1 => ?_
        have hs2' := hh.less (List.sublist_append_right X6 X2)
        refine o_call hf Try.en_99 rfl rfl rfl (ih _ (b ++ [g]) (b.length + 1) oa5 cp5 v2 (m + (curB d.terms.length ws b l j).length) (hs ++ hs2) X2 (by omega) (Ext.over hu1 hh.ext hXf2) hXf2 (valsOff_own (Z := []) hO6 (by rw [List.append_nil]; exact hh)) hO2 (fun x hx => hh.get x (List.mem_append_right _ hx)) (by rw [List.length_append]; rfl) (by omega)) ?_; clear hf a; intro v a w hR hf
        obtain ⟨hs3, X3, hO3, hD3, hx⟩ := hR; obtain ⟨v3, rfl⟩ : ∃ z, z = v := ⟨_, rfl⟩
        have hx2 := (hh.swap' List.perm_append_comm hx).less (List.sublist_append_left _ _)
        replace hh := hx2; clear hx
        refine ops_end ?_
        refine then_n ⟨⟨fun _ _ => (AtE.of hh (List.nil_subset _)), trivial⟩, ?_⟩
        refine mc_p rfl   hf (yv_assign rfl) (.inl rfl) rfl rfl ?_; clear hf a; intro a hf
        refine mc_end ?_
        refine blk_n ?_
        refine then_n ?_
        refine sy_ops ?_
        refine o_v hf hh (yv_move rfl) ?_; clear hf a; intro a hf
        refine o_v hf hh (y_add rfl rfl) ?_; clear hf a; intro a hf
        refine o_v hf hh (yv_assign rfl) ?_; clear hf a; intro a hf
        refine ops_end ?_
        refine then_n ?_
        exact ⟨(j + 1, v3, hs2 ++ hs3, X3), ⟨⟨by simp only; omega, by simp only; rw [hlnx, ← Nat.add_assoc, ← List.append_assoc]; exact hO3, by simp only; rw [hcnx]; exact (hD2.keep hx2).app hD3, (hh0.swap' (List.perm_append_comm (l₁ := [(B5, Obj.cells (royC d p) 37)])) hx2).perm List.perm_append_comm, hvl2.keep hx2⟩, hf.head ⟨rfl, rfl, True.intro⟩ (Keep.cons rfl (Keep.cons rfl (Keep.cons rfl (Keep.cons rfl (Keep.cons rfl (Keep.cons rfl (Keep.cons rfl (Keep.cons rfl (Keep.cons rfl (Keep.cons rfl (Keep.cons rfl (Keep.cons rfl (Keep.cons rfl (Keep.cons rfl (Keep.cons rfl (Keep.cons rfl (Keep.cons rfl (Keep.cons rfl (Keep.cons rfl (Keep.cons rfl (Keep.cons rfl (Keep.cons rfl (Keep.app rfl (Keep.rm rfl Keep.base))))))))))))))))))))))))⟩, by simp only; omega⟩
       ·refine mc_e rfl fun Q1 => ?_
        refine ops_buildSl hf hh Try.bl_22_1 rfl rfl (.inl rfl) rfl ?_; clear hf hh; clear a; intro B46 a w hf hh
        refine ops_end ?_
        refine then_n ⟨⟨fun _ _ => (AtE.of hh (List.nil_subset _)), trivial⟩, ?_⟩
        refine mc_e rfl fun Q1 => ?_
        first
          | (refine ops_appendV (e := 3) (size := 1) (xs := []) (news := nvs b) (X := [(B39, .cells #[] 3)]) (m := 0) hf hh Try.eb_22 rfl rfl ⟨rfl, .inr ⟨B39, 0, #[], rfl, rfl, Nat.le_refl _, Nat.zero_le _, rfl, rfl⟩⟩ (hvb1.ext hh.ext).vals (by rw [nvs_len, Nat.mul_one]) (by omega) (nvs_1c _) (by simp only [maxLen]; omega) (by omega) (.inl rfl) rfl ?_)
          | (refine ops_appendV (e := 3) (size := 1) (xs := []) (news := nvs b) (X := [(B39, .cells #[] 3)]) (m := 0) hf (hh.perm (.swap _ _ _)) Try.eb_22 rfl rfl ⟨rfl, .inr ⟨B39, 0, #[], rfl, rfl, Nat.le_refl _, Nat.zero_le _, rfl, rfl⟩⟩ (hvb1.ext hh.ext).vals (by rw [nvs_len, Nat.mul_one]) (by omega) (nvs_1c _) (by simp only [maxLen]; omega) (by omega) (.inl rfl) rfl ?_)
        clear hf hh a; intro v4 X5 a w hO5 hf hh
        rw [Nat.zero_add, List.nil_append] at hO5
        refine ops_end ?_
        refine then_n ⟨⟨fun _ _ => (AtE.of hh (List.nil_subset _)), trivial⟩, ?_⟩
        refine mc_e rfl fun Q1 => ?_
        first
          | (refine ops_append (e := 3) (size := 1) (xs := nvs b) (X := X5) (Z := X2) (m := b.length) (q := 1) hf hh Try.eb_22 rfl rfl hO5 rfl rfl rfl (by simp only [maxLen]; omega) (by omega) (.inl rfl) rfl ?_)
          | (refine ops_append (e := 3) (size := 1) (xs := nvs b) (X := X5) (Z := X2) (m := b.length) (q := 1) hf (hh.perm List.perm_middle) Try.eb_22 rfl rfl hO5 rfl rfl rfl (by simp only [maxLen]; omega) (by omega) (.inl rfl) rfl ?_)
        clear hf hh a; intro v5 X6 a w hO6 hf hh
        replace hO6 : OwnSl 3 1 v5 (b.length + 1) (nvs (b ++ [g])) X6 := by rw [nvs_app]; exact hO6
        obtain ⟨oa5, cp5, rfl⟩ := own_val hO6
        refine ops_end ?_
        refine then_n ⟨⟨fun _ _ => (AtE.of hh (List.nil_subset _)), trivial⟩, ?_⟩
        refine mc_e rfl fun Q1 => ?_
        have hs2' := hh.less (List.sublist_append_right X6 X2)
        refine o_call hf Try.en_99 rfl rfl rfl (ih _ (b ++ [g]) (b.length + 1) oa5 cp5 v2 (m + (curB d.terms.length ws b l j).length) (hs ++ hs2) X2 (by omega) (Ext.over hu1 hh.ext hXf2) hXf2 (valsOff_own (Z := []) hO6 (by rw [List.append_nil]; exact hh)) hO2 (fun x hx => hh.get x (List.mem_append_right _ hx)) (by rw [List.length_append]; rfl) (by omega)) ?_; clear hf a; intro v a w hR hf
        obtain ⟨hs3, X3, hO3, hD3, hx⟩ := hR; obtain ⟨v3, rfl⟩ : ∃ z, z = v := ⟨_, rfl⟩
        have hx2 := (hh.swap' List.perm_append_comm hx).less (List.sublist_append_left _ _)
        replace hh := hx2; clear hx
        refine ops_end ?_
        refine then_n ⟨⟨fun _ _ => (AtE.of hh (List.nil_subset _)), trivial⟩, ?_⟩
        refine mc_p rfl   hf (yv_assign rfl) (.inl rfl) rfl rfl ?_; clear hf a; intro a hf
        refine mc_end ?_
        refine blk_n ?_
        refine then_n ?_
        refine sy_ops ?_
        refine o_v hf hh (yv_move rfl) ?_; clear hf a; intro a hf
        refine o_v hf hh (y_add rfl rfl) ?_; clear hf a; intro a hf
        refine o_v hf hh (yv_assign rfl) ?_; clear hf a; intro a hf
        refine ops_end ?_
        refine then_n ?_
        exact ⟨(j + 1, v3, hs2 ++ hs3, X3), ⟨⟨by simp only; omega, by simp only; rw [hlnx, ← Nat.add_assoc, ← List.append_assoc]; exact hO3, by simp only; rw [hcnx]; exact (hD2.keep hx2).app hD3, (hh0.swap' (List.perm_append_comm (l₁ := [(B5, Obj.cells (royC d p) 37)])) hx2).perm List.perm_append_comm, hvl2.keep hx2⟩, hf.head ⟨rfl, rfl, True.intro⟩ (Keep.cons rfl (Keep.cons rfl (Keep.cons rfl (Keep.cons rfl (Keep.cons rfl (Keep.cons rfl (Keep.cons rfl (Keep.cons rfl (Keep.cons rfl (Keep.cons rfl (Keep.cons rfl (Keep.cons rfl (Keep.cons rfl (Keep.cons rfl (Keep.cons rfl (Keep.cons rfl (Keep.cons rfl (Keep.cons rfl (Keep.cons rfl (Keep.cons rfl (Keep.cons rfl (Keep.cons rfl (Keep.app rfl (Keep.rm rfl Keep.base))))))))))))))))))))))))⟩, by simp only; omega⟩
      ·refine mc_e rfl fun Q1 => ?_
       refine ops_buildSl hf hh Try.bl_22_1 rfl rfl (.inl rfl) rfl ?_; clear hf hh; clear a; intro B46 a w hf hh
       refine ops_end ?_
       refine then_n ⟨⟨fun _ _ => (AtE.of hh (List.nil_subset _)), trivial⟩, ?_⟩
       refine mc_e rfl fun Q1 => ?_
       refine ops_buildSl hf hh Try.bl_22_0 rfl rfl (.inl rfl) rfl ?_; clear hf hh; clear a; intro B39 a w hf hh
       refine ops_end ?_
       refine then_n ⟨⟨fun _ _ => (AtE.of hh (List.nil_subset _)), trivial⟩, ?_⟩
       refine mc_e rfl fun Q1 => ?_
       first
         | (refine ops_appendV (e := 3) (size := 1) (xs := []) (news := nvs b) (X := [(B39, .cells #[] 3)]) (m := 0) hf hh Try.eb_22 rfl rfl ⟨rfl, .inr ⟨B39, 0, #[], rfl, rfl, Nat.le_refl _, Nat.zero_le _, rfl, rfl⟩⟩ (hvb1.ext hh.ext).vals (by rw [nvs_len, Nat.mul_one]) (by omega) (nvs_1c _) (by simp only [maxLen]; omega) (by omega) (.inl rfl) rfl ?_)
         | (refine ops_appendV (e := 3) (size := 1) (xs := []) (news := nvs b) (X := [(B39, .cells #[] 3)]) (m := 0) hf (hh.perm (.swap _ _ _)) Try.eb_22 rfl rfl ⟨rfl, .inr ⟨B39, 0, #[], rfl, rfl, Nat.le_refl _, Nat.zero_le _, rfl, rfl⟩⟩ (hvb1.ext hh.ext).vals (by rw [nvs_len, Nat.mul_one]) (by omega) (nvs_1c _) (by simp only [maxLen]; omega) (by omega) (.inl rfl) rfl ?_)
       clear hf hh a; intro v4 X5 a w hO5 hf hh
       rw [Nat.zero_add, List.nil_append] at hO5
       refine ops_end ?_
       refine then_n ⟨⟨fun _ _ => (AtE.of hh (List.nil_subset _)), trivial⟩, ?_⟩
       refine mc_e rfl fun Q1 => ?_
       first
         | (refine ops_append (e := 3) (size := 1) (xs := nvs b) (X := X5) (Z := X2) (m := b.length) (q := 1) hf hh Try.eb_22 rfl rfl hO5 rfl rfl rfl (by simp only [maxLen]; omega) (by omega) (.inl rfl) rfl ?_)
         | (refine ops_append (e := 3) (size := 1) (xs := nvs b) (X := X5) (Z := X2) (m := b.length) (q := 1) hf (hh.perm List.perm_middle) Try.eb_22 rfl rfl hO5 rfl rfl rfl (by simp only [maxLen]; omega) (by omega) (.inl rfl) rfl ?_)
       clear hf hh a; intro v5 X6 a w hO6 hf hh
       replace hO6 : OwnSl 3 1 v5 (b.length + 1) (nvs (b ++ [g])) X6 := by rw [nvs_app]; exact hO6
       obtain ⟨oa5, cp5, rfl⟩ := own_val hO6
       refine ops_end ?_
       refine then_n ⟨⟨fun _ _ => (AtE.of hh (List.nil_subset _)), trivial⟩, ?_⟩
       refine mc_e rfl fun Q1 => ?_
       have hs2' := hh.less (List.sublist_append_right X6 X2)
       refine o_call hf Try.en_99 rfl rfl rfl (ih _ (b ++ [g]) (b.length + 1) oa5 cp5 v2 (m + (curB d.terms.length ws b l j).length) (hs ++ hs2) X2 (by omega) (Ext.over hu1 hh.ext hXf2) hXf2 (valsOff_own (Z := []) hO6 (by rw [List.append_nil]; exact hh)) hO2 (fun x hx => hh.get x (List.mem_append_right _ hx)) (by rw [List.length_append]; rfl) (by omega)) ?_; clear hf a; intro v a w hR hf
       obtain ⟨hs3, X3, hO3, hD3, hx⟩ := hR; obtain ⟨v3, rfl⟩ : ∃ z, z = v := ⟨_, rfl⟩
       have hx2 := (hh.swap' List.perm_append_comm hx).less (List.sublist_append_left _ _)
       replace hh := hx2; clear hx
       refine ops_end ?_
       refine then_n ⟨⟨fun _ _ => (AtE.of hh (List.nil_subset _)), trivial⟩, ?_⟩
       refine mc_p rfl   hf (yv_assign rfl) (.inl rfl) rfl rfl ?_; clear hf a; intro a hf
       refine mc_end ?_
       refine blk_n ?_
       refine then_n ?_
       refine sy_ops ?_
       refine o_v hf hh (yv_move rfl) ?_; clear hf a; intro a hf
       refine o_v hf hh (y_add rfl rfl) ?_; clear hf a; intro a hf
       refine o_v hf hh (yv_assign rfl) ?_; clear hf a; intro a hf
       refine ops_end ?_
       refine then_n ?_
       exact ⟨(j + 1, v3, hs2 ++ hs3, X3), ⟨⟨by simp only; omega, by simp only; rw [hlnx, ← Nat.add_assoc, ← List.append_assoc]; exact hO3, by simp only; rw [hcnx]; exact (hD2.keep hx2).app hD3, (hh0.swap' (List.perm_append_comm (l₁ := [(B5, Obj.cells (royC d p) 37)])) hx2).perm List.perm_append_comm, hvl2.keep hx2⟩, hf.head ⟨rfl, rfl, True.intro⟩ (Keep.cons rfl (Keep.cons rfl (Keep.cons rfl (Keep.cons rfl (Keep.cons rfl (Keep.cons rfl (Keep.cons rfl (Keep.cons rfl (Keep.cons rfl (Keep.cons rfl (Keep.cons rfl (Keep.cons rfl (Keep.cons rfl (Keep.cons rfl (Keep.cons rfl (Keep.cons rfl (Keep.cons rfl (Keep.cons rfl (Keep.cons rfl (Keep.cons rfl (Keep.cons rfl (Keep.cons rfl (Keep.app rfl (Keep.rm rfl Keep.base))))))))))))))))))))))))⟩, by simp only; omega⟩
     ·have hG4 := hg4; try simp only [gS] at hG4
      refine sy_exit ?_
      refine then_e ?_
      refine then_e ?_
      refine blk_e ?_
      refine then_n ?_
      refine sy_sq ?_
      refine o_v hf hh (yv_move rfl) ?_; clear hf a; intro a hf
      refine o_v hf hh (yv_assign rfl) ?_; clear hf a; intro a hf
      refine o_end ?_
      refine sy_ret ?_
      refine ret_r hf rfl rfl ?_
      obtain rfl : j = l.length := by omega
      exact ⟨hs2, X2, hO2, hD2, hh.less (.cons _ (List.Sublist.refl _))⟩
end Go.Proofs.Ytkfkifkdncdhoaa
namespace Go.RoyM
open Go Go.Sy
/-- Lists of agents lie in memory, a slice for each. -/
def LsAt (w : World) (so : Option Addr) (L : List (List Nat)) : Prop :=
  ∀ i t, L[i]? = some t → ∃ blk off c T fr sb cb, so = some ⟨blk, off, none⟩ ∧ w.heap[blk]? = some (.cells c T fr) ∧ c[off + ((i : Nat) : Int).toNat * 1]? = some (.slice sb t.length cb) ∧ NAt w sb t
theorem LsAt.ext {w w' : World} {so : Option Addr} {L : List (List Nat)} (h : LsAt w so L) (e : Ext [] w w') : LsAt w' so L := fun i s hi =>
  let ⟨blk, off, c, T, fr, sb, cb, h1, h2, h3, h4⟩ := h i s hi
  ⟨blk, off, c, T, fr, sb, cb, h1, e.get h2, h3, h4.ext e⟩
theorem nat_off {w : World} {X : List (Nat × Obj)} {sb : Option Addr} {t : List Nat} (h : ValsOff w X sb (nvs t)) : NAt w sb t := fun i x hi => by
  rcases h with h | ⟨blk, off, c, T, fr, h1, _, h3, h4⟩
  · have := congrArg List.length h
    rw [nvs_len] at this
    have h2 := len_of hi
    simp at this
    rw [this] at h2; simp at h2
  · exact ⟨blk, off, c, T, fr, h1, h3, by rw [Int.toNat_natCast, Nat.mul_one]; exact h4 i _ (nvs_at hi)⟩
theorem ls_of {w : World} {v : Value} {L : List (List Nat)} {hs : List Value} {X : List (Nat × Obj)} (h : OwnSl 22 1 v L.length hs X) (hH : HdsAt nvs List.length w X hs L) (hX : ∀ q ∈ X, w.heap[q.1]? = some q.2) : ∃ so co, v = .slice so L.length co ∧ LsAt w so L := by
  rcases h.2 with ⟨h1, h2, _⟩ | ⟨B, cap, cur, h1, h2, _, _, h5, h6⟩
  · refine ⟨none, 0, by rw [h1, h2], fun i t hi => ?_⟩
    have := len_of hi
    omega
  · refine ⟨_, _, h1, fun i t hi => ?_⟩
    obtain ⟨sb, cb, h7, h8⟩ := hH.2 i t hi
    refine ⟨B, 0, cur, 22, (0, 0), sb, cb, rfl, hX (B, .cells cur 22 (0, 0)) (by rw [h2]; exact .head _), ?_, nat_off h8⟩
    have hl := len_of hi
    rw [← h6, Nat.mul_one, List.getElem?_take, if_pos (by omega)] at h7
    rw [Int.toNat_natCast, Nat.zero_add, Nat.mul_one, ← Array.getElem?_toList]
    exact h7
theorem nat_own {oa : Option Addr} {m c : Nat} {l : List Nat} {X : List (Nat × Obj)} {w : World} (h : OwnSl 3 1 (.slice oa m c) m (nvs l) X) (hX : ∀ q ∈ X, w.heap[q.1]? = some q.2) : NAt w oa l := by
  obtain ⟨oa2, c2, e, _, h2⟩ := own_nat h hX
  cases e
  exact h2
def truL (d : RoyD) (k : Int) : List (List Nat) := truA d.terms.length (wsL d k)
def totF2 (d : RoyD) (x : Int) (t : List Nat) : Int := totV d x (cnt (0, 0, 0, 0) t)
theorem tru_facts {d : RoyD} (hO : RoyOk d) {k : Int} {t : List Nat} (h : t ∈ truL d k) : t.length ≤ 12 ∧ (∀ x ∈ t, x < 4) ∧ t.length = (wsL d k).length := by
  obtain ⟨h1, h2⟩ := tru_mem h
  have := ws_len d k
  have hn := hO.nt
  exact ⟨by omega, fun x hx => by have := h2 x hx; omega, h1⟩
theorem truL_ne {d : RoyD} (hO : RoyOk d) (k : Int) : truL d k ≠ [] := truA_ne (sold_some hO k)
theorem truL_len {d : RoyD} (hO : RoyOk d) (k : Int) : 1 ≤ (truL d k).length ∧ (truL d k).length ≤ 16777216 := by
  have h1 := List.length_pos_iff.2 (truL_ne hO k)
  have h2 := tru_len hO.nt (wsL d k)
  have h3 : 4 ^ (wsL d k).length ≤ 4 ^ 12 := Nat.pow_le_pow_right (by omega) (ws_len d k)
  exact ⟨h1, Nat.le_trans h2 h3⟩
theorem reach_map (d : RoyD) (k : Int) (f : Cts → Int) : (reachL d k).map f = (truL d k).map fun t => f (cnt (0, 0, 0, 0) t) := by
  rw [reachL_tru, List.map_map]; rfl
theorem lo_with {c : Int} {l : List Int} (hn : l ≠ []) (h : ∃ y ∈ l, y ≤ c) : loL (c :: l) = loL l := by
  obtain ⟨h1, h2⟩ := loL_spec hn
  refine lo_uniq (.tail _ h1) fun y hy => ?_
  rcases List.mem_cons.1 hy with rfl | hy
  · obtain ⟨z, hz, hzc⟩ := h
    exact Int.le_trans (h2 z hz) hzc
  · exact h2 y hy
theorem hi_with {c : Int} {l : List Int} (hn : l ≠ []) (h : ∃ y ∈ l, c ≤ y) : hiL (c :: l) = hiL l := by
  obtain ⟨h1, h2⟩ := hiL_spec hn
  refine hi_uniq (.tail _ h1) fun y hy => ?_
  rcases List.mem_cons.1 hy with rfl | hy
  · obtain ⟨z, hz, hzc⟩ := h
    exact Int.le_trans hzc (h2 z hz)
  · exact h2 y hy
theorem map_take {α : Type} {L : List α} {i : Nat} {t : α} (h : L[i]? = some t) (f : α → Int) (c : Int) : c :: (L.take (i + 1)).map f = (c :: (L.take i).map f) ++ [f t] := by
  rw [List.take_add_one, h, List.map_append]; rfl
/-- The first of those with the least. -/
def BestAt (f : List Nat → Int) (L : List (List Nat)) (i b : Nat) (tb : List Nat) : Prop :=
  L[b]? = some tb ∧ (∀ j t, j < i → L[j]? = some t → f tb ≤ f t) ∧ ∀ j t, j < b → L[j]? = some t → f tb < f t
theorem BestAt.keep {f : List Nat → Int} {L : List (List Nat)} {i b : Nat} {tb t : List Nat} (h : BestAt f L i b tb) (hi : L[i]? = some t) (hn : ¬ f t < f tb) : BestAt f L (i + 1) b tb :=
  ⟨h.1, fun j t' hj h' => by
    rcases (show j < i ∨ j = i by omega) with h1 | h1
    · exact h.2.1 j t' h1 h'
    · subst h1; rw [hi] at h'; cases h'; omega, h.2.2⟩
theorem BestAt.turn {f : List Nat → Int} {L : List (List Nat)} {i b : Nat} {tb t : List Nat} (h : BestAt f L i b tb) (hi : L[i]? = some t) (hn : f t < f tb) : BestAt f L (i + 1) i t :=
  ⟨hi, fun j t' hj h' => by
    rcases (show j < i ∨ j = i by omega) with h1 | h1
    · have := h.2.1 j t' h1 h'; omega
    · subst h1; rw [hi] at h'; cases h'; exact Int.le_refl _, fun j t' hj h' => by have := h.2.1 j t' hj h'; omega⟩
theorem BestAt.find {f : List Nat → Int} {L : List (List Nat)} {b : Nat} {tb : List Nat} (h : BestAt f L L.length b tb) : L.find? (fun t => decide (f t ≤ loL (L.map f))) = some tb := by
  have hb := len_of h.1
  have hne : L.map f ≠ [] := by
    intro e
    have := congrArg List.length e
    simp at this
    rw [this] at hb; simp at hb
  obtain ⟨h1, h2⟩ := loL_spec hne
  have hv : loL (L.map f) = f tb := by
    obtain ⟨t, ht, e⟩ := List.mem_map.1 h1
    obtain ⟨j, hj⟩ := List.mem_iff_getElem?.1 ht
    have h3 := h.2.1 j t (len_of hj) hj
    have h4 := h2 (f tb) (List.mem_map.2 ⟨tb, List.mem_of_getElem? h.1, rfl⟩)
    omega
  rw [hv, List.find?_eq_some_iff_getElem]
  refine ⟨by simp, b, hb, (List.getElem?_eq_some_iff.1 h.1).2, fun j hj => ?_⟩
  have h5 := h.2.2 j (L[j]'(by omega)) hj (List.getElem?_eq_getElem (by omega))
  simp only [Bool.not_eq_true', decide_eq_false_iff_not]
  omega
theorem lea_best {d : RoyD} (hO : RoyOk d) {k : Int} {b : Nat} {tb : List Nat} (h : BestAt (totF2 d (priceN d k)) (truL d k) (truL d k).length b tb) : leastL d (priceN d k) (wsL d k) (0, 0, 0, 0) = tb := by
  have h1 := leastL_first d (priceN d k) (wsL d k) (0, 0, 0, 0) (sold_some hO k)
  rw [least_tru d (priceN d k) (wsL d k) (0, 0, 0, 0) (sold_some hO k)] at h1
  have h2 := h.find
  have h3 : some (leastL d (priceN d k) (wsL d k) (0, 0, 0, 0)) = some tb := h1.symm.trans h2
  exact Option.some.inj h3
theorem part_bd {n : Int} {l : List Int} (h0 : 0 ≤ n) (h1 : n ≤ 12582912) (hS : ShOk l) {j : Nat} (h : j < l.length) : 0 ≤ (splitL n l).getD j 0 ∧ (splitL n l).getD j 0 ≤ 12582913 := by
  rw [split_at h]
  obtain ⟨s, hj⟩ := ex_of h
  rw [getD_at hj]
  have hs := hS.bd s (List.mem_of_getElem? hj)
  have h2 : n * s ≤ n * 1000 := Int.mul_le_mul_of_nonneg_left hs.2 h0
  have h3 : 0 ≤ n * s := Int.mul_nonneg h0 hs.1
  have h4 := more_01 n l j
  unfold flo
  omega
theorem openE_and {d : RoyD} {a b : Bool} : openE d (a && b) = if openE d a = 0 then (if b = false then 2 else 0) else openE d a := by
  unfold openE
  cases royB d <;> cases a <;> cases b <;> simp
end Go.RoyM
namespace Go.RoyM
open Go Go.Sy
/-- A truth: for each card one of those who claim it. -/
theorem tru_of {m : Nat} : ∀ {ws t : List Nat}, t.length = ws.length → (∀ (i g w : Nat), t[i]? = some g → ws[i]? = some w → g ∈ clrL m w) → t ∈ truA m ws
  | [], t, h, _ => by
    rw [List.length_nil] at h
    rw [List.eq_nil_of_length_eq_zero h]; simp [truA]
  | w :: ws, [], h, _ => by simp at h
  | w :: ws, g :: t, h, hg => by
    rw [truA]
    refine List.mem_flatMap.2 ⟨g, hg 0 g w rfl rfl, List.mem_map.2 ⟨t, tru_of (by simpa using h) fun i x y hx hy => hg (i + 1) x y hx hy, rfl⟩⟩
theorem tru_at {m : Nat} : ∀ {ws t : List Nat}, t ∈ truA m ws → ∀ {i g w : Nat}, t[i]? = some g → ws[i]? = some w → g ∈ clrL m w
  | [], t, h, i, g, w, _, hw => by simp at hw
  | w0 :: ws, t, h, i, g, w, hg, hw => by
    rw [truA] at h
    obtain ⟨g0, hg0, h⟩ := List.mem_flatMap.1 h
    obtain ⟨s, hs, rfl⟩ := List.mem_map.1 h
    match i, hg, hw with
    | 0, hg, hw => cases hg; cases hw; exact hg0
    | i + 1, hg, hw => exact tru_at hs (by simpa using hg) (by simpa using hw)
/-- One list comes before another one. -/
def lexlt (t s : List Nat) : Prop := ∃ (i a b : Nat), (∀ j : Nat, j < i → t[j]? = s[j]?) ∧ t[i]? = some a ∧ s[i]? = some b ∧ a < b
theorem lexlt_cons {g : Nat} {t s : List Nat} (h : lexlt t s) : lexlt (g :: t) (g :: s) := by
  obtain ⟨i, a, b, h1, h2, h3, h4⟩ := h
  refine ⟨i + 1, a, b, fun j hj => ?_, h2, h3, h4⟩
  match j with
  | 0 => rfl
  | j + 1 => exact h1 j (by omega)
theorem clr_sorted (m w : Nat) : (clrL m w).Pairwise (fun a b : Nat => a < b) := List.pairwise_lt_range.sublist List.filter_sublist
theorem tru_sorted (m : Nat) : ∀ ws : List Nat, (truA m ws).Pairwise lexlt
  | [] => by simp [truA]
  | w :: ws => by
    have ih := tru_sorted m ws
    rw [truA, List.pairwise_flatMap]
    refine ⟨fun g _ => List.pairwise_map.2 (ih.imp lexlt_cons), (clr_sorted m w).imp fun {a b} hab x hx y hy => ?_⟩
    obtain ⟨t, _, rfl⟩ := List.mem_map.1 hx
    obtain ⟨s, _, rfl⟩ := List.mem_map.1 hy
    exact ⟨0, a, b, fun j hj => absurd hj (by omega), rfl, rfl, hab⟩
/-- The first one that is found comes before all others that would do. -/
theorem find_lex {L : List (List Nat)} (hs : L.Pairwise lexlt) {p : List Nat → Bool} {b t : List Nat} (h : L.find? p = some b) (ht : t ∈ L) (hp : p t = true) : t = b ∨ lexlt b t := by
  rw [List.find?_eq_some_iff_append] at h
  obtain ⟨_, l1, l2, rfl, h3⟩ := h
  rcases List.mem_append.1 ht with h4 | h4
  · have := h3 t h4
    rw [hp] at this; simp at this
  · rcases List.mem_cons.1 h4 with h5 | h5
    · exact .inl h5
    · right
      rw [List.pairwise_append, List.pairwise_cons] at hs
      exact hs.2.1.1 t h5
theorem lea_mem {d : RoyD} (hO : RoyOk d) (k : Int) : leastL d (priceN d k) (wsL d k) (0, 0, 0, 0) ∈ truL d k :=
  List.mem_of_find?_eq_some (leastL_first d (priceN d k) (wsL d k) (0, 0, 0, 0) (sold_some hO k))
theorem lea_lo {d : RoyD} (hO : RoyOk d) (k : Int) : totF2 d (priceN d k) (leastL d (priceN d k) (wsL d k) (0, 0, 0, 0)) = loL ((reachL d k).map (totV d (priceN d k))) := by
  have h1 := leastL_first d (priceN d k) (wsL d k) (0, 0, 0, 0) (sold_some hO k)
  have h2 := List.find?_some h1
  have h3 := of_decide_eq_true h2
  rw [least_tru d (priceN d k) (wsL d k) (0, 0, 0, 0) (sold_some hO k)] at h3
  rw [reach_map]
  have hne : (truL d k).map (fun t => totV d (priceN d k) (cnt (0, 0, 0, 0) t)) ≠ [] := by simpa using truL_ne hO k
  have h4 := (loL_spec hne).2 _ (List.mem_map.2 ⟨_, lea_mem hO k, rfl⟩)
  exact Int.le_antisymm h3 h4
theorem lea_first {d : RoyD} (hO : RoyOk d) {k : Int} {t : List Nat} (ht : t ∈ truL d k) (hl : totF2 d (priceN d k) t = loL ((reachL d k).map (totV d (priceN d k)))) : t = leastL d (priceN d k) (wsL d k) (0, 0, 0, 0) ∨ lexlt (leastL d (priceN d k) (wsL d k) (0, 0, 0, 0)) t := by
  have h1 := leastL_first d (priceN d k) (wsL d k) (0, 0, 0, 0) (sold_some hO k)
  refine find_lex (tru_sorted _ _) h1 ht (decide_eq_true ?_)
  rw [least_tru d (priceN d k) (wsL d k) (0, 0, 0, 0) (sold_some hO k)]
  rw [reach_map] at hl
  exact Int.le_of_eq hl
/-- What all agents have in a truth lies within the span. -/
theorem tru_span {d : RoyD} {k : Int} {t : List Nat} (ht : t ∈ truL d k) : loL ((reachL d k).map (totV d (priceN d k))) ≤ totF2 d (priceN d k) t ∧ totF2 d (priceN d k) t ≤ hiL ((reachL d k).map (totV d (priceN d k))) := by
  rw [reach_map]
  have hm : totF2 d (priceN d k) t ∈ (truL d k).map (fun t => totV d (priceN d k) (cnt (0, 0, 0, 0) t)) := List.mem_map.2 ⟨t, ht, rfl⟩
  exact ⟨(loL_spec (List.ne_nil_of_mem hm)).2 _ hm, (hiL_spec (List.ne_nil_of_mem hm)).2 _ hm⟩
/-- Where two lists differ first. -/
theorem lex_at {b t : List Nat} (h : lexlt b t) {i x y : Nat} (hx : b[i]? = some x) (hy : t[i]? = some y) (hne : ¬ y = x) (hp : ∀ j, j < i → b[j]? = t[j]?) : x < y := by
  obtain ⟨i0, p, q, h1, h2, h3, h4⟩ := h
  rcases (show i0 < i ∨ i0 = i ∨ i < i0 by omega) with h5 | h5 | h5
  · have := hp i0 h5
    rw [h2, h3] at this
    cases this; omega
  · subst h5; rw [h2] at hx; rw [h3] at hy; cases hx; cases hy; exact h4
  · have := h1 i h5
    rw [hx, hy] at this
    cases this; exact absurd rfl hne
theorem leaV_ok {d : RoyD} {k : Int} (he : allE d k = 0) : leaV d k = leastL d (priceN d k) (wsL d k) (0, 0, 0, 0) := by unfold leaV; rw [if_pos he]; rfl
theorem allV_ok {d : RoyD} {k : Int} (he : allE d k = 0) : allV d k = (loL ((reachL d k).map (totV d (priceN d k))), hiL ((reachL d k).map (totV d (priceN d k)))) := by unfold allV; rw [if_pos he]
theorem allE_facts {d : RoyD} {k : Int} (he : ¬ allE d k = 0) : leaV d k = [] ∧ allV d k = (0, 0) ∧ ((allE d k = 1 ∧ royB d = false) ∨ (allE d k = 2 ∧ royB d = true)) := by
  refine ⟨by unfold leaV; rw [if_neg he], by unfold allV; rw [if_neg he], ?_⟩
  unfold allE openE at he ⊢
  cases h1 : royB d
  · exact .inl ⟨rfl, rfl⟩
  · cases h2 : isKd d k
    · exact .inr ⟨rfl, rfl⟩
    · rw [h1, h2] at he; exact absurd rfl he
/-- Bytes lie in memory. -/
def BAt (w : World) (sa : Option Addr) (l : List Int) : Prop :=
  ∀ i x, l[i]? = some x → ∃ blk off c T fr, sa = some ⟨blk, off, none⟩ ∧ w.heap[blk]? = some (.cells c T fr) ∧ c[off + ((i : Nat) : Int).toNat * 1]? = some (.int .u8 x)
theorem BAt.ext {w w' : World} {sa : Option Addr} {l : List Int} (h : BAt w sa l) (e : Ext [] w w') : BAt w' sa l := fun i s hi =>
  let ⟨blk, off, c, T, fr, h1, h2, h3⟩ := h i s hi
  ⟨blk, off, c, T, fr, h1, e.get h2, h3⟩
/-- A truth so far. -/
def TruT (m : Nat) (ws t : List Nat) (i : Nat) : Prop := t.length = i ∧ ∀ (j g w : Nat), t[j]? = some g → ws[j]? = some w → g ∈ clrL m w
theorem TruT.zero (m : Nat) (ws : List Nat) : TruT m ws [] 0 := ⟨rfl, fun j g w h => by simp at h⟩
theorem TruT.put {m : Nat} {ws t : List Nat} {i g w : Nat} (h : TruT m ws t i) (hw : ws[i]? = some w) (hg : g ∈ clrL m w) : TruT m ws (t ++ [g]) (i + 1) := by
  refine ⟨by rw [List.length_append, h.1]; rfl, fun j g' w' h1 h2 => ?_⟩
  rw [List.getElem?_append] at h1
  split at h1
  · exact h.2 j g' w' h1 h2
  · rename_i hj
    have hjl : j = i := by
      have := h.1
      have h3 := len_of h1
      simp at h3; omega
    subst hjl
    rw [h.1, Nat.sub_self] at h1
    rw [hw] at h2
    cases h1; cases h2; exact hg
theorem TruT.done {m : Nat} {ws t : List Nat} (h : TruT m ws t ws.length) : t ∈ truA m ws := tru_of h.1 h.2
end Go.RoyM
