/- Lemmas, in order: The document's Claims and Owes; royalties that are great. All truths, as the document goes through them. Lists of truths in memory; the best of them. Truths that are made; the order of truths. Royalties where no card is told twice. A report more, of cards that are claimed already. RoyalMore.. -/
import Derived.Test.YtkfkifkdncdhoaaQ14
namespace Go.Proofs.Ytkfkifkdncdhoaa
open Go Go.Sy Go.RoyM
/-- Royalties of any size in memory. -/
structure RoyIn (w : World) (d : RoyD) (p : Pl) : Prop where
  tm : TAt 3 tmC w p.st d.terms
  pr : IAt w p.sp d.prices
  sh : LAt w p.ss d.shares
  rp : TAt 4 rpC w p.sr d.reps
  pd : IAt w p.sd d.paid
  n1 : d.terms.length ≤ maxLen
  n2 : d.prices.length ≤ maxLen
  n3 : d.shares.length ≤ maxLen
  n4 : d.reps.length ≤ maxLen
  n5 : d.paid.length ≤ maxLen
  n6 : ∀ l ∈ d.shares, l.length ≤ maxLen
  cap : d.reps.length ≤ p.cr
  caps : d.shares.length ≤ p.cs
theorem RoyIn.ext {w w' : World} {d : RoyD} {p : Pl} (h : RoyIn w d p) (e : Ext [] w w') : RoyIn w' d p :=
  ⟨h.tm.ext e, h.pr.ext e, h.sh.ext e, h.rp.ext e, h.pd.ext e, h.n1, h.n2, h.n3, h.n4, h.n5, h.n6, h.cap, h.caps⟩
theorem RoyIn.at {w : World} {d : RoyD} {p : Pl} (h : RoyIn w d p) (hg : grB d = false) : RoyAt w d p := by
  obtain ⟨h1, h2, h3, h4, h5, h6⟩ := gr_no hg
  exact ⟨h.tm, h.pr, h.sh, h.rp, h.pd, by omega, by omega, by omega, by omega, by omega, fun l hl => by have := h6 l hl; omega, h.cap⟩
theorem p20 (d : RoyD) (p : Pl) (u : World) (hR : RoyIn u d p) : Calls Try.prog 20 #[.agg (royC d p)] u (Ret fun v w' => v = .bool (grB d) ∧ Ext [] u w') := by
  refine calls_of Try.func20 rfl rfl (fun a hf => ?_)
  have hh := Hp.init u []
  obtain ⟨st, sp, ss, sr, sd, ct, cp, cs, cr, cd⟩ := p
  have hn3 := hR.n3; simp only [maxLen] at hn3
  refine sy_sq ?_
  refine o_box hf hh ?_; clear hf hh a; intro B1 a w hf hh
  refine o_v hf hh (yv_assign rfl) ?_; clear hf a; intro a hf
  refine o_end ?_
  refine sy_sq ?_
  refine o_v hf hh (yv_assign rfl) ?_; clear hf a; intro a hf
  refine o_end ?_
  refine sy_seq ?_
  refine sy_sq ?_
  refine o_v hf hh (yv_fieldAddr Try.fo_37_2 rfl) ?_; clear hf a; intro a hf
  refine o_v hf hh (y_ld Try.sc_34 rfl) ?_; clear hf a; intro a hf
  refine o_v hf hh (yv_len Try.se_34 rfl) ?_; clear hf a; intro a hf
  refine o_v hf hh (yv_move rfl) ?_; clear hf a; intro a hf
  refine o_end ?_
  refine sy_block ?_
  refine sy_loopF (σ := Nat) [3, 5, 9, 10, 11, 12, 13, 14, 15, 16, 17] (fun i => [(3, .int .i64 (mxN (d.shares.take i) : Nat)), (9, .int .i64 (i : Nat))]) (fun i => i ≤ d.shares.length) (fun i => d.shares.length - i) (0) hf hh ?_ ?_ ?_
  · repeat' (first | exact True.intro | refine And.intro rfl ?_)
  · exact Nat.zero_le _
  ·rintro i a w hi hf hh
   refine sy_sq ?_
   refine o_v hf hh (yv_bin rfl rfl rfl) ?_; clear hf a; intro a hf
   refine o_end ?_
   refine sy_seq ?_
   refine sy_cond hf rfl (fun hg2 => ?_) (fun hg2 => ?_)
   ·have hG2 := hg2; try simp only [gS] at hG2
    refine sy_skip ?_
    refine then_n ?_
    refine sy_seq ?_
    refine sy_block ?_
    refine sy_seq ?_
    obtain ⟨x, hx⟩ := ex_of (l := d.shares) (i := i) (by omega)
    obtain ⟨blk, off, cc, T, fr, sb, cb, e, hb, hc, hI⟩ := hR.sh i x hx; dsimp only at e; subst e
    have hmt := mx_take hx
    refine sy_ops ?_
    refine o_v hf hh (y_ix Try.se_34 rfl rfl) ?_; clear hf a; intro a hf
    refine o_v hf hh (y_ld Try.sc_22 rfl) ?_; clear hf a; intro a hf
    refine o_v hf hh (yv_assign rfl) ?_; clear hf a; intro a hf
    refine o_end ?_
    refine sy_ops ?_
    refine o_v hf hh (yv_move rfl) ?_; clear hf a; intro a hf
    refine o_v hf hh (yv_move rfl) ?_; clear hf a; intro a hf
    refine o_v hf hh (yv_len Try.se_22 rfl) ?_; clear hf a; intro a hf
    refine o_v hf hh (yv_max rfl rfl) ?_; clear hf a; intro a hf
    refine o_v hf hh (yv_assign rfl) ?_; clear hf a; intro a hf
    refine ops_end ?_
    refine blk_n ?_
    refine then_n ?_
    refine sy_ops ?_
    refine o_v hf hh (y_add rfl rfl) ?_; clear hf a; intro a hf
    refine o_v hf hh (yv_move rfl) ?_; clear hf a; intro a hf
    refine ops_end ?_
    refine then_n ?_
    exact ⟨i + 1, ⟨by omega, hf.head ⟨congrArg some (intv (by rw [hmt]; omega)), rfl, True.intro⟩ (Keep.cons rfl (Keep.cons rfl (Keep.cons rfl (Keep.cons rfl (Keep.cons rfl (Keep.cons rfl (Keep.cons rfl (Keep.cons rfl (Keep.cons rfl (Keep.cons rfl (Keep.cons rfl (Keep.app rfl (Keep.rm rfl Keep.base))))))))))))), hh⟩, by omega⟩
   ·have hG2 := hg2; try simp only [gS] at hG2
    refine sy_exit ?_
    refine then_e ?_
    refine then_e ?_
    refine blk_e ?_
    refine then_n ?_
    refine sy_seq ?_
    obtain rfl : i = d.shares.length := by omega
    rw [List.take_length] at hf
    refine sy_ops ?_
    refine o_v hf hh (yv_fieldAddr Try.fo_37_0 rfl) ?_; clear hf a; intro a hf
    refine o_v hf hh (y_ld Try.sc_33 rfl) ?_; clear hf a; intro a hf
    refine o_v hf hh (yv_len Try.se_33 rfl) ?_; clear hf a; intro a hf
    refine o_v hf hh (yv_bin rfl rfl rfl) ?_; clear hf a; intro a hf
    refine o_v hf hh (yv_move rfl) ?_; clear hf a; intro a hf
    refine guard_split hf (t := 22) rfl (fun hg4 => ?_) (fun hg4 => ?_)
    ·have hG4 := hg4; try simp only [gS] at hG4
     refine o_off hf ?_; clear hf a; intro a hf
     refine o_off hf ?_; clear hf a; intro a hf
     refine o_off hf ?_; clear hf a; intro a hf
     refine o_off hf ?_; clear hf a; intro a hf
     refine o_v hf hh (y_pt rfl rfl) ?_; clear hf a; intro a hf
     refine o_v hf hh (yv_move rfl) ?_; clear hf a; intro a hf
     refine o_off hf ?_; clear hf a; intro a hf
     refine o_off hf ?_; clear hf a; intro a hf
     refine o_off hf ?_; clear hf a; intro a hf
     refine o_off hf ?_; clear hf a; intro a hf
     refine o_v hf hh (y_pt rfl rfl) ?_; clear hf a; intro a hf
     refine o_v hf hh (yv_move rfl) ?_; clear hf a; intro a hf
     refine o_off hf ?_; clear hf a; intro a hf
     refine o_off hf ?_; clear hf a; intro a hf
     refine o_off hf ?_; clear hf a; intro a hf
     refine o_off hf ?_; clear hf a; intro a hf
     refine o_v hf hh (y_pt rfl rfl) ?_; clear hf a; intro a hf
     refine o_v hf hh (yv_move rfl) ?_; clear hf a; intro a hf
     refine o_off hf ?_; clear hf a; intro a hf
     refine o_off hf ?_; clear hf a; intro a hf
     refine o_off hf ?_; clear hf a; intro a hf
     refine o_off hf ?_; clear hf a; intro a hf
     refine o_v hf hh (y_pt rfl rfl) ?_; clear hf a; intro a hf
     refine o_v hf hh (yv_move rfl) ?_; clear hf a; intro a hf
     refine o_off hf ?_; clear hf a; intro a hf
     refine o_off hf ?_; clear hf a; intro a hf
     refine o_v hf hh (y_pt rfl rfl) ?_; clear hf a; intro a hf
     refine o_v hf hh (yv_assign rfl) ?_; clear hf a; intro a hf
     refine o_end ?_
     refine sy_ret ?_
     refine ret_r hf rfl rfl ?_
     refine ⟨congrArg Value.bool ?_, hh.ext⟩
     clear hf hh
     unfold grB
     rw [Bool.eq_iff_iff]
     simp only [Bool.or_eq_true, decide_eq_true_eq]
     first
       | omega
       | (simp; omega)
    ·have hG4 := hg4; try simp only [gS] at hG4
     refine o_v hf hh (yv_fieldAddr Try.fo_37_1 rfl) ?_; clear hf a; intro a hf
     refine o_v hf hh (y_ld Try.sc_22 rfl) ?_; clear hf a; intro a hf
     refine o_v hf hh (yv_len Try.se_22 rfl) ?_; clear hf a; intro a hf
     refine o_v hf hh (yv_bin rfl rfl rfl) ?_; clear hf a; intro a hf
     refine o_v hf hh (y_pf rfl rfl) ?_; clear hf a; intro a hf
     refine o_v hf hh (yv_move rfl) ?_; clear hf a; intro a hf
     refine guard_split hf (t := 28) rfl (fun hg6 => ?_) (fun hg6 => ?_)
     ·have hG6 := hg6; try simp only [gS] at hG6
      refine o_off hf ?_; clear hf a; intro a hf
      refine o_off hf ?_; clear hf a; intro a hf
      refine o_off hf ?_; clear hf a; intro a hf
      refine o_off hf ?_; clear hf a; intro a hf
      refine o_v hf hh (y_pt rfl rfl) ?_; clear hf a; intro a hf
      refine o_v hf hh (yv_move rfl) ?_; clear hf a; intro a hf
      refine o_off hf ?_; clear hf a; intro a hf
      refine o_off hf ?_; clear hf a; intro a hf
      refine o_off hf ?_; clear hf a; intro a hf
      refine o_off hf ?_; clear hf a; intro a hf
      refine o_v hf hh (y_pt rfl rfl) ?_; clear hf a; intro a hf
      refine o_v hf hh (yv_move rfl) ?_; clear hf a; intro a hf
      refine o_off hf ?_; clear hf a; intro a hf
      refine o_off hf ?_; clear hf a; intro a hf
      refine o_off hf ?_; clear hf a; intro a hf
      refine o_off hf ?_; clear hf a; intro a hf
      refine o_v hf hh (y_pt rfl rfl) ?_; clear hf a; intro a hf
      refine o_v hf hh (yv_move rfl) ?_; clear hf a; intro a hf
      refine o_off hf ?_; clear hf a; intro a hf
      refine o_off hf ?_; clear hf a; intro a hf
      refine o_v hf hh (y_pt rfl rfl) ?_; clear hf a; intro a hf
      refine o_v hf hh (yv_assign rfl) ?_; clear hf a; intro a hf
      refine o_end ?_
      refine sy_ret ?_
      refine ret_r hf rfl rfl ?_
      refine ⟨congrArg Value.bool ?_, hh.ext⟩
      clear hf hh
      unfold grB
      rw [Bool.eq_iff_iff]
      simp only [Bool.or_eq_true, decide_eq_true_eq]
      first
        | omega
        | (simp; omega)
     ·have hG6 := hg6; try simp only [gS] at hG6
      refine o_v hf hh (yv_fieldAddr Try.fo_37_2 rfl) ?_; clear hf a; intro a hf
      refine o_v hf hh (y_ld Try.sc_34 rfl) ?_; clear hf a; intro a hf
      refine o_v hf hh (yv_len Try.se_34 rfl) ?_; clear hf a; intro a hf
      refine o_v hf hh (yv_bin rfl rfl rfl) ?_; clear hf a; intro a hf
      refine o_v hf hh (y_pf rfl rfl) ?_; clear hf a; intro a hf
      refine o_v hf hh (yv_move rfl) ?_; clear hf a; intro a hf
      refine guard_split hf (t := 34) rfl (fun hg8 => ?_) (fun hg8 => ?_)
      ·have hG8 := hg8; try simp only [gS] at hG8
       refine o_off hf ?_; clear hf a; intro a hf
       refine o_off hf ?_; clear hf a; intro a hf
       refine o_off hf ?_; clear hf a; intro a hf
       refine o_off hf ?_; clear hf a; intro a hf
       refine o_v hf hh (y_pt rfl rfl) ?_; clear hf a; intro a hf
       refine o_v hf hh (yv_move rfl) ?_; clear hf a; intro a hf
       refine o_off hf ?_; clear hf a; intro a hf
       refine o_off hf ?_; clear hf a; intro a hf
       refine o_off hf ?_; clear hf a; intro a hf
       refine o_off hf ?_; clear hf a; intro a hf
       refine o_v hf hh (y_pt rfl rfl) ?_; clear hf a; intro a hf
       refine o_v hf hh (yv_move rfl) ?_; clear hf a; intro a hf
       refine o_off hf ?_; clear hf a; intro a hf
       refine o_off hf ?_; clear hf a; intro a hf
       refine o_v hf hh (y_pt rfl rfl) ?_; clear hf a; intro a hf
       refine o_v hf hh (yv_assign rfl) ?_; clear hf a; intro a hf
       refine o_end ?_
       refine sy_ret ?_
       refine ret_r hf rfl rfl ?_
       refine ⟨congrArg Value.bool ?_, hh.ext⟩
       clear hf hh
       unfold grB
       rw [Bool.eq_iff_iff]
       simp only [Bool.or_eq_true, decide_eq_true_eq]
       first
         | omega
         | (simp; omega)
      ·have hG8 := hg8; try simp only [gS] at hG8
       refine o_v hf hh (yv_fieldAddr Try.fo_37_3 rfl) ?_; clear hf a; intro a hf
       refine o_v hf hh (y_ld Try.sc_35 rfl) ?_; clear hf a; intro a hf
       refine o_v hf hh (yv_len Try.se_35 rfl) ?_; clear hf a; intro a hf
       refine o_v hf hh (yv_bin rfl rfl rfl) ?_; clear hf a; intro a hf
       refine o_v hf hh (y_pf rfl rfl) ?_; clear hf a; intro a hf
       refine o_v hf hh (yv_move rfl) ?_; clear hf a; intro a hf
       refine guard_split hf (t := 40) rfl (fun hg10 => ?_) (fun hg10 => ?_)
       ·have hG10 := hg10; try simp only [gS] at hG10
        refine o_off hf ?_; clear hf a; intro a hf
        refine o_off hf ?_; clear hf a; intro a hf
        refine o_off hf ?_; clear hf a; intro a hf
        refine o_off hf ?_; clear hf a; intro a hf
        refine o_v hf hh (y_pt rfl rfl) ?_; clear hf a; intro a hf
        refine o_v hf hh (yv_move rfl) ?_; clear hf a; intro a hf
        refine o_off hf ?_; clear hf a; intro a hf
        refine o_off hf ?_; clear hf a; intro a hf
        refine o_v hf hh (y_pt rfl rfl) ?_; clear hf a; intro a hf
        refine o_v hf hh (yv_assign rfl) ?_; clear hf a; intro a hf
        refine o_end ?_
        refine sy_ret ?_
        refine ret_r hf rfl rfl ?_
        refine ⟨congrArg Value.bool ?_, hh.ext⟩
        clear hf hh
        unfold grB
        rw [Bool.eq_iff_iff]
        simp only [Bool.or_eq_true, decide_eq_true_eq]
        first
          | omega
          | (simp; omega)
       ·have hG10 := hg10; try simp only [gS] at hG10
        refine o_v hf hh (yv_fieldAddr Try.fo_37_4 rfl) ?_; clear hf a; intro a hf
        refine o_v hf hh (y_ld Try.sc_22 rfl) ?_; clear hf a; intro a hf
        refine o_v hf hh (yv_len Try.se_22 rfl) ?_; clear hf a; intro a hf
        refine o_v hf hh (yv_bin rfl rfl rfl) ?_; clear hf a; intro a hf
        refine o_v hf hh (y_pf rfl rfl) ?_; clear hf a; intro a hf
        refine o_v hf hh (yv_move rfl) ?_; clear hf a; intro a hf
        refine guard_split hf (t := 46) rfl (fun hg12 => ?_) (fun hg12 => ?_)
        ·have hG12 := hg12; try simp only [gS] at hG12
         refine o_off hf ?_; clear hf a; intro a hf
         refine o_off hf ?_; clear hf a; intro a hf
         refine o_v hf hh (y_pt rfl rfl) ?_; clear hf a; intro a hf
         refine o_v hf hh (yv_assign rfl) ?_; clear hf a; intro a hf
         refine o_end ?_
         refine sy_ret ?_
         refine ret_r hf rfl rfl ?_
         refine ⟨congrArg Value.bool ?_, hh.ext⟩
         clear hf hh
         unfold grB
         rw [Bool.eq_iff_iff]
         simp only [Bool.or_eq_true, decide_eq_true_eq]
         first
           | omega
           | (simp; omega)
        ·have hG12 := hg12; try simp only [gS] at hG12
         refine o_v hf hh (yv_move rfl) ?_; clear hf a; intro a hf
         refine o_v hf hh (yv_bin rfl rfl rfl) ?_; clear hf a; intro a hf
         refine o_v hf hh (y_pf rfl rfl) ?_; clear hf a; intro a hf
         refine o_v hf hh (yv_assign rfl) ?_; clear hf a; intro a hf
         refine o_end ?_
         refine sy_ret ?_
         refine ret_r hf rfl rfl ?_
         refine ⟨congrArg Value.bool ?_, hh.ext⟩
         clear hf hh
         unfold grB
         rw [Bool.eq_iff_iff]
         simp only [Bool.or_eq_true, decide_eq_true_eq]
         first
           | omega
           | (simp; omega)
theorem p24 (d : RoyD) (p : Pl) (g k : Int) (u : World) (hR : RoyAt u d p) : Calls Try.prog 24 #[.agg (royC d p), .int .i64 g, .int .i64 k] u (Ret fun v w' => v = .tuple #[.int .i64 ((claV d g k).1 : Nat), .int .i64 ((claV d g k).2 : Nat), .int .i64 (claE d g k)] ∧ Ext [] u w') := by
  refine calls_of Try.func24 rfl rfl (fun a hf => ?_)
  have hh := Hp.init u []
  refine sy_sq ?_
  refine o_box hf hh ?_; clear hf hh a; intro B3 a w hf hh
  refine o_v hf hh (yv_assign rfl) ?_; clear hf a; intro a hf
  refine o_v hf hh (yv_assign rfl) ?_; clear hf a; intro a hf
  refine o_v hf hh (yv_assign rfl) ?_; clear hf a; intro a hf
  refine o_end ?_
  refine sy_seq ?_
  refine sy_tree1 (.q 0 0 (.q 0 1 (.p 2 (.e1 3 (.p 4 (.q 0 5 (.p 6 (.e1 7 (.p 8 (.e1 9 (.p 10 (.fin)))))))))))) [] Try.follows (by kernel_rfl) hh (fun w hh => ?_)
  refine mc_q rfl rfl hh hf (y_lds Try.ag_37 rfl) (.inl rfl) rfl rfl ?_; clear hf a; intro a hf
  refine mc_q rfl rfl hh hf (y_lds Try.ag_37 rfl) (.inl rfl) rfl rfl ?_; clear hf a; intro a hf
  refine mc_p rfl   hf (yv_move rfl) (.inl rfl) rfl rfl ?_; clear hf a; intro a hf
  refine mc_e rfl fun Q1 => ?_
  refine o_call hf Try.en_67 rfl rfl rfl (p67 d p g _ hR.n1) ?_; clear hf a; intro v a w hR hf
  obtain ⟨rfl, hx⟩ := hR; replace hh := hh.more hx; clear hx
  refine ops_end ?_
  refine then_n ⟨⟨fun _ _ => hh, trivial⟩, ?_⟩
  refine mc_p rfl   hf (yv_move rfl) (.inl rfl) rfl rfl ?_; clear hf a; intro a hf
  refine guard_any hf (t := 16) rfl (fun hg2 => ?_) (fun hg2 => ?_)
  ·have hG2 := hg2; try simp only [gS] at hG2
   refine mc_q rfl rfl hh hf (y_lds Try.ag_37 rfl) (gon rfl rfl rfl (by first | assumption | rfl | (simp; done) | (simp; omega))) rfl rfl ?_; clear hf a; intro a hf
   refine mc_p rfl   hf (yv_move rfl) (gon rfl rfl rfl (by first | assumption | rfl | (simp; done) | (simp; omega))) rfl rfl ?_; clear hf a; intro a hf
   refine mc_e rfl fun Q1 => ?_
   refine o_call hf Try.en_43 rfl rfl rfl (p43 d p k _ hR.n2) ?_; clear hf a; intro v a w hR hf
   obtain ⟨rfl, hx⟩ := hR; replace hh := hh.more hx; clear hx
   refine ops_end ?_
   refine then_n ⟨⟨fun _ _ => hh, trivial⟩, ?_⟩
   refine mc_p rfl   hf (y_pt rfl rfl) (.inl rfl) rfl rfl ?_; clear hf a; intro a hf
   refine mc_e rfl fun Q1 => ?_
   first
     | (refine o_call hf Try.en_66 rfl rfl rfl (p66 d p _ _ (hR.ext hh.ext)) ?_; clear hf a; intro v a w hR2 hf
        rw [show openE d (isKd d k) = claE d g k by unfold claE; simp_all] at hR2)
     | (refine o_call hf Try.en_66 rfl rfl rfl (p66 d p _ _ (hR.ext hh.ext)) ?_; clear hf a; intro v a w hR2 hf
        rw [show openE d false = claE d g k by unfold claE; simp_all] at hR2)
   obtain ⟨rfl, hx⟩ := hR2; replace hh := hh.more hx; clear hx
   refine ops_end ?_
   refine then_n ⟨⟨fun _ _ => hh, trivial⟩, ?_⟩
   refine mc_p rfl   hf (yv_assign rfl) (.inl rfl) rfl rfl ?_; clear hf a; intro a hf
   refine mc_end ?_
   refine then_n ?_
   refine sy_seq ?_
   refine sy_sq ?_
   refine o_v hf hh (yv_move rfl) ?_; clear hf a; intro a hf
   refine o_v hf hh (yv_bin rfl rfl rfl) ?_; clear hf a; intro a hf
   refine o_end ?_
   refine sy_cond hf rfl (fun hg6 => ?_) (fun hg6 => ?_)
   ·have hG6 := hg6; try simp only [gS] at hG6
    refine sy_sq ?_
    refine o_v hf hh (yv_move rfl) ?_; clear hf a; intro a hf
    refine o_v hf hh (yv_assign rfl) ?_; clear hf a; intro a hf
    refine o_v hf hh (yv_assign rfl) ?_; clear hf a; intro a hf
    refine o_v hf hh (yv_assign rfl) ?_; clear hf a; intro a hf
    refine o_end ?_
    refine sy_ret ?_
    refine then_r ?_
    refine ret_r hf rfl rfl ?_
    first
      | (have e1 : claV d g k = (0, 0) := by unfold claV; rw [if_neg (by assumption)]
         exact ⟨by rw [e1]; rfl, hh.ext⟩)
      | exact ⟨by rw [e1, he]; rfl, hh.ext⟩
   ·have hG6 := hg6; try simp only [gS] at hG6
    refine sy_skip ?_
    refine then_n ?_
    refine sy_seq ?_
    have he : claE d g k = 0 := by assumption
    obtain ⟨hok, hask⟩ := openE_zero.1 he
    have hO := royB_iff.1 hok
    rw [Bool.and_eq_true] at hask
    obtain ⟨hg0, hg1⟩ := inI_bd hask.1
    obtain ⟨q, rfl⟩ : ∃ q : Nat, g = q := ⟨g.toNat, by omega⟩
    have e1 : claV d q k = (surN d k q, clm d k q) := by unfold claV; rw [if_pos he]; rfl
    refine sy_ops ?_
    refine o_v hf hh (y_lds Try.ag_37 rfl) ?_; clear hf a; intro a hf
    refine o_v hf hh (yv_move rfl) ?_; clear hf a; intro a hf
    refine o_v hf hh (yv_move rfl) ?_; clear hf a; intro a hf
    refine o_call hf Try.en_68 rfl rfl rfl (p68 d p q k _ (hR.ext hh.ext) hO (by omega)) ?_; clear hf a; intro v a w hR hf
    obtain ⟨rfl, hx⟩ := hR; replace hh := hh.more hx; clear hx
    refine o_v hf hh (yv_move rfl) ?_; clear hf a; intro a hf
    refine o_v hf hh (yv_extract rfl rfl) ?_; clear hf a; intro a hf
    refine o_v hf hh (yv_extract rfl rfl) ?_; clear hf a; intro a hf
    refine o_v hf hh (yv_assign rfl) ?_; clear hf a; intro a hf
    refine o_v hf hh (yv_assign rfl) ?_; clear hf a; intro a hf
    refine o_end ?_
    refine sy_sq ?_
    refine o_v hf hh (yv_move rfl) ?_; clear hf a; intro a hf
    refine o_v hf hh (yv_move rfl) ?_; clear hf a; intro a hf
    refine o_v hf hh (yv_assign rfl) ?_; clear hf a; intro a hf
    refine o_v hf hh (yv_assign rfl) ?_; clear hf a; intro a hf
    refine o_v hf hh (yv_assign rfl) ?_; clear hf a; intro a hf
    refine o_end ?_
    refine sy_ret ?_
    refine ret_r hf rfl rfl ?_
    first
      | (have e1 : claV d g k = (0, 0) := by unfold claV; rw [if_neg (by assumption)]
         exact ⟨by rw [e1]; rfl, hh.ext⟩)
      | exact ⟨by rw [e1, he]; rfl, hh.ext⟩
  ·have hG2 := hg2; try simp only [gS] at hG2
   refine mc_offq rfl rfl hh hf (goff rfl rfl rfl (by first | assumption | rfl | (simp; done) | (simp; omega))) rfl rfl ?_; clear hf a; intro a hf
   refine mc_off rfl hf (goff rfl rfl rfl (by first | assumption | rfl | (simp; done) | (simp; omega))) rfl rfl ?_; clear hf a; intro a hf
   refine mc_e rfl fun Q1 => ?_
   refine o_off hf ?_; clear hf a; intro a hf
   refine ops_end ?_
   refine then_n ⟨⟨fun _ _ => hh, trivial⟩, ?_⟩
   refine mc_p rfl   hf (y_pf rfl rfl) (.inl rfl) rfl rfl ?_; clear hf a; intro a hf
   refine mc_e rfl fun Q1 => ?_
   first
     | (refine o_call hf Try.en_66 rfl rfl rfl (p66 d p _ _ (hR.ext hh.ext)) ?_; clear hf a; intro v a w hR2 hf
        rw [show openE d (isKd d k) = claE d g k by unfold claE; simp_all] at hR2)
     | (refine o_call hf Try.en_66 rfl rfl rfl (p66 d p _ _ (hR.ext hh.ext)) ?_; clear hf a; intro v a w hR2 hf
        rw [show openE d false = claE d g k by unfold claE; simp_all] at hR2)
   obtain ⟨rfl, hx⟩ := hR2; replace hh := hh.more hx; clear hx
   refine ops_end ?_
   refine then_n ⟨⟨fun _ _ => hh, trivial⟩, ?_⟩
   refine mc_p rfl   hf (yv_assign rfl) (.inl rfl) rfl rfl ?_; clear hf a; intro a hf
   refine mc_end ?_
   refine then_n ?_
   refine sy_seq ?_
   refine sy_sq ?_
   refine o_v hf hh (yv_move rfl) ?_; clear hf a; intro a hf
   refine o_v hf hh (yv_bin rfl rfl rfl) ?_; clear hf a; intro a hf
   refine o_end ?_
   refine sy_cond hf rfl (fun hg12 => ?_) (fun hg12 => ?_)
   ·have hG12 := hg12; try simp only [gS] at hG12
    refine sy_sq ?_
    refine o_v hf hh (yv_move rfl) ?_; clear hf a; intro a hf
    refine o_v hf hh (yv_assign rfl) ?_; clear hf a; intro a hf
    refine o_v hf hh (yv_assign rfl) ?_; clear hf a; intro a hf
    refine o_v hf hh (yv_assign rfl) ?_; clear hf a; intro a hf
    refine o_end ?_
    refine sy_ret ?_
    refine then_r ?_
    refine ret_r hf rfl rfl ?_
    first
      | (have e1 : claV d g k = (0, 0) := by unfold claV; rw [if_neg (by assumption)]
         exact ⟨by rw [e1]; rfl, hh.ext⟩)
      | exact ⟨by rw [e1, he]; rfl, hh.ext⟩
   ·have hG12 := hg12; try simp only [gS] at hG12
    refine sy_skip ?_
    refine then_n ?_
    refine sy_seq ?_
    have he : claE d g k = 0 := by assumption
    obtain ⟨hok, hask⟩ := openE_zero.1 he
    have hO := royB_iff.1 hok
    rw [Bool.and_eq_true] at hask
    obtain ⟨hg0, hg1⟩ := inI_bd hask.1
    obtain ⟨q, rfl⟩ : ∃ q : Nat, g = q := ⟨g.toNat, by omega⟩
    have e1 : claV d q k = (surN d k q, clm d k q) := by unfold claV; rw [if_pos he]; rfl
    refine sy_ops ?_
    refine o_v hf hh (y_lds Try.ag_37 rfl) ?_; clear hf a; intro a hf
    refine o_v hf hh (yv_move rfl) ?_; clear hf a; intro a hf
    refine o_v hf hh (yv_move rfl) ?_; clear hf a; intro a hf
    refine o_call hf Try.en_68 rfl rfl rfl (p68 d p q k _ (hR.ext hh.ext) hO (by omega)) ?_; clear hf a; intro v a w hR hf
    obtain ⟨rfl, hx⟩ := hR; replace hh := hh.more hx; clear hx
    refine o_v hf hh (yv_move rfl) ?_; clear hf a; intro a hf
    refine o_v hf hh (yv_extract rfl rfl) ?_; clear hf a; intro a hf
    refine o_v hf hh (yv_extract rfl rfl) ?_; clear hf a; intro a hf
    refine o_v hf hh (yv_assign rfl) ?_; clear hf a; intro a hf
    refine o_v hf hh (yv_assign rfl) ?_; clear hf a; intro a hf
    refine o_end ?_
    refine sy_sq ?_
    refine o_v hf hh (yv_move rfl) ?_; clear hf a; intro a hf
    refine o_v hf hh (yv_move rfl) ?_; clear hf a; intro a hf
    refine o_v hf hh (yv_assign rfl) ?_; clear hf a; intro a hf
    refine o_v hf hh (yv_assign rfl) ?_; clear hf a; intro a hf
    refine o_v hf hh (yv_assign rfl) ?_; clear hf a; intro a hf
    refine o_end ?_
    refine sy_ret ?_
    refine ret_r hf rfl rfl ?_
    first
      | (have e1 : claV d g k = (0, 0) := by unfold claV; rw [if_neg (by assumption)]
         exact ⟨by rw [e1]; rfl, hh.ext⟩)
      | exact ⟨by rw [e1, he]; rfl, hh.ext⟩
set_option maxRecDepth 100000 in
theorem p26 (d : RoyD) (p : Pl) (g : Int) (u : World) (hRR : RoyAt u d p) : Calls Try.prog 26 #[.agg (royC d p), .int .i64 g] u (Ret fun v w' => v = .tuple #[.agg #[.int .i64 (oweV d g).1, .int .i64 (oweV d g).2], .int .i64 (oweE d g)] ∧ Ext [] u w') := by
  refine calls_of Try.func26 rfl rfl (fun a hf => ?_)
  have hh := Hp.init u []
  obtain ⟨st, sp, ss, sr, sd, ct, cp, cs, cr, cd⟩ := p
  have hr2 := hRR.n2
  refine sy_sq ?_
  refine o_box hf hh ?_; clear hf hh a; intro B2 a w hf hh
  refine o_alloc hf hh Try.ze_43 ?_; clear hf hh a; intro B4 a w hf hh
  refine o_v hf hh (yv_assign rfl) ?_; clear hf a; intro a hf
  refine o_end ?_
  refine sy_seq ?_
  refine sy_tree1 (.q 0 0 (.q 0 1 (.p 2 (.e1 3 (.e1 4 (.p 5 (.fin))))))) [] Try.follows (by kernel_rfl) hh (fun w hh => ?_)
  refine mc_q rfl rfl hh hf (y_lds Try.ag_37 rfl) (.inl rfl) rfl rfl ?_; clear hf a; intro a hf
  refine mc_q rfl rfl hh hf (y_lds Try.ag_37 rfl) (.inl rfl) rfl rfl ?_; clear hf a; intro a hf
  refine mc_p rfl   hf (yv_move rfl) (.inl rfl) rfl rfl ?_; clear hf a; intro a hf
  refine mc_e rfl fun Q1 => ?_
  refine o_call hf Try.en_67 rfl rfl rfl (p67 d _ g _ hRR.n1) ?_; clear hf a; intro v a w hR hf
  obtain ⟨rfl, hx⟩ := hR; replace hh := hh.more hx; clear hx
  refine ops_end ?_
  refine then_n ⟨⟨fun _ _ => hh, trivial⟩, ?_⟩
  refine mc_e rfl fun Q1 => ?_
  refine o_call hf Try.en_66 rfl rfl rfl (p66 d _ (isAg d g) _ (hRR.ext hh.ext)) ?_; clear hf a; intro v a w hR hf
  obtain ⟨rfl, hx⟩ := hR; replace hh := hh.more hx; clear hx
  refine ops_end ?_
  refine then_n ⟨⟨fun _ _ => hh, trivial⟩, ?_⟩
  refine mc_p rfl   hf (yv_assign rfl) (.inl rfl) rfl rfl ?_; clear hf a; intro a hf
  refine mc_end ?_
  refine then_n ?_
  refine sy_seq ?_
  refine sy_sq ?_
  refine o_v hf hh (yv_move rfl) ?_; clear hf a; intro a hf
  refine o_v hf hh (yv_bin rfl rfl rfl) ?_; clear hf a; intro a hf
  refine o_end ?_
  refine sy_cond hf rfl (fun hg4 => ?_) (fun hg4 => ?_)
  ·have hG4 := hg4; try simp only [gS] at hG4
   refine sy_sq ?_
   refine o_v hf hh (yv_buildS Try.bs_43 rfl rfl) ?_; clear hf a; intro a hf
   refine o_v hf hh (yv_move rfl) ?_; clear hf a; intro a hf
   refine o_store hf hh Try.sz_43 fun w hh => ?_
   refine o_v hf hh (yv_assign rfl) ?_; clear hf a; intro a hf
   refine o_end ?_
   refine sy_ret ?_
   refine then_r ?_
   refine ret_c (vs := [.agg #[.int .i64 0, .int .i64 0], .int .i64 (openE d (isAg d g))]) hf ?_ ?_
   · exact ⟨⟨B4, 0, _, _, _, rfl, hh.at (i := 0) rfl, .inr ⟨2, _, Try.ag_43, rfl, rfl⟩⟩, rfl, True.intro⟩
   · have ev : oweV d g = (0, 0) := by unfold oweV oweE; rw [if_neg (by assumption)]
     exact ⟨by rw [ev]; rfl, hh.ext⟩
  ·have hG4 := hg4; try simp only [gS] at hG4
   refine sy_skip ?_
   refine then_n ?_
   refine sy_seq ?_
   have he : openE d (isAg d g) = 0 := by assumption
   obtain ⟨hok, hask⟩ := openE_zero.1 he
   have hO := royB_iff.1 hok
   obtain ⟨hg0, hg1⟩ := inI_bd hask
   have hnt := hO.nt; have hnp := hO.np; have hpd := hO.npd
   obtain ⟨q, rfl⟩ : ∃ q : Nat, g = q := ⟨g.toNat, by omega⟩
   obtain ⟨tm, htm⟩ := ex_of (l := d.terms) (i := q) (by omega)
   obtain ⟨pd, hpdq⟩ := ex_of (l := d.paid) (i := q) (by omega)
   have hto := hO.t tm (List.mem_of_getElem? htm)
   have hpb := hO.pd pd (List.mem_of_getElem? hpdq)
   obtain ⟨blk, off, cc, T, fr, e, hb, hc⟩ := hRR.pd q pd hpdq; dsimp only at e; subst e
   obtain ⟨blk3, off3, cc3, T3, fr3, e3, hb3, hc3⟩ := hRR.tm q tm htm; dsimp only at e3; subst e3
   have e9 : lowL d q 0 = [-pd] := by unfold lowL; rw [getD_at hpdq]; rfl
   have e8 : higL d q 0 = [-pd] := by unfold higL; rw [getD_at hpdq]; rfl
   have ev : oweV d q = (sumI (lowL d q d.prices.length), sumI (higL d q d.prices.length)) := by unfold oweV; rw [if_pos (show oweE d q = 0 from he)]; rfl
   have hs12 : ∀ k, pc (surN d k q) ≤ 12 := fun k => pc_12 (sur_lt hO k q)
   have hc12 : ∀ k, pc (clm d k q) ≤ 12 := fun k => pc_12 (clm_lt12 hO k q)
   refine sy_tree1 (.p 0 (.q 0 1 (.p 2 (.p 3 (.q 0 4 (.p 5 (.p 6 (.q 0 7 (.p 8 (.p 9 (.q 0 10 (.p 11 (.p 12 (.e1 13 (.e1 14 (.fin)))))))))))))))) [14] Try.follows (by kernel_rfl) hh (fun w hh => ?_)
   refine mc_p rfl   hf (yv_fieldAddr Try.fo_37_4 rfl) (.inl rfl) rfl rfl ?_; clear hf a; intro a hf
   refine mc_q rfl rfl hh hf (y_ld Try.sc_22 rfl) (.inl rfl) rfl rfl ?_; clear hf a; intro a hf
   refine mc_p rfl   hf (yv_move rfl) (.inl rfl) rfl rfl ?_; clear hf a; intro a hf
   refine mc_p rfl   hf (y_ix Try.se_22 rfl rfl) (.inl rfl) rfl rfl ?_; clear hf a; intro a hf
   refine mc_q rfl rfl hh hf (y_ld Try.sc_3 rfl) (.inl rfl) rfl rfl ?_; clear hf a; intro a hf
   refine mc_p rfl   hf (yv_neg rfl (by omega) (by omega)) (.inl rfl) rfl rfl ?_; clear hf a; intro a hf
   refine mc_p rfl   hf (yv_fieldAddr Try.fo_37_4 rfl) (.inl rfl) rfl rfl ?_; clear hf a; intro a hf
   refine mc_q rfl rfl hh hf (y_ld Try.sc_22 rfl) (.inl rfl) rfl rfl ?_; clear hf a; intro a hf
   refine mc_p rfl   hf (yv_move rfl) (.inl rfl) rfl rfl ?_; clear hf a; intro a hf
   refine mc_p rfl   hf (y_ix Try.se_22 rfl rfl) (.inl rfl) rfl rfl ?_; clear hf a; intro a hf
   refine mc_q rfl rfl hh hf (y_ld Try.sc_3 rfl) (.inl rfl) rfl rfl ?_; clear hf a; intro a hf
   refine mc_p rfl   hf (yv_neg rfl (by omega) (by omega)) (.inl rfl) rfl rfl ?_; clear hf a; intro a hf
   refine mc_p rfl   hf (yv_buildS Try.bs_43 rfl rfl) (.inl rfl) rfl rfl ?_; clear hf a; intro a hf
   refine mc_e rfl fun Q1 => ?_
   refine o_alloc hf hh Try.ze_43 ?_; clear hf hh a; intro B7 a w hf hh
   refine ops_end ?_
   refine then_n ⟨⟨fun _ _ => (hh.less (.cons _ (List.Sublist.refl _))), trivial⟩, ?_⟩
   refine mc_e rfl fun Q1 => ?_
   refine o_store hf hh Try.sz_43 fun w hh => ?_
   refine ops_end ?_
   refine then_n ⟨⟨fun h => Bool.noConfusion (show true = false from h), trivial⟩, ?_⟩
   refine mc_end ?_
   refine then_n ?_
   refine sy_seq ?_
   refine sy_sq ?_
   refine o_v hf hh (yv_assign rfl) ?_; clear hf a; intro a hf
   refine o_end ?_
   refine sy_block ?_
   refine sy_loopH (σ := Nat) [8, 9, 10, 33, 34, 35, 36, 37, 38, 39, 40, 41, 42, 43, 44, 45, 46, 47, 48, 49, 50, 51, 52, 53, 54, 55, 56, 57, 58, 59, 60, 61, 62, 63, 64, 65, 66, 67, 68, 69, 70, 71, 72, 73, 74, 75, 76, 77, 78, 79, 80] (fun i => [(8, .int .i64 (i : Nat))]) (fun i => fun w' => i ≤ d.prices.length ∧ Hp u [] [(B7, .cells #[.int .i64 (sumI (lowL d q i)), .int .i64 (sumI (higL d q i))] 43), (B4, .cells #[.int .i64 0, .int .i64 0] 43), (B2, .cells (royC d ⟨some ⟨blk3, off3, none⟩, sp, ss, sr, some ⟨blk, off, none⟩, ct, cp, cs, cr, cd⟩) 37)] w') (fun i => d.prices.length - i) (0) hf ?_ ?_ ?_
   · repeat' (first | exact True.intro | refine And.intro rfl ?_)
   · refine ⟨Nat.zero_le _, ?_⟩
     rw [e9, e8]
     have e7 : sumI [-pd] = -pd := by rw [sumI_cons, sumI_nil]; omega
     rw [e7]; exact hh
   ·rintro i a w ⟨hi, hh⟩ hf
    refine sy_seq ?_
    refine sy_sq ?_
    refine o_v hf hh (yv_move rfl) ?_; clear hf a; intro a hf
    refine o_v hf hh (yv_fieldAddr Try.fo_37_1 rfl) ?_; clear hf a; intro a hf
    refine o_v hf hh (y_ld Try.sc_22 rfl) ?_; clear hf a; intro a hf
    refine o_v hf hh (yv_len Try.se_22 rfl) ?_; clear hf a; intro a hf
    refine o_v hf hh (yv_bin rfl rfl rfl) ?_; clear hf a; intro a hf
    refine o_end ?_
    refine sy_cond hf rfl (fun hg6 => ?_) (fun hg6 => ?_)
    ·have hG6 := hg6; try simp only [gS] at hG6
     refine sy_skip ?_
     refine then_n ?_
     refine sy_seq ?_
     refine sy_block ?_
     refine sy_seq ?_
     obtain ⟨x, hx⟩ := ex_of (l := d.prices) (i := i) (by omega)
     obtain ⟨blk2, off2, cc2, T2, fr2, e2, hb2, hc2⟩ := hRR.pr i x hx; dsimp only at e2; subst e2
     have hxb := hO.p x (List.mem_of_getElem? hx)
     have hl1 := low_sum (g := q) hx
     have hl2 := hig_sum (g := q) hx
     rw [term_at htm] at hl1 hl2
     have hq1 : -5497558138880 ≤ sumI (lowL d q i) ∧ sumI (lowL d q i) ≤ 5497558138880 := owe_bd hO (by omega) (fun k => pc (surN d k q)) (fun k => hs12 k) (by omega)
     have hq2 : -5497558138880 ≤ sumI (higL d q i) ∧ sumI (higL d q i) ≤ 5497558138880 := owe_bd hO (by omega) (fun k => pc (clm d k q)) (fun k => hc12 k) (by omega)
     have hw1 := com_bd hto hxb.1 hxb.2 (hs12 i)
     have hw2 := com_bd hto hxb.1 hxb.2 (hc12 i)
     have hz1 := hs12 i
     have hz2 := hc12 i
     refine sy_ops ?_
     refine o_v hf hh (y_lds Try.ag_37 rfl) ?_; clear hf a; intro a hf
     refine o_v hf hh (yv_move rfl) ?_; clear hf a; intro a hf
     refine o_v hf hh (yv_move rfl) ?_; clear hf a; intro a hf
     refine o_call hf Try.en_68 rfl rfl rfl (p68 d _ q (i : Nat) _ (hRR.ext hh.ext) hO (by omega)) ?_; clear hf a; intro v a w hR hf
     obtain ⟨rfl, hx⟩ := hR; replace hh := hh.more hx; clear hx
     refine o_v hf hh (yv_move rfl) ?_; clear hf a; intro a hf
     refine o_v hf hh (yv_extract rfl rfl) ?_; clear hf a; intro a hf
     refine o_v hf hh (yv_extract rfl rfl) ?_; clear hf a; intro a hf
     refine o_v hf hh (yv_assign rfl) ?_; clear hf a; intro a hf
     refine o_v hf hh (yv_assign rfl) ?_; clear hf a; intro a hf
     refine o_end ?_
     refine sy_seq ?_
     refine sy_tree1 (.p 0 (.q 0 1 (.p 2 (.q 0 3 (.p 4 (.p 5 (.q 0 6 (.p 7 (.q 0 8 (.p 9 (.p 10 (.q 0 11 (.p 12 (.e1 13 (.e1 14 (.p 15 (.p 16 (.e1 17 (.fin))))))))))))))))))) [17] Try.follows (by kernel_rfl) hh (fun w hh => ?_)
     refine mc_p rfl   hf (yv_fieldAddr Try.fo_43_0 rfl) (.inl rfl) rfl rfl ?_; clear hf a; intro a hf
     refine mc_q rfl rfl hh hf (y_ld Try.sc_3 rfl) (.inl rfl) rfl rfl ?_; clear hf a; intro a hf
     refine mc_p rfl   hf (yv_fieldAddr Try.fo_37_0 rfl) (.inl rfl) rfl rfl ?_; clear hf a; intro a hf
     refine mc_q rfl rfl hh hf (y_ld Try.sc_33 rfl) (.inl rfl) rfl rfl ?_; clear hf a; intro a hf
     refine mc_p rfl   hf (yv_move rfl) (.inl rfl) rfl rfl ?_; clear hf a; intro a hf
     refine mc_p rfl   hf (y_ix Try.se_33 rfl rfl) (.inl rfl) rfl rfl ?_; clear hf a; intro a hf
     refine mc_q rfl rfl hh hf (y_lds Try.ag_24 rfl) (.inl rfl) rfl rfl ?_; clear hf a; intro a hf
     refine mc_p rfl   hf (yv_fieldAddr Try.fo_37_1 rfl) (.inl rfl) rfl rfl ?_; clear hf a; intro a hf
     refine mc_q rfl rfl hh hf (y_ld Try.sc_22 rfl) (.inl rfl) rfl rfl ?_; clear hf a; intro a hf
     refine mc_p rfl   hf (yv_move rfl) (.inl rfl) rfl rfl ?_; clear hf a; intro a hf
     refine mc_p rfl   hf (y_ix Try.se_22 rfl rfl) (.inl rfl) rfl rfl ?_; clear hf a; intro a hf
     refine mc_q rfl rfl hh hf (y_ld Try.sc_3 rfl) (.inl rfl) rfl rfl ?_; clear hf a; intro a hf
     refine mc_p rfl   hf (yv_move rfl) (.inl rfl) rfl rfl ?_; clear hf a; intro a hf
     refine mc_e rfl fun Q1 => ?_
     refine o_call hf Try.en_73 rfl rfl rfl (p73 (surN d i q) (by have := sur_lt hO i q; omega) _) ?_; clear hf a; intro v a w hR hf
     obtain ⟨rfl, hx⟩ := hR; replace hh := hh.more hx; clear hx
     refine ops_end ?_
     refine then_n ⟨⟨fun _ _ => hh, trivial⟩, ?_⟩
     refine mc_e rfl fun Q1 => ?_
     refine o_call hf Try.en_54 rfl rfl rfl (p54 tm hto x (pc (surN d i q) : Nat) hxb.1 hxb.2 (by omega) (by omega) _) ?_; clear hf a; intro v a w hR hf
     obtain ⟨rfl, hx⟩ := hR; replace hh := hh.more hx; clear hx
     refine ops_end ?_
     refine then_n ⟨⟨fun _ _ => hh, trivial⟩, ?_⟩
     refine mc_p rfl   hf (yv_cast (yv_add rfl rfl (by omega) (by omega)) (intv (b := sumI (lowL d q (i + 1))) hl1.symm)) (.inl rfl) rfl rfl ?_; clear hf a; intro a hf
     refine mc_p rfl   hf (yv_fieldAddr Try.fo_43_0 rfl) (.inl rfl) rfl rfl ?_; clear hf a; intro a hf
     refine mc_e rfl fun Q1 => ?_
     refine o_store hf hh Try.sz_3 fun w hh => ?_
     refine ops_end ?_
     refine then_n ⟨⟨fun h => Bool.noConfusion (show true = false from h), trivial⟩, ?_⟩
     refine mc_end ?_
     refine then_n ?_
     refine sy_tree1 (.p 0 (.q 0 1 (.p 2 (.q 0 3 (.p 4 (.p 5 (.q 0 6 (.p 7 (.q 0 8 (.p 9 (.p 10 (.q 0 11 (.p 12 (.e1 13 (.e1 14 (.p 15 (.p 16 (.e1 17 (.fin))))))))))))))))))) [17] Try.follows (by kernel_rfl) hh (fun w hh => ?_)
     refine mc_p rfl   hf (yv_fieldAddr Try.fo_43_1 rfl) (.inl rfl) rfl rfl ?_; clear hf a; intro a hf
     refine mc_q rfl rfl hh hf (y_ld Try.sc_3 rfl) (.inl rfl) rfl rfl ?_; clear hf a; intro a hf
     refine mc_p rfl   hf (yv_fieldAddr Try.fo_37_0 rfl) (.inl rfl) rfl rfl ?_; clear hf a; intro a hf
     refine mc_q rfl rfl hh hf (y_ld Try.sc_33 rfl) (.inl rfl) rfl rfl ?_; clear hf a; intro a hf
     refine mc_p rfl   hf (yv_move rfl) (.inl rfl) rfl rfl ?_; clear hf a; intro a hf
     refine mc_p rfl   hf (y_ix Try.se_33 rfl rfl) (.inl rfl) rfl rfl ?_; clear hf a; intro a hf
     refine mc_q rfl rfl hh hf (y_lds Try.ag_24 rfl) (.inl rfl) rfl rfl ?_; clear hf a; intro a hf
     refine mc_p rfl   hf (yv_fieldAddr Try.fo_37_1 rfl) (.inl rfl) rfl rfl ?_; clear hf a; intro a hf
     refine mc_q rfl rfl hh hf (y_ld Try.sc_22 rfl) (.inl rfl) rfl rfl ?_; clear hf a; intro a hf
     refine mc_p rfl   hf (yv_move rfl) (.inl rfl) rfl rfl ?_; clear hf a; intro a hf
     refine mc_p rfl   hf (y_ix Try.se_22 rfl rfl) (.inl rfl) rfl rfl ?_; clear hf a; intro a hf
     refine mc_q rfl rfl hh hf (y_ld Try.sc_3 rfl) (.inl rfl) rfl rfl ?_; clear hf a; intro a hf
     refine mc_p rfl   hf (yv_move rfl) (.inl rfl) rfl rfl ?_; clear hf a; intro a hf
     refine mc_e rfl fun Q1 => ?_
     refine o_call hf Try.en_73 rfl rfl rfl (p73 (clm d i q) (by have := clm_lt12 hO i q; omega) _) ?_; clear hf a; intro v a w hR hf
     obtain ⟨rfl, hx⟩ := hR; replace hh := hh.more hx; clear hx
     refine ops_end ?_
     refine then_n ⟨⟨fun _ _ => hh, trivial⟩, ?_⟩
     refine mc_e rfl fun Q1 => ?_
     refine o_call hf Try.en_54 rfl rfl rfl (p54 tm hto x (pc (clm d i q) : Nat) hxb.1 hxb.2 (by omega) (by omega) _) ?_; clear hf a; intro v a w hR hf
     obtain ⟨rfl, hx⟩ := hR; replace hh := hh.more hx; clear hx
     refine ops_end ?_
     refine then_n ⟨⟨fun _ _ => hh, trivial⟩, ?_⟩
     refine mc_p rfl   hf (yv_cast (yv_add rfl rfl (by omega) (by omega)) (intv (b := sumI (higL d q (i + 1))) hl2.symm)) (.inl rfl) rfl rfl ?_; clear hf a; intro a hf
     refine mc_p rfl   hf (yv_fieldAddr Try.fo_43_1 rfl) (.inl rfl) rfl rfl ?_; clear hf a; intro a hf
     refine mc_e rfl fun Q1 => ?_
     refine o_store hf hh Try.sz_3 fun w hh => ?_
     refine ops_end ?_
     refine then_n ⟨⟨fun h => Bool.noConfusion (show true = false from h), trivial⟩, ?_⟩
     refine mc_end ?_
     refine blk_n ?_
     refine then_n ?_
     refine sy_ops ?_
     refine o_v hf hh (yv_move rfl) ?_; clear hf a; intro a hf
     refine o_v hf hh (y_add rfl rfl) ?_; clear hf a; intro a hf
     refine o_v hf hh (yv_assign rfl) ?_; clear hf a; intro a hf
     refine ops_end ?_
     refine then_n ?_
     exact ⟨i + 1, ⟨⟨by omega, hh⟩, (hf.head (by repeat' (first | exact True.intro | refine And.intro rfl ?_)) (Keep.cons rfl (Keep.cons rfl (Keep.cons rfl (Keep.cons rfl (Keep.cons rfl (Keep.cons rfl (Keep.cons rfl (Keep.cons rfl (Keep.cons rfl (Keep.cons rfl (Keep.cons rfl (Keep.cons rfl (Keep.cons rfl (Keep.cons rfl (Keep.cons rfl (Keep.cons rfl (Keep.cons rfl (Keep.cons rfl (Keep.cons rfl (Keep.cons rfl (Keep.cons rfl (Keep.cons rfl (Keep.cons rfl (Keep.cons rfl (Keep.cons rfl (Keep.cons rfl (Keep.cons rfl (Keep.cons rfl (Keep.cons rfl (Keep.cons rfl (Keep.cons rfl (Keep.cons rfl (Keep.cons rfl (Keep.cons rfl (Keep.cons rfl (Keep.cons rfl (Keep.cons rfl (Keep.cons rfl (Keep.cons rfl (Keep.cons rfl (Keep.cons rfl (Keep.cons rfl (Keep.cons rfl (Keep.cons rfl (Keep.cons rfl (Keep.cons rfl (Keep.cons rfl (Keep.cons rfl (Keep.cons rfl (Keep.cons rfl (Keep.cons rfl (Keep.app rfl (Keep.rm rfl Keep.base))))))))))))))))))))))))))))))))))))))))))))))))))))))⟩, by omega⟩
    ·have hG6 := hg6; try simp only [gS] at hG6
     refine sy_exit ?_
     refine then_e ?_
     refine then_e ?_
     refine blk_e ?_
     refine then_n ?_
     refine sy_seq ?_
     obtain rfl : i = d.prices.length := by omega
     refine sy_ops ?_
     refine o_v hf hh (y_lds Try.ag_43 rfl) ?_; clear hf a; intro a hf
     refine o_store hf hh Try.sz_43 fun w hh => ?_
     refine o_v hf hh (yv_assign rfl) ?_; clear hf a; intro a hf
     refine o_end ?_
     refine sy_ret ?_
     refine ret_c (vs := [.agg #[.int .i64 (sumI (lowL d q d.prices.length)), .int .i64 (sumI (higL d q d.prices.length))], .int .i64 0]) hf ?_ ?_
     · exact ⟨⟨B4, 0, _, _, _, rfl, hh.at (i := 1) rfl, .inr ⟨2, _, Try.ag_43, rfl, rfl⟩⟩, rfl, True.intro⟩
     · exact ⟨by rw [ev, show oweE d q = 0 from he]; rfl, hh.ext⟩
end Go.Proofs.Ytkfkifkdncdhoaa
namespace Go.RoyM
open Go Go.Sy
def wsL (d : RoyD) (k : Int) : List Nat := (soldL d k).map Prod.snd
def csL (d : RoyD) (k : Int) : List Nat := (soldL d k).map Prod.fst
/-- The truths that go on from some agents. -/
def trB (m : Nat) (ws : List Nat) (b : List Nat) : List (List Nat) := (truA m (ws.drop b.length)).map (b ++ ·)
theorem trB_end {m : Nat} {ws b : List Nat} (h : b.length = ws.length) : trB m ws b = [b] := by
  unfold trB
  rw [h, List.drop_length]
  simp [truA]
def curB (m : Nat) (ws b : List Nat) (l : List Nat) (j : Nat) : List (List Nat) := (l.take j).flatMap fun g => trB m ws (b ++ [g])
theorem curB_zero (m : Nat) (ws b l : List Nat) : curB m ws b l 0 = [] := by unfold curB; simp
theorem curB_next {m : Nat} {ws b l : List Nat} {j g : Nat} (h : l[j]? = some g) : curB m ws b l (j + 1) = curB m ws b l j ++ trB m ws (b ++ [g]) := by
  unfold curB
  rw [List.take_add_one, h, List.flatMap_append]
  simp
theorem curB_all {m : Nat} {ws b : List Nat} {w : Nat} (h : ws[b.length]? = some w) : curB m ws b (clrL m w) (clrL m w).length = trB m ws b := by
  have hi := len_of h
  unfold curB trB
  rw [List.take_length, List.drop_eq_getElem_cons hi, (List.getElem?_eq_some_iff.1 h).2, truA, fm_map]
  congr 1
  funext g
  rw [List.map_map, List.length_append]
  show List.map (fun t => b ++ [g] ++ t) (truA m (List.drop (b.length + 1) ws)) = _
  congr 1
  funext t
  simp
theorem flatMap_len {α β : Type} {f : α → List β} {c : Nat} : ∀ {l : List α}, (∀ x ∈ l, (f x).length ≤ c) → (l.flatMap f).length ≤ l.length * c
  | [], _ => by simp
  | x :: l, h => by
    have h1 := h x (.head _)
    have h2 := flatMap_len (l := l) (f := f) (c := c) fun y hy => h y (.tail _ hy)
    rw [List.flatMap_cons, List.length_append, List.length_cons, Nat.succ_mul]
    omega
theorem tru_len {m : Nat} (hm : m ≤ 4) : ∀ ws : List Nat, (truA m ws).length ≤ 4 ^ ws.length
  | [] => by simp [truA]
  | w :: ws => by
    have ih := tru_len hm ws
    rw [truA, List.length_cons, Nat.pow_succ]
    have h1 := flatMap_len (l := clrL m w) (f := fun g => (truA m ws).map (g :: ·)) (c := 4 ^ ws.length) fun g _ => by rw [List.length_map]; exact ih
    have h2 : (clrL m w).length ≤ 4 := by
      unfold clrL
      refine Nat.le_trans (List.length_filter_le _ _) ?_
      rw [List.length_range]; exact hm
    have h3 : (clrL m w).length * 4 ^ ws.length ≤ 4 * 4 ^ ws.length := Nat.mul_le_mul_right _ h2
    omega
theorem trB_len {m : Nat} (hm : m ≤ 4) {ws b : List Nat} (hw : ws.length ≤ 12) : (trB m ws b).length ≤ 16777216 := by
  unfold trB
  rw [List.length_map]
  refine Nat.le_trans (tru_len hm _) ?_
  have : 4 ^ (ws.drop b.length).length ≤ 4 ^ 12 := Nat.pow_le_pow_right (by omega) (by rw [List.length_drop]; omega)
  exact this
theorem curB_len {m : Nat} {ws b : List Nat} {w : Nat} (h : ws[b.length]? = some w) (j : Nat) : (curB m ws b (clrL m w) j).length ≤ (trB m ws b).length := by
  rw [← curB_all h]
  unfold curB
  rw [List.take_length]
  have h1 : (clrL m w).flatMap (fun g => trB m ws (b ++ [g])) = ((clrL m w).take j).flatMap (fun g => trB m ws (b ++ [g])) ++ ((clrL m w).drop j).flatMap (fun g => trB m ws (b ++ [g])) := by
    rw [← List.flatMap_append, List.take_append_drop]
  rw [h1, List.length_append]
  omega
theorem trB_nil (m : Nat) (ws : List Nat) : trB m ws [] = truA m ws := by unfold trB; simp
theorem nvs_len (l : List Nat) : (nvs l).length = l.length := List.length_map _
theorem nvs_1c (l : List Nat) : (nvs l).all (·.oneCell') = true := by
  rw [List.all_eq_true]
  intro v hv
  obtain ⟨x, _, rfl⟩ := List.mem_map.1 hv
  rfl
theorem nvs_at {l : List Nat} {i x : Nat} (h : l[i]? = some x) : (nvs l)[i]? = some (.int .i64 ((x : Nat) : Int)) := by unfold nvs; rw [List.getElem?_map, h]; rfl
/-- The agents who claim a card that is sold. -/
theorem claW {d : RoyD} (hO : RoyOk d) {k : Int} {i c w : Nat} (hc : (csL d k)[i]? = some c) (hw : (wsL d k)[i]? = some w) : claL d k c d.terms.length = clrL d.terms.length w := by
  unfold csL at hc; unfold wsL at hw
  rw [List.getElem?_map] at hc hw
  cases e : (soldL d k)[i]? with
  | none => rw [e] at hc; cases hc
  | some y =>
    rw [e] at hc hw; cases hc; cases hw
    rw [(soldT_mem.1 (List.mem_of_getElem? e)).2.1, who_clr hO, claL_eq]
theorem cs_len (d : RoyD) (k : Int) : (csL d k).length = (wsL d k).length := by unfold csL wsL; rw [List.length_map, List.length_map]
theorem ws_len (d : RoyD) (k : Int) : (wsL d k).length ≤ 12 := by unfold wsL; rw [List.length_map]; exact sold_len d k
/-- Which cards are sold: those that somebody claims. -/
theorem sold_iff {d : RoyD} (hO : RoyOk d) (k : Int) (c : Nat) : whoN d k c = 0 ↔ (claL d k c d.terms.length).length = 0 := by
  rw [claL_eq]
  constructor
  · intro h
    rw [← who_clr hO, h]
    unfold clrL
    simp
  · intro h
    refine Decidable.byContradiction fun hn => ?_
    have := clr_ne hO hn
    rw [who_clr hO] at this
    exact this (List.eq_nil_of_length_eq_zero h)
def csT (d : RoyD) (k : Int) (n : Nat) : List Nat := (soldT d k n).map Prod.fst
theorem csT_put {d : RoyD} {k : Int} {c : Nat} (h : ¬ whoN d k c = 0) : csT d k (c + 1) = csT d k c ++ [c] := by
  unfold csT
  rw [soldT, if_neg h, List.map_append]; rfl
theorem csT_no {d : RoyD} {k : Int} {c : Nat} (h : whoN d k c = 0) : csT d k (c + 1) = csT d k c := by unfold csT; rw [soldT, if_pos h, List.append_nil]
theorem csT_len (d : RoyD) (k : Int) (n : Nat) : (csT d k n).length ≤ n := by unfold csT; rw [List.length_map]; exact soldT_len n
theorem Ext.over {u0 u w : World} {M : List Nat} (h : Ext [] u0 u) (h' : Ext M u w) (hM : ∀ x ∈ M, u0.heap.size ≤ x) : Ext [] u0 w := h.chain h' fun x hx => .inr (hM x hx)
/-- How many cards an agent sold. -/
def cntG (t : List Nat) (g : Nat) : Nat := t.count g
theorem cnt_get : ∀ (t : List Nat) (n : Cts) (g : Nat), g < 4 → (∀ x ∈ t, x < 4) → cget (cnt n t) g = cget n g + t.count g
  | [], n, g, _, _ => by simp [cnt]
  | x :: t, n, g, hg, h => by
    have ih := cnt_get t (cinc n x) g hg fun y hy => h y (.tail _ hy)
    have e : cnt n (x :: t) = cnt (cinc n x) t := rfl
    rw [e, ih, cget_inc (h x (.head _)) hg, List.count_cons]
    by_cases hx : g = x
    · subst hx; simp; omega
    · have h1 : (x == g) = false := by simpa using fun e => hx e.symm
      rw [if_neg hx, h1]; simp
theorem cnt_zero {t : List Nat} (h : ∀ x ∈ t, x < 4) {g : Nat} (hg : g < 4) : cget (cnt (0, 0, 0, 0) t) g = t.count g := by
  rw [cnt_get t _ g hg h]
  rcases (show g = 0 ∨ g = 1 ∨ g = 2 ∨ g = 3 by omega) with rfl | rfl | rfl | rfl <;> simp [cget]
theorem tot_cnt {d : RoyD} (x : Int) {t : List Nat} (h : ∀ x ∈ t, x < 4) : ∀ g, g ≤ 4 → totF d x (cnt (0, 0, 0, 0) t) g = sumI ((List.range g).map fun j => comV (termN d j) x (t.count j : Nat))
  | 0, _ => by simp [totF, sumI]
  | g + 1, hg => by
    rw [totF, tot_cnt x h g (by omega), cnt_zero h (by omega), List.range_succ, List.map_append, sumI_app]
    show _ = _ + (0 + _)
    rw [Int.zero_add]; rfl
theorem count_take {t : List Nat} {i x g : Nat} (h : t[i]? = some x) : (t.take (i + 1)).count g = (t.take i).count g + if x = g then 1 else 0 := by
  rw [List.take_add_one, h, List.count_append]
  by_cases hx : x = g
  · subst hx; simp
  · simp [hx]
theorem cards_cnt : ∀ (t : List Nat) (n : Cts), cardsN (cnt n t) = cardsN n + t.length
  | [], n => by simp [cnt]
  | x :: t, n => by
    have e : cnt n (x :: t) = cnt (cinc n x) t := rfl
    rw [e, cards_cnt t, cardsN_inc, List.length_cons]; omega
theorem tru_mem {m : Nat} : ∀ {ws t : List Nat}, t ∈ truA m ws → t.length = ws.length ∧ ∀ x ∈ t, x < m
  | [], t, h => by simp [truA] at h; subst h; simp
  | w :: ws, t, h => by
    rw [truA] at h
    obtain ⟨g, hg, h⟩ := List.mem_flatMap.1 h
    obtain ⟨s, hs, rfl⟩ := List.mem_map.1 h
    obtain ⟨h1, h2⟩ := tru_mem hs
    refine ⟨by rw [List.length_cons, List.length_cons, h1], fun x hx => ?_⟩
    rcases List.mem_cons.1 hx with rfl | hx
    · unfold clrL at hg
      exact List.mem_range.1 (List.mem_filter.1 hg).1
    · exact h2 x hx
end Go.RoyM
namespace Go.RoyM
open Go Go.Sy
/-- Lists of agents lie in memory, a slice for each. -/
def LsAt (w : World) (so : Option Addr) (L : List (List Nat)) : Prop :=
  ∀ i t, L[i]? = some t → ∃ blk off c T fr sb cb, so = some ⟨blk, off, none⟩ ∧ w.heap[blk]? = some (.cells c T fr) ∧ c[off + ((i : Nat) : Int).toNat * 1]? = some (.slice sb t.length cb) ∧ NAt w sb t
theorem LsAt.ext {w w' : World} {so : Option Addr} {L : List (List Nat)} (h : LsAt w so L) (e : Ext [] w w') : LsAt w' so L := fun i s hi =>
  let ⟨blk, off, c, T, fr, sb, cb, h1, h2, h3, h4⟩ := h i s hi
  ⟨blk, off, c, T, fr, sb, cb, h1, e.get h2, h3, h4.ext e⟩
theorem nat_off {w : World} {X : List (Nat × Obj)} {sb : Option Addr} {t : List Nat} (h : ValsOff w X sb (nvs t)) : NAt w sb t := fun i x hi => by
  rcases h with h | ⟨blk, off, c, T, fr, h1, _, h3, h4⟩
  · have := congrArg List.length h
    rw [nvs_len] at this
    have h2 := len_of hi
    simp at this
    rw [this] at h2; simp at h2
  · exact ⟨blk, off, c, T, fr, h1, h3, by rw [Int.toNat_natCast, Nat.mul_one]; exact h4 i _ (nvs_at hi)⟩
theorem ls_of {w : World} {v : Value} {L : List (List Nat)} {hs : List Value} {X : List (Nat × Obj)} (h : OwnSl 22 1 v L.length hs X) (hH : HdsAt nvs List.length w X hs L) (hX : ∀ q ∈ X, w.heap[q.1]? = some q.2) : ∃ so co, v = .slice so L.length co ∧ LsAt w so L := by
  rcases h.2 with ⟨h1, h2, _⟩ | ⟨B, cap, cur, h1, h2, _, _, h5, h6⟩
  · refine ⟨none, 0, by rw [h1, h2], fun i t hi => ?_⟩
    have := len_of hi
    omega
  · refine ⟨_, _, h1, fun i t hi => ?_⟩
    obtain ⟨sb, cb, h7, h8⟩ := hH.2 i t hi
    refine ⟨B, 0, cur, 22, (0, 0), sb, cb, rfl, hX (B, .cells cur 22 (0, 0)) (by rw [h2]; exact .head _), ?_, nat_off h8⟩
    have hl := len_of hi
    rw [← h6, Nat.mul_one, List.getElem?_take, if_pos (by omega)] at h7
    rw [Int.toNat_natCast, Nat.zero_add, Nat.mul_one, ← Array.getElem?_toList]
    exact h7
theorem nat_own {oa : Option Addr} {m c : Nat} {l : List Nat} {X : List (Nat × Obj)} {w : World} (h : OwnSl 3 1 (.slice oa m c) m (nvs l) X) (hX : ∀ q ∈ X, w.heap[q.1]? = some q.2) : NAt w oa l := by
  obtain ⟨oa2, c2, e, _, h2⟩ := own_nat h hX
  cases e
  exact h2
def truL (d : RoyD) (k : Int) : List (List Nat) := truA d.terms.length (wsL d k)
def totF2 (d : RoyD) (x : Int) (t : List Nat) : Int := totV d x (cnt (0, 0, 0, 0) t)
theorem tru_facts {d : RoyD} (hO : RoyOk d) {k : Int} {t : List Nat} (h : t ∈ truL d k) : t.length ≤ 12 ∧ (∀ x ∈ t, x < 4) ∧ t.length = (wsL d k).length := by
  obtain ⟨h1, h2⟩ := tru_mem h
  have := ws_len d k
  have hn := hO.nt
  exact ⟨by omega, fun x hx => by have := h2 x hx; omega, h1⟩
theorem truL_ne {d : RoyD} (hO : RoyOk d) (k : Int) : truL d k ≠ [] := truA_ne (sold_some hO k)
theorem truL_len {d : RoyD} (hO : RoyOk d) (k : Int) : 1 ≤ (truL d k).length ∧ (truL d k).length ≤ 16777216 := by
  have h1 := List.length_pos_iff.2 (truL_ne hO k)
  have h2 := tru_len hO.nt (wsL d k)
  have h3 : 4 ^ (wsL d k).length ≤ 4 ^ 12 := Nat.pow_le_pow_right (by omega) (ws_len d k)
  exact ⟨h1, Nat.le_trans h2 h3⟩
theorem reach_map (d : RoyD) (k : Int) (f : Cts → Int) : (reachL d k).map f = (truL d k).map fun t => f (cnt (0, 0, 0, 0) t) := by
  rw [reachL_tru, List.map_map]; rfl
theorem lo_with {c : Int} {l : List Int} (hn : l ≠ []) (h : ∃ y ∈ l, y ≤ c) : loL (c :: l) = loL l := by
  obtain ⟨h1, h2⟩ := loL_spec hn
  refine lo_uniq (.tail _ h1) fun y hy => ?_
  rcases List.mem_cons.1 hy with rfl | hy
  · obtain ⟨z, hz, hzc⟩ := h
    exact Int.le_trans (h2 z hz) hzc
  · exact h2 y hy
theorem hi_with {c : Int} {l : List Int} (hn : l ≠ []) (h : ∃ y ∈ l, c ≤ y) : hiL (c :: l) = hiL l := by
  obtain ⟨h1, h2⟩ := hiL_spec hn
  refine hi_uniq (.tail _ h1) fun y hy => ?_
  rcases List.mem_cons.1 hy with rfl | hy
  · obtain ⟨z, hz, hzc⟩ := h
    exact Int.le_trans hzc (h2 z hz)
  · exact h2 y hy
theorem map_take {α : Type} {L : List α} {i : Nat} {t : α} (h : L[i]? = some t) (f : α → Int) (c : Int) : c :: (L.take (i + 1)).map f = (c :: (L.take i).map f) ++ [f t] := by
  rw [List.take_add_one, h, List.map_append]; rfl
/-- The first of those with the least. -/
def BestAt (f : List Nat → Int) (L : List (List Nat)) (i b : Nat) (tb : List Nat) : Prop :=
  L[b]? = some tb ∧ (∀ j t, j < i → L[j]? = some t → f tb ≤ f t) ∧ ∀ j t, j < b → L[j]? = some t → f tb < f t
theorem BestAt.keep {f : List Nat → Int} {L : List (List Nat)} {i b : Nat} {tb t : List Nat} (h : BestAt f L i b tb) (hi : L[i]? = some t) (hn : ¬ f t < f tb) : BestAt f L (i + 1) b tb :=
  ⟨h.1, fun j t' hj h' => by
    rcases (show j < i ∨ j = i by omega) with h1 | h1
    · exact h.2.1 j t' h1 h'
    · subst h1; rw [hi] at h'; cases h'; omega, h.2.2⟩
theorem BestAt.turn {f : List Nat → Int} {L : List (List Nat)} {i b : Nat} {tb t : List Nat} (h : BestAt f L i b tb) (hi : L[i]? = some t) (hn : f t < f tb) : BestAt f L (i + 1) i t :=
  ⟨hi, fun j t' hj h' => by
    rcases (show j < i ∨ j = i by omega) with h1 | h1
    · have := h.2.1 j t' h1 h'; omega
    · subst h1; rw [hi] at h'; cases h'; exact Int.le_refl _, fun j t' hj h' => by have := h.2.1 j t' hj h'; omega⟩
theorem BestAt.find {f : List Nat → Int} {L : List (List Nat)} {b : Nat} {tb : List Nat} (h : BestAt f L L.length b tb) : L.find? (fun t => decide (f t ≤ loL (L.map f))) = some tb := by
  have hb := len_of h.1
  have hne : L.map f ≠ [] := by
    intro e
    have := congrArg List.length e
    simp at this
    rw [this] at hb; simp at hb
  obtain ⟨h1, h2⟩ := loL_spec hne
  have hv : loL (L.map f) = f tb := by
    obtain ⟨t, ht, e⟩ := List.mem_map.1 h1
    obtain ⟨j, hj⟩ := List.mem_iff_getElem?.1 ht
    have h3 := h.2.1 j t (len_of hj) hj
    have h4 := h2 (f tb) (List.mem_map.2 ⟨tb, List.mem_of_getElem? h.1, rfl⟩)
    omega
  rw [hv, List.find?_eq_some_iff_getElem]
  refine ⟨by simp, b, hb, (List.getElem?_eq_some_iff.1 h.1).2, fun j hj => ?_⟩
  have h5 := h.2.2 j (L[j]'(by omega)) hj (List.getElem?_eq_getElem (by omega))
  simp only [Bool.not_eq_true', decide_eq_false_iff_not]
  omega
theorem lea_best {d : RoyD} (hO : RoyOk d) {k : Int} {b : Nat} {tb : List Nat} (h : BestAt (totF2 d (priceN d k)) (truL d k) (truL d k).length b tb) : leastL d (priceN d k) (wsL d k) (0, 0, 0, 0) = tb := by
  have h1 := leastL_first d (priceN d k) (wsL d k) (0, 0, 0, 0) (sold_some hO k)
  rw [least_tru d (priceN d k) (wsL d k) (0, 0, 0, 0) (sold_some hO k)] at h1
  have h2 := h.find
  have h3 : some (leastL d (priceN d k) (wsL d k) (0, 0, 0, 0)) = some tb := h1.symm.trans h2
  exact Option.some.inj h3
theorem part_bd {n : Int} {l : List Int} (h0 : 0 ≤ n) (h1 : n ≤ 12582912) (hS : ShOk l) {j : Nat} (h : j < l.length) : 0 ≤ (splitL n l).getD j 0 ∧ (splitL n l).getD j 0 ≤ 12582913 := by
  rw [split_at h]
  obtain ⟨s, hj⟩ := ex_of h
  rw [getD_at hj]
  have hs := hS.bd s (List.mem_of_getElem? hj)
  have h2 : n * s ≤ n * 1000 := Int.mul_le_mul_of_nonneg_left hs.2 h0
  have h3 : 0 ≤ n * s := Int.mul_nonneg h0 hs.1
  have h4 := more_01 n l j
  unfold flo
  omega
theorem openE_and {d : RoyD} {a b : Bool} : openE d (a && b) = if openE d a = 0 then (if b = false then 2 else 0) else openE d a := by
  unfold openE
  cases royB d <;> cases a <;> cases b <;> simp
end Go.RoyM
namespace Go.RoyM
open Go Go.Sy
/-- A truth: for each card one of those who claim it. -/
theorem tru_of {m : Nat} : ∀ {ws t : List Nat}, t.length = ws.length → (∀ (i g w : Nat), t[i]? = some g → ws[i]? = some w → g ∈ clrL m w) → t ∈ truA m ws
  | [], t, h, _ => by
    rw [List.length_nil] at h
    rw [List.eq_nil_of_length_eq_zero h]; simp [truA]
  | w :: ws, [], h, _ => by simp at h
  | w :: ws, g :: t, h, hg => by
    rw [truA]
    refine List.mem_flatMap.2 ⟨g, hg 0 g w rfl rfl, List.mem_map.2 ⟨t, tru_of (by simpa using h) fun i x y hx hy => hg (i + 1) x y hx hy, rfl⟩⟩
theorem tru_at {m : Nat} : ∀ {ws t : List Nat}, t ∈ truA m ws → ∀ {i g w : Nat}, t[i]? = some g → ws[i]? = some w → g ∈ clrL m w
  | [], t, h, i, g, w, _, hw => by simp at hw
  | w0 :: ws, t, h, i, g, w, hg, hw => by
    rw [truA] at h
    obtain ⟨g0, hg0, h⟩ := List.mem_flatMap.1 h
    obtain ⟨s, hs, rfl⟩ := List.mem_map.1 h
    match i, hg, hw with
    | 0, hg, hw => cases hg; cases hw; exact hg0
    | i + 1, hg, hw => exact tru_at hs (by simpa using hg) (by simpa using hw)
/-- One list comes before another one. -/
def lexlt (t s : List Nat) : Prop := ∃ (i a b : Nat), (∀ j : Nat, j < i → t[j]? = s[j]?) ∧ t[i]? = some a ∧ s[i]? = some b ∧ a < b
theorem lexlt_cons {g : Nat} {t s : List Nat} (h : lexlt t s) : lexlt (g :: t) (g :: s) := by
  obtain ⟨i, a, b, h1, h2, h3, h4⟩ := h
  refine ⟨i + 1, a, b, fun j hj => ?_, h2, h3, h4⟩
  match j with
  | 0 => rfl
  | j + 1 => exact h1 j (by omega)
theorem clr_sorted (m w : Nat) : (clrL m w).Pairwise (fun a b : Nat => a < b) := List.pairwise_lt_range.sublist List.filter_sublist
theorem tru_sorted (m : Nat) : ∀ ws : List Nat, (truA m ws).Pairwise lexlt
  | [] => by simp [truA]
  | w :: ws => by
    have ih := tru_sorted m ws
    rw [truA, List.pairwise_flatMap]
    refine ⟨fun g _ => List.pairwise_map.2 (ih.imp lexlt_cons), (clr_sorted m w).imp fun {a b} hab x hx y hy => ?_⟩
    obtain ⟨t, _, rfl⟩ := List.mem_map.1 hx
    obtain ⟨s, _, rfl⟩ := List.mem_map.1 hy
    exact ⟨0, a, b, fun j hj => absurd hj (by omega), rfl, rfl, hab⟩
/-- The first one that is found comes before all others that would do. -/
theorem find_lex {L : List (List Nat)} (hs : L.Pairwise lexlt) {p : List Nat → Bool} {b t : List Nat} (h : L.find? p = some b) (ht : t ∈ L) (hp : p t = true) : t = b ∨ lexlt b t := by
  rw [List.find?_eq_some_iff_append] at h
  obtain ⟨_, l1, l2, rfl, h3⟩ := h
  rcases List.mem_append.1 ht with h4 | h4
  · have := h3 t h4
    rw [hp] at this; simp at this
  · rcases List.mem_cons.1 h4 with h5 | h5
    · exact .inl h5
    · right
      rw [List.pairwise_append, List.pairwise_cons] at hs
      exact hs.2.1.1 t h5
theorem lea_mem {d : RoyD} (hO : RoyOk d) (k : Int) : leastL d (priceN d k) (wsL d k) (0, 0, 0, 0) ∈ truL d k :=
  List.mem_of_find?_eq_some (leastL_first d (priceN d k) (wsL d k) (0, 0, 0, 0) (sold_some hO k))
theorem lea_lo {d : RoyD} (hO : RoyOk d) (k : Int) : totF2 d (priceN d k) (leastL d (priceN d k) (wsL d k) (0, 0, 0, 0)) = loL ((reachL d k).map (totV d (priceN d k))) := by
  have h1 := leastL_first d (priceN d k) (wsL d k) (0, 0, 0, 0) (sold_some hO k)
  have h2 := List.find?_some h1
  have h3 := of_decide_eq_true h2
  rw [least_tru d (priceN d k) (wsL d k) (0, 0, 0, 0) (sold_some hO k)] at h3
  rw [reach_map]
  have hne : (truL d k).map (fun t => totV d (priceN d k) (cnt (0, 0, 0, 0) t)) ≠ [] := by simpa using truL_ne hO k
  have h4 := (loL_spec hne).2 _ (List.mem_map.2 ⟨_, lea_mem hO k, rfl⟩)
  exact Int.le_antisymm h3 h4
theorem lea_first {d : RoyD} (hO : RoyOk d) {k : Int} {t : List Nat} (ht : t ∈ truL d k) (hl : totF2 d (priceN d k) t = loL ((reachL d k).map (totV d (priceN d k)))) : t = leastL d (priceN d k) (wsL d k) (0, 0, 0, 0) ∨ lexlt (leastL d (priceN d k) (wsL d k) (0, 0, 0, 0)) t := by
  have h1 := leastL_first d (priceN d k) (wsL d k) (0, 0, 0, 0) (sold_some hO k)
  refine find_lex (tru_sorted _ _) h1 ht (decide_eq_true ?_)
  rw [least_tru d (priceN d k) (wsL d k) (0, 0, 0, 0) (sold_some hO k)]
  rw [reach_map] at hl
  exact Int.le_of_eq hl
/-- What all agents have in a truth lies within the span. -/
theorem tru_span {d : RoyD} {k : Int} {t : List Nat} (ht : t ∈ truL d k) : loL ((reachL d k).map (totV d (priceN d k))) ≤ totF2 d (priceN d k) t ∧ totF2 d (priceN d k) t ≤ hiL ((reachL d k).map (totV d (priceN d k))) := by
  rw [reach_map]
  have hm : totF2 d (priceN d k) t ∈ (truL d k).map (fun t => totV d (priceN d k) (cnt (0, 0, 0, 0) t)) := List.mem_map.2 ⟨t, ht, rfl⟩
  exact ⟨(loL_spec (List.ne_nil_of_mem hm)).2 _ hm, (hiL_spec (List.ne_nil_of_mem hm)).2 _ hm⟩
/-- Where two lists differ first. -/
theorem lex_at {b t : List Nat} (h : lexlt b t) {i x y : Nat} (hx : b[i]? = some x) (hy : t[i]? = some y) (hne : ¬ y = x) (hp : ∀ j, j < i → b[j]? = t[j]?) : x < y := by
  obtain ⟨i0, p, q, h1, h2, h3, h4⟩ := h
  rcases (show i0 < i ∨ i0 = i ∨ i < i0 by omega) with h5 | h5 | h5
  · have := hp i0 h5
    rw [h2, h3] at this
    cases this; omega
  · subst h5; rw [h2] at hx; rw [h3] at hy; cases hx; cases hy; exact h4
  · have := h1 i h5
    rw [hx, hy] at this
    cases this; exact absurd rfl hne
theorem leaV_ok {d : RoyD} {k : Int} (he : allE d k = 0) : leaV d k = leastL d (priceN d k) (wsL d k) (0, 0, 0, 0) := by unfold leaV; rw [if_pos he]; rfl
theorem allV_ok {d : RoyD} {k : Int} (he : allE d k = 0) : allV d k = (loL ((reachL d k).map (totV d (priceN d k))), hiL ((reachL d k).map (totV d (priceN d k)))) := by unfold allV; rw [if_pos he]
theorem allE_facts {d : RoyD} {k : Int} (he : ¬ allE d k = 0) : leaV d k = [] ∧ allV d k = (0, 0) ∧ ((allE d k = 1 ∧ royB d = false) ∨ (allE d k = 2 ∧ royB d = true)) := by
  refine ⟨by unfold leaV; rw [if_neg he], by unfold allV; rw [if_neg he], ?_⟩
  unfold allE openE at he ⊢
  cases h1 : royB d
  · exact .inl ⟨rfl, rfl⟩
  · cases h2 : isKd d k
    · exact .inr ⟨rfl, rfl⟩
    · rw [h1, h2] at he; exact absurd rfl he
/-- Bytes lie in memory. -/
def BAt (w : World) (sa : Option Addr) (l : List Int) : Prop :=
  ∀ i x, l[i]? = some x → ∃ blk off c T fr, sa = some ⟨blk, off, none⟩ ∧ w.heap[blk]? = some (.cells c T fr) ∧ c[off + ((i : Nat) : Int).toNat * 1]? = some (.int .u8 x)
theorem BAt.ext {w w' : World} {sa : Option Addr} {l : List Int} (h : BAt w sa l) (e : Ext [] w w') : BAt w' sa l := fun i s hi =>
  let ⟨blk, off, c, T, fr, h1, h2, h3⟩ := h i s hi
  ⟨blk, off, c, T, fr, h1, e.get h2, h3⟩
/-- A truth so far. -/
def TruT (m : Nat) (ws t : List Nat) (i : Nat) : Prop := t.length = i ∧ ∀ (j g w : Nat), t[j]? = some g → ws[j]? = some w → g ∈ clrL m w
theorem TruT.zero (m : Nat) (ws : List Nat) : TruT m ws [] 0 := ⟨rfl, fun j g w h => by simp at h⟩
theorem TruT.put {m : Nat} {ws t : List Nat} {i g w : Nat} (h : TruT m ws t i) (hw : ws[i]? = some w) (hg : g ∈ clrL m w) : TruT m ws (t ++ [g]) (i + 1) := by
  refine ⟨by rw [List.length_append, h.1]; rfl, fun j g' w' h1 h2 => ?_⟩
  rw [List.getElem?_append] at h1
  split at h1
  · exact h.2 j g' w' h1 h2
  · rename_i hj
    have hjl : j = i := by
      have := h.1
      have h3 := len_of h1
      simp at h3; omega
    subst hjl
    rw [h.1, Nat.sub_self] at h1
    rw [hw] at h2
    cases h1; cases h2; exact hg
theorem TruT.done {m : Nat} {ws t : List Nat} (h : TruT m ws t ws.length) : t ∈ truA m ws := tru_of h.1 h.2
end Go.RoyM
namespace Go.RoyM
open Go Go.Sy
/-- Whether two reports meet, by their ends. -/
def endB (x y : RepD) : Bool := decide (x.kd = y.kd) && decide (x.fi ≤ y.la) && decide (y.fi ≤ x.la)
theorem end_meet {d : RoyD} {x y : RepD} (hx : RepOk d x) (hy : RepOk d y) : endB x y = meetB x y := by
  have h1 := hx.f0; have h2 := hx.f1; have h3 := hx.l1; have h4 := hy.f0; have h5 := hy.f1; have h6 := hy.l1
  rw [Bool.eq_iff_iff, meet_iff hx hy]
  unfold endB hasB inI
  simp only [Bool.and_eq_true, decide_eq_true_eq, true_and]
  constructor
  · rintro ⟨⟨e, h7⟩, h8⟩
    refine ⟨(max x.fi y.fi).toNat, by omega, ⟨by omega, by omega⟩, e.symm, by omega, by omega⟩
  · rintro ⟨c, hc, h7, e, h8⟩
    exact ⟨⟨e.symm, by omega⟩, by omega⟩
def NoMeet (d : RoyD) : Prop := ∀ (i j : Nat) (x y : RepD), j < i → d.reps[i]? = some x → d.reps[j]? = some y → meetB x y = false
theorem no_two {d : RoyD} (hO : RoyOk d) (hn : NoMeet d) {k : Int} {a b c : Nat} (ha : clmB d k a c = true) (hb : clmB d k b c = true) : a = b := by
  unfold clmB at ha hb
  obtain ⟨x, hx, h1⟩ := List.any_eq_true.1 ha
  obtain ⟨y, hy, h2⟩ := List.any_eq_true.1 hb
  simp only [Bool.and_eq_true, decide_eq_true_eq] at h1 h2
  have hxo := hO.r x hx
  have hyo := hO.r y hy
  have hc12 : c < 12 := by have := hxo.l1; omega
  obtain ⟨i, hi⟩ := List.mem_iff_getElem?.1 hx
  obtain ⟨j, hj⟩ := List.mem_iff_getElem?.1 hy
  have key : ∀ {x y : RepD}, RepOk d x → RepOk d y → (x.kd = k ∧ x.fi ≤ c ∧ (c : Int) ≤ x.la) → (y.kd = k ∧ y.fi ≤ c ∧ (c : Int) ≤ y.la) → meetB x y = true := fun {x y} hxo hyo h1 h2 => by
    rw [meet_iff hxo hyo]
    refine ⟨c, hc12, ?_, ?_⟩
    · unfold hasB inI; simp only [Bool.and_eq_true, decide_eq_true_eq, true_and]; exact ⟨h1.2.1, h1.2.2⟩
    · unfold hasB inI; simp only [Bool.and_eq_true, decide_eq_true_eq]; exact ⟨by rw [h1.1, h2.1], h2.2.1, h2.2.2⟩
  rcases (show j < i ∨ j = i ∨ i < j by omega) with h | h | h
  · have h3 := hn i j x y h hi hj
    rw [key hxo hyo ⟨h1.1.1, h1.2⟩ ⟨h2.1.1, h2.2⟩] at h3; cases h3
  · subst h
    rw [hi] at hj; cases hj
    have := h1.1.2; have := h2.1.2; omega
  · have h3 := hn j i y x h hj hi
    rw [key hyo hxo ⟨h2.1.1, h2.2⟩ ⟨h1.1.1, h1.2⟩] at h3; cases h3
theorem sur_clm {d : RoyD} (hO : RoyOk d) (hn : NoMeet d) (k : Int) (g : Nat) : surN d k g = clm d k g := by
  apply Nat.eq_of_testBit_eq
  intro c
  rw [sur_bit hO, clm_bit hO]
  unfold surB
  cases hc : clmB d k g c
  · rfl
  · rw [Bool.true_and, decide_eq_true_eq, one_of (claL_nodup _ _ _ _) (claL_mem.2 ⟨clm_lt hO hc, hc⟩)]
    exact fun j hj => no_two hO hn (claL_mem.1 hj).2 hc
/-- The cards that the first agents claim. -/
def orC (d : RoyD) (k : Int) : Nat → Nat
  | 0 => 0
  | g + 1 => orC d k g ||| clm d k g
theorem orC_bit {d : RoyD} (k : Int) (c : Nat) : ∀ g, (orC d k g).testBit c = true → ∃ j, j < g ∧ (clm d k j).testBit c = true
  | 0, h => by simp [orC] at h
  | g + 1, h => by
    rw [orC, Nat.testBit_or, Bool.or_eq_true] at h
    rcases h with h | h
    · obtain ⟨j, hj, h1⟩ := orC_bit k c g h
      exact ⟨j, by omega, h1⟩
    · exact ⟨g, by omega, h⟩
theorem orC_lt {d : RoyD} (hO : RoyOk d) (k : Int) : ∀ g, orC d k g < 4096
  | 0 => by simp [orC]
  | g + 1 => or_lt (orC_lt hO k g) (clm_lt12 hO k g)
theorem orC_and {d : RoyD} (hO : RoyOk d) (hn : NoMeet d) (k : Int) (g : Nat) : orC d k g &&& clm d k g = 0 := by
  apply Nat.eq_of_testBit_eq
  intro c
  rw [Nat.testBit_and, Nat.zero_testBit]
  cases h1 : (orC d k g).testBit c
  · rfl
  · cases h2 : (clm d k g).testBit c
    · rfl
    · obtain ⟨j, hj, h3⟩ := orC_bit k c g h1
      rw [clm_bit hO] at h2 h3
      have := no_two hO hn h2 h3
      omega
theorem tru_one {m : Nat} : ∀ {ws : List Nat}, (∀ w ∈ ws, (clrL m w).length = 1) → (truA m ws).length = 1
  | [], _ => by simp [truA]
  | w :: ws, h => by
    have ih := tru_one (m := m) (ws := ws) fun x hx => h x (.tail _ hx)
    have h1 := h w (.head _)
    obtain ⟨g, hg⟩ : ∃ g, clrL m w = [g] := by
      match hl : clrL m w, h1 with
      | [g], _ => exact ⟨g, rfl⟩
    rw [truA, hg, List.flatMap_cons, List.flatMap_nil, List.append_nil, List.length_map, ih]
theorem all_one {d : RoyD} (hO : RoyOk d) (hn : NoMeet d) {k : Int} (he : allE d k = 0) : ∃ z, allV d k = (z, z) := by
  have h1 : (truL d k).length = 1 := tru_one fun w hw => by
    have h0 := sold_some hO k w hw
    unfold wsL at hw
    obtain ⟨y, hy, e⟩ := List.mem_map.1 hw
    obtain ⟨_, h3, _⟩ := soldT_mem.1 hy
    subst e
    rw [h3, who_clr hO] at h0 ⊢
    obtain ⟨g, hg⟩ := List.exists_mem_of_ne_nil _ h0
    have hnd : ((List.range d.terms.length).filter fun g => clmB d k g y.1).Nodup := List.Nodup.sublist List.filter_sublist List.nodup_range
    rw [one_of hnd hg]
    intro j hj
    exact no_two hO hn (List.mem_filter.1 hj).2 (List.mem_filter.1 hg).2
  obtain ⟨t, ht⟩ : ∃ t, truL d k = [t] := by
    match hl : truL d k, h1 with
    | [t], _ => exact ⟨t, rfl⟩
  refine ⟨totV d (priceN d k) (cnt (0, 0, 0, 0) t), ?_⟩
  rw [allV_ok he, reach_map, ht]; rfl
theorem openE_z {d : RoyD} {b : Bool} : openE d b = 0 ↔ royB d = true ∧ b = true := by
  unfold openE
  cases royB d <;> cases b <;> simp
theorem claV_ok {d : RoyD} (hO : RoyOk d) {g k : Nat} (hg : g < d.terms.length) (hk : k < d.prices.length) : claE d g k = 0 ∧ claV d g k = (surN d k g, clm d k g) := by
  have h1 : isAg d g = true := by unfold isAg inI; simp only [Bool.and_eq_true, decide_eq_true_eq]; omega
  have h2 : isKd d k = true := by unfold isKd inI; simp only [Bool.and_eq_true, decide_eq_true_eq]; omega
  have h3 : claE d g k = 0 := openE_z.2 ⟨royB_iff.2 hO, by rw [h1, h2]; rfl⟩
  exact ⟨h3, by unfold claV; rw [if_pos h3]; rfl⟩
theorem allE_ok {d : RoyD} (hO : RoyOk d) {k : Nat} (hk : k < d.prices.length) : allE d k = 0 := by
  have h2 : isKd d k = true := by unfold isKd inI; simp only [Bool.and_eq_true, decide_eq_true_eq]; omega
  exact openE_z.2 ⟨royB_iff.2 hO, h2⟩
theorem lea_cs {d : RoyD} (hO : RoyOk d) {k : Int} (he : allE d k = 0) : (leaV d k).length = (csL d k).length := by
  rw [leaV_ok he, cs_len]
  exact (tru_facts hO (lea_mem hO k)).2.2
theorem tw_none {d : RoyD} (hO : RoyOk d) (h0 : twF d.reps d.reps.length = none) : twA d = (0, 0) ∧ twE d = 4 := by
  have htw : twV d = none := by unfold twV; rw [royB_iff.2 hO, if_pos rfl]; exact h0
  exact ⟨by unfold twA; rw [htw]; rfl, by unfold twE; rw [royB_iff.2 hO, htw]; rfl⟩
theorem tw_some {d : RoyD} (hO : RoyOk d) {i j : Nat} (h0 : twF d.reps d.reps.length = some (i, j)) : twA d = (i, j) ∧ twE d = 0 := by
  have htw : twV d = some (i, j) := by unfold twV; rw [royB_iff.2 hO, if_pos rfl]; exact h0
  exact ⟨by unfold twA; rw [htw]; rfl, by unfold twE; rw [royB_iff.2 hO, htw]; rfl⟩
/-- No two reports meet among the first ones. -/
def NoT (d : RoyD) (n : Nat) : Prop := ∀ (i j : Nat) (x y : RepD), i < n → j < i → d.reps[i]? = some x → d.reps[j]? = some y → meetB x y = false
theorem NoT.next {d : RoyD} {n : Nat} {x : RepD} (h : NoT d n) (hx : d.reps[n]? = some x) (h2 : ∀ z, z < n → ∀ t, d.reps[z]? = some t → meetB x t = false) : NoT d (n + 1) := fun i j x' y hi hj h3 h4 => by
  rcases (show i < n ∨ i = n by omega) with h5 | h5
  · exact h i j x' y h5 hj h3 h4
  · subst h5; rw [hx] at h3; cases h3; exact h2 j hj y h4
theorem NoT.all {d : RoyD} (h : NoT d d.reps.length) : NoMeet d := fun i j x y hj hx hy => h i j x y (len_of hx) hj hx hy
end Go.RoyM
namespace Go.RoyM
open Go Go.Sy
theorem flat_get {α : Type} {enc : α → List Value} {n : Nat} (hn : ∀ x, (enc x).length = n) : ∀ {l : List α} {j : Nat} {v : Value}, (l.flatMap enc)[j]? = some v → ∃ i x r, l[i]? = some x ∧ (enc x)[r]? = some v ∧ j = i * n + r
  | [], j, v, h => by simp at h
  | y :: l, j, v, h => by
    rw [List.flatMap_cons, List.getElem?_append, hn y] at h
    split at h
    · exact ⟨0, y, j, rfl, h, by omega⟩
    · rename_i hj
      obtain ⟨i, x, r, h1, h2, h3⟩ := flat_get hn h
      refine ⟨i + 1, x, r, h1, h2, ?_⟩
      rw [Nat.add_mul, Nat.one_mul]; omega
theorem flat_len {α : Type} {enc : α → List Value} {n : Nat} (hn : ∀ x, (enc x).length = n) : ∀ l : List α, (l.flatMap enc).length = l.length * n
  | [] => by simp
  | y :: l => by rw [List.flatMap_cons, List.length_append, hn y, flat_len hn l, List.length_cons, Nat.add_mul, Nat.one_mul]; omega
theorem vals_of {α : Type} {enc : α → List Value} {n : Nat} (hn : ∀ x, (enc x).length = n) {w : World} {sa : Option Addr} {l : List α} (h : TAt n enc w sa l) : ValsIn w sa (l.flatMap enc) := by
  match l, h with
  | [], _ => exact .inl rfl
  | x :: l, h =>
    obtain ⟨blk, off, c, T, fr, h1, h2, _⟩ := h 0 x rfl
    refine .inr ⟨blk, off, c, T, fr, h1, h2, fun j v hj => ?_⟩
    obtain ⟨i, y, r, h3, h4, h5⟩ := flat_get hn hj
    obtain ⟨blk', off', c', T', fr', k1, k2, k3⟩ := h i y h3
    rw [h1] at k1; cases k1
    rw [h2] at k2; cases k2
    have := (cellsAt_get n _ _ k3).2 r v h4
    rw [Int.toNat_natCast] at this
    rw [h5, ← Nat.add_assoc]; exact this
theorem own_tat {α : Type} {enc : α → List Value} {n e : Nat} (hn : ∀ x, (enc x).length = n) {oa : Option Addr} {c m : Nat} {l : List α} {X : List (Nat × Obj)} {w : World} (h : OwnSl e n (.slice oa m c) m (l.flatMap enc) X) (hm : m = l.length) (hX : ∀ q ∈ X, w.heap[q.1]? = some q.2) : TAt n enc w oa l := fun i s hi => by
  have hl := len_of hi
  rcases h.2 with ⟨_, h2, _⟩ | ⟨B, cap, cur, h1, h2, _, _, h5, h6⟩
  · omega
  · cases h1
    refine ⟨B, 0, cur, e, (0, 0), rfl, hX (B, .cells cur e (0, 0)) (by rw [h2]; exact .head _), ?_⟩
    have key : ∀ r v, (enc s)[r]? = some v → cur[0 + ((i : Nat) : Int).toNat * n + r]? = some v := fun r v hr => by
      have hrl := len_of hr
      rw [hn] at hrl
      have h7 : (l.flatMap enc)[i * n + r]? = some v := by
        have gen : ∀ (l : List α) (i : Nat), l[i]? = some s → (l.flatMap enc)[i * n + r]? = some v := by
          intro l
          induction l with
          | nil => intro i h; simp at h
          | cons y l ih =>
            intro i h
            rw [List.flatMap_cons, List.getElem?_append, hn y]
            match i, h with
            | 0, h => cases h; rw [if_pos (by omega), Nat.zero_mul, Nat.zero_add]; exact hr
            | i + 1, h =>
              rw [if_neg (by rw [Nat.add_mul]; omega), show (i + 1) * n + r - n = i * n + r by rw [Nat.add_mul]; omega]
              exact ih i h
        exact gen l i hi
      rw [← h6, List.getElem?_take] at h7
      split at h7
      · rw [Int.toNat_natCast, Nat.zero_add, ← Array.getElem?_toList]; exact h7
      · cases h7
    have := cellsAt_of (c := cur) (enc s) (0 + ((i : Nat) : Int).toNat * n) key
    rwa [hn] at this
theorem pc_mono : ∀ (k : Nat) {a b : Nat}, k ≤ 64 → a < 2 ^ k → b < 2 ^ k → (∀ i, a.testBit i = true → b.testBit i = true) → pc a ≤ pc b
  | 0, a, b, _, ha, hb, _ => by
    rw [Nat.pow_zero] at ha hb
    rw [show a = 0 by omega, show b = 0 by omega]; exact Nat.le_refl _
  | k + 1, a, b, hk, ha, hb, h => by
    have h64 : 2 ^ (k + 1) ≤ 2 ^ 64 := Nat.pow_le_pow_right (by omega) hk
    rw [Nat.pow_succ] at ha hb h64
    have ih := pc_mono k (a := a / 2) (b := b / 2) (by omega) (by omega) (by omega) fun i hi => by
      rw [Nat.testBit_div_two] at hi ⊢
      exact h (i + 1) hi
    rw [pc_step (n := a) (by omega), pc_step (n := b) (by omega)]
    have h0 := h 0
    simp only [Nat.testBit_zero, decide_eq_true_eq] at h0
    omega
theorem com_mono {t : TermD} (ht : TermOk t) {price : Int} (hp : 0 ≤ price) {m n : Nat} (h : m ≤ n) : comV t price m ≤ comV t price n := by
  have key : perN t m ≤ perN t n := by
    induction n with
    | zero => rw [show m = 0 by omega]; exact Int.le_refl _
    | succ n ih =>
      by_cases e : m = n + 1
      · rw [e]; exact Int.le_refl _
      · have h1 := ih (by omega)
        have h2 := perN_step (t := t) (many := ((n + 1 : Nat) : Int)) (by omega) ht.u0
        rw [show ((n + 1 : Nat) : Int) - 1 = (n : Int) by omega] at h2
        have := ht.f0; have := ht.b0
        split at h2 <;> omega
  unfold comV
  exact Int.ediv_le_ediv (by omega) (Int.mul_le_mul_of_nonneg_right key hp)
theorem sum_le {α : Type} {f g : α → Int} : ∀ {l : List α}, (∀ x ∈ l, f x ≤ g x) → sumI (l.map f) ≤ sumI (l.map g)
  | [], _ => by simp
  | x :: l, h => by
    have h1 := h x (.head _)
    have h2 := sum_le (l := l) fun y hy => h y (.tail _ hy)
    rw [List.map_cons, List.map_cons, sumI_cons, sumI_cons]; omega
def addR (d : RoyD) (n : RepD) : RoyD := ⟨d.terms, d.prices, d.shares, d.reps ++ [n], d.paid⟩
/-- Part of another report. -/
structure PartOf (d : RoyD) (r n : RepD) : Prop where
  mem : r ∈ d.reps
  kd : n.kd = r.kd
  fi : n.fi = r.fi
  la : n.la ≤ r.la
  ok : RepOk d n
theorem add_ok {d : RoyD} (hO : RoyOk d) (hl : d.reps.length < 20) {n : RepD} (hn : RepOk d n) : RoyOk (addR d n) := by
  refine ⟨hO.nt, hO.np, hO.ns, by show (d.reps ++ [n]).length ≤ 20; rw [List.length_append]; show d.reps.length + 1 ≤ 20; omega, hO.npd, hO.t, hO.pd, hO.p, hO.s, fun x hx => ?_⟩
  have key : ∀ {x : RepD}, RepOk d x → RepOk (addR d n) x := fun h => ⟨h.a0, h.a1, h.k0, h.k1, h.f0, h.f1, h.l1⟩
  rcases List.mem_append.1 (show x ∈ d.reps ++ [n] from hx) with hx | hx
  · exact key (hO.r x hx)
  · rw [List.mem_singleton.1 hx]; exact key hn
def inR (n : RepD) (k : Int) (g c : Nat) : Bool := (decide (n.kd = k) && decide (n.ag = (g : Int))) && (decide (n.fi ≤ c) && decide ((c : Int) ≤ n.la))
theorem clm_add (d : RoyD) (n : RepD) (k : Int) (g c : Nat) : clmB (addR d n) k g c = (clmB d k g c || inR n k g c) := by
  unfold clmB
  show (d.reps ++ [n]).any _ = _
  rw [List.any_append, List.any_cons, List.any_nil, Bool.or_false]; rfl
section
variable {d : RoyD} {r n : RepD}
theorem part_old (hP : PartOf d r n) (hO : RoyOk d) {k : Int} {g c : Nat} (h : inR n k g c = true) : clmB d k r.ag.toNat c = true := by
  unfold inR at h
  simp only [Bool.and_eq_true, decide_eq_true_eq] at h
  unfold clmB
  rw [List.any_eq_true]
  have h1 := (hO.r r hP.mem).a0
  have h2 := hP.kd; have h3 := hP.fi; have h4 := hP.la
  refine ⟨r, hP.mem, ?_⟩
  simp only [Bool.and_eq_true, decide_eq_true_eq]
  omega
theorem in_ag {k : Int} {g c : Nat} (h : inR n k g c = true) : n.ag = g := by
  unfold inR at h
  simp only [Bool.and_eq_true, decide_eq_true_eq] at h
  exact h.1.2
theorem clm_same (hP : PartOf d r n) (hO : RoyOk d) (he : n.ag = r.ag) (k : Int) (g c : Nat) : clmB (addR d n) k g c = clmB d k g c := by
  rw [clm_add]
  cases h : inR n k g c
  · rw [Bool.or_false]
  · have h1 := part_old hP hO h
    have h2 := in_ag h
    rw [show r.ag.toNat = g by omega] at h1
    rw [h1]; rfl
theorem clm_other {k : Int} {g : Nat} (hg : ¬ n.ag = (g : Int)) (c : Nat) : clmB (addR d n) k g c = clmB d k g c := by
  rw [clm_add]
  cases h : inR n k g c
  · rw [Bool.or_false]
  · exact absurd (in_ag h) hg
theorem sur_add (hP : PartOf d r n) (hO : RoyOk d) {k : Int} {g c : Nat} (h : surB (addR d n) k g c = true) : surB d k g c = true := by
  unfold surB at h ⊢
  rw [Bool.and_eq_true, decide_eq_true_eq] at h ⊢
  obtain ⟨h1, h2⟩ := h
  have hg : g < d.terms.length := by
    rw [clm_add, Bool.or_eq_true] at h1
    rcases h1 with h1 | h1
    · exact clm_lt hO h1
    · have := in_ag h1; have := hP.ok.a1; omega
  rw [one_of (claL_nodup _ _ _ _) ((claL_mem (d := addR d n)).2 ⟨hg, h1⟩)] at h2
  have hsub : ∀ j, clmB d k j c = true → j = g := fun j hj => h2 j ((claL_mem (d := addR d n)).2 ⟨clm_lt hO hj, by rw [clm_add, hj]; rfl⟩)
  have h3 : clmB d k g c = true := by
    rw [clm_add, Bool.or_eq_true] at h1
    rcases h1 with h1 | h1
    · exact h1
    · have h4 := part_old hP hO h1
      rw [hsub _ h4] at h4; exact h4
  refine ⟨h3, (one_of (claL_nodup _ _ _ _) (claL_mem.2 ⟨hg, h3⟩)).2 fun j hj => hsub j (claL_mem.1 hj).2⟩
theorem sur_own (hO : RoyOk d) {k : Int} {g c : Nat} (hg : n.ag = (g : Int)) (h : surB d k g c = true) : surB (addR d n) k g c = true := by
  unfold surB at h ⊢
  rw [Bool.and_eq_true, decide_eq_true_eq] at h ⊢
  obtain ⟨h1, h2⟩ := h
  have hgl := clm_lt hO h1
  rw [one_of (claL_nodup _ _ _ _) (claL_mem.2 ⟨hgl, h1⟩)] at h2
  have h3 : clmB (addR d n) k g c = true := by rw [clm_add, h1]; rfl
  refine ⟨h3, (one_of (claL_nodup _ _ _ _) ((claL_mem (d := addR d n)).2 ⟨hgl, h3⟩)).2 fun j hj => ?_⟩
  have h4 := ((claL_mem (d := addR d n)).1 hj).2
  rw [clm_add, Bool.or_eq_true] at h4
  rcases h4 with h4 | h4
  · exact h2 j (claL_mem.2 ⟨clm_lt hO h4, h4⟩)
  · have := in_ag h4; omega
theorem owe_ok (hO : RoyOk d) {g : Nat} (hg : g < d.terms.length) : oweE d g = 0 ∧ oweV d g = (sumI (lowL d g d.prices.length), sumI (higL d g d.prices.length)) := by
  have h1 : isAg d g = true := by unfold isAg inI; simp only [Bool.and_eq_true, decide_eq_true_eq]; omega
  have h3 : oweE d g = 0 := openE_z.2 ⟨royB_iff.2 hO, h1⟩
  exact ⟨h3, by unfold oweV; rw [if_pos h3]; rfl⟩
theorem com_le (hO : RoyOk d) {g k : Nat} (hg : g < d.terms.length) (hk : k < d.prices.length) {a b : Nat} (h : a ≤ b) : comV (termN d g) (d.prices.getD k 0) (a : Nat) ≤ comV (termN d g) (d.prices.getD k 0) (b : Nat) := by
  obtain ⟨t, ht⟩ := ex_of hg
  obtain ⟨x, hx⟩ := ex_of hk
  rw [term_at ht, getD_at hx]
  exact com_mono (hO.t t (List.mem_of_getElem? ht)) (hO.p x (List.mem_of_getElem? hx)).1 h
/-- What each agent is owed, with the report more. -/
theorem owe_more (hP : PartOf d r n) (hO : RoyOk d) (hl : d.reps.length < 20) {g : Nat} (hg : g < d.terms.length) :
    (oweV (addR d n) g).1 ≤ (oweV d g).1 ∧ (oweV d g).2 ≤ (oweV (addR d n) g).2 ∧ (¬ n.ag = (g : Int) → (oweV (addR d n) g).2 = (oweV d g).2) ∧ (n.ag = (g : Int) → (oweV (addR d n) g).1 = (oweV d g).1) ∧ (n.ag = r.ag → oweV (addR d n) g = oweV d g) := by
  have hO' := add_ok hO hl hP.ok
  rw [(owe_ok hO hg).2, (owe_ok hO' (show g < (addR d n).terms.length from hg)).2]
  have hsl : ∀ k : Int, pc (surN (addR d n) k g) ≤ pc (surN d k g) := fun k => pc_mono 12 (by omega) (sur_lt hO' k g) (sur_lt hO k g) fun i hi => by
    rw [sur_bit hO'] at hi; rw [sur_bit hO]; exact sur_add hP hO hi
  have hcl : ∀ k : Int, pc (clm d k g) ≤ pc (clm (addR d n) k g) := fun k => pc_mono 12 (by omega) (clm_lt12 hO k g) (clm_lt12 hO' k g) fun i hi => by
    rw [clm_bit hO] at hi; rw [clm_bit hO', clm_add, hi]; rfl
  have hce : ¬ n.ag = (g : Int) → ∀ k : Int, clm (addR d n) k g = clm d k g := fun h k => Nat.eq_of_testBit_eq fun i => by rw [clm_bit hO, clm_bit hO', clm_other h]
  have hse : n.ag = (g : Int) → ∀ k : Int, surN (addR d n) k g = surN d k g := fun h k => Nat.eq_of_testBit_eq fun i => by
    rw [sur_bit hO, sur_bit hO', Bool.eq_iff_iff]
    exact ⟨sur_add hP hO, sur_own hO h⟩
  have lowE : ∀ d' : RoyD, d'.terms = d.terms → d'.prices = d.prices → d'.paid = d.paid → lowL d' g d'.prices.length = -(d.paid.getD g 0) :: (List.range d.prices.length).map fun k => comV (termN d g) (d.prices.getD k 0) (pc (surN d' k g) : Nat) := fun d' h1 h2 h3 => by unfold lowL termN; rw [h1, h2, h3]
  have higE : ∀ d' : RoyD, d'.terms = d.terms → d'.prices = d.prices → d'.paid = d.paid → higL d' g d'.prices.length = -(d.paid.getD g 0) :: (List.range d.prices.length).map fun k => comV (termN d g) (d.prices.getD k 0) (pc (clm d' k g) : Nat) := fun d' h1 h2 h3 => by unfold higL termN; rw [h1, h2, h3]
  rw [lowE d rfl rfl rfl, lowE (addR d n) rfl rfl rfl, higE d rfl rfl rfl, higE (addR d n) rfl rfl rfl]
  refine ⟨?_, ?_, fun h => ?_, fun h => ?_, fun h => ?_⟩
  · show sumI _ ≤ sumI _
    rw [sumI_cons, sumI_cons]
    have := sum_le (l := List.range d.prices.length) (f := fun k => comV (termN d g) (d.prices.getD k 0) (pc (surN (addR d n) k g) : Nat)) (g := fun k => comV (termN d g) (d.prices.getD k 0) (pc (surN d k g) : Nat)) fun k hk => com_le hO hg (List.mem_range.1 hk) (hsl k)
    omega
  · show sumI _ ≤ sumI _
    rw [sumI_cons, sumI_cons]
    have := sum_le (l := List.range d.prices.length) (f := fun k => comV (termN d g) (d.prices.getD k 0) (pc (clm d k g) : Nat)) (g := fun k => comV (termN d g) (d.prices.getD k 0) (pc (clm (addR d n) k g) : Nat)) fun k hk => com_le hO hg (List.mem_range.1 hk) (hcl k)
    omega
  · show sumI _ = sumI _
    have e : (fun k : Nat => comV (termN d g) (d.prices.getD k 0) (pc (clm (addR d n) k g) : Nat)) = fun k : Nat => comV (termN d g) (d.prices.getD k 0) (pc (clm d k g) : Nat) := funext fun k => by rw [hce h]
    rw [e]
  · show sumI _ = sumI _
    have e : (fun k : Nat => comV (termN d g) (d.prices.getD k 0) (pc (surN (addR d n) k g) : Nat)) = fun k : Nat => comV (termN d g) (d.prices.getD k 0) (pc (surN d k g) : Nat) := funext fun k => by rw [hse h]
    rw [e]
  · have hc : ∀ (k : Int) (j c : Nat), clmB (addR d n) k j c = clmB d k j c := clm_same hP hO h
    have e1 : ∀ k : Int, clm (addR d n) k g = clm d k g := fun k => Nat.eq_of_testBit_eq fun i => by rw [clm_bit hO, clm_bit hO', hc]
    have e2 : ∀ k : Int, surN (addR d n) k g = surN d k g := fun k => Nat.eq_of_testBit_eq fun i => by
      rw [sur_bit hO, sur_bit hO']
      unfold surB
      rw [claL_eq, claL_eq, hc]
      have e3 : (fun j => clmB (addR d n) k j i) = fun j => clmB d k j i := funext fun j => hc k j i
      rw [e3]; rfl
    have e4 : (fun k : Nat => comV (termN d g) (d.prices.getD k 0) (pc (clm (addR d n) k g) : Nat)) = fun k : Nat => comV (termN d g) (d.prices.getD k 0) (pc (clm d k g) : Nat) := funext fun k => by rw [e1]
    have e5 : (fun k : Nat => comV (termN d g) (d.prices.getD k 0) (pc (surN (addR d n) k g) : Nat)) = fun k : Nat => comV (termN d g) (d.prices.getD k 0) (pc (surN d k g) : Nat) := funext fun k => by rw [e2]
    rw [e4, e5]
end
theorem ws_map (d : RoyD) (k : Int) : ∀ n, (soldT d k n).map Prod.snd = (csT d k n).map (whoN d k)
  | 0 => rfl
  | n + 1 => by
    have ih := ws_map d k n
    unfold csT at ih ⊢
    rw [soldT, List.map_append, List.map_append, List.map_append, ih]
    split <;> rfl
theorem tru_mono {m : Nat} {f f' : Nat → Nat} : ∀ {cs : List Nat}, (∀ c ∈ cs, ∀ g, g ∈ clrL m (f c) → g ∈ clrL m (f' c)) → ∀ t, t ∈ truA m (cs.map f) → t ∈ truA m (cs.map f')
  | [], _, t, h => h
  | c :: cs, hs, t, h => by
    rw [List.map_cons, truA] at h ⊢
    obtain ⟨g, hg, h⟩ := List.mem_flatMap.1 h
    obtain ⟨s, h1, rfl⟩ := List.mem_map.1 h
    exact List.mem_flatMap.2 ⟨g, hs c (.head _) g hg, List.mem_map.2 ⟨s, tru_mono (fun c hc => hs c (.tail _ hc)) s h1, rfl⟩⟩
theorem tot_congr {d d' : RoyD} (h : d'.terms = d.terms) (x : Int) (n : Cts) : totV d' x n = totV d x n := by
  unfold totV
  rw [h]
  have : ∀ g, totF d' x n g = totF d x n g := fun g => by
    induction g with
    | zero => rfl
    | succ g ih => rw [totF, totF, ih, h]
  exact this _
theorem lo_sub {l m : List Int} (hn : l ≠ []) (h : ∀ x ∈ l, x ∈ m) : loL m ≤ loL l ∧ hiL l ≤ hiL m := by
  have hm : m ≠ [] := fun e => by
    obtain ⟨x, hx⟩ := List.exists_mem_of_ne_nil l hn
    have := h x hx; rw [e] at this; cases this
  exact ⟨(loL_spec hm).2 _ (h _ (loL_spec hn).1), (hiL_spec hm).2 _ (h _ (hiL_spec hn).1)⟩
theorem cs_add {d : RoyD} {r n : RepD} (hP : PartOf d r n) (hO : RoyOk d) (hO' : RoyOk (addR d n)) (k : Int) : ∀ m, csT (addR d n) k m = csT d k m
  | 0 => rfl
  | m + 1 => by
    have ih := cs_add hP hO hO' k m
    have hiff : whoN (addR d n) k m = 0 ↔ whoN d k m = 0 := by
      rw [sold_iff hO', sold_iff hO]
      constructor
      · intro h
        have h1 := List.eq_nil_of_length_eq_zero h
        cases h2 : claL d k m d.terms.length with
        | nil => rfl
        | cons j l =>
          have hj : j ∈ claL d k m d.terms.length := by rw [h2]; exact .head _
          obtain ⟨h3, h4⟩ := claL_mem.1 hj
          have : j ∈ claL (addR d n) k m (addR d n).terms.length := (claL_mem (d := addR d n)).2 ⟨h3, by rw [clm_add, h4]; rfl⟩
          rw [h1] at this; cases this
      · intro h
        have h1 := List.eq_nil_of_length_eq_zero h
        cases h2 : claL (addR d n) k m (addR d n).terms.length with
        | nil => rfl
        | cons j l =>
          have hj : j ∈ claL (addR d n) k m (addR d n).terms.length := by rw [h2]; exact .head _
          obtain ⟨h3, h4⟩ := (claL_mem (d := addR d n)).1 hj
          rw [clm_add, Bool.or_eq_true] at h4
          rcases h4 with h4 | h4
          · have : j ∈ claL d k m d.terms.length := claL_mem.2 ⟨h3, h4⟩
            rw [h1] at this; cases this
          · have h5 := part_old hP hO h4
            have : r.ag.toNat ∈ claL d k m d.terms.length := claL_mem.2 ⟨clm_lt hO h5, h5⟩
            rw [h1] at this; cases this
    by_cases hz : whoN d k m = 0
    · rw [csT_no hz, csT_no (hiff.2 hz), ih]
    · rw [csT_put hz, csT_put (fun h => hz (hiff.1 h)), ih]
/-- What all have together, with the report more. -/
theorem all_more {d : RoyD} {r n : RepD} (hP : PartOf d r n) (hO : RoyOk d) (hl : d.reps.length < 20) {k : Nat} (hk : k < d.prices.length) : (allV (addR d n) k).1 ≤ (allV d k).1 ∧ (allV d k).2 ≤ (allV (addR d n) k).2 := by
  have hO' := add_ok hO hl hP.ok
  have v1 := allV_ok (allE_ok hO hk)
  have v2 := allV_ok (allE_ok hO' (show k < (addR d n).prices.length from hk))
  rw [reach_map] at v1 v2
  have hne : (truL d k).map (fun t => totV d (priceN d k) (cnt (0, 0, 0, 0) t)) ≠ [] := by simpa using truL_ne hO k
  have hsub := lo_sub hne (m := (truL (addR d n) k).map fun t => totV (addR d n) (priceN (addR d n) k) (cnt (0, 0, 0, 0) t)) fun x hx => by
    obtain ⟨t, ht, rfl⟩ := List.mem_map.1 hx
    refine List.mem_map.2 ⟨t, ?_, tot_congr (d := d) (d' := addR d n) rfl (priceN d k) (cnt (0, 0, 0, 0) t)⟩
    have e1 : truL d k = truA d.terms.length ((csT d k 12).map (whoN d k)) := by unfold truL wsL soldL; rw [ws_map]
    have e2 : truL (addR d n) k = truA d.terms.length ((csT d k 12).map (whoN (addR d n) k)) := by unfold truL wsL soldL; rw [ws_map, cs_add hP hO hO']; rfl
    rw [e1] at ht
    rw [e2]
    refine tru_mono (fun c _ g hg => ?_) t ht
    rw [who_clr hO, List.mem_filter] at hg
    have h9 := who_clr hO' k c
    have h8 : clrL d.terms.length (whoN (addR d n) k c) = (List.range d.terms.length).filter fun g => clmB (addR d n) k g c := h9
    rw [h8, List.mem_filter]
    exact ⟨hg.1, by rw [clm_add, hg.2]; rfl⟩
  rw [v1, v2]
  dsimp only
  exact hsub
end Go.RoyM
namespace Go.Proofs.Ytkfkifkdncdhoaa
open Go Go.Sy Go.RoyM
theorem fm_snoc {α : Type} (f : α → List Value) (l : List α) (x : α) : (l ++ [x]).flatMap f = l.flatMap f ++ f x := by
  rw [List.flatMap_append]; simp
theorem rp_1c (l : List RepD) : (l.flatMap rpC).all (·.oneCell') = true := by
  rw [List.all_eq_true]
  intro v hv
  obtain ⟨x, _, hx⟩ := List.mem_flatMap.1 hv
  simp only [rpC, List.mem_cons, List.not_mem_nil, or_false] at hx
  rcases hx with rfl | rfl | rfl | rfl <;> rfl
theorem own_cap {e size m c : Nat} {oa : Option Addr} {xs : List Value} {X : List (Nat × Obj)} (h : OwnSl e size (.slice oa m c) m xs X) : m ≤ c := by
  rcases h.2 with ⟨h1, h2, _⟩ | ⟨B, cap, cur, h1, _, h3, _⟩
  · omega
  · cases h1; exact h3
set_option maxRecDepth 100000 in
set_option maxHeartbeats 4000000 in
theorem p12 (d : RoyD) (p : Pl) (z1 z2 : Int) (u : World) (hR : RoyIn u d p) (hz1 : 0 ≤ z1 ∧ z1 ≤ 255) (hz2 : 0 ≤ z2 ∧ z2 ≤ 255) : Calls Try.prog 12 #[.agg (royC d p), .int .u8 z1, .int .u8 z2] u (Ret fun v w' => v = .bool true ∧ Ext [] u w') := by
  refine calls_of Try.func12 rfl rfl (fun a hf => ?_)
  have hh := Hp.init u []
  obtain ⟨st, sp, ss, sr, sd, ct, cp, cs, cr, cd⟩ := p
  refine sy_sq ?_
  refine o_box hf hh ?_; clear hf hh a; intro B3 a w hf hh
  refine o_v hf hh (yv_assign rfl) ?_; clear hf a; intro a hf
  refine o_end ?_
  refine sy_seq ?_
  refine sy_sq ?_
  refine o_v hf hh (y_lds Try.ag_37 rfl) ?_; clear hf a; intro a hf
  refine o_call hf Try.en_20 rfl rfl rfl (p20 d _ _ (hR.ext hh.ext)) ?_; clear hf a; intro v a w hR hf
  obtain ⟨rfl, hx⟩ := hR; replace hh := hh.more hx; clear hx
  refine o_v hf hh (yv_move rfl) ?_; clear hf a; intro a hf
  refine guard_split hf (t := 22) rfl (fun hg2 => ?_) (fun hg2 => ?_)
  ·have hG2 := hg2; try simp only [gS] at hG2
   refine o_off hf ?_; clear hf a; intro a hf
   refine o_off hf ?_; clear hf a; intro a hf
   refine o_off hf ?_; clear hf a; intro a hf
   refine o_v hf hh (y_pt rfl rfl) ?_; clear hf a; intro a hf
   refine o_v hf hh (yv_move rfl) ?_; clear hf a; intro a hf
   refine o_off hf ?_; clear hf a; intro a hf
   refine o_off hf ?_; clear hf a; intro a hf
   refine o_off hf ?_; clear hf a; intro a hf
   refine o_off hf ?_; clear hf a; intro a hf
   refine o_v hf hh (y_pt rfl rfl) ?_; clear hf a; intro a hf
   refine o_v hf hh (yv_move rfl) ?_; clear hf a; intro a hf
   refine o_off hf ?_; clear hf a; intro a hf
   refine o_off hf ?_; clear hf a; intro a hf
   refine o_off hf ?_; clear hf a; intro a hf
   refine o_off hf ?_; clear hf a; intro a hf
   refine o_v hf hh (y_pt rfl rfl) ?_; clear hf a; intro a hf
   refine o_end ?_
   refine c_t hf ?_
   refine sy_sq ?_
   refine o_call hf Try.en_14 rfl rfl rfl (p14 _) ?_; clear hf a; intro v a w hR hf
   obtain ⟨rfl, hx⟩ := hR; replace hh := hh.more hx; clear hx
   refine o_v hf hh (yv_assign rfl) ?_; clear hf a; intro a hf
   refine o_end ?_
   refine sy_ret ?_
   refine then_r ?_
   refine ret_r hf rfl rfl ?_
   first
     | exact ⟨rfl, hh.ext⟩
     | exact ⟨rfl, hx0.trans hh.ext⟩
  ·have hG2 := hg2; try simp only [gS] at hG2
   have hA := hR.at (by assumption)
   refine o_v hf hh (y_lds Try.ag_37 rfl) ?_; clear hf a; intro a hf
   refine o_call hf Try.en_40 rfl rfl rfl (p40 d _ _ (hA.ext hh.ext)) ?_; clear hf a; intro v a w hR hf
   obtain ⟨rfl, hx⟩ := hR; replace hh := hh.more hx; clear hx
   refine o_v hf hh (yv_not rfl) ?_; clear hf a; intro a hf
   refine o_v hf hh (y_pf rfl rfl) ?_; clear hf a; intro a hf
   refine o_v hf hh (yv_move rfl) ?_; clear hf a; intro a hf
   refine guard_split hf (t := 27) rfl (fun hg5 => ?_) (fun hg5 => ?_)
   ·have hG5 := hg5; try simp only [gS] at hG5
    refine o_off hf ?_; clear hf a; intro a hf
    refine o_off hf ?_; clear hf a; intro a hf
    refine o_off hf ?_; clear hf a; intro a hf
    refine o_off hf ?_; clear hf a; intro a hf
    refine o_v hf hh (y_pt rfl rfl) ?_; clear hf a; intro a hf
    refine o_v hf hh (yv_move rfl) ?_; clear hf a; intro a hf
    refine o_off hf ?_; clear hf a; intro a hf
    refine o_off hf ?_; clear hf a; intro a hf
    refine o_off hf ?_; clear hf a; intro a hf
    refine o_off hf ?_; clear hf a; intro a hf
    refine o_v hf hh (y_pt rfl rfl) ?_; clear hf a; intro a hf
    refine o_end ?_
    refine c_t hf ?_
    refine sy_sq ?_
    refine o_call hf Try.en_14 rfl rfl rfl (p14 _) ?_; clear hf a; intro v a w hR hf
    obtain ⟨rfl, hx⟩ := hR; replace hh := hh.more hx; clear hx
    refine o_v hf hh (yv_assign rfl) ?_; clear hf a; intro a hf
    refine o_end ?_
    refine sy_ret ?_
    refine then_r ?_
    refine ret_r hf rfl rfl ?_
    first
      | exact ⟨rfl, hh.ext⟩
      | exact ⟨rfl, hx0.trans hh.ext⟩
   ·have hG5 := hg5; try simp only [gS] at hG5
    refine o_v hf hh (yv_fieldAddr Try.fo_37_3 rfl) ?_; clear hf a; intro a hf
    refine o_v hf hh (y_ld Try.sc_35 rfl) ?_; clear hf a; intro a hf
    refine o_v hf hh (yv_len Try.se_35 rfl) ?_; clear hf a; intro a hf
    refine o_v hf hh (yv_bin rfl rfl rfl) ?_; clear hf a; intro a hf
    refine o_v hf hh (y_pf rfl rfl) ?_; clear hf a; intro a hf
    refine o_v hf hh (yv_move rfl) ?_; clear hf a; intro a hf
    refine guard_split hf (t := 33) rfl (fun hg8 => ?_) (fun hg8 => ?_)
    ·have hG8 := hg8; try simp only [gS] at hG8
     refine o_off hf ?_; clear hf a; intro a hf
     refine o_off hf ?_; clear hf a; intro a hf
     refine o_off hf ?_; clear hf a; intro a hf
     refine o_off hf ?_; clear hf a; intro a hf
     refine o_v hf hh (y_pt rfl rfl) ?_; clear hf a; intro a hf
     refine o_end ?_
     refine c_t hf ?_
     refine sy_sq ?_
     refine o_call hf Try.en_14 rfl rfl rfl (p14 _) ?_; clear hf a; intro v a w hR hf
     obtain ⟨rfl, hx⟩ := hR; replace hh := hh.more hx; clear hx
     refine o_v hf hh (yv_assign rfl) ?_; clear hf a; intro a hf
     refine o_end ?_
     refine sy_ret ?_
     refine then_r ?_
     refine ret_r hf rfl rfl ?_
     first
       | exact ⟨rfl, hh.ext⟩
       | exact ⟨rfl, hx0.trans hh.ext⟩
    ·have hG8 := hg8; try simp only [gS] at hG8
     refine o_v hf hh (yv_fieldAddr Try.fo_37_3 rfl) ?_; clear hf a; intro a hf
     refine o_v hf hh (y_ld Try.sc_35 rfl) ?_; clear hf a; intro a hf
     refine o_v hf hh (yv_len Try.se_35 rfl) ?_; clear hf a; intro a hf
     refine o_v hf hh (yv_bin rfl rfl rfl) ?_; clear hf a; intro a hf
     refine o_v hf hh (y_pf rfl rfl) ?_; clear hf a; intro a hf
     refine o_end ?_
     refine sy_cond hf rfl (fun hg11 => ?_) (fun hg11 => ?_)
     ·have hG11 := hg11; try simp only [gS] at hG11
      refine sy_sq ?_
      refine o_call hf Try.en_14 rfl rfl rfl (p14 _) ?_; clear hf a; intro v a w hR hf
      obtain ⟨rfl, hx⟩ := hR; replace hh := hh.more hx; clear hx
      refine o_v hf hh (yv_assign rfl) ?_; clear hf a; intro a hf
      refine o_end ?_
      refine sy_ret ?_
      refine then_r ?_
      refine ret_r hf rfl rfl ?_
      first
        | exact ⟨rfl, hh.ext⟩
        | exact ⟨rfl, hx0.trans hh.ext⟩
     ·have hG11 := hg11; try simp only [gS] at hG11
      refine sy_skip ?_
      refine then_n ?_
      refine sy_seq ?_
      have hA := hR.at (by assumption)
      have hok : royB d = true := by assumption
      have hO := royB_iff.1 hok
      have hnt := hO.nt; have hnp := hO.np; have hnr := hO.nr
      have hr1 : 1 ≤ d.reps.length := by omega
      have hr2 : d.reps.length < 20 := by omega
      obtain ⟨wi, hwi⟩ : ∃ wi : Nat, (wi : Int) = z1 % (d.reps.length : Nat) := ⟨(z1 % (d.reps.length : Nat)).toNat, by have := Int.emod_nonneg z1 (show ((d.reps.length : Nat) : Int) ≠ 0 by omega); omega⟩
      have hwl : wi < d.reps.length := by have := Int.emod_lt_of_pos z1 (show (0 : Int) < (d.reps.length : Nat) by omega); omega
      obtain ⟨r, hr⟩ := ex_of hwl
      have hro := hO.r r (List.mem_of_getElem? hr)
      have o1 := hro.a0; have o2 := hro.a1; have o3 := hro.k0; have o4 := hro.k1; have o5 := hro.f0; have o6 := hro.f1; have o7 := hro.l1
      obtain ⟨ga, hga⟩ : ∃ ga : Nat, (ga : Int) = z2 % (d.terms.length : Nat) := ⟨(z2 % (d.terms.length : Nat)).toNat, by have := Int.emod_nonneg z2 (show ((d.terms.length : Nat) : Int) ≠ 0 by omega); omega⟩
      have hgl : ga < d.terms.length := by have := Int.emod_lt_of_pos z2 (show (0 : Int) < (d.terms.length : Nat) by omega); omega
      obtain ⟨lx, hlx⟩ : ∃ lx, lx = z2 / 8 % (r.la - r.fi + 1) := ⟨_, rfl⟩
      have hl0 := Int.emod_nonneg (z2 / 8) (show r.la - r.fi + 1 ≠ 0 by omega)
      have hl1 := Int.emod_lt_of_pos (z2 / 8) (show 0 < r.la - r.fi + 1 by omega)
      rw [← hlx] at hl0 hl1
      obtain ⟨n, hn⟩ : ∃ n : RepD, n = ⟨ga, r.kd, r.fi, r.fi + lx⟩ := ⟨_, rfl⟩
      have hP : PartOf d r n := by subst hn; exact ⟨List.mem_of_getElem? hr, rfl, rfl, by show r.fi + lx ≤ r.la; omega, ⟨by show (0 : Int) ≤ ga; omega, by show (ga : Int) < _; omega, o3, o4, o5, by show r.fi ≤ r.fi + lx; omega, by show r.fi + lx < 12; omega⟩⟩
      have hO' := add_ok hO hr2 hP.ok
      have hag : n.ag = (ga : Int) := by rw [hn]
      obtain ⟨blk, off, cc, T, fr, e, hb, hc⟩ := hA.rp wi r hr; dsimp only at e; subst e
      refine sy_ops ?_
      refine o_v hf hh (y_lds Try.ag_37 rfl) ?_; clear hf a; intro a hf
      refine o_alloc hf hh Try.ze_37 ?_; clear hf hh a; intro B7 a w hf hh
      refine o_store hf hh Try.sz_37 fun w hh => ?_
      refine o_end ?_
      refine sy_seq ?_
      refine sy_tree1 (.p 0 (.q 0 1 (.p 2 (.p 3 (.p 4 (.q 0 5 (.p 6 (.p 7 (.p 8 (.q 0 9 (.e1 10 (.e1 11 (.fin))))))))))))) [11] Try.follows (by kernel_rfl) hh (fun w hh => ?_)
      refine mc_p rfl   hf (yv_fieldAddr Try.fo_37_3 rfl) (.inl rfl) rfl rfl ?_; clear hf a; intro a hf
      refine mc_q rfl rfl hh hf (y_ld Try.sc_35 rfl) (.inl rfl) rfl rfl ?_; clear hf a; intro a hf
      refine mc_p rfl   hf (yv_move rfl) (.inl rfl) rfl rfl ?_; clear hf a; intro a hf
      first | refine mc_p rfl   hf (yv_convx (.inl rfl) (by kernel_rfl) Try.un_3 rfl (by omega) (by simp only [IntKind.top]; omega)) (.inl rfl) rfl rfl ?_; clear hf a; intro a hf | refine mc_p rfl   hf (yv_conv (by kernel_rfl) Try.un_3 rfl) (.inl rfl) rfl rfl ?_; clear hf a; intro a hf
      refine mc_p rfl   hf (yv_fieldAddr Try.fo_37_3 rfl) (.inl rfl) rfl rfl ?_; clear hf a; intro a hf
      refine mc_q rfl rfl hh hf (y_ld Try.sc_35 rfl) (.inl rfl) rfl rfl ?_; clear hf a; intro a hf
      refine mc_p rfl   hf (yv_len Try.se_35 rfl) (.inl rfl) rfl rfl ?_; clear hf a; intro a hf
      refine mc_p rfl   hf (yv_cast (yv_rem rfl rfl (by omega) (by omega)) (intv (b := ((wi : Nat) : Int)) hwi.symm)) (.inl rfl) rfl rfl ?_; clear hf a; intro a hf
      refine mc_p rfl   hf (y_ix Try.se_35 rfl rfl) (.inl rfl) rfl rfl ?_; clear hf a; intro a hf
      refine mc_q rfl rfl hh hf (y_lds Try.ag_66 rfl) (.inl rfl) rfl rfl ?_; clear hf a; intro a hf
      refine mc_e rfl fun Q1 => ?_
      refine o_alloc hf hh Try.ze_66 ?_; clear hf hh a; intro B8 a w hf hh
      refine ops_end ?_
      refine then_n ⟨⟨fun _ _ => (hh.less (.cons _ (List.Sublist.refl _))), trivial⟩, ?_⟩
      refine mc_e rfl fun Q1 => ?_
      refine o_store hf hh Try.sz_66 fun w hh => ?_
      refine ops_end ?_
      refine then_n ⟨⟨fun h => Bool.noConfusion (show true = false from h), trivial⟩, ?_⟩
      refine mc_end ?_
      refine then_n ?_
      refine sy_sq ?_
      refine o_v hf hh (yv_fieldAddr Try.fo_66_0 rfl) ?_; clear hf a; intro a hf
      refine o_v hf hh (y_ld Try.sc_3 rfl) ?_; clear hf a; intro a hf
      refine o_v hf hh (yv_assign rfl) ?_; clear hf a; intro a hf
      refine o_end ?_
      refine sy_sq ?_
      refine o_v hf hh (yv_move rfl) ?_; clear hf a; intro a hf
      first | refine o_v hf hh (yv_convx (.inl rfl) (by kernel_rfl) Try.un_3 rfl (by omega) (by simp only [IntKind.top]; omega)) ?_; clear hf a; intro a hf | refine o_v hf hh (yv_conv (by kernel_rfl) Try.un_3 rfl) ?_; clear hf a; intro a hf
      refine o_v hf hh (yv_fieldAddr Try.fo_37_0 rfl) ?_; clear hf a; intro a hf
      refine o_v hf hh (y_ld Try.sc_33 rfl) ?_; clear hf a; intro a hf
      refine o_v hf hh (yv_len Try.se_33 rfl) ?_; clear hf a; intro a hf
      refine ops_v hf hh (yv_cast (yv_rem rfl rfl (by omega) (by omega)) (intv (b := ((ga : Nat) : Int)) hga.symm)) (.inl rfl) rfl rfl rfl ?_; clear hf a; intro a hf
      refine o_v hf hh (yv_fieldAddr Try.fo_66_0 rfl) ?_; clear hf a; intro a hf
      refine o_store hf hh Try.sz_3 fun w hh => ?_
      refine o_end ?_
      refine sy_seq ?_
      refine sy_tree1 (.p 0 (.q 0 1 (.p 2 (.p 3 (.p 4 (.p 5 (.q 0 6 (.p 7 (.q 0 8 (.p 9 (.p 10 (.p 11 (.p 12 (.p 13 (.e1 14 (.fin)))))))))))))))) [14] Try.follows (by kernel_rfl) hh (fun w hh => ?_)
      refine mc_p rfl   hf (yv_fieldAddr Try.fo_66_2 rfl) (.inl rfl) rfl rfl ?_; clear hf a; intro a hf
      refine mc_q rfl rfl hh hf (y_ld Try.sc_3 rfl) (.inl rfl) rfl rfl ?_; clear hf a; intro a hf
      refine mc_p rfl   hf (yv_move rfl) (.inl rfl) rfl rfl ?_; clear hf a; intro a hf
      first | refine mc_p rfl   hf (yv_convx (.inl rfl) (by kernel_rfl) Try.un_3 rfl (by omega) (by simp only [IntKind.top]; omega)) (.inl rfl) rfl rfl ?_; clear hf a; intro a hf | refine mc_p rfl   hf (yv_conv (by kernel_rfl) Try.un_3 rfl) (.inl rfl) rfl rfl ?_; clear hf a; intro a hf
      refine mc_p rfl   hf (yv_quo rfl rfl (by omega) (by omega) (by omega)) (.inl rfl) rfl rfl ?_; clear hf a; intro a hf
      refine mc_p rfl   hf (yv_fieldAddr Try.fo_66_3 rfl) (.inl rfl) rfl rfl ?_; clear hf a; intro a hf
      refine mc_q rfl rfl hh hf (y_ld Try.sc_3 rfl) (.inl rfl) rfl rfl ?_; clear hf a; intro a hf
      refine mc_p rfl   hf (yv_fieldAddr Try.fo_66_2 rfl) (.inl rfl) rfl rfl ?_; clear hf a; intro a hf
      refine mc_q rfl rfl hh hf (y_ld Try.sc_3 rfl) (.inl rfl) rfl rfl ?_; clear hf a; intro a hf
      refine mc_p rfl   hf (y_sub rfl rfl) (.inl rfl) rfl rfl ?_; clear hf a; intro a hf
      refine mc_p rfl   hf (y_add rfl rfl) (.inl rfl) rfl rfl ?_; clear hf a; intro a hf
      refine mc_p rfl   hf (yv_cast (yv_rem rfl rfl (by omega) (by omega)) (intv (b := lx) hlx.symm)) (.inl rfl) rfl rfl ?_; clear hf a; intro a hf
      refine mc_p rfl   hf (y_add rfl rfl) (.inl rfl) rfl rfl ?_; clear hf a; intro a hf
      refine mc_p rfl   hf (yv_fieldAddr Try.fo_66_3 rfl) (.inl rfl) rfl rfl ?_; clear hf a; intro a hf
      refine mc_e rfl fun Q1 => ?_
      refine o_store hf hh Try.sz_3 fun w hh => ?_
      refine ops_end ?_
      refine then_n ⟨⟨fun h => Bool.noConfusion (show true = false from h), trivial⟩, ?_⟩
      refine mc_end ?_
      refine then_n ?_
      refine sy_seq ?_
      replace hh : Hp u [] [(B8, .cells (rpC n).toArray 66), (B7, .cells (royC d ⟨st, sp, ss, some ⟨blk, off, none⟩, sd, ct, cp, cs, cr, cd⟩) 37), (B3, .cells (royC d ⟨st, sp, ss, some ⟨blk, off, none⟩, sd, ct, cp, cs, cr, cd⟩) 37)] w := by rw [hn]; exact hh
      refine sy_treeC (.p 1 (.q 0 2 (.q 0 4 (.e2 0 (.e2 3 (.e1 5 (.e1 6 (.p 7 (.e1 8 (.fin))))) 5 (.e1 3 (.e1 6 (.p 7 (.e1 8 (.fin)))))) 5 (.e1 0 (.e1 3 (.e1 6 (.p 7 (.e1 8 (.fin)))))))))) [[8]] [(AtE u [] [(B8, .cells (rpC n).toArray 66), (B7, .cells (royC d ⟨st, sp, ss, some ⟨blk, off, none⟩, sd, ct, cp, cs, cr, cd⟩) 37), (B3, .cells (royC d ⟨st, sp, ss, some ⟨blk, off, none⟩, sd, ct, cp, cs, cr, cd⟩) 37)], [8])] Try.follows (by kernel_rfl) rfl hh (fun w hh => ?_)
      refine mc_p rfl   hf (yv_fieldAddr Try.fo_37_3 rfl) (.inl rfl) rfl rfl ?_; clear hf a; intro a hf
      refine mc_q rfl rfl (AtE.of hh (fun q hq => by first | exact hq | exact List.mem_append_left _ hq | exact .tail _ hq | exact .tail _ (.tail _ hq) | exact List.mem_append_right _ hq | exact .tail _ (List.mem_append_right _ hq) | exact List.mem_append_right _ (.tail _ hq))) hf (y_ld Try.sc_35 rfl) (.inl rfl) rfl rfl ?_; clear hf a; intro a hf
      refine mc_q rfl rfl (AtE.of hh (fun q hq => by first | exact hq | exact List.mem_append_left _ hq | exact .tail _ hq | exact .tail _ (.tail _ hq) | exact List.mem_append_right _ hq | exact .tail _ (List.mem_append_right _ hq) | exact List.mem_append_right _ (.tail _ hq))) hf (y_lds Try.ag_66 rfl) (.inl rfl) rfl rfl ?_; clear hf a; intro a hf
      refine ⟨?_, ?_⟩
      ·refine mc_e rfl fun Q1 => ?_
       refine ops_buildSl hf hh Try.bl_35_0 rfl rfl (.inl rfl) rfl ?_; clear hf hh; clear a; intro B74 a w hf hh
       refine ops_end ?_
       refine then_n ⟨⟨fun _ _ => (AtE.of hh (fun q hq => by first | exact hq | exact List.mem_append_left _ hq | exact .tail _ hq | exact .tail _ (.tail _ hq) | exact List.mem_append_right _ hq | exact .tail _ (List.mem_append_right _ hq) | exact List.mem_append_right _ (.tail _ hq))), trivial⟩, ?_⟩
       refine ⟨?_, ?_⟩
       ·refine mc_e rfl fun Q1 => ?_
        first
          | (refine ops_appendV (e := 66) (size := 4) (xs := []) (news := d.reps.flatMap rpC) (X := [(B74, .cells #[] 66)]) (m := 0) hf (hh) Try.eb_35 rfl rfl ⟨rfl, .inr ⟨B74, 0, #[], rfl, rfl, Nat.le_refl _, Nat.zero_le _, rfl, rfl⟩⟩ (vals_of (enc := rpC) (n := 4) (fun _ => rfl) (hA.rp.ext hh.ext)) (flat_len (enc := rpC) (n := 4) (fun _ => rfl) _) (by omega) (rp_1c _) (by simp only [maxLen]; omega) (by omega) (.inl rfl) rfl ?_)
          | (refine ops_appendV (e := 66) (size := 4) (xs := []) (news := d.reps.flatMap rpC) (X := [(B74, .cells #[] 66)]) (m := 0) hf (hh.perm (.swap _ _ _)) Try.eb_35 rfl rfl ⟨rfl, .inr ⟨B74, 0, #[], rfl, rfl, Nat.le_refl _, Nat.zero_le _, rfl, rfl⟩⟩ (vals_of (enc := rpC) (n := 4) (fun _ => rfl) (hA.rp.ext hh.ext)) (flat_len (enc := rpC) (n := 4) (fun _ => rfl) _) (by omega) (rp_1c _) (by simp only [maxLen]; omega) (by omega) (.inl rfl) rfl ?_)
        clear hf hh a; intro v4 X4 a w hO4 hf hh
        rw [Nat.zero_add, List.nil_append] at hO4
        refine ops_end ?_
        refine then_n ⟨⟨fun _ _ => (AtE.of hh (fun q hq => by first | exact hq | exact List.mem_append_left _ hq | exact .tail _ hq | exact .tail _ (.tail _ hq) | exact List.mem_append_right _ hq | exact .tail _ (List.mem_append_right _ hq) | exact List.mem_append_right _ (.tail _ hq))), trivial⟩, ?_⟩
        refine mc_e rfl fun Q1 => ?_
        refine ops_buildSl hf hh Try.bl_35_1 rfl rfl (.inl rfl) rfl ?_; clear hf hh; clear a; intro B79 a w hf hh
        refine ops_end ?_
        refine then_n ⟨⟨fun _ _ => (AtE.of hh (fun q hq => by first | exact hq | exact List.mem_append_left _ hq | exact .tail _ hq | exact .tail _ (.tail _ hq) | exact List.mem_append_right _ hq | exact .tail _ (List.mem_append_right _ hq) | exact List.mem_append_right _ (.tail _ hq))), trivial⟩, ?_⟩
        refine mc_e rfl fun Q1 => ?_
        first
          | (refine ops_append (e := 66) (size := 4) (xs := d.reps.flatMap rpC) (X := X4) (Z := [(B8, .cells (rpC n).toArray 66), (B7, .cells (royC d ⟨st, sp, ss, some ⟨blk, off, none⟩, sd, ct, cp, cs, cr, cd⟩) 37), (B3, .cells (royC d ⟨st, sp, ss, some ⟨blk, off, none⟩, sd, ct, cp, cs, cr, cd⟩) 37)]) (m := d.reps.length) (q := 1) hf (hh) Try.eb_35 rfl rfl hO4 rfl rfl rfl (by simp only [maxLen]; omega) (by omega) (.inl rfl) rfl ?_)
          | (refine ops_append (e := 66) (size := 4) (xs := d.reps.flatMap rpC) (X := X4) (Z := [(B8, .cells (rpC n).toArray 66), (B7, .cells (royC d ⟨st, sp, ss, some ⟨blk, off, none⟩, sd, ct, cp, cs, cr, cd⟩) 37), (B3, .cells (royC d ⟨st, sp, ss, some ⟨blk, off, none⟩, sd, ct, cp, cs, cr, cd⟩) 37)]) (m := d.reps.length) (q := 1) hf (hh.perm List.perm_middle) Try.eb_35 rfl rfl hO4 rfl rfl rfl (by simp only [maxLen]; omega) (by omega) (.inl rfl) rfl ?_)
        clear hf hh a; intro v6 X6 a w hO6 hf hh
        obtain ⟨oa6, cp6, rfl⟩ := own_val hO6
        have hcap6 := own_cap hO6
        replace hh := hh.perm (List.perm_append_comm (l₁ := X6) (l₂ := [(B8, Obj.cells (rpC n).toArray 66), (B7, Obj.cells (royC d ⟨st, sp, ss, some ⟨blk, off, none⟩, sd, ct, cp, cs, cr, cd⟩) 37), (B3, Obj.cells (royC d ⟨st, sp, ss, some ⟨blk, off, none⟩, sd, ct, cp, cs, cr, cd⟩) 37)]))
        refine ops_end ?_
        refine then_n ⟨⟨fun _ _ => (AtE.of hh (fun q hq => by first | exact hq | exact List.mem_append_left _ hq | exact .tail _ hq | exact .tail _ (.tail _ hq) | exact List.mem_append_right _ hq | exact .tail _ (List.mem_append_right _ hq) | exact List.mem_append_right _ (.tail _ hq))), trivial⟩, ?_⟩
        refine mc_p rfl   hf (yv_fieldAddr Try.fo_37_3 rfl) (.inl rfl) rfl rfl ?_; clear hf a; intro a hf
        refine mc_e rfl fun Q1 => ?_
        refine o_store hf hh Try.sz_35 fun w hh => ?_
        refine ops_end ?_
        refine then_n ⟨⟨fun h => Bool.noConfusion (show true = false from h), trivial⟩, ?_⟩
        refine mc_end ?_
        refine then_n ?_
        refine sy_seq ?_
        refine sy_seq ?_
        replace hh : Hp u [] ([(B8, .cells (rpC n).toArray 66), (B7, .cells (spl (royC d ⟨st, sp, ss, some ⟨blk, off, none⟩, sd, ct, cp, cs, cr, cd⟩) (0 + 3) [.slice oa6 (d.reps.length + 1) cp6]) 37), (B3, .cells (royC d ⟨st, sp, ss, some ⟨blk, off, none⟩, sd, ct, cp, cs, cr, cd⟩) 37)] ++ X6) w := hh
        have hrp := own_tat (enc := rpC) (n := 4) (l := d.reps ++ [n]) (fun _ => rfl) (by rw [fm_snoc]; exact hO6) (by simp) (fun q hq => hh.get q (List.mem_append_right _ hq))
        have hx0 := hh.ext
        obtain ⟨p', hp'⟩ : ∃ p' : Pl, p' = ⟨st, sp, ss, oa6, sd, ct, cp, cs, cp6, cd⟩ := ⟨_, rfl⟩
        have q8 := hh.at (i := 0) rfl
        have q7 : w.heap[B7]? = some (.cells (royC (addR d n) p') 37 (0, 0)) := by
          have h := hh.at (i := 1) rfl
          rw [h, hp']
          have e5 : ((addR d n).reps.length : Nat) = d.reps.length + 1 := by show (d.reps ++ [n]).length = _; simp
          simp only [royC, e5]; rfl
        have q3 := hh.at (i := 2) rfl
        have hA9 := hA.ext hx0
        have hB9 : RoyAt w (addR d n) p' := by
          rw [hp']
          exact ⟨hA9.tm, hA9.pr, hA9.sh, hrp, hA9.pd, hA9.n1, hA9.n2, hA9.n3, by show (d.reps ++ [n]).length ≤ 1000; simp; omega, hA9.n5, hA9.n6, by show (d.reps ++ [n]).length ≤ cp6; simp; exact hcap6⟩
        obtain ⟨w9, rfl⟩ : ∃ z, z = w := ⟨_, rfl⟩
        clear hh
        have hh := Hp.init w9 []
        rw [hn] at q8
        refine sy_ops ?_
        refine o_v hf hh (yv_fieldAddr Try.fo_37_0 rfl) ?_; clear hf a; intro a hf
        refine o_v hf hh (y_ld Try.sc_33 rfl) ?_; clear hf a; intro a hf
        refine o_v hf hh (yv_len Try.se_33 rfl) ?_; clear hf a; intro a hf
        refine o_v hf hh (yv_move rfl) ?_; clear hf a; intro a hf
        refine o_end ?_
        refine sy_block ?_
        refine sy_loopH (σ := Nat) [6, 10, 11, 12, 13, 14, 85, 86, 87, 88, 89, 90, 91, 92, 93, 94, 95, 96, 97, 98, 99, 100, 101, 102, 103, 104, 105, 106, 107, 108, 109, 110, 111, 112, 113, 114, 115, 116, 117, 118, 119, 120, 121, 122, 123, 124, 125, 126, 127, 128, 129, 130, 131, 132, 133, 134, 135, 136, 137, 138, 139, 140, 141, 142, 143, 144, 145, 146, 147, 148, 149, 150, 151, 152, 153, 154, 155] (fun g => [(85, .int .i64 (g : Nat))]) (fun g => fun w' => g ≤ d.terms.length ∧ Hp w9 [] [] w') (fun g => d.terms.length - g) (0) hf ?_ ?_ ?_
        · repeat' (first | exact True.intro | refine And.intro rfl ?_)
        · exact ⟨Nat.zero_le _, hh⟩
        ·rintro g a w ⟨hg, hh⟩ hf
         refine sy_sq ?_
         refine o_v hf hh (yv_bin rfl rfl rfl) ?_; clear hf a; intro a hf
         refine o_end ?_
         refine sy_seq ?_
         refine sy_cond hf rfl (fun hg19 => ?_) (fun hg19 => ?_)
         ·have hG19 := hg19; try simp only [gS] at hG19
          refine sy_skip ?_
          refine then_n ?_
          refine sy_seq ?_
          refine sy_block ?_
          refine sy_sq ?_
          refine o_v hf hh (yv_move rfl) ?_; clear hf a; intro a hf
          refine o_v hf hh (yv_assign rfl) ?_; clear hf a; intro a hf
          refine o_end ?_
          refine sy_seq ?_
          obtain ⟨m1, m2, m3, m4, m5⟩ := owe_more hP hO hr2 (g := g) (by omega)
          obtain ⟨e1, _⟩ := owe_ok hO (g := g) (by omega)
          obtain ⟨e2, _⟩ := owe_ok hO' (g := g) (show g < d.terms.length by omega)
          obtain ⟨s1, s2, hs⟩ : ∃ s1 s2, oweV d g = (s1, s2) := ⟨_, _, rfl⟩
          obtain ⟨t1, t2, ht⟩ : ∃ t1 t2, oweV (addR d n) g = (t1, t2) := ⟨_, _, rfl⟩
          rw [hs, ht] at m1 m2 m3 m4 m5
          dsimp only at m1 m2 m3 m4 m5
          rw [hag] at m3 m4 m5
          refine sy_ops ?_
          refine o_v hf hh (y_lds Try.ag_37 rfl) ?_; clear hf a; intro a hf
          refine o_v hf hh (yv_move rfl) ?_; clear hf a; intro a hf
          refine o_call hf Try.en_25 rfl rfl rfl (p25 d _ (g : Nat) _ (hA9.ext hh.ext)) ?_; clear hf a; intro v a w hR hf
          rw [hs, e1] at hR
          obtain ⟨rfl, hx⟩ := hR; replace hh := hh.more hx; clear hx
          refine o_v hf hh (yv_move rfl) ?_; clear hf a; intro a hf
          refine o_v hf hh (yv_extract rfl rfl) ?_; clear hf a; intro a hf
          refine o_v hf hh (yv_extract rfl rfl) ?_; clear hf a; intro a hf
          refine o_alloc hf hh Try.ze_43 ?_; clear hf hh a; intro B11 a w hf hh
          refine o_store hf hh Try.sz_43 fun w hh => ?_
          refine o_v hf hh (yv_assign rfl) ?_; clear hf a; intro a hf
          refine o_end ?_
          refine sy_sq ?_
          refine o_v hf hh (y_lds Try.ag_37 rfl) ?_; clear hf a; intro a hf
          refine o_v hf hh (yv_move rfl) ?_; clear hf a; intro a hf
          refine o_call hf Try.en_25 rfl rfl rfl (p25 (addR d n) p' (g : Nat) _ (hB9.ext hh.ext)) ?_; clear hf a; intro v a w hR hf
          rw [ht, e2] at hR
          obtain ⟨rfl, hx⟩ := hR; replace hh := hh.more hx; clear hx
          refine o_v hf hh (yv_move rfl) ?_; clear hf a; intro a hf
          refine o_v hf hh (yv_extract rfl rfl) ?_; clear hf a; intro a hf
          refine o_v hf hh (yv_extract rfl rfl) ?_; clear hf a; intro a hf
          refine o_alloc hf hh Try.ze_43 ?_; clear hf hh a; intro B13 a w hf hh
          refine o_store hf hh Try.sz_43 fun w hh => ?_
          refine o_v hf hh (yv_assign rfl) ?_; clear hf a; intro a hf
          refine o_end ?_
          refine sy_seq ?_
          refine sy_sq ?_
          refine o_v hf hh (yv_move rfl) ?_; clear hf a; intro a hf
          refine o_v hf hh (yv_bin rfl rfl rfl) ?_; clear hf a; intro a hf
          refine o_v hf hh (yv_move rfl) ?_; clear hf a; intro a hf
          refine o_v hf hh (yv_move rfl) ?_; clear hf a; intro a hf
          refine o_v hf hh (yv_bin rfl rfl rfl) ?_; clear hf a; intro a hf
          refine o_v hf hh (y_pf rfl rfl) ?_; clear hf a; intro a hf
          refine o_v hf hh (yv_move rfl) ?_; clear hf a; intro a hf
          refine o_v hf hh (yv_fieldAddr Try.fo_43_0 rfl) ?_; clear hf a; intro a hf
          refine o_v hf hh (y_ld Try.sc_3 rfl) ?_; clear hf a; intro a hf
          refine o_v hf hh (yv_fieldAddr Try.fo_43_0 rfl) ?_; clear hf a; intro a hf
          refine o_v hf hh (y_ld Try.sc_3 rfl) ?_; clear hf a; intro a hf
          refine o_v hf hh (yv_bin rfl rfl rfl) ?_; clear hf a; intro a hf
          refine o_v hf hh (y_pf rfl rfl) ?_; clear hf a; intro a hf
          refine o_v hf hh (yv_move rfl) ?_; clear hf a; intro a hf
          refine o_v hf hh (yv_fieldAddr Try.fo_43_1 rfl) ?_; clear hf a; intro a hf
          refine o_v hf hh (y_ld Try.sc_3 rfl) ?_; clear hf a; intro a hf
          refine o_v hf hh (yv_fieldAddr Try.fo_43_1 rfl) ?_; clear hf a; intro a hf
          refine o_v hf hh (y_ld Try.sc_3 rfl) ?_; clear hf a; intro a hf
          refine o_v hf hh (yv_bin rfl rfl rfl) ?_; clear hf a; intro a hf
          refine o_v hf hh (y_pf rfl rfl) ?_; clear hf a; intro a hf
          refine o_v hf hh (yv_move rfl) ?_; clear hf a; intro a hf
          refine o_v hf hh (yv_move rfl) ?_; clear hf a; intro a hf
          refine o_v hf hh (yv_fieldAddr Try.fo_66_0 rfl) ?_; clear hf a; intro a hf
          refine o_v hf hh (y_ld Try.sc_3 rfl) ?_; clear hf a; intro a hf
          refine o_v hf hh (yv_bin rfl rfl rfl) ?_; clear hf a; intro a hf
          refine o_v hf hh (yv_move rfl) ?_; clear hf a; intro a hf
          refine guard_split hf (t := 125) rfl (fun hg31 => ?_) (fun hg31 => ?_)
          ·have hG31 := hg31; try simp only [gS] at hG31
           have m3e := m3 (by omega)
           refine o_v hf hh (yv_fieldAddr Try.fo_43_1 rfl) ?_; clear hf a; intro a hf
           refine o_v hf hh (y_ld Try.sc_3 rfl) ?_; clear hf a; intro a hf
           refine o_v hf hh (yv_fieldAddr Try.fo_43_1 rfl) ?_; clear hf a; intro a hf
           refine o_v hf hh (y_ld Try.sc_3 rfl) ?_; clear hf a; intro a hf
           refine o_v hf hh (yv_bin rfl rfl rfl) ?_; clear hf a; intro a hf
           refine o_v hf hh (y_pt rfl rfl) ?_; clear hf a; intro a hf
           refine o_v hf hh (y_pf rfl rfl) ?_; clear hf a; intro a hf
           refine o_v hf hh (yv_move rfl) ?_; clear hf a; intro a hf
           refine o_v hf hh (yv_move rfl) ?_; clear hf a; intro a hf
           refine o_v hf hh (yv_fieldAddr Try.fo_66_0 rfl) ?_; clear hf a; intro a hf
           refine o_v hf hh (y_ld Try.sc_3 rfl) ?_; clear hf a; intro a hf
           refine o_v hf hh (yv_bin rfl rfl rfl) ?_; clear hf a; intro a hf
           refine o_v hf hh (yv_move rfl) ?_; clear hf a; intro a hf
           refine guard_split hf (t := 138) rfl (fun hg34 => ?_) (fun hg34 => ?_)
           ·have hG34 := hg34; try simp only [gS] at hG34
            have m4e := m4 (by omega)
            refine o_v hf hh (yv_fieldAddr Try.fo_43_0 rfl) ?_; clear hf a; intro a hf
            refine o_v hf hh (y_ld Try.sc_3 rfl) ?_; clear hf a; intro a hf
            refine o_v hf hh (yv_fieldAddr Try.fo_43_0 rfl) ?_; clear hf a; intro a hf
            refine o_v hf hh (y_ld Try.sc_3 rfl) ?_; clear hf a; intro a hf
            refine o_v hf hh (yv_bin rfl rfl rfl) ?_; clear hf a; intro a hf
            refine o_v hf hh (y_pt rfl rfl) ?_; clear hf a; intro a hf
            refine o_v hf hh (y_pf rfl rfl) ?_; clear hf a; intro a hf
            refine o_end ?_
            refine c_f hf ?_
            refine sy_skip ?_
            refine then_n ?_
            refine sy_sq ?_
            refine o_v hf hh (yv_fieldAddr Try.fo_66_0 rfl) ?_; clear hf a; intro a hf
            refine o_v hf hh (y_ld Try.sc_3 rfl) ?_; clear hf a; intro a hf
            refine o_v hf hh (yv_move rfl) ?_; clear hf a; intro a hf
            refine o_v hf hh (yv_bin rfl rfl rfl) ?_; clear hf a; intro a hf
            refine o_v hf hh (yv_move rfl) ?_; clear hf a; intro a hf
            refine guard_split hf (t := 150) rfl (fun hg37 => ?_) (fun hg37 => ?_)
            ·have hG37 := hg37; try simp only [gS] at hG37
             refine o_v hf hh (y_lds Try.ag_43 rfl) ?_; clear hf a; intro a hf
             refine o_v hf hh (y_lds Try.ag_43 rfl) ?_; clear hf a; intro a hf
             have m5e := m5 (by omega)
             obtain ⟨m5a, m5b⟩ := Prod.mk.injEq _ _ _ _ ▸ m5e
             refine o_v hf hh (yv_cast (yv_neF [s1, s2] [t1, t2] fl43 rfl rfl) (congrArg Value.bool (show _ = false by rw [m5a, m5b]; simp))) ?_; clear hf a; intro a hf
             refine o_v hf hh (y_pt rfl rfl) ?_; clear hf a; intro a hf
             refine o_end ?_
             refine c_f hf ?_
             refine sy_skip ?_
             refine blk_n ?_
             refine then_n ?_
             refine sy_ops ?_
             refine o_v hf hh (y_add rfl rfl) ?_; clear hf a; intro a hf
             refine o_v hf hh (yv_move rfl) ?_; clear hf a; intro a hf
             refine ops_end ?_
             refine then_n ?_
             exact ⟨g + 1, ⟨⟨by omega, hh.less (List.nil_sublist _)⟩, (hf.head (by repeat' (first | exact True.intro | refine And.intro rfl ?_)) (Keep.cons rfl (Keep.cons rfl (Keep.cons rfl (Keep.cons rfl (Keep.cons rfl (Keep.cons rfl (Keep.cons rfl (Keep.cons rfl (Keep.cons rfl (Keep.cons rfl (Keep.cons rfl (Keep.cons rfl (Keep.cons rfl (Keep.cons rfl (Keep.cons rfl (Keep.cons rfl (Keep.cons rfl (Keep.cons rfl (Keep.cons rfl (Keep.cons rfl (Keep.cons rfl (Keep.cons rfl (Keep.cons rfl (Keep.cons rfl (Keep.cons rfl (Keep.cons rfl (Keep.cons rfl (Keep.cons rfl (Keep.cons rfl (Keep.cons rfl (Keep.cons rfl (Keep.cons rfl (Keep.cons rfl (Keep.cons rfl (Keep.cons rfl (Keep.cons rfl (Keep.cons rfl (Keep.cons rfl (Keep.cons rfl (Keep.cons rfl (Keep.cons rfl (Keep.cons rfl (Keep.cons rfl (Keep.cons rfl (Keep.cons rfl (Keep.cons rfl (Keep.cons rfl (Keep.cons rfl (Keep.cons rfl (Keep.cons rfl (Keep.cons rfl (Keep.cons rfl (Keep.cons rfl (Keep.cons rfl (Keep.cons rfl (Keep.cons rfl (Keep.cons rfl (Keep.cons rfl (Keep.cons rfl (Keep.cons rfl (Keep.cons rfl (Keep.cons rfl (Keep.cons rfl (Keep.cons rfl (Keep.cons rfl (Keep.cons rfl (Keep.cons rfl (Keep.cons rfl (Keep.cons rfl (Keep.cons rfl (Keep.cons rfl (Keep.cons rfl (Keep.cons rfl (Keep.cons rfl (Keep.cons rfl (Keep.cons rfl (Keep.app rfl (Keep.rm rfl Keep.base)))))))))))))))))))))))))))))))))))))))))))))))))))))))))))))))))))))))))))))))⟩, by omega⟩
            ·have hG37 := hg37; try simp only [gS] at hG37
             refine o_off hf ?_; clear hf a; intro a hf
             refine o_off hf ?_; clear hf a; intro a hf
             refine o_off hf ?_; clear hf a; intro a hf
             refine o_v hf hh (y_pf rfl rfl) ?_; clear hf a; intro a hf
             refine o_end ?_
             refine c_f hf ?_
             refine sy_skip ?_
             refine blk_n ?_
             refine then_n ?_
             refine sy_ops ?_
             refine o_v hf hh (y_add rfl rfl) ?_; clear hf a; intro a hf
             refine o_v hf hh (yv_move rfl) ?_; clear hf a; intro a hf
             refine ops_end ?_
             refine then_n ?_
             exact ⟨g + 1, ⟨⟨by omega, hh.less (List.nil_sublist _)⟩, (hf.head (by repeat' (first | exact True.intro | refine And.intro rfl ?_)) (Keep.cons rfl (Keep.cons rfl (Keep.cons rfl (Keep.cons rfl (Keep.cons rfl (Keep.cons rfl (Keep.cons rfl (Keep.cons rfl (Keep.cons rfl (Keep.cons rfl (Keep.cons rfl (Keep.cons rfl (Keep.cons rfl (Keep.cons rfl (Keep.cons rfl (Keep.cons rfl (Keep.cons rfl (Keep.cons rfl (Keep.cons rfl (Keep.cons rfl (Keep.cons rfl (Keep.cons rfl (Keep.cons rfl (Keep.cons rfl (Keep.cons rfl (Keep.cons rfl (Keep.cons rfl (Keep.cons rfl (Keep.cons rfl (Keep.cons rfl (Keep.cons rfl (Keep.cons rfl (Keep.cons rfl (Keep.cons rfl (Keep.cons rfl (Keep.cons rfl (Keep.cons rfl (Keep.cons rfl (Keep.cons rfl (Keep.cons rfl (Keep.cons rfl (Keep.cons rfl (Keep.cons rfl (Keep.cons rfl (Keep.cons rfl (Keep.cons rfl (Keep.cons rfl (Keep.cons rfl (Keep.cons rfl (Keep.cons rfl (Keep.cons rfl (Keep.cons rfl (Keep.cons rfl (Keep.cons rfl (Keep.cons rfl (Keep.cons rfl (Keep.cons rfl (Keep.cons rfl (Keep.cons rfl (Keep.cons rfl (Keep.cons rfl (Keep.cons rfl (Keep.cons rfl (Keep.cons rfl (Keep.cons rfl (Keep.cons rfl (Keep.cons rfl (Keep.cons rfl (Keep.cons rfl (Keep.cons rfl (Keep.cons rfl (Keep.cons rfl (Keep.cons rfl (Keep.cons rfl (Keep.cons rfl (Keep.cons rfl (Keep.app rfl (Keep.rm rfl Keep.base)))))))))))))))))))))))))))))))))))))))))))))))))))))))))))))))))))))))))))))))⟩, by omega⟩
           ·have hG34 := hg34; try simp only [gS] at hG34
            refine o_off hf ?_; clear hf a; intro a hf
            refine o_off hf ?_; clear hf a; intro a hf
            refine o_off hf ?_; clear hf a; intro a hf
            refine o_off hf ?_; clear hf a; intro a hf
            refine o_off hf ?_; clear hf a; intro a hf
            refine o_v hf hh (y_pf rfl rfl) ?_; clear hf a; intro a hf
            refine o_v hf hh (y_pf rfl rfl) ?_; clear hf a; intro a hf
            refine o_end ?_
            refine c_f hf ?_
            refine sy_skip ?_
            refine then_n ?_
            refine sy_sq ?_
            refine o_v hf hh (yv_fieldAddr Try.fo_66_0 rfl) ?_; clear hf a; intro a hf
            refine o_v hf hh (y_ld Try.sc_3 rfl) ?_; clear hf a; intro a hf
            refine o_v hf hh (yv_move rfl) ?_; clear hf a; intro a hf
            refine o_v hf hh (yv_bin rfl rfl rfl) ?_; clear hf a; intro a hf
            refine o_v hf hh (yv_move rfl) ?_; clear hf a; intro a hf
            refine guard_split hf (t := 150) rfl (fun hg39 => ?_) (fun hg39 => ?_)
            ·have hG39 := hg39; try simp only [gS] at hG39
             refine o_v hf hh (y_lds Try.ag_43 rfl) ?_; clear hf a; intro a hf
             refine o_v hf hh (y_lds Try.ag_43 rfl) ?_; clear hf a; intro a hf
             have m5e := m5 (by omega)
             obtain ⟨m5a, m5b⟩ := Prod.mk.injEq _ _ _ _ ▸ m5e
             refine o_v hf hh (yv_cast (yv_neF [s1, s2] [t1, t2] fl43 rfl rfl) (congrArg Value.bool (show _ = false by rw [m5a, m5b]; simp))) ?_; clear hf a; intro a hf
             refine o_v hf hh (y_pt rfl rfl) ?_; clear hf a; intro a hf
             refine o_end ?_
             refine c_f hf ?_
             refine sy_skip ?_
             refine blk_n ?_
             refine then_n ?_
             refine sy_ops ?_
             refine o_v hf hh (y_add rfl rfl) ?_; clear hf a; intro a hf
             refine o_v hf hh (yv_move rfl) ?_; clear hf a; intro a hf
             refine ops_end ?_
             refine then_n ?_
             exact ⟨g + 1, ⟨⟨by omega, hh.less (List.nil_sublist _)⟩, (hf.head (by repeat' (first | exact True.intro | refine And.intro rfl ?_)) (Keep.cons rfl (Keep.cons rfl (Keep.cons rfl (Keep.cons rfl (Keep.cons rfl (Keep.cons rfl (Keep.cons rfl (Keep.cons rfl (Keep.cons rfl (Keep.cons rfl (Keep.cons rfl (Keep.cons rfl (Keep.cons rfl (Keep.cons rfl (Keep.cons rfl (Keep.cons rfl (Keep.cons rfl (Keep.cons rfl (Keep.cons rfl (Keep.cons rfl (Keep.cons rfl (Keep.cons rfl (Keep.cons rfl (Keep.cons rfl (Keep.cons rfl (Keep.cons rfl (Keep.cons rfl (Keep.cons rfl (Keep.cons rfl (Keep.cons rfl (Keep.cons rfl (Keep.cons rfl (Keep.cons rfl (Keep.cons rfl (Keep.cons rfl (Keep.cons rfl (Keep.cons rfl (Keep.cons rfl (Keep.cons rfl (Keep.cons rfl (Keep.cons rfl (Keep.cons rfl (Keep.cons rfl (Keep.cons rfl (Keep.cons rfl (Keep.cons rfl (Keep.cons rfl (Keep.cons rfl (Keep.cons rfl (Keep.cons rfl (Keep.cons rfl (Keep.cons rfl (Keep.cons rfl (Keep.cons rfl (Keep.cons rfl (Keep.cons rfl (Keep.cons rfl (Keep.cons rfl (Keep.cons rfl (Keep.cons rfl (Keep.cons rfl (Keep.cons rfl (Keep.cons rfl (Keep.cons rfl (Keep.cons rfl (Keep.cons rfl (Keep.cons rfl (Keep.cons rfl (Keep.cons rfl (Keep.cons rfl (Keep.cons rfl (Keep.cons rfl (Keep.cons rfl (Keep.cons rfl (Keep.cons rfl (Keep.cons rfl (Keep.app rfl (Keep.rm rfl Keep.base)))))))))))))))))))))))))))))))))))))))))))))))))))))))))))))))))))))))))))))))⟩, by omega⟩
            ·have hG39 := hg39; try simp only [gS] at hG39
             refine o_off hf ?_; clear hf a; intro a hf
             refine o_off hf ?_; clear hf a; intro a hf
             refine o_off hf ?_; clear hf a; intro a hf
             refine o_v hf hh (y_pf rfl rfl) ?_; clear hf a; intro a hf
             refine o_end ?_
             refine c_f hf ?_
             refine sy_skip ?_
             refine blk_n ?_
             refine then_n ?_
             refine sy_ops ?_
             refine o_v hf hh (y_add rfl rfl) ?_; clear hf a; intro a hf
             refine o_v hf hh (yv_move rfl) ?_; clear hf a; intro a hf
             refine ops_end ?_
             refine then_n ?_
             exact ⟨g + 1, ⟨⟨by omega, hh.less (List.nil_sublist _)⟩, (hf.head (by repeat' (first | exact True.intro | refine And.intro rfl ?_)) (Keep.cons rfl (Keep.cons rfl (Keep.cons rfl (Keep.cons rfl (Keep.cons rfl (Keep.cons rfl (Keep.cons rfl (Keep.cons rfl (Keep.cons rfl (Keep.cons rfl (Keep.cons rfl (Keep.cons rfl (Keep.cons rfl (Keep.cons rfl (Keep.cons rfl (Keep.cons rfl (Keep.cons rfl (Keep.cons rfl (Keep.cons rfl (Keep.cons rfl (Keep.cons rfl (Keep.cons rfl (Keep.cons rfl (Keep.cons rfl (Keep.cons rfl (Keep.cons rfl (Keep.cons rfl (Keep.cons rfl (Keep.cons rfl (Keep.cons rfl (Keep.cons rfl (Keep.cons rfl (Keep.cons rfl (Keep.cons rfl (Keep.cons rfl (Keep.cons rfl (Keep.cons rfl (Keep.cons rfl (Keep.cons rfl (Keep.cons rfl (Keep.cons rfl (Keep.cons rfl (Keep.cons rfl (Keep.cons rfl (Keep.cons rfl (Keep.cons rfl (Keep.cons rfl (Keep.cons rfl (Keep.cons rfl (Keep.cons rfl (Keep.cons rfl (Keep.cons rfl (Keep.cons rfl (Keep.cons rfl (Keep.cons rfl (Keep.cons rfl (Keep.cons rfl (Keep.cons rfl (Keep.cons rfl (Keep.cons rfl (Keep.cons rfl (Keep.cons rfl (Keep.cons rfl (Keep.cons rfl (Keep.cons rfl (Keep.cons rfl (Keep.cons rfl (Keep.cons rfl (Keep.cons rfl (Keep.cons rfl (Keep.cons rfl (Keep.cons rfl (Keep.cons rfl (Keep.cons rfl (Keep.cons rfl (Keep.cons rfl (Keep.app rfl (Keep.rm rfl Keep.base)))))))))))))))))))))))))))))))))))))))))))))))))))))))))))))))))))))))))))))))⟩, by omega⟩
          ·have hG31 := hg31; try simp only [gS] at hG31
           refine o_off hf ?_; clear hf a; intro a hf
           refine o_off hf ?_; clear hf a; intro a hf
           refine o_off hf ?_; clear hf a; intro a hf
           refine o_off hf ?_; clear hf a; intro a hf
           refine o_off hf ?_; clear hf a; intro a hf
           refine o_v hf hh (y_pf rfl rfl) ?_; clear hf a; intro a hf
           refine o_v hf hh (y_pf rfl rfl) ?_; clear hf a; intro a hf
           refine o_v hf hh (yv_move rfl) ?_; clear hf a; intro a hf
           refine o_v hf hh (yv_move rfl) ?_; clear hf a; intro a hf
           refine o_v hf hh (yv_fieldAddr Try.fo_66_0 rfl) ?_; clear hf a; intro a hf
           refine o_v hf hh (y_ld Try.sc_3 rfl) ?_; clear hf a; intro a hf
           refine o_v hf hh (yv_bin rfl rfl rfl) ?_; clear hf a; intro a hf
           refine o_v hf hh (yv_move rfl) ?_; clear hf a; intro a hf
           refine guard_split hf (t := 138) rfl (fun hg41 => ?_) (fun hg41 => ?_)
           ·have hG41 := hg41; try simp only [gS] at hG41
            have m4e := m4 (by omega)
            refine o_v hf hh (yv_fieldAddr Try.fo_43_0 rfl) ?_; clear hf a; intro a hf
            refine o_v hf hh (y_ld Try.sc_3 rfl) ?_; clear hf a; intro a hf
            refine o_v hf hh (yv_fieldAddr Try.fo_43_0 rfl) ?_; clear hf a; intro a hf
            refine o_v hf hh (y_ld Try.sc_3 rfl) ?_; clear hf a; intro a hf
            refine o_v hf hh (yv_bin rfl rfl rfl) ?_; clear hf a; intro a hf
            refine o_v hf hh (y_pt rfl rfl) ?_; clear hf a; intro a hf
            refine o_v hf hh (y_pf rfl rfl) ?_; clear hf a; intro a hf
            refine o_end ?_
            refine c_f hf ?_
            refine sy_skip ?_
            refine then_n ?_
            refine sy_sq ?_
            refine o_v hf hh (yv_fieldAddr Try.fo_66_0 rfl) ?_; clear hf a; intro a hf
            refine o_v hf hh (y_ld Try.sc_3 rfl) ?_; clear hf a; intro a hf
            refine o_v hf hh (yv_move rfl) ?_; clear hf a; intro a hf
            refine o_v hf hh (yv_bin rfl rfl rfl) ?_; clear hf a; intro a hf
            refine o_v hf hh (yv_move rfl) ?_; clear hf a; intro a hf
            refine guard_split hf (t := 150) rfl (fun hg44 => ?_) (fun hg44 => ?_)
            ·have hG44 := hg44; try simp only [gS] at hG44
             refine o_v hf hh (y_lds Try.ag_43 rfl) ?_; clear hf a; intro a hf
             refine o_v hf hh (y_lds Try.ag_43 rfl) ?_; clear hf a; intro a hf
             have m5e := m5 (by omega)
             obtain ⟨m5a, m5b⟩ := Prod.mk.injEq _ _ _ _ ▸ m5e
             refine o_v hf hh (yv_cast (yv_neF [s1, s2] [t1, t2] fl43 rfl rfl) (congrArg Value.bool (show _ = false by rw [m5a, m5b]; simp))) ?_; clear hf a; intro a hf
             refine o_v hf hh (y_pt rfl rfl) ?_; clear hf a; intro a hf
             refine o_end ?_
             refine c_f hf ?_
             refine sy_skip ?_
             refine blk_n ?_
             refine then_n ?_
             refine sy_ops ?_
             refine o_v hf hh (y_add rfl rfl) ?_; clear hf a; intro a hf
             refine o_v hf hh (yv_move rfl) ?_; clear hf a; intro a hf
             refine ops_end ?_
             refine then_n ?_
             exact ⟨g + 1, ⟨⟨by omega, hh.less (List.nil_sublist _)⟩, (hf.head (by repeat' (first | exact True.intro | refine And.intro rfl ?_)) (Keep.cons rfl (Keep.cons rfl (Keep.cons rfl (Keep.cons rfl (Keep.cons rfl (Keep.cons rfl (Keep.cons rfl (Keep.cons rfl (Keep.cons rfl (Keep.cons rfl (Keep.cons rfl (Keep.cons rfl (Keep.cons rfl (Keep.cons rfl (Keep.cons rfl (Keep.cons rfl (Keep.cons rfl (Keep.cons rfl (Keep.cons rfl (Keep.cons rfl (Keep.cons rfl (Keep.cons rfl (Keep.cons rfl (Keep.cons rfl (Keep.cons rfl (Keep.cons rfl (Keep.cons rfl (Keep.cons rfl (Keep.cons rfl (Keep.cons rfl (Keep.cons rfl (Keep.cons rfl (Keep.cons rfl (Keep.cons rfl (Keep.cons rfl (Keep.cons rfl (Keep.cons rfl (Keep.cons rfl (Keep.cons rfl (Keep.cons rfl (Keep.cons rfl (Keep.cons rfl (Keep.cons rfl (Keep.cons rfl (Keep.cons rfl (Keep.cons rfl (Keep.cons rfl (Keep.cons rfl (Keep.cons rfl (Keep.cons rfl (Keep.cons rfl (Keep.cons rfl (Keep.cons rfl (Keep.cons rfl (Keep.cons rfl (Keep.cons rfl (Keep.cons rfl (Keep.cons rfl (Keep.cons rfl (Keep.cons rfl (Keep.cons rfl (Keep.cons rfl (Keep.cons rfl (Keep.cons rfl (Keep.cons rfl (Keep.cons rfl (Keep.cons rfl (Keep.cons rfl (Keep.cons rfl (Keep.cons rfl (Keep.cons rfl (Keep.cons rfl (Keep.cons rfl (Keep.cons rfl (Keep.cons rfl (Keep.cons rfl (Keep.app rfl (Keep.rm rfl Keep.base)))))))))))))))))))))))))))))))))))))))))))))))))))))))))))))))))))))))))))))))⟩, by omega⟩
            ·have hG44 := hg44; try simp only [gS] at hG44
             refine o_off hf ?_; clear hf a; intro a hf
             refine o_off hf ?_; clear hf a; intro a hf
             refine o_off hf ?_; clear hf a; intro a hf
             refine o_v hf hh (y_pf rfl rfl) ?_; clear hf a; intro a hf
             refine o_end ?_
             refine c_f hf ?_
             refine sy_skip ?_
             refine blk_n ?_
             refine then_n ?_
             refine sy_ops ?_
             refine o_v hf hh (y_add rfl rfl) ?_; clear hf a; intro a hf
             refine o_v hf hh (yv_move rfl) ?_; clear hf a; intro a hf
             refine ops_end ?_
             refine then_n ?_
             exact ⟨g + 1, ⟨⟨by omega, hh.less (List.nil_sublist _)⟩, (hf.head (by repeat' (first | exact True.intro | refine And.intro rfl ?_)) (Keep.cons rfl (Keep.cons rfl (Keep.cons rfl (Keep.cons rfl (Keep.cons rfl (Keep.cons rfl (Keep.cons rfl (Keep.cons rfl (Keep.cons rfl (Keep.cons rfl (Keep.cons rfl (Keep.cons rfl (Keep.cons rfl (Keep.cons rfl (Keep.cons rfl (Keep.cons rfl (Keep.cons rfl (Keep.cons rfl (Keep.cons rfl (Keep.cons rfl (Keep.cons rfl (Keep.cons rfl (Keep.cons rfl (Keep.cons rfl (Keep.cons rfl (Keep.cons rfl (Keep.cons rfl (Keep.cons rfl (Keep.cons rfl (Keep.cons rfl (Keep.cons rfl (Keep.cons rfl (Keep.cons rfl (Keep.cons rfl (Keep.cons rfl (Keep.cons rfl (Keep.cons rfl (Keep.cons rfl (Keep.cons rfl (Keep.cons rfl (Keep.cons rfl (Keep.cons rfl (Keep.cons rfl (Keep.cons rfl (Keep.cons rfl (Keep.cons rfl (Keep.cons rfl (Keep.cons rfl (Keep.cons rfl (Keep.cons rfl (Keep.cons rfl (Keep.cons rfl (Keep.cons rfl (Keep.cons rfl (Keep.cons rfl (Keep.cons rfl (Keep.cons rfl (Keep.cons rfl (Keep.cons rfl (Keep.cons rfl (Keep.cons rfl (Keep.cons rfl (Keep.cons rfl (Keep.cons rfl (Keep.cons rfl (Keep.cons rfl (Keep.cons rfl (Keep.cons rfl (Keep.cons rfl (Keep.cons rfl (Keep.cons rfl (Keep.cons rfl (Keep.cons rfl (Keep.cons rfl (Keep.cons rfl (Keep.cons rfl (Keep.app rfl (Keep.rm rfl Keep.base)))))))))))))))))))))))))))))))))))))))))))))))))))))))))))))))))))))))))))))))⟩, by omega⟩
           ·have hG41 := hg41; try simp only [gS] at hG41
            refine o_off hf ?_; clear hf a; intro a hf
            refine o_off hf ?_; clear hf a; intro a hf
            refine o_off hf ?_; clear hf a; intro a hf
            refine o_off hf ?_; clear hf a; intro a hf
            refine o_off hf ?_; clear hf a; intro a hf
            refine o_v hf hh (y_pf rfl rfl) ?_; clear hf a; intro a hf
            refine o_v hf hh (y_pf rfl rfl) ?_; clear hf a; intro a hf
            refine o_end ?_
            refine c_f hf ?_
            refine sy_skip ?_
            refine then_n ?_
            refine sy_sq ?_
            refine o_v hf hh (yv_fieldAddr Try.fo_66_0 rfl) ?_; clear hf a; intro a hf
            refine o_v hf hh (y_ld Try.sc_3 rfl) ?_; clear hf a; intro a hf
            refine o_v hf hh (yv_move rfl) ?_; clear hf a; intro a hf
            refine o_v hf hh (yv_bin rfl rfl rfl) ?_; clear hf a; intro a hf
            refine o_v hf hh (yv_move rfl) ?_; clear hf a; intro a hf
            refine guard_split hf (t := 150) rfl (fun hg46 => ?_) (fun hg46 => ?_)
            ·have hG46 := hg46; try simp only [gS] at hG46
             refine o_v hf hh (y_lds Try.ag_43 rfl) ?_; clear hf a; intro a hf
             refine o_v hf hh (y_lds Try.ag_43 rfl) ?_; clear hf a; intro a hf
             have m5e := m5 (by omega)
             obtain ⟨m5a, m5b⟩ := Prod.mk.injEq _ _ _ _ ▸ m5e
             refine o_v hf hh (yv_cast (yv_neF [s1, s2] [t1, t2] fl43 rfl rfl) (congrArg Value.bool (show _ = false by rw [m5a, m5b]; simp))) ?_; clear hf a; intro a hf
             refine o_v hf hh (y_pt rfl rfl) ?_; clear hf a; intro a hf
             refine o_end ?_
             refine c_f hf ?_
             refine sy_skip ?_
             refine blk_n ?_
             refine then_n ?_
             refine sy_ops ?_
             refine o_v hf hh (y_add rfl rfl) ?_; clear hf a; intro a hf
             refine o_v hf hh (yv_move rfl) ?_; clear hf a; intro a hf
             refine ops_end ?_
             refine then_n ?_
             exact ⟨g + 1, ⟨⟨by omega, hh.less (List.nil_sublist _)⟩, (hf.head (by repeat' (first | exact True.intro | refine And.intro rfl ?_)) (Keep.cons rfl (Keep.cons rfl (Keep.cons rfl (Keep.cons rfl (Keep.cons rfl (Keep.cons rfl (Keep.cons rfl (Keep.cons rfl (Keep.cons rfl (Keep.cons rfl (Keep.cons rfl (Keep.cons rfl (Keep.cons rfl (Keep.cons rfl (Keep.cons rfl (Keep.cons rfl (Keep.cons rfl (Keep.cons rfl (Keep.cons rfl (Keep.cons rfl (Keep.cons rfl (Keep.cons rfl (Keep.cons rfl (Keep.cons rfl (Keep.cons rfl (Keep.cons rfl (Keep.cons rfl (Keep.cons rfl (Keep.cons rfl (Keep.cons rfl (Keep.cons rfl (Keep.cons rfl (Keep.cons rfl (Keep.cons rfl (Keep.cons rfl (Keep.cons rfl (Keep.cons rfl (Keep.cons rfl (Keep.cons rfl (Keep.cons rfl (Keep.cons rfl (Keep.cons rfl (Keep.cons rfl (Keep.cons rfl (Keep.cons rfl (Keep.cons rfl (Keep.cons rfl (Keep.cons rfl (Keep.cons rfl (Keep.cons rfl (Keep.cons rfl (Keep.cons rfl (Keep.cons rfl (Keep.cons rfl (Keep.cons rfl (Keep.cons rfl (Keep.cons rfl (Keep.cons rfl (Keep.cons rfl (Keep.cons rfl (Keep.cons rfl (Keep.cons rfl (Keep.cons rfl (Keep.cons rfl (Keep.cons rfl (Keep.cons rfl (Keep.cons rfl (Keep.cons rfl (Keep.cons rfl (Keep.cons rfl (Keep.cons rfl (Keep.cons rfl (Keep.cons rfl (Keep.cons rfl (Keep.cons rfl (Keep.cons rfl (Keep.app rfl (Keep.rm rfl Keep.base)))))))))))))))))))))))))))))))))))))))))))))))))))))))))))))))))))))))))))))))⟩, by omega⟩
            ·have hG46 := hg46; try simp only [gS] at hG46
             refine o_off hf ?_; clear hf a; intro a hf
             refine o_off hf ?_; clear hf a; intro a hf
             refine o_off hf ?_; clear hf a; intro a hf
             refine o_v hf hh (y_pf rfl rfl) ?_; clear hf a; intro a hf
             refine o_end ?_
             refine c_f hf ?_
             refine sy_skip ?_
             refine blk_n ?_
             refine then_n ?_
             refine sy_ops ?_
             refine o_v hf hh (y_add rfl rfl) ?_; clear hf a; intro a hf
             refine o_v hf hh (yv_move rfl) ?_; clear hf a; intro a hf
             refine ops_end ?_
             refine then_n ?_
             exact ⟨g + 1, ⟨⟨by omega, hh.less (List.nil_sublist _)⟩, (hf.head (by repeat' (first | exact True.intro | refine And.intro rfl ?_)) (Keep.cons rfl (Keep.cons rfl (Keep.cons rfl (Keep.cons rfl (Keep.cons rfl (Keep.cons rfl (Keep.cons rfl (Keep.cons rfl (Keep.cons rfl (Keep.cons rfl (Keep.cons rfl (Keep.cons rfl (Keep.cons rfl (Keep.cons rfl (Keep.cons rfl (Keep.cons rfl (Keep.cons rfl (Keep.cons rfl (Keep.cons rfl (Keep.cons rfl (Keep.cons rfl (Keep.cons rfl (Keep.cons rfl (Keep.cons rfl (Keep.cons rfl (Keep.cons rfl (Keep.cons rfl (Keep.cons rfl (Keep.cons rfl (Keep.cons rfl (Keep.cons rfl (Keep.cons rfl (Keep.cons rfl (Keep.cons rfl (Keep.cons rfl (Keep.cons rfl (Keep.cons rfl (Keep.cons rfl (Keep.cons rfl (Keep.cons rfl (Keep.cons rfl (Keep.cons rfl (Keep.cons rfl (Keep.cons rfl (Keep.cons rfl (Keep.cons rfl (Keep.cons rfl (Keep.cons rfl (Keep.cons rfl (Keep.cons rfl (Keep.cons rfl (Keep.cons rfl (Keep.cons rfl (Keep.cons rfl (Keep.cons rfl (Keep.cons rfl (Keep.cons rfl (Keep.cons rfl (Keep.cons rfl (Keep.cons rfl (Keep.cons rfl (Keep.cons rfl (Keep.cons rfl (Keep.cons rfl (Keep.cons rfl (Keep.cons rfl (Keep.cons rfl (Keep.cons rfl (Keep.cons rfl (Keep.cons rfl (Keep.cons rfl (Keep.cons rfl (Keep.cons rfl (Keep.cons rfl (Keep.cons rfl (Keep.cons rfl (Keep.app rfl (Keep.rm rfl Keep.base)))))))))))))))))))))))))))))))))))))))))))))))))))))))))))))))))))))))))))))))⟩, by omega⟩
         ·have hG19 := hg19; try simp only [gS] at hG19
          refine sy_exit ?_
          refine then_e ?_
          refine then_e ?_
          refine blk_e ?_
          refine then_n ?_
          refine sy_seq ?_
          refine sy_sq ?_
          refine o_v hf hh (yv_fieldAddr Try.fo_37_1 rfl) ?_; clear hf a; intro a hf
          refine o_v hf hh (y_ld Try.sc_22 rfl) ?_; clear hf a; intro a hf
          refine o_v hf hh (yv_len Try.se_22 rfl) ?_; clear hf a; intro a hf
          refine o_v hf hh (yv_move rfl) ?_; clear hf a; intro a hf
          refine o_end ?_
          refine sy_block ?_
          refine sy_loopH (σ := Nat) [6, 15, 16, 17, 18, 19, 159, 160, 161, 162, 163, 164, 165, 166, 167, 168, 169, 170, 171, 172, 173, 174, 175, 176, 177, 178, 179, 180, 181, 182, 183, 184, 185, 186, 187, 188, 189, 190, 191, 192, 193, 194] (fun k => [(159, .int .i64 (k : Nat))]) (fun k => fun w' => k ≤ d.prices.length ∧ Hp w9 [] [] w') (fun k => d.prices.length - k) (0) hf ?_ ?_ ?_
          · repeat' (first | exact True.intro | refine And.intro rfl ?_)
          · exact ⟨Nat.zero_le _, hh⟩
          ·rintro k a w ⟨hk, hh⟩ hf
           refine sy_sq ?_
           refine o_v hf hh (yv_bin rfl rfl rfl) ?_; clear hf a; intro a hf
           refine o_end ?_
           refine sy_seq ?_
           refine sy_cond hf rfl (fun hg48 => ?_) (fun hg48 => ?_)
           ·have hG48 := hg48; try simp only [gS] at hG48
            refine sy_skip ?_
            refine then_n ?_
            refine sy_seq ?_
            refine sy_block ?_
            refine sy_sq ?_
            refine o_v hf hh (yv_move rfl) ?_; clear hf a; intro a hf
            refine o_v hf hh (yv_assign rfl) ?_; clear hf a; intro a hf
            refine o_end ?_
            refine sy_seq ?_
            obtain ⟨m1, m2⟩ := all_more hP hO hr2 (k := k) (by omega)
            have e1 := allE_ok hO (k := k) (by omega)
            have e2 := allE_ok hO' (k := k) (show k < d.prices.length by omega)
            obtain ⟨s1, s2, hs⟩ : ∃ s1 s2, allV d k = (s1, s2) := ⟨_, _, rfl⟩
            obtain ⟨t1, t2, ht⟩ : ∃ t1 t2, allV (addR d n) k = (t1, t2) := ⟨_, _, rfl⟩
            rw [hs, ht] at m1 m2
            dsimp only at m1 m2
            refine sy_ops ?_
            refine o_v hf hh (y_lds Try.ag_37 rfl) ?_; clear hf a; intro a hf
            refine o_v hf hh (yv_move rfl) ?_; clear hf a; intro a hf
            refine o_call hf Try.en_28 rfl rfl rfl (p28 d _ (k : Nat) _ (hA9.ext hh.ext)) ?_; clear hf a; intro v a w hR hf
            rw [hs, e1] at hR
            obtain ⟨rfl, hx⟩ := hR; replace hh := hh.more hx; clear hx
            refine o_v hf hh (yv_move rfl) ?_; clear hf a; intro a hf
            refine o_v hf hh (yv_extract rfl rfl) ?_; clear hf a; intro a hf
            refine o_v hf hh (yv_extract rfl rfl) ?_; clear hf a; intro a hf
            refine o_alloc hf hh Try.ze_43 ?_; clear hf hh a; intro B16 a w hf hh
            refine o_store hf hh Try.sz_43 fun w hh => ?_
            refine o_v hf hh (yv_assign rfl) ?_; clear hf a; intro a hf
            refine o_end ?_
            refine sy_sq ?_
            refine o_v hf hh (y_lds Try.ag_37 rfl) ?_; clear hf a; intro a hf
            refine o_v hf hh (yv_move rfl) ?_; clear hf a; intro a hf
            refine o_call hf Try.en_28 rfl rfl rfl (p28 (addR d n) p' (k : Nat) _ (hB9.ext hh.ext)) ?_; clear hf a; intro v a w hR hf
            rw [ht, e2] at hR
            obtain ⟨rfl, hx⟩ := hR; replace hh := hh.more hx; clear hx
            refine o_v hf hh (yv_move rfl) ?_; clear hf a; intro a hf
            refine o_v hf hh (yv_extract rfl rfl) ?_; clear hf a; intro a hf
            refine o_v hf hh (yv_extract rfl rfl) ?_; clear hf a; intro a hf
            refine o_alloc hf hh Try.ze_43 ?_; clear hf hh a; intro B18 a w hf hh
            refine o_store hf hh Try.sz_43 fun w hh => ?_
            refine o_v hf hh (yv_assign rfl) ?_; clear hf a; intro a hf
            refine o_end ?_
            refine sy_sq ?_
            refine o_v hf hh (yv_move rfl) ?_; clear hf a; intro a hf
            refine o_v hf hh (yv_bin rfl rfl rfl) ?_; clear hf a; intro a hf
            refine o_v hf hh (yv_move rfl) ?_; clear hf a; intro a hf
            refine o_v hf hh (yv_move rfl) ?_; clear hf a; intro a hf
            refine o_v hf hh (yv_bin rfl rfl rfl) ?_; clear hf a; intro a hf
            refine o_v hf hh (y_pf rfl rfl) ?_; clear hf a; intro a hf
            refine o_v hf hh (yv_move rfl) ?_; clear hf a; intro a hf
            refine o_v hf hh (yv_fieldAddr Try.fo_43_0 rfl) ?_; clear hf a; intro a hf
            refine o_v hf hh (y_ld Try.sc_3 rfl) ?_; clear hf a; intro a hf
            refine o_v hf hh (yv_fieldAddr Try.fo_43_0 rfl) ?_; clear hf a; intro a hf
            refine o_v hf hh (y_ld Try.sc_3 rfl) ?_; clear hf a; intro a hf
            refine o_v hf hh (yv_bin rfl rfl rfl) ?_; clear hf a; intro a hf
            refine o_v hf hh (y_pf rfl rfl) ?_; clear hf a; intro a hf
            refine o_v hf hh (yv_move rfl) ?_; clear hf a; intro a hf
            refine o_v hf hh (yv_fieldAddr Try.fo_43_1 rfl) ?_; clear hf a; intro a hf
            refine o_v hf hh (y_ld Try.sc_3 rfl) ?_; clear hf a; intro a hf
            refine o_v hf hh (yv_fieldAddr Try.fo_43_1 rfl) ?_; clear hf a; intro a hf
            refine o_v hf hh (y_ld Try.sc_3 rfl) ?_; clear hf a; intro a hf
            refine o_v hf hh (yv_bin rfl rfl rfl) ?_; clear hf a; intro a hf
            refine o_v hf hh (y_pf rfl rfl) ?_; clear hf a; intro a hf
            refine o_end ?_
            refine c_f hf ?_
            refine sy_skip ?_
            refine blk_n ?_
            refine then_n ?_
            refine sy_ops ?_
            refine o_v hf hh (y_add rfl rfl) ?_; clear hf a; intro a hf
            refine o_v hf hh (yv_move rfl) ?_; clear hf a; intro a hf
            refine ops_end ?_
            refine then_n ?_
            exact ⟨k + 1, ⟨⟨by omega, hh.less (List.nil_sublist _)⟩, (hf.head (by repeat' (first | exact True.intro | refine And.intro rfl ?_)) (Keep.cons rfl (Keep.cons rfl (Keep.cons rfl (Keep.cons rfl (Keep.cons rfl (Keep.cons rfl (Keep.cons rfl (Keep.cons rfl (Keep.cons rfl (Keep.cons rfl (Keep.cons rfl (Keep.cons rfl (Keep.cons rfl (Keep.cons rfl (Keep.cons rfl (Keep.cons rfl (Keep.cons rfl (Keep.cons rfl (Keep.cons rfl (Keep.cons rfl (Keep.cons rfl (Keep.cons rfl (Keep.cons rfl (Keep.cons rfl (Keep.cons rfl (Keep.cons rfl (Keep.cons rfl (Keep.cons rfl (Keep.cons rfl (Keep.cons rfl (Keep.cons rfl (Keep.cons rfl (Keep.cons rfl (Keep.cons rfl (Keep.cons rfl (Keep.cons rfl (Keep.cons rfl (Keep.cons rfl (Keep.cons rfl (Keep.cons rfl (Keep.cons rfl (Keep.app rfl (Keep.rm rfl Keep.base))))))))))))))))))))))))))))))))))))))))))))⟩, by omega⟩
           ·have hG48 := hg48; try simp only [gS] at hG48
            refine sy_exit ?_
            refine then_e ?_
            refine then_e ?_
            refine blk_e ?_
            refine then_n ?_
            refine sy_sq ?_
            refine o_call hf Try.en_14 rfl rfl rfl (p14 _) ?_; clear hf a; intro v a w hR hf
            obtain ⟨rfl, hx⟩ := hR; replace hh := hh.more hx; clear hx
            refine o_v hf hh (yv_assign rfl) ?_; clear hf a; intro a hf
            refine o_end ?_
            refine sy_ret ?_
            refine ret_r hf rfl rfl ?_
            first
              | exact ⟨rfl, hh.ext⟩
              | exact ⟨rfl, hx0.trans hh.ext⟩
       ·refine mc_e rfl fun Q1 => ?_
        refine ops_buildSl hf hh Try.bl_35_1 rfl rfl (.inl rfl) rfl ?_; clear hf hh; clear a; intro B79 a w hf hh
        refine ops_end ?_
        refine then_n ⟨⟨fun _ _ => (AtE.of hh (fun q hq => by first | exact hq | exact List.mem_append_left _ hq | exact .tail _ hq | exact .tail _ (.tail _ hq) | exact List.mem_append_right _ hq | exact .tail _ (List.mem_append_right _ hq) | exact List.mem_append_right _ (.tail _ hq))), trivial⟩, ?_⟩
        refine mc_e rfl fun Q1 => ?_
        first
          | (refine ops_appendV (e := 66) (size := 4) (xs := []) (news := d.reps.flatMap rpC) (X := [(B74, .cells #[] 66)]) (m := 0) hf (hh) Try.eb_35 rfl rfl ⟨rfl, .inr ⟨B74, 0, #[], rfl, rfl, Nat.le_refl _, Nat.zero_le _, rfl, rfl⟩⟩ (vals_of (enc := rpC) (n := 4) (fun _ => rfl) (hA.rp.ext hh.ext)) (flat_len (enc := rpC) (n := 4) (fun _ => rfl) _) (by omega) (rp_1c _) (by simp only [maxLen]; omega) (by omega) (.inl rfl) rfl ?_)
          | (refine ops_appendV (e := 66) (size := 4) (xs := []) (news := d.reps.flatMap rpC) (X := [(B74, .cells #[] 66)]) (m := 0) hf (hh.perm (.swap _ _ _)) Try.eb_35 rfl rfl ⟨rfl, .inr ⟨B74, 0, #[], rfl, rfl, Nat.le_refl _, Nat.zero_le _, rfl, rfl⟩⟩ (vals_of (enc := rpC) (n := 4) (fun _ => rfl) (hA.rp.ext hh.ext)) (flat_len (enc := rpC) (n := 4) (fun _ => rfl) _) (by omega) (rp_1c _) (by simp only [maxLen]; omega) (by omega) (.inl rfl) rfl ?_)
        clear hf hh a; intro v4 X4 a w hO4 hf hh
        rw [Nat.zero_add, List.nil_append] at hO4
        refine ops_end ?_
        refine then_n ⟨⟨fun _ _ => (AtE.of hh (fun q hq => by first | exact hq | exact List.mem_append_left _ hq | exact .tail _ hq | exact .tail _ (.tail _ hq) | exact List.mem_append_right _ hq | exact .tail _ (List.mem_append_right _ hq) | exact List.mem_append_right _ (.tail _ hq))), trivial⟩, ?_⟩
        refine mc_e rfl fun Q1 => ?_
        first
          | (refine ops_append (e := 66) (size := 4) (xs := d.reps.flatMap rpC) (X := X4) (Z := [(B8, .cells (rpC n).toArray 66), (B7, .cells (royC d ⟨st, sp, ss, some ⟨blk, off, none⟩, sd, ct, cp, cs, cr, cd⟩) 37), (B3, .cells (royC d ⟨st, sp, ss, some ⟨blk, off, none⟩, sd, ct, cp, cs, cr, cd⟩) 37)]) (m := d.reps.length) (q := 1) hf (hh) Try.eb_35 rfl rfl hO4 rfl rfl rfl (by simp only [maxLen]; omega) (by omega) (.inl rfl) rfl ?_)
          | (refine ops_append (e := 66) (size := 4) (xs := d.reps.flatMap rpC) (X := X4) (Z := [(B8, .cells (rpC n).toArray 66), (B7, .cells (royC d ⟨st, sp, ss, some ⟨blk, off, none⟩, sd, ct, cp, cs, cr, cd⟩) 37), (B3, .cells (royC d ⟨st, sp, ss, some ⟨blk, off, none⟩, sd, ct, cp, cs, cr, cd⟩) 37)]) (m := d.reps.length) (q := 1) hf (hh.perm List.perm_middle) Try.eb_35 rfl rfl hO4 rfl rfl rfl (by simp only [maxLen]; omega) (by omega) (.inl rfl) rfl ?_)
        clear hf hh a; intro v6 X6 a w hO6 hf hh
        obtain ⟨oa6, cp6, rfl⟩ := own_val hO6
        have hcap6 := own_cap hO6
        replace hh := hh.perm (List.perm_append_comm (l₁ := X6) (l₂ := [(B8, Obj.cells (rpC n).toArray 66), (B7, Obj.cells (royC d ⟨st, sp, ss, some ⟨blk, off, none⟩, sd, ct, cp, cs, cr, cd⟩) 37), (B3, Obj.cells (royC d ⟨st, sp, ss, some ⟨blk, off, none⟩, sd, ct, cp, cs, cr, cd⟩) 37)]))
        refine ops_end ?_
        refine then_n ⟨⟨fun _ _ => (AtE.of hh (fun q hq => by first | exact hq | exact List.mem_append_left _ hq | exact .tail _ hq | exact .tail _ (.tail _ hq) | exact List.mem_append_right _ hq | exact .tail _ (List.mem_append_right _ hq) | exact List.mem_append_right _ (.tail _ hq))), trivial⟩, ?_⟩
        refine mc_p rfl   hf (yv_fieldAddr Try.fo_37_3 rfl) (.inl rfl) rfl rfl ?_; clear hf a; intro a hf
        refine mc_e rfl fun Q1 => ?_
        refine o_store hf hh Try.sz_35 fun w hh => ?_
        refine ops_end ?_
        refine then_n ⟨⟨fun h => Bool.noConfusion (show true = false from h), trivial⟩, ?_⟩
        refine mc_end ?_
        refine then_n ?_
        refine sy_seq ?_
        refine sy_seq ?_
        replace hh : Hp u [] ([(B8, .cells (rpC n).toArray 66), (B7, .cells (spl (royC d ⟨st, sp, ss, some ⟨blk, off, none⟩, sd, ct, cp, cs, cr, cd⟩) (0 + 3) [.slice oa6 (d.reps.length + 1) cp6]) 37), (B3, .cells (royC d ⟨st, sp, ss, some ⟨blk, off, none⟩, sd, ct, cp, cs, cr, cd⟩) 37)] ++ X6) w := hh
        have hrp := own_tat (enc := rpC) (n := 4) (l := d.reps ++ [n]) (fun _ => rfl) (by rw [fm_snoc]; exact hO6) (by simp) (fun q hq => hh.get q (List.mem_append_right _ hq))
        have hx0 := hh.ext
        obtain ⟨p', hp'⟩ : ∃ p' : Pl, p' = ⟨st, sp, ss, oa6, sd, ct, cp, cs, cp6, cd⟩ := ⟨_, rfl⟩
        have q8 := hh.at (i := 0) rfl
        have q7 : w.heap[B7]? = some (.cells (royC (addR d n) p') 37 (0, 0)) := by
          have h := hh.at (i := 1) rfl
          rw [h, hp']
          have e5 : ((addR d n).reps.length : Nat) = d.reps.length + 1 := by show (d.reps ++ [n]).length = _; simp
          simp only [royC, e5]; rfl
        have q3 := hh.at (i := 2) rfl
        have hA9 := hA.ext hx0
        have hB9 : RoyAt w (addR d n) p' := by
          rw [hp']
          exact ⟨hA9.tm, hA9.pr, hA9.sh, hrp, hA9.pd, hA9.n1, hA9.n2, hA9.n3, by show (d.reps ++ [n]).length ≤ 1000; simp; omega, hA9.n5, hA9.n6, by show (d.reps ++ [n]).length ≤ cp6; simp; exact hcap6⟩
        obtain ⟨w9, rfl⟩ : ∃ z, z = w := ⟨_, rfl⟩
        clear hh
        have hh := Hp.init w9 []
        rw [hn] at q8
        refine sy_ops ?_
        refine o_v hf hh (yv_fieldAddr Try.fo_37_0 rfl) ?_; clear hf a; intro a hf
        refine o_v hf hh (y_ld Try.sc_33 rfl) ?_; clear hf a; intro a hf
        refine o_v hf hh (yv_len Try.se_33 rfl) ?_; clear hf a; intro a hf
        refine o_v hf hh (yv_move rfl) ?_; clear hf a; intro a hf
        refine o_end ?_
        refine sy_block ?_
        refine sy_loopH (σ := Nat) [6, 10, 11, 12, 13, 14, 85, 86, 87, 88, 89, 90, 91, 92, 93, 94, 95, 96, 97, 98, 99, 100, 101, 102, 103, 104, 105, 106, 107, 108, 109, 110, 111, 112, 113, 114, 115, 116, 117, 118, 119, 120, 121, 122, 123, 124, 125, 126, 127, 128, 129, 130, 131, 132, 133, 134, 135, 136, 137, 138, 139, 140, 141, 142, 143, 144, 145, 146, 147, 148, 149, 150, 151, 152, 153, 154, 155] (fun g => [(85, .int .i64 (g : Nat))]) (fun g => fun w' => g ≤ d.terms.length ∧ Hp w9 [] [] w') (fun g => d.terms.length - g) (0) hf ?_ ?_ ?_
        · repeat' (first | exact True.intro | refine And.intro rfl ?_)
        · exact ⟨Nat.zero_le _, hh⟩
        ·rintro g a w ⟨hg, hh⟩ hf
         refine sy_sq ?_
         refine o_v hf hh (yv_bin rfl rfl rfl) ?_; clear hf a; intro a hf
         refine o_end ?_
         refine sy_seq ?_
         refine sy_cond hf rfl (fun hg63 => ?_) (fun hg63 => ?_)
         ·have hG63 := hg63; try simp only [gS] at hG63
          refine sy_skip ?_
          refine then_n ?_
          refine sy_seq ?_
          refine sy_block ?_
          refine sy_sq ?_
          refine o_v hf hh (yv_move rfl) ?_; clear hf a; intro a hf
          refine o_v hf hh (yv_assign rfl) ?_; clear hf a; intro a hf
          refine o_end ?_
          refine sy_seq ?_
          obtain ⟨m1, m2, m3, m4, m5⟩ := owe_more hP hO hr2 (g := g) (by omega)
          obtain ⟨e1, _⟩ := owe_ok hO (g := g) (by omega)
          obtain ⟨e2, _⟩ := owe_ok hO' (g := g) (show g < d.terms.length by omega)
          obtain ⟨s1, s2, hs⟩ : ∃ s1 s2, oweV d g = (s1, s2) := ⟨_, _, rfl⟩
          obtain ⟨t1, t2, ht⟩ : ∃ t1 t2, oweV (addR d n) g = (t1, t2) := ⟨_, _, rfl⟩
          rw [hs, ht] at m1 m2 m3 m4 m5
          dsimp only at m1 m2 m3 m4 m5
          rw [hag] at m3 m4 m5
          refine sy_ops ?_
          refine o_v hf hh (y_lds Try.ag_37 rfl) ?_; clear hf a; intro a hf
          refine o_v hf hh (yv_move rfl) ?_; clear hf a; intro a hf
          refine o_call hf Try.en_25 rfl rfl rfl (p25 d _ (g : Nat) _ (hA9.ext hh.ext)) ?_; clear hf a; intro v a w hR hf
          rw [hs, e1] at hR
          obtain ⟨rfl, hx⟩ := hR; replace hh := hh.more hx; clear hx
          refine o_v hf hh (yv_move rfl) ?_; clear hf a; intro a hf
          refine o_v hf hh (yv_extract rfl rfl) ?_; clear hf a; intro a hf
          refine o_v hf hh (yv_extract rfl rfl) ?_; clear hf a; intro a hf
          refine o_alloc hf hh Try.ze_43 ?_; clear hf hh a; intro B11 a w hf hh
          refine o_store hf hh Try.sz_43 fun w hh => ?_
          refine o_v hf hh (yv_assign rfl) ?_; clear hf a; intro a hf
          refine o_end ?_
          refine sy_sq ?_
          refine o_v hf hh (y_lds Try.ag_37 rfl) ?_; clear hf a; intro a hf
          refine o_v hf hh (yv_move rfl) ?_; clear hf a; intro a hf
          refine o_call hf Try.en_25 rfl rfl rfl (p25 (addR d n) p' (g : Nat) _ (hB9.ext hh.ext)) ?_; clear hf a; intro v a w hR hf
          rw [ht, e2] at hR
          obtain ⟨rfl, hx⟩ := hR; replace hh := hh.more hx; clear hx
          refine o_v hf hh (yv_move rfl) ?_; clear hf a; intro a hf
          refine o_v hf hh (yv_extract rfl rfl) ?_; clear hf a; intro a hf
          refine o_v hf hh (yv_extract rfl rfl) ?_; clear hf a; intro a hf
          refine o_alloc hf hh Try.ze_43 ?_; clear hf hh a; intro B13 a w hf hh
          refine o_store hf hh Try.sz_43 fun w hh => ?_
          refine o_v hf hh (yv_assign rfl) ?_; clear hf a; intro a hf
          refine o_end ?_
          refine sy_seq ?_
          refine sy_sq ?_
          refine o_v hf hh (yv_move rfl) ?_; clear hf a; intro a hf
          refine o_v hf hh (yv_bin rfl rfl rfl) ?_; clear hf a; intro a hf
          refine o_v hf hh (yv_move rfl) ?_; clear hf a; intro a hf
          refine o_v hf hh (yv_move rfl) ?_; clear hf a; intro a hf
          refine o_v hf hh (yv_bin rfl rfl rfl) ?_; clear hf a; intro a hf
          refine o_v hf hh (y_pf rfl rfl) ?_; clear hf a; intro a hf
          refine o_v hf hh (yv_move rfl) ?_; clear hf a; intro a hf
          refine o_v hf hh (yv_fieldAddr Try.fo_43_0 rfl) ?_; clear hf a; intro a hf
          refine o_v hf hh (y_ld Try.sc_3 rfl) ?_; clear hf a; intro a hf
          refine o_v hf hh (yv_fieldAddr Try.fo_43_0 rfl) ?_; clear hf a; intro a hf
          refine o_v hf hh (y_ld Try.sc_3 rfl) ?_; clear hf a; intro a hf
          refine o_v hf hh (yv_bin rfl rfl rfl) ?_; clear hf a; intro a hf
          refine o_v hf hh (y_pf rfl rfl) ?_; clear hf a; intro a hf
          refine o_v hf hh (yv_move rfl) ?_; clear hf a; intro a hf
          refine o_v hf hh (yv_fieldAddr Try.fo_43_1 rfl) ?_; clear hf a; intro a hf
          refine o_v hf hh (y_ld Try.sc_3 rfl) ?_; clear hf a; intro a hf
          refine o_v hf hh (yv_fieldAddr Try.fo_43_1 rfl) ?_; clear hf a; intro a hf
          refine o_v hf hh (y_ld Try.sc_3 rfl) ?_; clear hf a; intro a hf
          refine o_v hf hh (yv_bin rfl rfl rfl) ?_; clear hf a; intro a hf
          refine o_v hf hh (y_pf rfl rfl) ?_; clear hf a; intro a hf
          refine o_v hf hh (yv_move rfl) ?_; clear hf a; intro a hf
          refine o_v hf hh (yv_move rfl) ?_; clear hf a; intro a hf
          refine o_v hf hh (yv_fieldAddr Try.fo_66_0 rfl) ?_; clear hf a; intro a hf
          refine o_v hf hh (y_ld Try.sc_3 rfl) ?_; clear hf a; intro a hf
          refine o_v hf hh (yv_bin rfl rfl rfl) ?_; clear hf a; intro a hf
          refine o_v hf hh (yv_move rfl) ?_; clear hf a; intro a hf
          refine guard_split hf (t := 125) rfl (fun hg75 => ?_) (fun hg75 => ?_)
          ·have hG75 := hg75; try simp only [gS] at hG75
           have m3e := m3 (by omega)
           refine o_v hf hh (yv_fieldAddr Try.fo_43_1 rfl) ?_; clear hf a; intro a hf
           refine o_v hf hh (y_ld Try.sc_3 rfl) ?_; clear hf a; intro a hf
           refine o_v hf hh (yv_fieldAddr Try.fo_43_1 rfl) ?_; clear hf a; intro a hf
           refine o_v hf hh (y_ld Try.sc_3 rfl) ?_; clear hf a; intro a hf
           refine o_v hf hh (yv_bin rfl rfl rfl) ?_; clear hf a; intro a hf
           refine o_v hf hh (y_pt rfl rfl) ?_; clear hf a; intro a hf
           refine o_v hf hh (y_pf rfl rfl) ?_; clear hf a; intro a hf
           refine o_v hf hh (yv_move rfl) ?_; clear hf a; intro a hf
           refine o_v hf hh (yv_move rfl) ?_; clear hf a; intro a hf
           refine o_v hf hh (yv_fieldAddr Try.fo_66_0 rfl) ?_; clear hf a; intro a hf
           refine o_v hf hh (y_ld Try.sc_3 rfl) ?_; clear hf a; intro a hf
           refine o_v hf hh (yv_bin rfl rfl rfl) ?_; clear hf a; intro a hf
           refine o_v hf hh (yv_move rfl) ?_; clear hf a; intro a hf
           refine guard_split hf (t := 138) rfl (fun hg78 => ?_) (fun hg78 => ?_)
           ·have hG78 := hg78; try simp only [gS] at hG78
            have m4e := m4 (by omega)
            refine o_v hf hh (yv_fieldAddr Try.fo_43_0 rfl) ?_; clear hf a; intro a hf
            refine o_v hf hh (y_ld Try.sc_3 rfl) ?_; clear hf a; intro a hf
            refine o_v hf hh (yv_fieldAddr Try.fo_43_0 rfl) ?_; clear hf a; intro a hf
            refine o_v hf hh (y_ld Try.sc_3 rfl) ?_; clear hf a; intro a hf
            refine o_v hf hh (yv_bin rfl rfl rfl) ?_; clear hf a; intro a hf
            refine o_v hf hh (y_pt rfl rfl) ?_; clear hf a; intro a hf
            refine o_v hf hh (y_pf rfl rfl) ?_; clear hf a; intro a hf
            refine o_end ?_
            refine c_f hf ?_
            refine sy_skip ?_
            refine then_n ?_
            refine sy_sq ?_
            refine o_v hf hh (yv_fieldAddr Try.fo_66_0 rfl) ?_; clear hf a; intro a hf
            refine o_v hf hh (y_ld Try.sc_3 rfl) ?_; clear hf a; intro a hf
            refine o_v hf hh (yv_move rfl) ?_; clear hf a; intro a hf
            refine o_v hf hh (yv_bin rfl rfl rfl) ?_; clear hf a; intro a hf
            refine o_v hf hh (yv_move rfl) ?_; clear hf a; intro a hf
            refine guard_split hf (t := 150) rfl (fun hg81 => ?_) (fun hg81 => ?_)
            ·have hG81 := hg81; try simp only [gS] at hG81
             refine o_v hf hh (y_lds Try.ag_43 rfl) ?_; clear hf a; intro a hf
             refine o_v hf hh (y_lds Try.ag_43 rfl) ?_; clear hf a; intro a hf
             have m5e := m5 (by omega)
             obtain ⟨m5a, m5b⟩ := Prod.mk.injEq _ _ _ _ ▸ m5e
             refine o_v hf hh (yv_cast (yv_neF [s1, s2] [t1, t2] fl43 rfl rfl) (congrArg Value.bool (show _ = false by rw [m5a, m5b]; simp))) ?_; clear hf a; intro a hf
             refine o_v hf hh (y_pt rfl rfl) ?_; clear hf a; intro a hf
             refine o_end ?_
             refine c_f hf ?_
             refine sy_skip ?_
             refine blk_n ?_
             refine then_n ?_
             refine sy_ops ?_
             refine o_v hf hh (y_add rfl rfl) ?_; clear hf a; intro a hf
             refine o_v hf hh (yv_move rfl) ?_; clear hf a; intro a hf
             refine ops_end ?_
             refine then_n ?_
             exact ⟨g + 1, ⟨⟨by omega, hh.less (List.nil_sublist _)⟩, (hf.head (by repeat' (first | exact True.intro | refine And.intro rfl ?_)) (Keep.cons rfl (Keep.cons rfl (Keep.cons rfl (Keep.cons rfl (Keep.cons rfl (Keep.cons rfl (Keep.cons rfl (Keep.cons rfl (Keep.cons rfl (Keep.cons rfl (Keep.cons rfl (Keep.cons rfl (Keep.cons rfl (Keep.cons rfl (Keep.cons rfl (Keep.cons rfl (Keep.cons rfl (Keep.cons rfl (Keep.cons rfl (Keep.cons rfl (Keep.cons rfl (Keep.cons rfl (Keep.cons rfl (Keep.cons rfl (Keep.cons rfl (Keep.cons rfl (Keep.cons rfl (Keep.cons rfl (Keep.cons rfl (Keep.cons rfl (Keep.cons rfl (Keep.cons rfl (Keep.cons rfl (Keep.cons rfl (Keep.cons rfl (Keep.cons rfl (Keep.cons rfl (Keep.cons rfl (Keep.cons rfl (Keep.cons rfl (Keep.cons rfl (Keep.cons rfl (Keep.cons rfl (Keep.cons rfl (Keep.cons rfl (Keep.cons rfl (Keep.cons rfl (Keep.cons rfl (Keep.cons rfl (Keep.cons rfl (Keep.cons rfl (Keep.cons rfl (Keep.cons rfl (Keep.cons rfl (Keep.cons rfl (Keep.cons rfl (Keep.cons rfl (Keep.cons rfl (Keep.cons rfl (Keep.cons rfl (Keep.cons rfl (Keep.cons rfl (Keep.cons rfl (Keep.cons rfl (Keep.cons rfl (Keep.cons rfl (Keep.cons rfl (Keep.cons rfl (Keep.cons rfl (Keep.cons rfl (Keep.cons rfl (Keep.cons rfl (Keep.cons rfl (Keep.cons rfl (Keep.cons rfl (Keep.cons rfl (Keep.app rfl (Keep.rm rfl Keep.base)))))))))))))))))))))))))))))))))))))))))))))))))))))))))))))))))))))))))))))))⟩, by omega⟩
            ·have hG81 := hg81; try simp only [gS] at hG81
             refine o_off hf ?_; clear hf a; intro a hf
             refine o_off hf ?_; clear hf a; intro a hf
             refine o_off hf ?_; clear hf a; intro a hf
             refine o_v hf hh (y_pf rfl rfl) ?_; clear hf a; intro a hf
             refine o_end ?_
             refine c_f hf ?_
             refine sy_skip ?_
             refine blk_n ?_
             refine then_n ?_
             refine sy_ops ?_
             refine o_v hf hh (y_add rfl rfl) ?_; clear hf a; intro a hf
             refine o_v hf hh (yv_move rfl) ?_; clear hf a; intro a hf
             refine ops_end ?_
             refine then_n ?_
             exact ⟨g + 1, ⟨⟨by omega, hh.less (List.nil_sublist _)⟩, (hf.head (by repeat' (first | exact True.intro | refine And.intro rfl ?_)) (Keep.cons rfl (Keep.cons rfl (Keep.cons rfl (Keep.cons rfl (Keep.cons rfl (Keep.cons rfl (Keep.cons rfl (Keep.cons rfl (Keep.cons rfl (Keep.cons rfl (Keep.cons rfl (Keep.cons rfl (Keep.cons rfl (Keep.cons rfl (Keep.cons rfl (Keep.cons rfl (Keep.cons rfl (Keep.cons rfl (Keep.cons rfl (Keep.cons rfl (Keep.cons rfl (Keep.cons rfl (Keep.cons rfl (Keep.cons rfl (Keep.cons rfl (Keep.cons rfl (Keep.cons rfl (Keep.cons rfl (Keep.cons rfl (Keep.cons rfl (Keep.cons rfl (Keep.cons rfl (Keep.cons rfl (Keep.cons rfl (Keep.cons rfl (Keep.cons rfl (Keep.cons rfl (Keep.cons rfl (Keep.cons rfl (Keep.cons rfl (Keep.cons rfl (Keep.cons rfl (Keep.cons rfl (Keep.cons rfl (Keep.cons rfl (Keep.cons rfl (Keep.cons rfl (Keep.cons rfl (Keep.cons rfl (Keep.cons rfl (Keep.cons rfl (Keep.cons rfl (Keep.cons rfl (Keep.cons rfl (Keep.cons rfl (Keep.cons rfl (Keep.cons rfl (Keep.cons rfl (Keep.cons rfl (Keep.cons rfl (Keep.cons rfl (Keep.cons rfl (Keep.cons rfl (Keep.cons rfl (Keep.cons rfl (Keep.cons rfl (Keep.cons rfl (Keep.cons rfl (Keep.cons rfl (Keep.cons rfl (Keep.cons rfl (Keep.cons rfl (Keep.cons rfl (Keep.cons rfl (Keep.cons rfl (Keep.cons rfl (Keep.app rfl (Keep.rm rfl Keep.base)))))))))))))))))))))))))))))))))))))))))))))))))))))))))))))))))))))))))))))))⟩, by omega⟩
           ·have hG78 := hg78; try simp only [gS] at hG78
            refine o_off hf ?_; clear hf a; intro a hf
            refine o_off hf ?_; clear hf a; intro a hf
            refine o_off hf ?_; clear hf a; intro a hf
            refine o_off hf ?_; clear hf a; intro a hf
            refine o_off hf ?_; clear hf a; intro a hf
            refine o_v hf hh (y_pf rfl rfl) ?_; clear hf a; intro a hf
            refine o_v hf hh (y_pf rfl rfl) ?_; clear hf a; intro a hf
            refine o_end ?_
            refine c_f hf ?_
            refine sy_skip ?_
            refine then_n ?_
            refine sy_sq ?_
            refine o_v hf hh (yv_fieldAddr Try.fo_66_0 rfl) ?_; clear hf a; intro a hf
            refine o_v hf hh (y_ld Try.sc_3 rfl) ?_; clear hf a; intro a hf
            refine o_v hf hh (yv_move rfl) ?_; clear hf a; intro a hf
            refine o_v hf hh (yv_bin rfl rfl rfl) ?_; clear hf a; intro a hf
            refine o_v hf hh (yv_move rfl) ?_; clear hf a; intro a hf
            refine guard_split hf (t := 150) rfl (fun hg83 => ?_) (fun hg83 => ?_)
            ·have hG83 := hg83; try simp only [gS] at hG83
             refine o_v hf hh (y_lds Try.ag_43 rfl) ?_; clear hf a; intro a hf
             refine o_v hf hh (y_lds Try.ag_43 rfl) ?_; clear hf a; intro a hf
             have m5e := m5 (by omega)
             obtain ⟨m5a, m5b⟩ := Prod.mk.injEq _ _ _ _ ▸ m5e
             refine o_v hf hh (yv_cast (yv_neF [s1, s2] [t1, t2] fl43 rfl rfl) (congrArg Value.bool (show _ = false by rw [m5a, m5b]; simp))) ?_; clear hf a; intro a hf
             refine o_v hf hh (y_pt rfl rfl) ?_; clear hf a; intro a hf
             refine o_end ?_
             refine c_f hf ?_
             refine sy_skip ?_
             refine blk_n ?_
             refine then_n ?_
             refine sy_ops ?_
             refine o_v hf hh (y_add rfl rfl) ?_; clear hf a; intro a hf
             refine o_v hf hh (yv_move rfl) ?_; clear hf a; intro a hf
             refine ops_end ?_
             refine then_n ?_
             exact ⟨g + 1, ⟨⟨by omega, hh.less (List.nil_sublist _)⟩, (hf.head (by repeat' (first | exact True.intro | refine And.intro rfl ?_)) (Keep.cons rfl (Keep.cons rfl (Keep.cons rfl (Keep.cons rfl (Keep.cons rfl (Keep.cons rfl (Keep.cons rfl (Keep.cons rfl (Keep.cons rfl (Keep.cons rfl (Keep.cons rfl (Keep.cons rfl (Keep.cons rfl (Keep.cons rfl (Keep.cons rfl (Keep.cons rfl (Keep.cons rfl (Keep.cons rfl (Keep.cons rfl (Keep.cons rfl (Keep.cons rfl (Keep.cons rfl (Keep.cons rfl (Keep.cons rfl (Keep.cons rfl (Keep.cons rfl (Keep.cons rfl (Keep.cons rfl (Keep.cons rfl (Keep.cons rfl (Keep.cons rfl (Keep.cons rfl (Keep.cons rfl (Keep.cons rfl (Keep.cons rfl (Keep.cons rfl (Keep.cons rfl (Keep.cons rfl (Keep.cons rfl (Keep.cons rfl (Keep.cons rfl (Keep.cons rfl (Keep.cons rfl (Keep.cons rfl (Keep.cons rfl (Keep.cons rfl (Keep.cons rfl (Keep.cons rfl (Keep.cons rfl (Keep.cons rfl (Keep.cons rfl (Keep.cons rfl (Keep.cons rfl (Keep.cons rfl (Keep.cons rfl (Keep.cons rfl (Keep.cons rfl (Keep.cons rfl (Keep.cons rfl (Keep.cons rfl (Keep.cons rfl (Keep.cons rfl (Keep.cons rfl (Keep.cons rfl (Keep.cons rfl (Keep.cons rfl (Keep.cons rfl (Keep.cons rfl (Keep.cons rfl (Keep.cons rfl (Keep.cons rfl (Keep.cons rfl (Keep.cons rfl (Keep.cons rfl (Keep.cons rfl (Keep.cons rfl (Keep.app rfl (Keep.rm rfl Keep.base)))))))))))))))))))))))))))))))))))))))))))))))))))))))))))))))))))))))))))))))⟩, by omega⟩
            ·have hG83 := hg83; try simp only [gS] at hG83
             refine o_off hf ?_; clear hf a; intro a hf
             refine o_off hf ?_; clear hf a; intro a hf
             refine o_off hf ?_; clear hf a; intro a hf
             refine o_v hf hh (y_pf rfl rfl) ?_; clear hf a; intro a hf
             refine o_end ?_
             refine c_f hf ?_
             refine sy_skip ?_
             refine blk_n ?_
             refine then_n ?_
             refine sy_ops ?_
             refine o_v hf hh (y_add rfl rfl) ?_; clear hf a; intro a hf
             refine o_v hf hh (yv_move rfl) ?_; clear hf a; intro a hf
             refine ops_end ?_
             refine then_n ?_
             exact ⟨g + 1, ⟨⟨by omega, hh.less (List.nil_sublist _)⟩, (hf.head (by repeat' (first | exact True.intro | refine And.intro rfl ?_)) (Keep.cons rfl (Keep.cons rfl (Keep.cons rfl (Keep.cons rfl (Keep.cons rfl (Keep.cons rfl (Keep.cons rfl (Keep.cons rfl (Keep.cons rfl (Keep.cons rfl (Keep.cons rfl (Keep.cons rfl (Keep.cons rfl (Keep.cons rfl (Keep.cons rfl (Keep.cons rfl (Keep.cons rfl (Keep.cons rfl (Keep.cons rfl (Keep.cons rfl (Keep.cons rfl (Keep.cons rfl (Keep.cons rfl (Keep.cons rfl (Keep.cons rfl (Keep.cons rfl (Keep.cons rfl (Keep.cons rfl (Keep.cons rfl (Keep.cons rfl (Keep.cons rfl (Keep.cons rfl (Keep.cons rfl (Keep.cons rfl (Keep.cons rfl (Keep.cons rfl (Keep.cons rfl (Keep.cons rfl (Keep.cons rfl (Keep.cons rfl (Keep.cons rfl (Keep.cons rfl (Keep.cons rfl (Keep.cons rfl (Keep.cons rfl (Keep.cons rfl (Keep.cons rfl (Keep.cons rfl (Keep.cons rfl (Keep.cons rfl (Keep.cons rfl (Keep.cons rfl (Keep.cons rfl (Keep.cons rfl (Keep.cons rfl (Keep.cons rfl (Keep.cons rfl (Keep.cons rfl (Keep.cons rfl (Keep.cons rfl (Keep.cons rfl (Keep.cons rfl (Keep.cons rfl (Keep.cons rfl (Keep.cons rfl (Keep.cons rfl (Keep.cons rfl (Keep.cons rfl (Keep.cons rfl (Keep.cons rfl (Keep.cons rfl (Keep.cons rfl (Keep.cons rfl (Keep.cons rfl (Keep.cons rfl (Keep.cons rfl (Keep.app rfl (Keep.rm rfl Keep.base)))))))))))))))))))))))))))))))))))))))))))))))))))))))))))))))))))))))))))))))⟩, by omega⟩
          ·have hG75 := hg75; try simp only [gS] at hG75
           refine o_off hf ?_; clear hf a; intro a hf
           refine o_off hf ?_; clear hf a; intro a hf
           refine o_off hf ?_; clear hf a; intro a hf
           refine o_off hf ?_; clear hf a; intro a hf
           refine o_off hf ?_; clear hf a; intro a hf
           refine o_v hf hh (y_pf rfl rfl) ?_; clear hf a; intro a hf
           refine o_v hf hh (y_pf rfl rfl) ?_; clear hf a; intro a hf
           refine o_v hf hh (yv_move rfl) ?_; clear hf a; intro a hf
           refine o_v hf hh (yv_move rfl) ?_; clear hf a; intro a hf
           refine o_v hf hh (yv_fieldAddr Try.fo_66_0 rfl) ?_; clear hf a; intro a hf
           refine o_v hf hh (y_ld Try.sc_3 rfl) ?_; clear hf a; intro a hf
           refine o_v hf hh (yv_bin rfl rfl rfl) ?_; clear hf a; intro a hf
           refine o_v hf hh (yv_move rfl) ?_; clear hf a; intro a hf
           refine guard_split hf (t := 138) rfl (fun hg85 => ?_) (fun hg85 => ?_)
           ·have hG85 := hg85; try simp only [gS] at hG85
            have m4e := m4 (by omega)
            refine o_v hf hh (yv_fieldAddr Try.fo_43_0 rfl) ?_; clear hf a; intro a hf
            refine o_v hf hh (y_ld Try.sc_3 rfl) ?_; clear hf a; intro a hf
            refine o_v hf hh (yv_fieldAddr Try.fo_43_0 rfl) ?_; clear hf a; intro a hf
            refine o_v hf hh (y_ld Try.sc_3 rfl) ?_; clear hf a; intro a hf
            refine o_v hf hh (yv_bin rfl rfl rfl) ?_; clear hf a; intro a hf
            refine o_v hf hh (y_pt rfl rfl) ?_; clear hf a; intro a hf
            refine o_v hf hh (y_pf rfl rfl) ?_; clear hf a; intro a hf
            refine o_end ?_
            refine c_f hf ?_
            refine sy_skip ?_
            refine then_n ?_
            refine sy_sq ?_
            refine o_v hf hh (yv_fieldAddr Try.fo_66_0 rfl) ?_; clear hf a; intro a hf
            refine o_v hf hh (y_ld Try.sc_3 rfl) ?_; clear hf a; intro a hf
            refine o_v hf hh (yv_move rfl) ?_; clear hf a; intro a hf
            refine o_v hf hh (yv_bin rfl rfl rfl) ?_; clear hf a; intro a hf
            refine o_v hf hh (yv_move rfl) ?_; clear hf a; intro a hf
            refine guard_split hf (t := 150) rfl (fun hg88 => ?_) (fun hg88 => ?_)
            ·have hG88 := hg88; try simp only [gS] at hG88
             refine o_v hf hh (y_lds Try.ag_43 rfl) ?_; clear hf a; intro a hf
             refine o_v hf hh (y_lds Try.ag_43 rfl) ?_; clear hf a; intro a hf
             have m5e := m5 (by omega)
             obtain ⟨m5a, m5b⟩ := Prod.mk.injEq _ _ _ _ ▸ m5e
             refine o_v hf hh (yv_cast (yv_neF [s1, s2] [t1, t2] fl43 rfl rfl) (congrArg Value.bool (show _ = false by rw [m5a, m5b]; simp))) ?_; clear hf a; intro a hf
             refine o_v hf hh (y_pt rfl rfl) ?_; clear hf a; intro a hf
             refine o_end ?_
             refine c_f hf ?_
             refine sy_skip ?_
             refine blk_n ?_
             refine then_n ?_
             refine sy_ops ?_
             refine o_v hf hh (y_add rfl rfl) ?_; clear hf a; intro a hf
             refine o_v hf hh (yv_move rfl) ?_; clear hf a; intro a hf
             refine ops_end ?_
             refine then_n ?_
             exact ⟨g + 1, ⟨⟨by omega, hh.less (List.nil_sublist _)⟩, (hf.head (by repeat' (first | exact True.intro | refine And.intro rfl ?_)) (Keep.cons rfl (Keep.cons rfl (Keep.cons rfl (Keep.cons rfl (Keep.cons rfl (Keep.cons rfl (Keep.cons rfl (Keep.cons rfl (Keep.cons rfl (Keep.cons rfl (Keep.cons rfl (Keep.cons rfl (Keep.cons rfl (Keep.cons rfl (Keep.cons rfl (Keep.cons rfl (Keep.cons rfl (Keep.cons rfl (Keep.cons rfl (Keep.cons rfl (Keep.cons rfl (Keep.cons rfl (Keep.cons rfl (Keep.cons rfl (Keep.cons rfl (Keep.cons rfl (Keep.cons rfl (Keep.cons rfl (Keep.cons rfl (Keep.cons rfl (Keep.cons rfl (Keep.cons rfl (Keep.cons rfl (Keep.cons rfl (Keep.cons rfl (Keep.cons rfl (Keep.cons rfl (Keep.cons rfl (Keep.cons rfl (Keep.cons rfl (Keep.cons rfl (Keep.cons rfl (Keep.cons rfl (Keep.cons rfl (Keep.cons rfl (Keep.cons rfl (Keep.cons rfl (Keep.cons rfl (Keep.cons rfl (Keep.cons rfl (Keep.cons rfl (Keep.cons rfl (Keep.cons rfl (Keep.cons rfl (Keep.cons rfl (Keep.cons rfl (Keep.cons rfl (Keep.cons rfl (Keep.cons rfl (Keep.cons rfl (Keep.cons rfl (Keep.cons rfl (Keep.cons rfl (Keep.cons rfl (Keep.cons rfl (Keep.cons rfl (Keep.cons rfl (Keep.cons rfl (Keep.cons rfl (Keep.cons rfl (Keep.cons rfl (Keep.cons rfl (Keep.cons rfl (Keep.cons rfl (Keep.cons rfl (Keep.cons rfl (Keep.app rfl (Keep.rm rfl Keep.base)))))))))))))))))))))))))))))))))))))))))))))))))))))))))))))))))))))))))))))))⟩, by omega⟩
            ·have hG88 := hg88; try simp only [gS] at hG88
             refine o_off hf ?_; clear hf a; intro a hf
             refine o_off hf ?_; clear hf a; intro a hf
             refine o_off hf ?_; clear hf a; intro a hf
             refine o_v hf hh (y_pf rfl rfl) ?_; clear hf a; intro a hf
             refine o_end ?_
             refine c_f hf ?_
             refine sy_skip ?_
             refine blk_n ?_
             refine then_n ?_
             refine sy_ops ?_
             refine o_v hf hh (y_add rfl rfl) ?_; clear hf a; intro a hf
             refine o_v hf hh (yv_move rfl) ?_; clear hf a; intro a hf
             refine ops_end ?_
             refine then_n ?_
             exact ⟨g + 1, ⟨⟨by omega, hh.less (List.nil_sublist _)⟩, (hf.head (by repeat' (first | exact True.intro | refine And.intro rfl ?_)) (Keep.cons rfl (Keep.cons rfl (Keep.cons rfl (Keep.cons rfl (Keep.cons rfl (Keep.cons rfl (Keep.cons rfl (Keep.cons rfl (Keep.cons rfl (Keep.cons rfl (Keep.cons rfl (Keep.cons rfl (Keep.cons rfl (Keep.cons rfl (Keep.cons rfl (Keep.cons rfl (Keep.cons rfl (Keep.cons rfl (Keep.cons rfl (Keep.cons rfl (Keep.cons rfl (Keep.cons rfl (Keep.cons rfl (Keep.cons rfl (Keep.cons rfl (Keep.cons rfl (Keep.cons rfl (Keep.cons rfl (Keep.cons rfl (Keep.cons rfl (Keep.cons rfl (Keep.cons rfl (Keep.cons rfl (Keep.cons rfl (Keep.cons rfl (Keep.cons rfl (Keep.cons rfl (Keep.cons rfl (Keep.cons rfl (Keep.cons rfl (Keep.cons rfl (Keep.cons rfl (Keep.cons rfl (Keep.cons rfl (Keep.cons rfl (Keep.cons rfl (Keep.cons rfl (Keep.cons rfl (Keep.cons rfl (Keep.cons rfl (Keep.cons rfl (Keep.cons rfl (Keep.cons rfl (Keep.cons rfl (Keep.cons rfl (Keep.cons rfl (Keep.cons rfl (Keep.cons rfl (Keep.cons rfl (Keep.cons rfl (Keep.cons rfl (Keep.cons rfl (Keep.cons rfl (Keep.cons rfl (Keep.cons rfl (Keep.cons rfl (Keep.cons rfl (Keep.cons rfl (Keep.cons rfl (Keep.cons rfl (Keep.cons rfl (Keep.cons rfl (Keep.cons rfl (Keep.cons rfl (Keep.cons rfl (Keep.cons rfl (Keep.app rfl (Keep.rm rfl Keep.base)))))))))))))))))))))))))))))))))))))))))))))))))))))))))))))))))))))))))))))))⟩, by omega⟩
           ·have hG85 := hg85; try simp only [gS] at hG85
            refine o_off hf ?_; clear hf a; intro a hf
            refine o_off hf ?_; clear hf a; intro a hf
            refine o_off hf ?_; clear hf a; intro a hf
            refine o_off hf ?_; clear hf a; intro a hf
            refine o_off hf ?_; clear hf a; intro a hf
            refine o_v hf hh (y_pf rfl rfl) ?_; clear hf a; intro a hf
            refine o_v hf hh (y_pf rfl rfl) ?_; clear hf a; intro a hf
            refine o_end ?_
            refine c_f hf ?_
            refine sy_skip ?_
            refine then_n ?_
            refine sy_sq ?_
            refine o_v hf hh (yv_fieldAddr Try.fo_66_0 rfl) ?_; clear hf a; intro a hf
            refine o_v hf hh (y_ld Try.sc_3 rfl) ?_; clear hf a; intro a hf
            refine o_v hf hh (yv_move rfl) ?_; clear hf a; intro a hf
            refine o_v hf hh (yv_bin rfl rfl rfl) ?_; clear hf a; intro a hf
            refine o_v hf hh (yv_move rfl) ?_; clear hf a; intro a hf
            refine guard_split hf (t := 150) rfl (fun hg90 => ?_) (fun hg90 => ?_)
            ·have hG90 := hg90; try simp only [gS] at hG90
             refine o_v hf hh (y_lds Try.ag_43 rfl) ?_; clear hf a; intro a hf
             refine o_v hf hh (y_lds Try.ag_43 rfl) ?_; clear hf a; intro a hf
             have m5e := m5 (by omega)
             obtain ⟨m5a, m5b⟩ := Prod.mk.injEq _ _ _ _ ▸ m5e
             refine o_v hf hh (yv_cast (yv_neF [s1, s2] [t1, t2] fl43 rfl rfl) (congrArg Value.bool (show _ = false by rw [m5a, m5b]; simp))) ?_; clear hf a; intro a hf
             refine o_v hf hh (y_pt rfl rfl) ?_; clear hf a; intro a hf
             refine o_end ?_
             refine c_f hf ?_
             refine sy_skip ?_
             refine blk_n ?_
             refine then_n ?_
             refine sy_ops ?_
             refine o_v hf hh (y_add rfl rfl) ?_; clear hf a; intro a hf
             refine o_v hf hh (yv_move rfl) ?_; clear hf a; intro a hf
             refine ops_end ?_
             refine then_n ?_
             exact ⟨g + 1, ⟨⟨by omega, hh.less (List.nil_sublist _)⟩, (hf.head (by repeat' (first | exact True.intro | refine And.intro rfl ?_)) (Keep.cons rfl (Keep.cons rfl (Keep.cons rfl (Keep.cons rfl (Keep.cons rfl (Keep.cons rfl (Keep.cons rfl (Keep.cons rfl (Keep.cons rfl (Keep.cons rfl (Keep.cons rfl (Keep.cons rfl (Keep.cons rfl (Keep.cons rfl (Keep.cons rfl (Keep.cons rfl (Keep.cons rfl (Keep.cons rfl (Keep.cons rfl (Keep.cons rfl (Keep.cons rfl (Keep.cons rfl (Keep.cons rfl (Keep.cons rfl (Keep.cons rfl (Keep.cons rfl (Keep.cons rfl (Keep.cons rfl (Keep.cons rfl (Keep.cons rfl (Keep.cons rfl (Keep.cons rfl (Keep.cons rfl (Keep.cons rfl (Keep.cons rfl (Keep.cons rfl (Keep.cons rfl (Keep.cons rfl (Keep.cons rfl (Keep.cons rfl (Keep.cons rfl (Keep.cons rfl (Keep.cons rfl (Keep.cons rfl (Keep.cons rfl (Keep.cons rfl (Keep.cons rfl (Keep.cons rfl (Keep.cons rfl (Keep.cons rfl (Keep.cons rfl (Keep.cons rfl (Keep.cons rfl (Keep.cons rfl (Keep.cons rfl (Keep.cons rfl (Keep.cons rfl (Keep.cons rfl (Keep.cons rfl (Keep.cons rfl (Keep.cons rfl (Keep.cons rfl (Keep.cons rfl (Keep.cons rfl (Keep.cons rfl (Keep.cons rfl (Keep.cons rfl (Keep.cons rfl (Keep.cons rfl (Keep.cons rfl (Keep.cons rfl (Keep.cons rfl (Keep.cons rfl (Keep.cons rfl (Keep.cons rfl (Keep.cons rfl (Keep.app rfl (Keep.rm rfl Keep.base)))))))))))))))))))))))))))))))))))))))))))))))))))))))))))))))))))))))))))))))⟩, by omega⟩
            ·have hG90 := hg90; try simp only [gS] at hG90
             refine o_off hf ?_; clear hf a; intro a hf
             refine o_off hf ?_; clear hf a; intro a hf
             refine o_off hf ?_; clear hf a; intro a hf
             refine o_v hf hh (y_pf rfl rfl) ?_; clear hf a; intro a hf
             refine o_end ?_
             refine c_f hf ?_
             refine sy_skip ?_
             refine blk_n ?_
             refine then_n ?_
             refine sy_ops ?_
             refine o_v hf hh (y_add rfl rfl) ?_; clear hf a; intro a hf
             refine o_v hf hh (yv_move rfl) ?_; clear hf a; intro a hf
             refine ops_end ?_
             refine then_n ?_
             exact ⟨g + 1, ⟨⟨by omega, hh.less (List.nil_sublist _)⟩, (hf.head (by repeat' (first | exact True.intro | refine And.intro rfl ?_)) (Keep.cons rfl (Keep.cons rfl (Keep.cons rfl (Keep.cons rfl (Keep.cons rfl (Keep.cons rfl (Keep.cons rfl (Keep.cons rfl (Keep.cons rfl (Keep.cons rfl (Keep.cons rfl (Keep.cons rfl (Keep.cons rfl (Keep.cons rfl (Keep.cons rfl (Keep.cons rfl (Keep.cons rfl (Keep.cons rfl (Keep.cons rfl (Keep.cons rfl (Keep.cons rfl (Keep.cons rfl (Keep.cons rfl (Keep.cons rfl (Keep.cons rfl (Keep.cons rfl (Keep.cons rfl (Keep.cons rfl (Keep.cons rfl (Keep.cons rfl (Keep.cons rfl (Keep.cons rfl (Keep.cons rfl (Keep.cons rfl (Keep.cons rfl (Keep.cons rfl (Keep.cons rfl (Keep.cons rfl (Keep.cons rfl (Keep.cons rfl (Keep.cons rfl (Keep.cons rfl (Keep.cons rfl (Keep.cons rfl (Keep.cons rfl (Keep.cons rfl (Keep.cons rfl (Keep.cons rfl (Keep.cons rfl (Keep.cons rfl (Keep.cons rfl (Keep.cons rfl (Keep.cons rfl (Keep.cons rfl (Keep.cons rfl (Keep.cons rfl (Keep.cons rfl (Keep.cons rfl (Keep.cons rfl (Keep.cons rfl (Keep.cons rfl (Keep.cons rfl (Keep.cons rfl (Keep.cons rfl (Keep.cons rfl (Keep.cons rfl (Keep.cons rfl (Keep.cons rfl (Keep.cons rfl (Keep.cons rfl (Keep.cons rfl (Keep.cons rfl (Keep.cons rfl (Keep.cons rfl (Keep.cons rfl (Keep.cons rfl (Keep.app rfl (Keep.rm rfl Keep.base)))))))))))))))))))))))))))))))))))))))))))))))))))))))))))))))))))))))))))))))⟩, by omega⟩
         ·have hG63 := hg63; try simp only [gS] at hG63
          refine sy_exit ?_
          refine then_e ?_
          refine then_e ?_
          refine blk_e ?_
          refine then_n ?_
          refine sy_seq ?_
          refine sy_sq ?_
          refine o_v hf hh (yv_fieldAddr Try.fo_37_1 rfl) ?_; clear hf a; intro a hf
          refine o_v hf hh (y_ld Try.sc_22 rfl) ?_; clear hf a; intro a hf
          refine o_v hf hh (yv_len Try.se_22 rfl) ?_; clear hf a; intro a hf
          refine o_v hf hh (yv_move rfl) ?_; clear hf a; intro a hf
          refine o_end ?_
          refine sy_block ?_
          refine sy_loopH (σ := Nat) [6, 15, 16, 17, 18, 19, 159, 160, 161, 162, 163, 164, 165, 166, 167, 168, 169, 170, 171, 172, 173, 174, 175, 176, 177, 178, 179, 180, 181, 182, 183, 184, 185, 186, 187, 188, 189, 190, 191, 192, 193, 194] (fun k => [(159, .int .i64 (k : Nat))]) (fun k => fun w' => k ≤ d.prices.length ∧ Hp w9 [] [] w') (fun k => d.prices.length - k) (0) hf ?_ ?_ ?_
          · repeat' (first | exact True.intro | refine And.intro rfl ?_)
          · exact ⟨Nat.zero_le _, hh⟩
          ·rintro k a w ⟨hk, hh⟩ hf
           refine sy_sq ?_
           refine o_v hf hh (yv_bin rfl rfl rfl) ?_; clear hf a; intro a hf
           refine o_end ?_
           refine sy_seq ?_
           refine sy_cond hf rfl (fun hg92 => ?_) (fun hg92 => ?_)
           ·have hG92 := hg92; try simp only [gS] at hG92
            refine sy_skip ?_
            refine then_n ?_
            refine sy_seq ?_
            refine sy_block ?_
            refine sy_sq ?_
            refine o_v hf hh (yv_move rfl) ?_; clear hf a; intro a hf
            refine o_v hf hh (yv_assign rfl) ?_; clear hf a; intro a hf
            refine o_end ?_
            refine sy_seq ?_
            obtain ⟨m1, m2⟩ := all_more hP hO hr2 (k := k) (by omega)
            have e1 := allE_ok hO (k := k) (by omega)
            have e2 := allE_ok hO' (k := k) (show k < d.prices.length by omega)
            obtain ⟨s1, s2, hs⟩ : ∃ s1 s2, allV d k = (s1, s2) := ⟨_, _, rfl⟩
            obtain ⟨t1, t2, ht⟩ : ∃ t1 t2, allV (addR d n) k = (t1, t2) := ⟨_, _, rfl⟩
            rw [hs, ht] at m1 m2
            dsimp only at m1 m2
            refine sy_ops ?_
            refine o_v hf hh (y_lds Try.ag_37 rfl) ?_; clear hf a; intro a hf
            refine o_v hf hh (yv_move rfl) ?_; clear hf a; intro a hf
            refine o_call hf Try.en_28 rfl rfl rfl (p28 d _ (k : Nat) _ (hA9.ext hh.ext)) ?_; clear hf a; intro v a w hR hf
            rw [hs, e1] at hR
            obtain ⟨rfl, hx⟩ := hR; replace hh := hh.more hx; clear hx
            refine o_v hf hh (yv_move rfl) ?_; clear hf a; intro a hf
            refine o_v hf hh (yv_extract rfl rfl) ?_; clear hf a; intro a hf
            refine o_v hf hh (yv_extract rfl rfl) ?_; clear hf a; intro a hf
            refine o_alloc hf hh Try.ze_43 ?_; clear hf hh a; intro B16 a w hf hh
            refine o_store hf hh Try.sz_43 fun w hh => ?_
            refine o_v hf hh (yv_assign rfl) ?_; clear hf a; intro a hf
            refine o_end ?_
            refine sy_sq ?_
            refine o_v hf hh (y_lds Try.ag_37 rfl) ?_; clear hf a; intro a hf
            refine o_v hf hh (yv_move rfl) ?_; clear hf a; intro a hf
            refine o_call hf Try.en_28 rfl rfl rfl (p28 (addR d n) p' (k : Nat) _ (hB9.ext hh.ext)) ?_; clear hf a; intro v a w hR hf
            rw [ht, e2] at hR
            obtain ⟨rfl, hx⟩ := hR; replace hh := hh.more hx; clear hx
            refine o_v hf hh (yv_move rfl) ?_; clear hf a; intro a hf
            refine o_v hf hh (yv_extract rfl rfl) ?_; clear hf a; intro a hf
            refine o_v hf hh (yv_extract rfl rfl) ?_; clear hf a; intro a hf
            refine o_alloc hf hh Try.ze_43 ?_; clear hf hh a; intro B18 a w hf hh
            refine o_store hf hh Try.sz_43 fun w hh => ?_
            refine o_v hf hh (yv_assign rfl) ?_; clear hf a; intro a hf
            refine o_end ?_
            refine sy_sq ?_
            refine o_v hf hh (yv_move rfl) ?_; clear hf a; intro a hf
            refine o_v hf hh (yv_bin rfl rfl rfl) ?_; clear hf a; intro a hf
            refine o_v hf hh (yv_move rfl) ?_; clear hf a; intro a hf
            refine o_v hf hh (yv_move rfl) ?_; clear hf a; intro a hf
            refine o_v hf hh (yv_bin rfl rfl rfl) ?_; clear hf a; intro a hf
            refine o_v hf hh (y_pf rfl rfl) ?_; clear hf a; intro a hf
            refine o_v hf hh (yv_move rfl) ?_; clear hf a; intro a hf
            refine o_v hf hh (yv_fieldAddr Try.fo_43_0 rfl) ?_; clear hf a; intro a hf
            refine o_v hf hh (y_ld Try.sc_3 rfl) ?_; clear hf a; intro a hf
            refine o_v hf hh (yv_fieldAddr Try.fo_43_0 rfl) ?_; clear hf a; intro a hf
            refine o_v hf hh (y_ld Try.sc_3 rfl) ?_; clear hf a; intro a hf
            refine o_v hf hh (yv_bin rfl rfl rfl) ?_; clear hf a; intro a hf
            refine o_v hf hh (y_pf rfl rfl) ?_; clear hf a; intro a hf
            refine o_v hf hh (yv_move rfl) ?_; clear hf a; intro a hf
            refine o_v hf hh (yv_fieldAddr Try.fo_43_1 rfl) ?_; clear hf a; intro a hf
            refine o_v hf hh (y_ld Try.sc_3 rfl) ?_; clear hf a; intro a hf
            refine o_v hf hh (yv_fieldAddr Try.fo_43_1 rfl) ?_; clear hf a; intro a hf
            refine o_v hf hh (y_ld Try.sc_3 rfl) ?_; clear hf a; intro a hf
            refine o_v hf hh (yv_bin rfl rfl rfl) ?_; clear hf a; intro a hf
            refine o_v hf hh (y_pf rfl rfl) ?_; clear hf a; intro a hf
            refine o_end ?_
            refine c_f hf ?_
            refine sy_skip ?_
            refine blk_n ?_
            refine then_n ?_
            refine sy_ops ?_
            refine o_v hf hh (y_add rfl rfl) ?_; clear hf a; intro a hf
            refine o_v hf hh (yv_move rfl) ?_; clear hf a; intro a hf
            refine ops_end ?_
            refine then_n ?_
            exact ⟨k + 1, ⟨⟨by omega, hh.less (List.nil_sublist _)⟩, (hf.head (by repeat' (first | exact True.intro | refine And.intro rfl ?_)) (Keep.cons rfl (Keep.cons rfl (Keep.cons rfl (Keep.cons rfl (Keep.cons rfl (Keep.cons rfl (Keep.cons rfl (Keep.cons rfl (Keep.cons rfl (Keep.cons rfl (Keep.cons rfl (Keep.cons rfl (Keep.cons rfl (Keep.cons rfl (Keep.cons rfl (Keep.cons rfl (Keep.cons rfl (Keep.cons rfl (Keep.cons rfl (Keep.cons rfl (Keep.cons rfl (Keep.cons rfl (Keep.cons rfl (Keep.cons rfl (Keep.cons rfl (Keep.cons rfl (Keep.cons rfl (Keep.cons rfl (Keep.cons rfl (Keep.cons rfl (Keep.cons rfl (Keep.cons rfl (Keep.cons rfl (Keep.cons rfl (Keep.cons rfl (Keep.cons rfl (Keep.cons rfl (Keep.cons rfl (Keep.cons rfl (Keep.cons rfl (Keep.cons rfl (Keep.app rfl (Keep.rm rfl Keep.base))))))))))))))))))))))))))))))))))))))))))))⟩, by omega⟩
           ·have hG92 := hg92; try simp only [gS] at hG92
            refine sy_exit ?_
            refine then_e ?_
            refine then_e ?_
            refine blk_e ?_
            refine then_n ?_
            refine sy_sq ?_
            refine o_call hf Try.en_14 rfl rfl rfl (p14 _) ?_; clear hf a; intro v a w hR hf
            obtain ⟨rfl, hx⟩ := hR; replace hh := hh.more hx; clear hx
            refine o_v hf hh (yv_assign rfl) ?_; clear hf a; intro a hf
            refine o_end ?_
            refine sy_ret ?_
            refine ret_r hf rfl rfl ?_
            first
              | exact ⟨rfl, hh.ext⟩
              | exact ⟨rfl, hx0.trans hh.ext⟩
      ·refine mc_e rfl fun Q1 => ?_
       refine ops_buildSl hf hh Try.bl_35_1 rfl rfl (.inl rfl) rfl ?_; clear hf hh; clear a; intro B79 a w hf hh
       refine ops_end ?_
       refine then_n ⟨⟨fun _ _ => (AtE.of hh (fun q hq => by first | exact hq | exact List.mem_append_left _ hq | exact .tail _ hq | exact .tail _ (.tail _ hq) | exact List.mem_append_right _ hq | exact .tail _ (List.mem_append_right _ hq) | exact List.mem_append_right _ (.tail _ hq))), trivial⟩, ?_⟩
       refine mc_e rfl fun Q1 => ?_
       refine ops_buildSl hf hh Try.bl_35_0 rfl rfl (.inl rfl) rfl ?_; clear hf hh; clear a; intro B74 a w hf hh
       refine ops_end ?_
       refine then_n ⟨⟨fun _ _ => (AtE.of hh (fun q hq => by first | exact hq | exact List.mem_append_left _ hq | exact .tail _ hq | exact .tail _ (.tail _ hq) | exact List.mem_append_right _ hq | exact .tail _ (List.mem_append_right _ hq) | exact List.mem_append_right _ (.tail _ hq))), trivial⟩, ?_⟩
       refine mc_e rfl fun Q1 => ?_
       first
         | (refine ops_appendV (e := 66) (size := 4) (xs := []) (news := d.reps.flatMap rpC) (X := [(B74, .cells #[] 66)]) (m := 0) hf (hh) Try.eb_35 rfl rfl ⟨rfl, .inr ⟨B74, 0, #[], rfl, rfl, Nat.le_refl _, Nat.zero_le _, rfl, rfl⟩⟩ (vals_of (enc := rpC) (n := 4) (fun _ => rfl) (hA.rp.ext hh.ext)) (flat_len (enc := rpC) (n := 4) (fun _ => rfl) _) (by omega) (rp_1c _) (by simp only [maxLen]; omega) (by omega) (.inl rfl) rfl ?_)
         | (refine ops_appendV (e := 66) (size := 4) (xs := []) (news := d.reps.flatMap rpC) (X := [(B74, .cells #[] 66)]) (m := 0) hf (hh.perm (.swap _ _ _)) Try.eb_35 rfl rfl ⟨rfl, .inr ⟨B74, 0, #[], rfl, rfl, Nat.le_refl _, Nat.zero_le _, rfl, rfl⟩⟩ (vals_of (enc := rpC) (n := 4) (fun _ => rfl) (hA.rp.ext hh.ext)) (flat_len (enc := rpC) (n := 4) (fun _ => rfl) _) (by omega) (rp_1c _) (by simp only [maxLen]; omega) (by omega) (.inl rfl) rfl ?_)
       clear hf hh a; intro v4 X4 a w hO4 hf hh
       rw [Nat.zero_add, List.nil_append] at hO4
       refine ops_end ?_
       refine then_n ⟨⟨fun _ _ => (AtE.of hh (fun q hq => by first | exact hq | exact List.mem_append_left _ hq | exact .tail _ hq | exact .tail _ (.tail _ hq) | exact List.mem_append_right _ hq | exact .tail _ (List.mem_append_right _ hq) | exact List.mem_append_right _ (.tail _ hq))), trivial⟩, ?_⟩
       refine mc_e rfl fun Q1 => ?_
       first
         | (refine ops_append (e := 66) (size := 4) (xs := d.reps.flatMap rpC) (X := X4) (Z := [(B8, .cells (rpC n).toArray 66), (B7, .cells (royC d ⟨st, sp, ss, some ⟨blk, off, none⟩, sd, ct, cp, cs, cr, cd⟩) 37), (B3, .cells (royC d ⟨st, sp, ss, some ⟨blk, off, none⟩, sd, ct, cp, cs, cr, cd⟩) 37)]) (m := d.reps.length) (q := 1) hf (hh) Try.eb_35 rfl rfl hO4 rfl rfl rfl (by simp only [maxLen]; omega) (by omega) (.inl rfl) rfl ?_)
         | (refine ops_append (e := 66) (size := 4) (xs := d.reps.flatMap rpC) (X := X4) (Z := [(B8, .cells (rpC n).toArray 66), (B7, .cells (royC d ⟨st, sp, ss, some ⟨blk, off, none⟩, sd, ct, cp, cs, cr, cd⟩) 37), (B3, .cells (royC d ⟨st, sp, ss, some ⟨blk, off, none⟩, sd, ct, cp, cs, cr, cd⟩) 37)]) (m := d.reps.length) (q := 1) hf (hh.perm List.perm_middle) Try.eb_35 rfl rfl hO4 rfl rfl rfl (by simp only [maxLen]; omega) (by omega) (.inl rfl) rfl ?_)
       clear hf hh a; intro v6 X6 a w hO6 hf hh
       obtain ⟨oa6, cp6, rfl⟩ := own_val hO6
       have hcap6 := own_cap hO6
       replace hh := hh.perm (List.perm_append_comm (l₁ := X6) (l₂ := [(B8, Obj.cells (rpC n).toArray 66), (B7, Obj.cells (royC d ⟨st, sp, ss, some ⟨blk, off, none⟩, sd, ct, cp, cs, cr, cd⟩) 37), (B3, Obj.cells (royC d ⟨st, sp, ss, some ⟨blk, off, none⟩, sd, ct, cp, cs, cr, cd⟩) 37)]))
       refine ops_end ?_
       refine then_n ⟨⟨fun _ _ => (AtE.of hh (fun q hq => by first | exact hq | exact List.mem_append_left _ hq | exact .tail _ hq | exact .tail _ (.tail _ hq) | exact List.mem_append_right _ hq | exact .tail _ (List.mem_append_right _ hq) | exact List.mem_append_right _ (.tail _ hq))), trivial⟩, ?_⟩
       refine mc_p rfl   hf (yv_fieldAddr Try.fo_37_3 rfl) (.inl rfl) rfl rfl ?_; clear hf a; intro a hf
       refine mc_e rfl fun Q1 => ?_
       refine o_store hf hh Try.sz_35 fun w hh => ?_
       refine ops_end ?_
       refine then_n ⟨⟨fun h => Bool.noConfusion (show true = false from h), trivial⟩, ?_⟩
       refine mc_end ?_
       refine then_n ?_
       refine sy_seq ?_
       refine sy_seq ?_
       replace hh : Hp u [] ([(B8, .cells (rpC n).toArray 66), (B7, .cells (spl (royC d ⟨st, sp, ss, some ⟨blk, off, none⟩, sd, ct, cp, cs, cr, cd⟩) (0 + 3) [.slice oa6 (d.reps.length + 1) cp6]) 37), (B3, .cells (royC d ⟨st, sp, ss, some ⟨blk, off, none⟩, sd, ct, cp, cs, cr, cd⟩) 37)] ++ X6) w := hh
       have hrp := own_tat (enc := rpC) (n := 4) (l := d.reps ++ [n]) (fun _ => rfl) (by rw [fm_snoc]; exact hO6) (by simp) (fun q hq => hh.get q (List.mem_append_right _ hq))
       have hx0 := hh.ext
       obtain ⟨p', hp'⟩ : ∃ p' : Pl, p' = ⟨st, sp, ss, oa6, sd, ct, cp, cs, cp6, cd⟩ := ⟨_, rfl⟩
       have q8 := hh.at (i := 0) rfl
       have q7 : w.heap[B7]? = some (.cells (royC (addR d n) p') 37 (0, 0)) := by
         have h := hh.at (i := 1) rfl
         rw [h, hp']
         have e5 : ((addR d n).reps.length : Nat) = d.reps.length + 1 := by show (d.reps ++ [n]).length = _; simp
         simp only [royC, e5]; rfl
       have q3 := hh.at (i := 2) rfl
       have hA9 := hA.ext hx0
       have hB9 : RoyAt w (addR d n) p' := by
         rw [hp']
         exact ⟨hA9.tm, hA9.pr, hA9.sh, hrp, hA9.pd, hA9.n1, hA9.n2, hA9.n3, by show (d.reps ++ [n]).length ≤ 1000; simp; omega, hA9.n5, hA9.n6, by show (d.reps ++ [n]).length ≤ cp6; simp; exact hcap6⟩
       obtain ⟨w9, rfl⟩ : ∃ z, z = w := ⟨_, rfl⟩
       clear hh
       have hh := Hp.init w9 []
       rw [hn] at q8
       refine sy_ops ?_
       refine o_v hf hh (yv_fieldAddr Try.fo_37_0 rfl) ?_; clear hf a; intro a hf
       refine o_v hf hh (y_ld Try.sc_33 rfl) ?_; clear hf a; intro a hf
       refine o_v hf hh (yv_len Try.se_33 rfl) ?_; clear hf a; intro a hf
       refine o_v hf hh (yv_move rfl) ?_; clear hf a; intro a hf
       refine o_end ?_
       refine sy_block ?_
       refine sy_loopH (σ := Nat) [6, 10, 11, 12, 13, 14, 85, 86, 87, 88, 89, 90, 91, 92, 93, 94, 95, 96, 97, 98, 99, 100, 101, 102, 103, 104, 105, 106, 107, 108, 109, 110, 111, 112, 113, 114, 115, 116, 117, 118, 119, 120, 121, 122, 123, 124, 125, 126, 127, 128, 129, 130, 131, 132, 133, 134, 135, 136, 137, 138, 139, 140, 141, 142, 143, 144, 145, 146, 147, 148, 149, 150, 151, 152, 153, 154, 155] (fun g => [(85, .int .i64 (g : Nat))]) (fun g => fun w' => g ≤ d.terms.length ∧ Hp w9 [] [] w') (fun g => d.terms.length - g) (0) hf ?_ ?_ ?_
       · repeat' (first | exact True.intro | refine And.intro rfl ?_)
       · exact ⟨Nat.zero_le _, hh⟩
       ·rintro g a w ⟨hg, hh⟩ hf
        refine sy_sq ?_
        refine o_v hf hh (yv_bin rfl rfl rfl) ?_; clear hf a; intro a hf
        refine o_end ?_
        refine sy_seq ?_
        refine sy_cond hf rfl (fun hg107 => ?_) (fun hg107 => ?_)
        ·have hG107 := hg107; try simp only [gS] at hG107
         refine sy_skip ?_
         refine then_n ?_
         refine sy_seq ?_
         refine sy_block ?_
         refine sy_sq ?_
         refine o_v hf hh (yv_move rfl) ?_; clear hf a; intro a hf
         refine o_v hf hh (yv_assign rfl) ?_; clear hf a; intro a hf
         refine o_end ?_
         refine sy_seq ?_
         obtain ⟨m1, m2, m3, m4, m5⟩ := owe_more hP hO hr2 (g := g) (by omega)
         obtain ⟨e1, _⟩ := owe_ok hO (g := g) (by omega)
         obtain ⟨e2, _⟩ := owe_ok hO' (g := g) (show g < d.terms.length by omega)
         obtain ⟨s1, s2, hs⟩ : ∃ s1 s2, oweV d g = (s1, s2) := ⟨_, _, rfl⟩
         obtain ⟨t1, t2, ht⟩ : ∃ t1 t2, oweV (addR d n) g = (t1, t2) := ⟨_, _, rfl⟩
         rw [hs, ht] at m1 m2 m3 m4 m5
         dsimp only at m1 m2 m3 m4 m5
         rw [hag] at m3 m4 m5
         refine sy_ops ?_
         refine o_v hf hh (y_lds Try.ag_37 rfl) ?_; clear hf a; intro a hf
         refine o_v hf hh (yv_move rfl) ?_; clear hf a; intro a hf
         refine o_call hf Try.en_25 rfl rfl rfl (p25 d _ (g : Nat) _ (hA9.ext hh.ext)) ?_; clear hf a; intro v a w hR hf
         rw [hs, e1] at hR
         obtain ⟨rfl, hx⟩ := hR; replace hh := hh.more hx; clear hx
         refine o_v hf hh (yv_move rfl) ?_; clear hf a; intro a hf
         refine o_v hf hh (yv_extract rfl rfl) ?_; clear hf a; intro a hf
         refine o_v hf hh (yv_extract rfl rfl) ?_; clear hf a; intro a hf
         refine o_alloc hf hh Try.ze_43 ?_; clear hf hh a; intro B11 a w hf hh
         refine o_store hf hh Try.sz_43 fun w hh => ?_
         refine o_v hf hh (yv_assign rfl) ?_; clear hf a; intro a hf
         refine o_end ?_
         refine sy_sq ?_
         refine o_v hf hh (y_lds Try.ag_37 rfl) ?_; clear hf a; intro a hf
         refine o_v hf hh (yv_move rfl) ?_; clear hf a; intro a hf
         refine o_call hf Try.en_25 rfl rfl rfl (p25 (addR d n) p' (g : Nat) _ (hB9.ext hh.ext)) ?_; clear hf a; intro v a w hR hf
         rw [ht, e2] at hR
         obtain ⟨rfl, hx⟩ := hR; replace hh := hh.more hx; clear hx
         refine o_v hf hh (yv_move rfl) ?_; clear hf a; intro a hf
         refine o_v hf hh (yv_extract rfl rfl) ?_; clear hf a; intro a hf
         refine o_v hf hh (yv_extract rfl rfl) ?_; clear hf a; intro a hf
         refine o_alloc hf hh Try.ze_43 ?_; clear hf hh a; intro B13 a w hf hh
         refine o_store hf hh Try.sz_43 fun w hh => ?_
         refine o_v hf hh (yv_assign rfl) ?_; clear hf a; intro a hf
         refine o_end ?_
         refine sy_seq ?_
         refine sy_sq ?_
         refine o_v hf hh (yv_move rfl) ?_; clear hf a; intro a hf
         refine o_v hf hh (yv_bin rfl rfl rfl) ?_; clear hf a; intro a hf
         refine o_v hf hh (yv_move rfl) ?_; clear hf a; intro a hf
         refine o_v hf hh (yv_move rfl) ?_; clear hf a; intro a hf
         refine o_v hf hh (yv_bin rfl rfl rfl) ?_; clear hf a; intro a hf
         refine o_v hf hh (y_pf rfl rfl) ?_; clear hf a; intro a hf
         refine o_v hf hh (yv_move rfl) ?_; clear hf a; intro a hf
         refine o_v hf hh (yv_fieldAddr Try.fo_43_0 rfl) ?_; clear hf a; intro a hf
         refine o_v hf hh (y_ld Try.sc_3 rfl) ?_; clear hf a; intro a hf
         refine o_v hf hh (yv_fieldAddr Try.fo_43_0 rfl) ?_; clear hf a; intro a hf
         refine o_v hf hh (y_ld Try.sc_3 rfl) ?_; clear hf a; intro a hf
         refine o_v hf hh (yv_bin rfl rfl rfl) ?_; clear hf a; intro a hf
         refine o_v hf hh (y_pf rfl rfl) ?_; clear hf a; intro a hf
         refine o_v hf hh (yv_move rfl) ?_; clear hf a; intro a hf
         refine o_v hf hh (yv_fieldAddr Try.fo_43_1 rfl) ?_; clear hf a; intro a hf
         refine o_v hf hh (y_ld Try.sc_3 rfl) ?_; clear hf a; intro a hf
         refine o_v hf hh (yv_fieldAddr Try.fo_43_1 rfl) ?_; clear hf a; intro a hf
         refine o_v hf hh (y_ld Try.sc_3 rfl) ?_; clear hf a; intro a hf
         refine o_v hf hh (yv_bin rfl rfl rfl) ?_; clear hf a; intro a hf
         refine o_v hf hh (y_pf rfl rfl) ?_; clear hf a; intro a hf
         refine o_v hf hh (yv_move rfl) ?_; clear hf a; intro a hf
         refine o_v hf hh (yv_move rfl) ?_; clear hf a; intro a hf
         refine o_v hf hh (yv_fieldAddr Try.fo_66_0 rfl) ?_; clear hf a; intro a hf
         refine o_v hf hh (y_ld Try.sc_3 rfl) ?_; clear hf a; intro a hf
         refine o_v hf hh (yv_bin rfl rfl rfl) ?_; clear hf a; intro a hf
         refine o_v hf hh (yv_move rfl) ?_; clear hf a; intro a hf
         refine guard_split hf (t := 125) rfl (fun hg119 => ?_) (fun hg119 => ?_)
         ·have hG119 := hg119; try simp only [gS] at hG119
          have m3e := m3 (by omega)
          refine o_v hf hh (yv_fieldAddr Try.fo_43_1 rfl) ?_; clear hf a; intro a hf
          refine o_v hf hh (y_ld Try.sc_3 rfl) ?_; clear hf a; intro a hf
          refine o_v hf hh (yv_fieldAddr Try.fo_43_1 rfl) ?_; clear hf a; intro a hf
          refine o_v hf hh (y_ld Try.sc_3 rfl) ?_; clear hf a; intro a hf
          refine o_v hf hh (yv_bin rfl rfl rfl) ?_; clear hf a; intro a hf
          refine o_v hf hh (y_pt rfl rfl) ?_; clear hf a; intro a hf
          refine o_v hf hh (y_pf rfl rfl) ?_; clear hf a; intro a hf
          refine o_v hf hh (yv_move rfl) ?_; clear hf a; intro a hf
          refine o_v hf hh (yv_move rfl) ?_; clear hf a; intro a hf
          refine o_v hf hh (yv_fieldAddr Try.fo_66_0 rfl) ?_; clear hf a; intro a hf
          refine o_v hf hh (y_ld Try.sc_3 rfl) ?_; clear hf a; intro a hf
          refine o_v hf hh (yv_bin rfl rfl rfl) ?_; clear hf a; intro a hf
          refine o_v hf hh (yv_move rfl) ?_; clear hf a; intro a hf
          refine guard_split hf (t := 138) rfl (fun hg122 => ?_) (fun hg122 => ?_)
          ·have hG122 := hg122; try simp only [gS] at hG122
           have m4e := m4 (by omega)
           refine o_v hf hh (yv_fieldAddr Try.fo_43_0 rfl) ?_; clear hf a; intro a hf
           refine o_v hf hh (y_ld Try.sc_3 rfl) ?_; clear hf a; intro a hf
           refine o_v hf hh (yv_fieldAddr Try.fo_43_0 rfl) ?_; clear hf a; intro a hf
           refine o_v hf hh (y_ld Try.sc_3 rfl) ?_; clear hf a; intro a hf
           refine o_v hf hh (yv_bin rfl rfl rfl) ?_; clear hf a; intro a hf
           refine o_v hf hh (y_pt rfl rfl) ?_; clear hf a; intro a hf
           refine o_v hf hh (y_pf rfl rfl) ?_; clear hf a; intro a hf
           refine o_end ?_
           refine c_f hf ?_
           refine sy_skip ?_
           refine then_n ?_
           refine sy_sq ?_
           refine o_v hf hh (yv_fieldAddr Try.fo_66_0 rfl) ?_; clear hf a; intro a hf
           refine o_v hf hh (y_ld Try.sc_3 rfl) ?_; clear hf a; intro a hf
           refine o_v hf hh (yv_move rfl) ?_; clear hf a; intro a hf
           refine o_v hf hh (yv_bin rfl rfl rfl) ?_; clear hf a; intro a hf
           refine o_v hf hh (yv_move rfl) ?_; clear hf a; intro a hf
           refine guard_split hf (t := 150) rfl (fun hg125 => ?_) (fun hg125 => ?_)
           ·have hG125 := hg125; try simp only [gS] at hG125
            refine o_v hf hh (y_lds Try.ag_43 rfl) ?_; clear hf a; intro a hf
            refine o_v hf hh (y_lds Try.ag_43 rfl) ?_; clear hf a; intro a hf
            have m5e := m5 (by omega)
            obtain ⟨m5a, m5b⟩ := Prod.mk.injEq _ _ _ _ ▸ m5e
            refine o_v hf hh (yv_cast (yv_neF [s1, s2] [t1, t2] fl43 rfl rfl) (congrArg Value.bool (show _ = false by rw [m5a, m5b]; simp))) ?_; clear hf a; intro a hf
            refine o_v hf hh (y_pt rfl rfl) ?_; clear hf a; intro a hf
            refine o_end ?_
            refine c_f hf ?_
            refine sy_skip ?_
            refine blk_n ?_
            refine then_n ?_
            refine sy_ops ?_
            refine o_v hf hh (y_add rfl rfl) ?_; clear hf a; intro a hf
            refine o_v hf hh (yv_move rfl) ?_; clear hf a; intro a hf
            refine ops_end ?_
            refine then_n ?_
            exact ⟨g + 1, ⟨⟨by omega, hh.less (List.nil_sublist _)⟩, (hf.head (by repeat' (first | exact True.intro | refine And.intro rfl ?_)) (Keep.cons rfl (Keep.cons rfl (Keep.cons rfl (Keep.cons rfl (Keep.cons rfl (Keep.cons rfl (Keep.cons rfl (Keep.cons rfl (Keep.cons rfl (Keep.cons rfl (Keep.cons rfl (Keep.cons rfl (Keep.cons rfl (Keep.cons rfl (Keep.cons rfl (Keep.cons rfl (Keep.cons rfl (Keep.cons rfl (Keep.cons rfl (Keep.cons rfl (Keep.cons rfl (Keep.cons rfl (Keep.cons rfl (Keep.cons rfl (Keep.cons rfl (Keep.cons rfl (Keep.cons rfl (Keep.cons rfl (Keep.cons rfl (Keep.cons rfl (Keep.cons rfl (Keep.cons rfl (Keep.cons rfl (Keep.cons rfl (Keep.cons rfl (Keep.cons rfl (Keep.cons rfl (Keep.cons rfl (Keep.cons rfl (Keep.cons rfl (Keep.cons rfl (Keep.cons rfl (Keep.cons rfl (Keep.cons rfl (Keep.cons rfl (Keep.cons rfl (Keep.cons rfl (Keep.cons rfl (Keep.cons rfl (Keep.cons rfl (Keep.cons rfl (Keep.cons rfl (Keep.cons rfl (Keep.cons rfl (Keep.cons rfl (Keep.cons rfl (Keep.cons rfl (Keep.cons rfl (Keep.cons rfl (Keep.cons rfl (Keep.cons rfl (Keep.cons rfl (Keep.cons rfl (Keep.cons rfl (Keep.cons rfl (Keep.cons rfl (Keep.cons rfl (Keep.cons rfl (Keep.cons rfl (Keep.cons rfl (Keep.cons rfl (Keep.cons rfl (Keep.cons rfl (Keep.cons rfl (Keep.cons rfl (Keep.cons rfl (Keep.app rfl (Keep.rm rfl Keep.base)))))))))))))))))))))))))))))))))))))))))))))))))))))))))))))))))))))))))))))))⟩, by omega⟩
           ·have hG125 := hg125; try simp only [gS] at hG125
            refine o_off hf ?_; clear hf a; intro a hf
            refine o_off hf ?_; clear hf a; intro a hf
            refine o_off hf ?_; clear hf a; intro a hf
            refine o_v hf hh (y_pf rfl rfl) ?_; clear hf a; intro a hf
            refine o_end ?_
            refine c_f hf ?_
            refine sy_skip ?_
            refine blk_n ?_
            refine then_n ?_
            refine sy_ops ?_
            refine o_v hf hh (y_add rfl rfl) ?_; clear hf a; intro a hf
            refine o_v hf hh (yv_move rfl) ?_; clear hf a; intro a hf
            refine ops_end ?_
            refine then_n ?_
            exact ⟨g + 1, ⟨⟨by omega, hh.less (List.nil_sublist _)⟩, (hf.head (by repeat' (first | exact True.intro | refine And.intro rfl ?_)) (Keep.cons rfl (Keep.cons rfl (Keep.cons rfl (Keep.cons rfl (Keep.cons rfl (Keep.cons rfl (Keep.cons rfl (Keep.cons rfl (Keep.cons rfl (Keep.cons rfl (Keep.cons rfl (Keep.cons rfl (Keep.cons rfl (Keep.cons rfl (Keep.cons rfl (Keep.cons rfl (Keep.cons rfl (Keep.cons rfl (Keep.cons rfl (Keep.cons rfl (Keep.cons rfl (Keep.cons rfl (Keep.cons rfl (Keep.cons rfl (Keep.cons rfl (Keep.cons rfl (Keep.cons rfl (Keep.cons rfl (Keep.cons rfl (Keep.cons rfl (Keep.cons rfl (Keep.cons rfl (Keep.cons rfl (Keep.cons rfl (Keep.cons rfl (Keep.cons rfl (Keep.cons rfl (Keep.cons rfl (Keep.cons rfl (Keep.cons rfl (Keep.cons rfl (Keep.cons rfl (Keep.cons rfl (Keep.cons rfl (Keep.cons rfl (Keep.cons rfl (Keep.cons rfl (Keep.cons rfl (Keep.cons rfl (Keep.cons rfl (Keep.cons rfl (Keep.cons rfl (Keep.cons rfl (Keep.cons rfl (Keep.cons rfl (Keep.cons rfl (Keep.cons rfl (Keep.cons rfl (Keep.cons rfl (Keep.cons rfl (Keep.cons rfl (Keep.cons rfl (Keep.cons rfl (Keep.cons rfl (Keep.cons rfl (Keep.cons rfl (Keep.cons rfl (Keep.cons rfl (Keep.cons rfl (Keep.cons rfl (Keep.cons rfl (Keep.cons rfl (Keep.cons rfl (Keep.cons rfl (Keep.cons rfl (Keep.cons rfl (Keep.app rfl (Keep.rm rfl Keep.base)))))))))))))))))))))))))))))))))))))))))))))))))))))))))))))))))))))))))))))))⟩, by omega⟩
          ·have hG122 := hg122; try simp only [gS] at hG122
           refine o_off hf ?_; clear hf a; intro a hf
           refine o_off hf ?_; clear hf a; intro a hf
           refine o_off hf ?_; clear hf a; intro a hf
           refine o_off hf ?_; clear hf a; intro a hf
           refine o_off hf ?_; clear hf a; intro a hf
           refine o_v hf hh (y_pf rfl rfl) ?_; clear hf a; intro a hf
           refine o_v hf hh (y_pf rfl rfl) ?_; clear hf a; intro a hf
           refine o_end ?_
           refine c_f hf ?_
           refine sy_skip ?_
           refine then_n ?_
           refine sy_sq ?_
           refine o_v hf hh (yv_fieldAddr Try.fo_66_0 rfl) ?_; clear hf a; intro a hf
           refine o_v hf hh (y_ld Try.sc_3 rfl) ?_; clear hf a; intro a hf
           refine o_v hf hh (yv_move rfl) ?_; clear hf a; intro a hf
           refine o_v hf hh (yv_bin rfl rfl rfl) ?_; clear hf a; intro a hf
           refine o_v hf hh (yv_move rfl) ?_; clear hf a; intro a hf
           refine guard_split hf (t := 150) rfl (fun hg127 => ?_) (fun hg127 => ?_)
           ·have hG127 := hg127; try simp only [gS] at hG127
            refine o_v hf hh (y_lds Try.ag_43 rfl) ?_; clear hf a; intro a hf
            refine o_v hf hh (y_lds Try.ag_43 rfl) ?_; clear hf a; intro a hf
            have m5e := m5 (by omega)
            obtain ⟨m5a, m5b⟩ := Prod.mk.injEq _ _ _ _ ▸ m5e
            refine o_v hf hh (yv_cast (yv_neF [s1, s2] [t1, t2] fl43 rfl rfl) (congrArg Value.bool (show _ = false by rw [m5a, m5b]; simp))) ?_; clear hf a; intro a hf
            refine o_v hf hh (y_pt rfl rfl) ?_; clear hf a; intro a hf
            refine o_end ?_
            refine c_f hf ?_
            refine sy_skip ?_
            refine blk_n ?_
            refine then_n ?_
            refine sy_ops ?_
            refine o_v hf hh (y_add rfl rfl) ?_; clear hf a; intro a hf
            refine o_v hf hh (yv_move rfl) ?_; clear hf a; intro a hf
            refine ops_end ?_
            refine then_n ?_
            exact ⟨g + 1, ⟨⟨by omega, hh.less (List.nil_sublist _)⟩, (hf.head (by repeat' (first | exact True.intro | refine And.intro rfl ?_)) (Keep.cons rfl (Keep.cons rfl (Keep.cons rfl (Keep.cons rfl (Keep.cons rfl (Keep.cons rfl (Keep.cons rfl (Keep.cons rfl (Keep.cons rfl (Keep.cons rfl (Keep.cons rfl (Keep.cons rfl (Keep.cons rfl (Keep.cons rfl (Keep.cons rfl (Keep.cons rfl (Keep.cons rfl (Keep.cons rfl (Keep.cons rfl (Keep.cons rfl (Keep.cons rfl (Keep.cons rfl (Keep.cons rfl (Keep.cons rfl (Keep.cons rfl (Keep.cons rfl (Keep.cons rfl (Keep.cons rfl (Keep.cons rfl (Keep.cons rfl (Keep.cons rfl (Keep.cons rfl (Keep.cons rfl (Keep.cons rfl (Keep.cons rfl (Keep.cons rfl (Keep.cons rfl (Keep.cons rfl (Keep.cons rfl (Keep.cons rfl (Keep.cons rfl (Keep.cons rfl (Keep.cons rfl (Keep.cons rfl (Keep.cons rfl (Keep.cons rfl (Keep.cons rfl (Keep.cons rfl (Keep.cons rfl (Keep.cons rfl (Keep.cons rfl (Keep.cons rfl (Keep.cons rfl (Keep.cons rfl (Keep.cons rfl (Keep.cons rfl (Keep.cons rfl (Keep.cons rfl (Keep.cons rfl (Keep.cons rfl (Keep.cons rfl (Keep.cons rfl (Keep.cons rfl (Keep.cons rfl (Keep.cons rfl (Keep.cons rfl (Keep.cons rfl (Keep.cons rfl (Keep.cons rfl (Keep.cons rfl (Keep.cons rfl (Keep.cons rfl (Keep.cons rfl (Keep.cons rfl (Keep.cons rfl (Keep.cons rfl (Keep.app rfl (Keep.rm rfl Keep.base)))))))))))))))))))))))))))))))))))))))))))))))))))))))))))))))))))))))))))))))⟩, by omega⟩
           ·have hG127 := hg127; try simp only [gS] at hG127
            refine o_off hf ?_; clear hf a; intro a hf
            refine o_off hf ?_; clear hf a; intro a hf
            refine o_off hf ?_; clear hf a; intro a hf
            refine o_v hf hh (y_pf rfl rfl) ?_; clear hf a; intro a hf
            refine o_end ?_
            refine c_f hf ?_
            refine sy_skip ?_
            refine blk_n ?_
            refine then_n ?_
            refine sy_ops ?_
            refine o_v hf hh (y_add rfl rfl) ?_; clear hf a; intro a hf
            refine o_v hf hh (yv_move rfl) ?_; clear hf a; intro a hf
            refine ops_end ?_
            refine then_n ?_
            exact ⟨g + 1, ⟨⟨by omega, hh.less (List.nil_sublist _)⟩, (hf.head (by repeat' (first | exact True.intro | refine And.intro rfl ?_)) (Keep.cons rfl (Keep.cons rfl (Keep.cons rfl (Keep.cons rfl (Keep.cons rfl (Keep.cons rfl (Keep.cons rfl (Keep.cons rfl (Keep.cons rfl (Keep.cons rfl (Keep.cons rfl (Keep.cons rfl (Keep.cons rfl (Keep.cons rfl (Keep.cons rfl (Keep.cons rfl (Keep.cons rfl (Keep.cons rfl (Keep.cons rfl (Keep.cons rfl (Keep.cons rfl (Keep.cons rfl (Keep.cons rfl (Keep.cons rfl (Keep.cons rfl (Keep.cons rfl (Keep.cons rfl (Keep.cons rfl (Keep.cons rfl (Keep.cons rfl (Keep.cons rfl (Keep.cons rfl (Keep.cons rfl (Keep.cons rfl (Keep.cons rfl (Keep.cons rfl (Keep.cons rfl (Keep.cons rfl (Keep.cons rfl (Keep.cons rfl (Keep.cons rfl (Keep.cons rfl (Keep.cons rfl (Keep.cons rfl (Keep.cons rfl (Keep.cons rfl (Keep.cons rfl (Keep.cons rfl (Keep.cons rfl (Keep.cons rfl (Keep.cons rfl (Keep.cons rfl (Keep.cons rfl (Keep.cons rfl (Keep.cons rfl (Keep.cons rfl (Keep.cons rfl (Keep.cons rfl (Keep.cons rfl (Keep.cons rfl (Keep.cons rfl (Keep.cons rfl (Keep.cons rfl (Keep.cons rfl (Keep.cons rfl (Keep.cons rfl (Keep.cons rfl (Keep.cons rfl (Keep.cons rfl (Keep.cons rfl (Keep.cons rfl (Keep.cons rfl (Keep.cons rfl (Keep.cons rfl (Keep.cons rfl (Keep.cons rfl (Keep.app rfl (Keep.rm rfl Keep.base)))))))))))))))))))))))))))))))))))))))))))))))))))))))))))))))))))))))))))))))⟩, by omega⟩
         ·have hG119 := hg119; try simp only [gS] at hG119
          refine o_off hf ?_; clear hf a; intro a hf
          refine o_off hf ?_; clear hf a; intro a hf
          refine o_off hf ?_; clear hf a; intro a hf
          refine o_off hf ?_; clear hf a; intro a hf
          refine o_off hf ?_; clear hf a; intro a hf
          refine o_v hf hh (y_pf rfl rfl) ?_; clear hf a; intro a hf
          refine o_v hf hh (y_pf rfl rfl) ?_; clear hf a; intro a hf
          refine o_v hf hh (yv_move rfl) ?_; clear hf a; intro a hf
          refine o_v hf hh (yv_move rfl) ?_; clear hf a; intro a hf
          refine o_v hf hh (yv_fieldAddr Try.fo_66_0 rfl) ?_; clear hf a; intro a hf
          refine o_v hf hh (y_ld Try.sc_3 rfl) ?_; clear hf a; intro a hf
          refine o_v hf hh (yv_bin rfl rfl rfl) ?_; clear hf a; intro a hf
          refine o_v hf hh (yv_move rfl) ?_; clear hf a; intro a hf
          refine guard_split hf (t := 138) rfl (fun hg129 => ?_) (fun hg129 => ?_)
          ·have hG129 := hg129; try simp only [gS] at hG129
           have m4e := m4 (by omega)
           refine o_v hf hh (yv_fieldAddr Try.fo_43_0 rfl) ?_; clear hf a; intro a hf
           refine o_v hf hh (y_ld Try.sc_3 rfl) ?_; clear hf a; intro a hf
           refine o_v hf hh (yv_fieldAddr Try.fo_43_0 rfl) ?_; clear hf a; intro a hf
           refine o_v hf hh (y_ld Try.sc_3 rfl) ?_; clear hf a; intro a hf
           refine o_v hf hh (yv_bin rfl rfl rfl) ?_; clear hf a; intro a hf
           refine o_v hf hh (y_pt rfl rfl) ?_; clear hf a; intro a hf
           refine o_v hf hh (y_pf rfl rfl) ?_; clear hf a; intro a hf
           refine o_end ?_
           refine c_f hf ?_
           refine sy_skip ?_
           refine then_n ?_
           refine sy_sq ?_
           refine o_v hf hh (yv_fieldAddr Try.fo_66_0 rfl) ?_; clear hf a; intro a hf
           refine o_v hf hh (y_ld Try.sc_3 rfl) ?_; clear hf a; intro a hf
           refine o_v hf hh (yv_move rfl) ?_; clear hf a; intro a hf
           refine o_v hf hh (yv_bin rfl rfl rfl) ?_; clear hf a; intro a hf
           refine o_v hf hh (yv_move rfl) ?_; clear hf a; intro a hf
           refine guard_split hf (t := 150) rfl (fun hg132 => ?_) (fun hg132 => ?_)
           ·have hG132 := hg132; try simp only [gS] at hG132
            refine o_v hf hh (y_lds Try.ag_43 rfl) ?_; clear hf a; intro a hf
            refine o_v hf hh (y_lds Try.ag_43 rfl) ?_; clear hf a; intro a hf
            have m5e := m5 (by omega)
            obtain ⟨m5a, m5b⟩ := Prod.mk.injEq _ _ _ _ ▸ m5e
            refine o_v hf hh (yv_cast (yv_neF [s1, s2] [t1, t2] fl43 rfl rfl) (congrArg Value.bool (show _ = false by rw [m5a, m5b]; simp))) ?_; clear hf a; intro a hf
            refine o_v hf hh (y_pt rfl rfl) ?_; clear hf a; intro a hf
            refine o_end ?_
            refine c_f hf ?_
            refine sy_skip ?_
            refine blk_n ?_
            refine then_n ?_
            refine sy_ops ?_
            refine o_v hf hh (y_add rfl rfl) ?_; clear hf a; intro a hf
            refine o_v hf hh (yv_move rfl) ?_; clear hf a; intro a hf
            refine ops_end ?_
            refine then_n ?_
            exact ⟨g + 1, ⟨⟨by omega, hh.less (List.nil_sublist _)⟩, (hf.head (by repeat' (first | exact True.intro | refine And.intro rfl ?_)) (Keep.cons rfl (Keep.cons rfl (Keep.cons rfl (Keep.cons rfl (Keep.cons rfl (Keep.cons rfl (Keep.cons rfl (Keep.cons rfl (Keep.cons rfl (Keep.cons rfl (Keep.cons rfl (Keep.cons rfl (Keep.cons rfl (Keep.cons rfl (Keep.cons rfl (Keep.cons rfl (Keep.cons rfl (Keep.cons rfl (Keep.cons rfl (Keep.cons rfl (Keep.cons rfl (Keep.cons rfl (Keep.cons rfl (Keep.cons rfl (Keep.cons rfl (Keep.cons rfl (Keep.cons rfl (Keep.cons rfl (Keep.cons rfl (Keep.cons rfl (Keep.cons rfl (Keep.cons rfl (Keep.cons rfl (Keep.cons rfl (Keep.cons rfl (Keep.cons rfl (Keep.cons rfl (Keep.cons rfl (Keep.cons rfl (Keep.cons rfl (Keep.cons rfl (Keep.cons rfl (Keep.cons rfl (Keep.cons rfl (Keep.cons rfl (Keep.cons rfl (Keep.cons rfl (Keep.cons rfl (Keep.cons rfl (Keep.cons rfl (Keep.cons rfl (Keep.cons rfl (Keep.cons rfl (Keep.cons rfl (Keep.cons rfl (Keep.cons rfl (Keep.cons rfl (Keep.cons rfl (Keep.cons rfl (Keep.cons rfl (Keep.cons rfl (Keep.cons rfl (Keep.cons rfl (Keep.cons rfl (Keep.cons rfl (Keep.cons rfl (Keep.cons rfl (Keep.cons rfl (Keep.cons rfl (Keep.cons rfl (Keep.cons rfl (Keep.cons rfl (Keep.cons rfl (Keep.cons rfl (Keep.cons rfl (Keep.cons rfl (Keep.app rfl (Keep.rm rfl Keep.base)))))))))))))))))))))))))))))))))))))))))))))))))))))))))))))))))))))))))))))))⟩, by omega⟩
           ·have hG132 := hg132; try simp only [gS] at hG132
            refine o_off hf ?_; clear hf a; intro a hf
            refine o_off hf ?_; clear hf a; intro a hf
            refine o_off hf ?_; clear hf a; intro a hf
            refine o_v hf hh (y_pf rfl rfl) ?_; clear hf a; intro a hf
            refine o_end ?_
            refine c_f hf ?_
            refine sy_skip ?_
            refine blk_n ?_
            refine then_n ?_
            refine sy_ops ?_
            refine o_v hf hh (y_add rfl rfl) ?_; clear hf a; intro a hf
            refine o_v hf hh (yv_move rfl) ?_; clear hf a; intro a hf
            refine ops_end ?_
            refine then_n ?_
            exact ⟨g + 1, ⟨⟨by omega, hh.less (List.nil_sublist _)⟩, (hf.head (by repeat' (first | exact True.intro | refine And.intro rfl ?_)) (Keep.cons rfl (Keep.cons rfl (Keep.cons rfl (Keep.cons rfl (Keep.cons rfl (Keep.cons rfl (Keep.cons rfl (Keep.cons rfl (Keep.cons rfl (Keep.cons rfl (Keep.cons rfl (Keep.cons rfl (Keep.cons rfl (Keep.cons rfl (Keep.cons rfl (Keep.cons rfl (Keep.cons rfl (Keep.cons rfl (Keep.cons rfl (Keep.cons rfl (Keep.cons rfl (Keep.cons rfl (Keep.cons rfl (Keep.cons rfl (Keep.cons rfl (Keep.cons rfl (Keep.cons rfl (Keep.cons rfl (Keep.cons rfl (Keep.cons rfl (Keep.cons rfl (Keep.cons rfl (Keep.cons rfl (Keep.cons rfl (Keep.cons rfl (Keep.cons rfl (Keep.cons rfl (Keep.cons rfl (Keep.cons rfl (Keep.cons rfl (Keep.cons rfl (Keep.cons rfl (Keep.cons rfl (Keep.cons rfl (Keep.cons rfl (Keep.cons rfl (Keep.cons rfl (Keep.cons rfl (Keep.cons rfl (Keep.cons rfl (Keep.cons rfl (Keep.cons rfl (Keep.cons rfl (Keep.cons rfl (Keep.cons rfl (Keep.cons rfl (Keep.cons rfl (Keep.cons rfl (Keep.cons rfl (Keep.cons rfl (Keep.cons rfl (Keep.cons rfl (Keep.cons rfl (Keep.cons rfl (Keep.cons rfl (Keep.cons rfl (Keep.cons rfl (Keep.cons rfl (Keep.cons rfl (Keep.cons rfl (Keep.cons rfl (Keep.cons rfl (Keep.cons rfl (Keep.cons rfl (Keep.cons rfl (Keep.cons rfl (Keep.app rfl (Keep.rm rfl Keep.base)))))))))))))))))))))))))))))))))))))))))))))))))))))))))))))))))))))))))))))))⟩, by omega⟩
          ·have hG129 := hg129; try simp only [gS] at hG129
           refine o_off hf ?_; clear hf a; intro a hf
           refine o_off hf ?_; clear hf a; intro a hf
           refine o_off hf ?_; clear hf a; intro a hf
           refine o_off hf ?_; clear hf a; intro a hf
           refine o_off hf ?_; clear hf a; intro a hf
           refine o_v hf hh (y_pf rfl rfl) ?_; clear hf a; intro a hf
           refine o_v hf hh (y_pf rfl rfl) ?_; clear hf a; intro a hf
           refine o_end ?_
           refine c_f hf ?_
           refine sy_skip ?_
           refine then_n ?_
           refine sy_sq ?_
           refine o_v hf hh (yv_fieldAddr Try.fo_66_0 rfl) ?_; clear hf a; intro a hf
           refine o_v hf hh (y_ld Try.sc_3 rfl) ?_; clear hf a; intro a hf
           refine o_v hf hh (yv_move rfl) ?_; clear hf a; intro a hf
           refine o_v hf hh (yv_bin rfl rfl rfl) ?_; clear hf a; intro a hf
           refine o_v hf hh (yv_move rfl) ?_; clear hf a; intro a hf
           refine guard_split hf (t := 150) rfl (fun hg134 => ?_) (fun hg134 => ?_)
           ·have hG134 := hg134; try simp only [gS] at hG134
            refine o_v hf hh (y_lds Try.ag_43 rfl) ?_; clear hf a; intro a hf
            refine o_v hf hh (y_lds Try.ag_43 rfl) ?_; clear hf a; intro a hf
            have m5e := m5 (by omega)
            obtain ⟨m5a, m5b⟩ := Prod.mk.injEq _ _ _ _ ▸ m5e
            refine o_v hf hh (yv_cast (yv_neF [s1, s2] [t1, t2] fl43 rfl rfl) (congrArg Value.bool (show _ = false by rw [m5a, m5b]; simp))) ?_; clear hf a; intro a hf
            refine o_v hf hh (y_pt rfl rfl) ?_; clear hf a; intro a hf
            refine o_end ?_
            refine c_f hf ?_
            refine sy_skip ?_
            refine blk_n ?_
            refine then_n ?_
            refine sy_ops ?_
            refine o_v hf hh (y_add rfl rfl) ?_; clear hf a; intro a hf
            refine o_v hf hh (yv_move rfl) ?_; clear hf a; intro a hf
            refine ops_end ?_
            refine then_n ?_
            exact ⟨g + 1, ⟨⟨by omega, hh.less (List.nil_sublist _)⟩, (hf.head (by repeat' (first | exact True.intro | refine And.intro rfl ?_)) (Keep.cons rfl (Keep.cons rfl (Keep.cons rfl (Keep.cons rfl (Keep.cons rfl (Keep.cons rfl (Keep.cons rfl (Keep.cons rfl (Keep.cons rfl (Keep.cons rfl (Keep.cons rfl (Keep.cons rfl (Keep.cons rfl (Keep.cons rfl (Keep.cons rfl (Keep.cons rfl (Keep.cons rfl (Keep.cons rfl (Keep.cons rfl (Keep.cons rfl (Keep.cons rfl (Keep.cons rfl (Keep.cons rfl (Keep.cons rfl (Keep.cons rfl (Keep.cons rfl (Keep.cons rfl (Keep.cons rfl (Keep.cons rfl (Keep.cons rfl (Keep.cons rfl (Keep.cons rfl (Keep.cons rfl (Keep.cons rfl (Keep.cons rfl (Keep.cons rfl (Keep.cons rfl (Keep.cons rfl (Keep.cons rfl (Keep.cons rfl (Keep.cons rfl (Keep.cons rfl (Keep.cons rfl (Keep.cons rfl (Keep.cons rfl (Keep.cons rfl (Keep.cons rfl (Keep.cons rfl (Keep.cons rfl (Keep.cons rfl (Keep.cons rfl (Keep.cons rfl (Keep.cons rfl (Keep.cons rfl (Keep.cons rfl (Keep.cons rfl (Keep.cons rfl (Keep.cons rfl (Keep.cons rfl (Keep.cons rfl (Keep.cons rfl (Keep.cons rfl (Keep.cons rfl (Keep.cons rfl (Keep.cons rfl (Keep.cons rfl (Keep.cons rfl (Keep.cons rfl (Keep.cons rfl (Keep.cons rfl (Keep.cons rfl (Keep.cons rfl (Keep.cons rfl (Keep.cons rfl (Keep.cons rfl (Keep.cons rfl (Keep.app rfl (Keep.rm rfl Keep.base)))))))))))))))))))))))))))))))))))))))))))))))))))))))))))))))))))))))))))))))⟩, by omega⟩
           ·have hG134 := hg134; try simp only [gS] at hG134
            refine o_off hf ?_; clear hf a; intro a hf
            refine o_off hf ?_; clear hf a; intro a hf
            refine o_off hf ?_; clear hf a; intro a hf
            refine o_v hf hh (y_pf rfl rfl) ?_; clear hf a; intro a hf
            refine o_end ?_
            refine c_f hf ?_
            refine sy_skip ?_
            refine blk_n ?_
            refine then_n ?_
            refine sy_ops ?_
            refine o_v hf hh (y_add rfl rfl) ?_; clear hf a; intro a hf
            refine o_v hf hh (yv_move rfl) ?_; clear hf a; intro a hf
            refine ops_end ?_
            refine then_n ?_
            exact ⟨g + 1, ⟨⟨by omega, hh.less (List.nil_sublist _)⟩, (hf.head (by repeat' (first | exact True.intro | refine And.intro rfl ?_)) (Keep.cons rfl (Keep.cons rfl (Keep.cons rfl (Keep.cons rfl (Keep.cons rfl (Keep.cons rfl (Keep.cons rfl (Keep.cons rfl (Keep.cons rfl (Keep.cons rfl (Keep.cons rfl (Keep.cons rfl (Keep.cons rfl (Keep.cons rfl (Keep.cons rfl (Keep.cons rfl (Keep.cons rfl (Keep.cons rfl (Keep.cons rfl (Keep.cons rfl (Keep.cons rfl (Keep.cons rfl (Keep.cons rfl (Keep.cons rfl (Keep.cons rfl (Keep.cons rfl (Keep.cons rfl (Keep.cons rfl (Keep.cons rfl (Keep.cons rfl (Keep.cons rfl (Keep.cons rfl (Keep.cons rfl (Keep.cons rfl (Keep.cons rfl (Keep.cons rfl (Keep.cons rfl (Keep.cons rfl (Keep.cons rfl (Keep.cons rfl (Keep.cons rfl (Keep.cons rfl (Keep.cons rfl (Keep.cons rfl (Keep.cons rfl (Keep.cons rfl (Keep.cons rfl (Keep.cons rfl (Keep.cons rfl (Keep.cons rfl (Keep.cons rfl (Keep.cons rfl (Keep.cons rfl (Keep.cons rfl (Keep.cons rfl (Keep.cons rfl (Keep.cons rfl (Keep.cons rfl (Keep.cons rfl (Keep.cons rfl (Keep.cons rfl (Keep.cons rfl (Keep.cons rfl (Keep.cons rfl (Keep.cons rfl (Keep.cons rfl (Keep.cons rfl (Keep.cons rfl (Keep.cons rfl (Keep.cons rfl (Keep.cons rfl (Keep.cons rfl (Keep.cons rfl (Keep.cons rfl (Keep.cons rfl (Keep.cons rfl (Keep.app rfl (Keep.rm rfl Keep.base)))))))))))))))))))))))))))))))))))))))))))))))))))))))))))))))))))))))))))))))⟩, by omega⟩
        ·have hG107 := hg107; try simp only [gS] at hG107
         refine sy_exit ?_
         refine then_e ?_
         refine then_e ?_
         refine blk_e ?_
         refine then_n ?_
         refine sy_seq ?_
         refine sy_sq ?_
         refine o_v hf hh (yv_fieldAddr Try.fo_37_1 rfl) ?_; clear hf a; intro a hf
         refine o_v hf hh (y_ld Try.sc_22 rfl) ?_; clear hf a; intro a hf
         refine o_v hf hh (yv_len Try.se_22 rfl) ?_; clear hf a; intro a hf
         refine o_v hf hh (yv_move rfl) ?_; clear hf a; intro a hf
         refine o_end ?_
         refine sy_block ?_
         refine sy_loopH (σ := Nat) [6, 15, 16, 17, 18, 19, 159, 160, 161, 162, 163, 164, 165, 166, 167, 168, 169, 170, 171, 172, 173, 174, 175, 176, 177, 178, 179, 180, 181, 182, 183, 184, 185, 186, 187, 188, 189, 190, 191, 192, 193, 194] (fun k => [(159, .int .i64 (k : Nat))]) (fun k => fun w' => k ≤ d.prices.length ∧ Hp w9 [] [] w') (fun k => d.prices.length - k) (0) hf ?_ ?_ ?_
         · repeat' (first | exact True.intro | refine And.intro rfl ?_)
         · exact ⟨Nat.zero_le _, hh⟩
         ·rintro k a w ⟨hk, hh⟩ hf
          refine sy_sq ?_
          refine o_v hf hh (yv_bin rfl rfl rfl) ?_; clear hf a; intro a hf
          refine o_end ?_
          refine sy_seq ?_
          refine sy_cond hf rfl (fun hg136 => ?_) (fun hg136 => ?_)
          ·have hG136 := hg136; try simp only [gS] at hG136
           refine sy_skip ?_
           refine then_n ?_
           refine sy_seq ?_
           refine sy_block ?_
           refine sy_sq ?_
           refine o_v hf hh (yv_move rfl) ?_; clear hf a; intro a hf
           refine o_v hf hh (yv_assign rfl) ?_; clear hf a; intro a hf
           refine o_end ?_
           refine sy_seq ?_
           obtain ⟨m1, m2⟩ := all_more hP hO hr2 (k := k) (by omega)
           have e1 := allE_ok hO (k := k) (by omega)
           have e2 := allE_ok hO' (k := k) (show k < d.prices.length by omega)
           obtain ⟨s1, s2, hs⟩ : ∃ s1 s2, allV d k = (s1, s2) := ⟨_, _, rfl⟩
           obtain ⟨t1, t2, ht⟩ : ∃ t1 t2, allV (addR d n) k = (t1, t2) := ⟨_, _, rfl⟩
           rw [hs, ht] at m1 m2
           dsimp only at m1 m2
           refine sy_ops ?_
           refine o_v hf hh (y_lds Try.ag_37 rfl) ?_; clear hf a; intro a hf
           refine o_v hf hh (yv_move rfl) ?_; clear hf a; intro a hf
           refine o_call hf Try.en_28 rfl rfl rfl (p28 d _ (k : Nat) _ (hA9.ext hh.ext)) ?_; clear hf a; intro v a w hR hf
           rw [hs, e1] at hR
           obtain ⟨rfl, hx⟩ := hR; replace hh := hh.more hx; clear hx
           refine o_v hf hh (yv_move rfl) ?_; clear hf a; intro a hf
           refine o_v hf hh (yv_extract rfl rfl) ?_; clear hf a; intro a hf
           refine o_v hf hh (yv_extract rfl rfl) ?_; clear hf a; intro a hf
           refine o_alloc hf hh Try.ze_43 ?_; clear hf hh a; intro B16 a w hf hh
           refine o_store hf hh Try.sz_43 fun w hh => ?_
           refine o_v hf hh (yv_assign rfl) ?_; clear hf a; intro a hf
           refine o_end ?_
           refine sy_sq ?_
           refine o_v hf hh (y_lds Try.ag_37 rfl) ?_; clear hf a; intro a hf
           refine o_v hf hh (yv_move rfl) ?_; clear hf a; intro a hf
           refine o_call hf Try.en_28 rfl rfl rfl (p28 (addR d n) p' (k : Nat) _ (hB9.ext hh.ext)) ?_; clear hf a; intro v a w hR hf
           rw [ht, e2] at hR
           obtain ⟨rfl, hx⟩ := hR; replace hh := hh.more hx; clear hx
           refine o_v hf hh (yv_move rfl) ?_; clear hf a; intro a hf
           refine o_v hf hh (yv_extract rfl rfl) ?_; clear hf a; intro a hf
           refine o_v hf hh (yv_extract rfl rfl) ?_; clear hf a; intro a hf
           refine o_alloc hf hh Try.ze_43 ?_; clear hf hh a; intro B18 a w hf hh
           refine o_store hf hh Try.sz_43 fun w hh => ?_
           refine o_v hf hh (yv_assign rfl) ?_; clear hf a; intro a hf
           refine o_end ?_
           refine sy_sq ?_
           refine o_v hf hh (yv_move rfl) ?_; clear hf a; intro a hf
           refine o_v hf hh (yv_bin rfl rfl rfl) ?_; clear hf a; intro a hf
           refine o_v hf hh (yv_move rfl) ?_; clear hf a; intro a hf
           refine o_v hf hh (yv_move rfl) ?_; clear hf a; intro a hf
           refine o_v hf hh (yv_bin rfl rfl rfl) ?_; clear hf a; intro a hf
           refine o_v hf hh (y_pf rfl rfl) ?_; clear hf a; intro a hf
           refine o_v hf hh (yv_move rfl) ?_; clear hf a; intro a hf
           refine o_v hf hh (yv_fieldAddr Try.fo_43_0 rfl) ?_; clear hf a; intro a hf
           refine o_v hf hh (y_ld Try.sc_3 rfl) ?_; clear hf a; intro a hf
           refine o_v hf hh (yv_fieldAddr Try.fo_43_0 rfl) ?_; clear hf a; intro a hf
           refine o_v hf hh (y_ld Try.sc_3 rfl) ?_; clear hf a; intro a hf
           refine o_v hf hh (yv_bin rfl rfl rfl) ?_; clear hf a; intro a hf
           refine o_v hf hh (y_pf rfl rfl) ?_; clear hf a; intro a hf
           refine o_v hf hh (yv_move rfl) ?_; clear hf a; intro a hf
           refine o_v hf hh (yv_fieldAddr Try.fo_43_1 rfl) ?_; clear hf a; intro a hf
           refine o_v hf hh (y_ld Try.sc_3 rfl) ?_; clear hf a; intro a hf
           refine o_v hf hh (yv_fieldAddr Try.fo_43_1 rfl) ?_; clear hf a; intro a hf
           refine o_v hf hh (y_ld Try.sc_3 rfl) ?_; clear hf a; intro a hf
           refine o_v hf hh (yv_bin rfl rfl rfl) ?_; clear hf a; intro a hf
           refine o_v hf hh (y_pf rfl rfl) ?_; clear hf a; intro a hf
           refine o_end ?_
           refine c_f hf ?_
           refine sy_skip ?_
           refine blk_n ?_
           refine then_n ?_
           refine sy_ops ?_
           refine o_v hf hh (y_add rfl rfl) ?_; clear hf a; intro a hf
           refine o_v hf hh (yv_move rfl) ?_; clear hf a; intro a hf
           refine ops_end ?_
           refine then_n ?_
           exact ⟨k + 1, ⟨⟨by omega, hh.less (List.nil_sublist _)⟩, (hf.head (by repeat' (first | exact True.intro | refine And.intro rfl ?_)) (Keep.cons rfl (Keep.cons rfl (Keep.cons rfl (Keep.cons rfl (Keep.cons rfl (Keep.cons rfl (Keep.cons rfl (Keep.cons rfl (Keep.cons rfl (Keep.cons rfl (Keep.cons rfl (Keep.cons rfl (Keep.cons rfl (Keep.cons rfl (Keep.cons rfl (Keep.cons rfl (Keep.cons rfl (Keep.cons rfl (Keep.cons rfl (Keep.cons rfl (Keep.cons rfl (Keep.cons rfl (Keep.cons rfl (Keep.cons rfl (Keep.cons rfl (Keep.cons rfl (Keep.cons rfl (Keep.cons rfl (Keep.cons rfl (Keep.cons rfl (Keep.cons rfl (Keep.cons rfl (Keep.cons rfl (Keep.cons rfl (Keep.cons rfl (Keep.cons rfl (Keep.cons rfl (Keep.cons rfl (Keep.cons rfl (Keep.cons rfl (Keep.cons rfl (Keep.app rfl (Keep.rm rfl Keep.base))))))))))))))))))))))))))))))))))))))))))))⟩, by omega⟩
          ·have hG136 := hg136; try simp only [gS] at hG136
           refine sy_exit ?_
           refine then_e ?_
           refine then_e ?_
           refine blk_e ?_
           refine then_n ?_
           refine sy_sq ?_
           refine o_call hf Try.en_14 rfl rfl rfl (p14 _) ?_; clear hf a; intro v a w hR hf
           obtain ⟨rfl, hx⟩ := hR; replace hh := hh.more hx; clear hx
           refine o_v hf hh (yv_assign rfl) ?_; clear hf a; intro a hf
           refine o_end ?_
           refine sy_ret ?_
           refine ret_r hf rfl rfl ?_
           first
             | exact ⟨rfl, hh.ext⟩
             | exact ⟨rfl, hx0.trans hh.ext⟩
end Go.Proofs.Ytkfkifkdncdhoaa
