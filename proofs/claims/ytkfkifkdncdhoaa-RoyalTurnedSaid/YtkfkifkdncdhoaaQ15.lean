/- Lemmas, in order: The document's Claims and Owes; royalties that are great. All truths, as the document goes through them. Lists of truths in memory; the best of them. Truths that are made; the order of truths. Royalties where no card is told twice. A report more, of cards that are claimed already. Whoever truly sold the cards. Agents numbered otherwise, reports told in another order. Agents numbered otherwise: what the code builds. RoyalTurned.. -/
import Derived.Test.YtkfkifkdncdhoaaQ14
namespace Go.Proofs.Ytkfkifkdncdhoaa
open Go Go.Sy Go.RoyM
/-- Royalties of any size in memory. -/
structure RoyIn (w : World) (d : RoyD) (p : Pl) : Prop where
  tm : TAt 3 tmC w p.st d.terms
  pr : IAt w p.sp d.prices
  sh : LAt w p.ss d.shares
  rp : TAt 4 rpC w p.sr d.reps
  pd : IAt w p.sd d.paid
  n1 : d.terms.length ≤ maxLen
  n2 : d.prices.length ≤ maxLen
  n3 : d.shares.length ≤ maxLen
  n4 : d.reps.length ≤ maxLen
  n5 : d.paid.length ≤ maxLen
  n6 : ∀ l ∈ d.shares, l.length ≤ maxLen
  cap : d.reps.length ≤ p.cr
  caps : d.shares.length ≤ p.cs
theorem RoyIn.ext {w w' : World} {d : RoyD} {p : Pl} (h : RoyIn w d p) (e : Ext [] w w') : RoyIn w' d p :=
  ⟨h.tm.ext e, h.pr.ext e, h.sh.ext e, h.rp.ext e, h.pd.ext e, h.n1, h.n2, h.n3, h.n4, h.n5, h.n6, h.cap, h.caps⟩
theorem RoyIn.at {w : World} {d : RoyD} {p : Pl} (h : RoyIn w d p) (hg : grB d = false) : RoyAt w d p := by
  obtain ⟨h1, h2, h3, h4, h5, h6⟩ := gr_no hg
  exact ⟨h.tm, h.pr, h.sh, h.rp, h.pd, by omega, by omega, by omega, by omega, by omega, fun l hl => by have := h6 l hl; omega, h.cap⟩
theorem p20 (d : RoyD) (p : Pl) (u : World) (hR : RoyIn u d p) : Calls Try.prog 20 #[.agg (royC d p)] u (Ret fun v w' => v = .bool (grB d) ∧ Ext [] u w') := by
  refine calls_of Try.func20 rfl rfl (fun a hf => ?_)
  have hh := Hp.init u []
  obtain ⟨st, sp, ss, sr, sd, ct, cp, cs, cr, cd⟩ := p
  have hn3 := hR.n3; simp only [maxLen] at hn3
  refine sy_sq ?_
  refine o_box hf hh ?_; clear hf hh a; intro B1 a w hf hh
  refine o_v hf hh (yv_assign rfl) ?_; clear hf a; intro a hf
  refine o_end ?_
  refine sy_sq ?_
  refine o_v hf hh (yv_assign rfl) ?_; clear hf a; intro a hf
  refine o_end ?_
  refine sy_seq ?_
  refine sy_sq ?_
  refine o_v hf hh (yv_fieldAddr Try.fo_37_2 rfl) ?_; clear hf a; intro a hf
  refine o_v hf hh (y_ld Try.sc_34 rfl) ?_; clear hf a; intro a hf
  refine o_v hf hh (yv_len Try.se_34 rfl) ?_; clear hf a; intro a hf
  refine o_v hf hh (yv_move rfl) ?_; clear hf a; intro a hf
  refine o_end ?_
  refine sy_block ?_
  refine sy_loopF (σ := Nat) [3, 5, 9, 10, 11, 12, 13, 14, 15, 16, 17] (fun i => [(3, .int .i64 (mxN (d.shares.take i) : Nat)), (9, .int .i64 (i : Nat))]) (fun i => i ≤ d.shares.length) (fun i => d.shares.length - i) (0) hf hh ?_ ?_ ?_
  · repeat' (first | exact True.intro | refine And.intro rfl ?_)
  · exact Nat.zero_le _
  ·rintro i a w hi hf hh
   refine sy_sq ?_
   refine o_v hf hh (yv_bin rfl rfl rfl) ?_; clear hf a; intro a hf
   refine o_end ?_
   refine sy_seq ?_
   refine sy_cond hf rfl (fun hg2 => ?_) (fun hg2 => ?_)
   ·have hG2 := hg2; try simp only [gS] at hG2
    refine sy_skip ?_
    refine then_n ?_
    refine sy_seq ?_
    refine sy_block ?_
    refine sy_seq ?_
    obtain ⟨x, hx⟩ := ex_of (l := d.shares) (i := i) (by omega)
    obtain ⟨blk, off, cc, T, fr, sb, cb, e, hb, hc, hI⟩ := hR.sh i x hx; dsimp only at e; subst e
    have hmt := mx_take hx
    refine sy_ops ?_
    refine o_v hf hh (y_ix Try.se_34 rfl rfl) ?_; clear hf a; intro a hf
    refine o_v hf hh (y_ld Try.sc_22 rfl) ?_; clear hf a; intro a hf
    refine o_v hf hh (yv_assign rfl) ?_; clear hf a; intro a hf
    refine o_end ?_
    refine sy_ops ?_
    refine o_v hf hh (yv_move rfl) ?_; clear hf a; intro a hf
    refine o_v hf hh (yv_move rfl) ?_; clear hf a; intro a hf
    refine o_v hf hh (yv_len Try.se_22 rfl) ?_; clear hf a; intro a hf
    refine o_v hf hh (yv_max rfl rfl) ?_; clear hf a; intro a hf
    refine o_v hf hh (yv_assign rfl) ?_; clear hf a; intro a hf
    refine ops_end ?_
    refine blk_n ?_
    refine then_n ?_
    refine sy_ops ?_
    refine o_v hf hh (y_add rfl rfl) ?_; clear hf a; intro a hf
    refine o_v hf hh (yv_move rfl) ?_; clear hf a; intro a hf
    refine ops_end ?_
    refine then_n ?_
    exact ⟨i + 1, ⟨by omega, hf.head ⟨congrArg some (intv (by rw [hmt]; omega)), rfl, True.intro⟩ (Keep.cons rfl (Keep.cons rfl (Keep.cons rfl (Keep.cons rfl (Keep.cons rfl (Keep.cons rfl (Keep.cons rfl (Keep.cons rfl (Keep.cons rfl (Keep.cons rfl (Keep.cons rfl (Keep.app rfl (Keep.rm rfl Keep.base))))))))))))), hh⟩, by omega⟩
   ·have hG2 := hg2; try simp only [gS] at hG2
    refine sy_exit ?_
    refine then_e ?_
    refine then_e ?_
    refine blk_e ?_
    refine then_n ?_
    refine sy_seq ?_
    obtain rfl : i = d.shares.length := by omega
    rw [List.take_length] at hf
    refine sy_ops ?_
    refine o_v hf hh (yv_fieldAddr Try.fo_37_0 rfl) ?_; clear hf a; intro a hf
    refine o_v hf hh (y_ld Try.sc_33 rfl) ?_; clear hf a; intro a hf
    refine o_v hf hh (yv_len Try.se_33 rfl) ?_; clear hf a; intro a hf
    refine o_v hf hh (yv_bin rfl rfl rfl) ?_; clear hf a; intro a hf
    refine o_v hf hh (yv_move rfl) ?_; clear hf a; intro a hf
    refine guard_split hf (t := 22) rfl (fun hg4 => ?_) (fun hg4 => ?_)
    ·have hG4 := hg4; try simp only [gS] at hG4
     refine o_off hf ?_; clear hf a; intro a hf
     refine o_off hf ?_; clear hf a; intro a hf
     refine o_off hf ?_; clear hf a; intro a hf
     refine o_off hf ?_; clear hf a; intro a hf
     refine o_v hf hh (y_pt rfl rfl) ?_; clear hf a; intro a hf
     refine o_v hf hh (yv_move rfl) ?_; clear hf a; intro a hf
     refine o_off hf ?_; clear hf a; intro a hf
     refine o_off hf ?_; clear hf a; intro a hf
     refine o_off hf ?_; clear hf a; intro a hf
     refine o_off hf ?_; clear hf a; intro a hf
     refine o_v hf hh (y_pt rfl rfl) ?_; clear hf a; intro a hf
     refine o_v hf hh (yv_move rfl) ?_; clear hf a; intro a hf
     refine o_off hf ?_; clear hf a; intro a hf
     refine o_off hf ?_; clear hf a; intro a hf
     refine o_off hf ?_; clear hf a; intro a hf
     refine o_off hf ?_; clear hf a; intro a hf
     refine o_v hf hh (y_pt rfl rfl) ?_; clear hf a; intro a hf
     refine o_v hf hh (yv_move rfl) ?_; clear hf a; intro a hf
     refine o_off hf ?_; clear hf a; intro a hf
     refine o_off hf ?_; clear hf a; intro a hf
     refine o_off hf ?_; clear hf a; intro a hf
     refine o_off hf ?_; clear hf a; intro a hf
     refine o_v hf hh (y_pt rfl rfl) ?_; clear hf a; intro a hf
     refine o_v hf hh (yv_move rfl) ?_; clear hf a; intro a hf
     refine o_off hf ?_; clear hf a; intro a hf
     refine o_off hf ?_; clear hf a; intro a hf
     refine o_v hf hh (y_pt rfl rfl) ?_; clear hf a; intro a hf
     refine o_v hf hh (yv_assign rfl) ?_; clear hf a; intro a hf
     refine o_end ?_
     refine sy_ret ?_
     refine ret_r hf rfl rfl ?_
     refine ⟨congrArg Value.bool ?_, hh.ext⟩
     clear hf hh
     unfold grB
     rw [Bool.eq_iff_iff]
     simp only [Bool.or_eq_true, decide_eq_true_eq]
     first
       | omega
       | (simp; omega)
    ·have hG4 := hg4; try simp only [gS] at hG4
     refine o_v hf hh (yv_fieldAddr Try.fo_37_1 rfl) ?_; clear hf a; intro a hf
     refine o_v hf hh (y_ld Try.sc_22 rfl) ?_; clear hf a; intro a hf
     refine o_v hf hh (yv_len Try.se_22 rfl) ?_; clear hf a; intro a hf
     refine o_v hf hh (yv_bin rfl rfl rfl) ?_; clear hf a; intro a hf
     refine o_v hf hh (y_pf rfl rfl) ?_; clear hf a; intro a hf
     refine o_v hf hh (yv_move rfl) ?_; clear hf a; intro a hf
     refine guard_split hf (t := 28) rfl (fun hg6 => ?_) (fun hg6 => ?_)
     ·have hG6 := hg6; try simp only [gS] at hG6
      refine o_off hf ?_; clear hf a; intro a hf
      refine o_off hf ?_; clear hf a; intro a hf
      refine o_off hf ?_; clear hf a; intro a hf
      refine o_off hf ?_; clear hf a; intro a hf
      refine o_v hf hh (y_pt rfl rfl) ?_; clear hf a; intro a hf
      refine o_v hf hh (yv_move rfl) ?_; clear hf a; intro a hf
      refine o_off hf ?_; clear hf a; intro a hf
      refine o_off hf ?_; clear hf a; intro a hf
      refine o_off hf ?_; clear hf a; intro a hf
      refine o_off hf ?_; clear hf a; intro a hf
      refine o_v hf hh (y_pt rfl rfl) ?_; clear hf a; intro a hf
      refine o_v hf hh (yv_move rfl) ?_; clear hf a; intro a hf
      refine o_off hf ?_; clear hf a; intro a hf
      refine o_off hf ?_; clear hf a; intro a hf
      refine o_off hf ?_; clear hf a; intro a hf
      refine o_off hf ?_; clear hf a; intro a hf
      refine o_v hf hh (y_pt rfl rfl) ?_; clear hf a; intro a hf
      refine o_v hf hh (yv_move rfl) ?_; clear hf a; intro a hf
      refine o_off hf ?_; clear hf a; intro a hf
      refine o_off hf ?_; clear hf a; intro a hf
      refine o_v hf hh (y_pt rfl rfl) ?_; clear hf a; intro a hf
      refine o_v hf hh (yv_assign rfl) ?_; clear hf a; intro a hf
      refine o_end ?_
      refine sy_ret ?_
      refine ret_r hf rfl rfl ?_
      refine ⟨congrArg Value.bool ?_, hh.ext⟩
      clear hf hh
      unfold grB
      rw [Bool.eq_iff_iff]
      simp only [Bool.or_eq_true, decide_eq_true_eq]
      first
        | omega
        | (simp; omega)
     ·have hG6 := hg6; try simp only [gS] at hG6
      refine o_v hf hh (yv_fieldAddr Try.fo_37_2 rfl) ?_; clear hf a; intro a hf
      refine o_v hf hh (y_ld Try.sc_34 rfl) ?_; clear hf a; intro a hf
      refine o_v hf hh (yv_len Try.se_34 rfl) ?_; clear hf a; intro a hf
      refine o_v hf hh (yv_bin rfl rfl rfl) ?_; clear hf a; intro a hf
      refine o_v hf hh (y_pf rfl rfl) ?_; clear hf a; intro a hf
      refine o_v hf hh (yv_move rfl) ?_; clear hf a; intro a hf
      refine guard_split hf (t := 34) rfl (fun hg8 => ?_) (fun hg8 => ?_)
      ·have hG8 := hg8; try simp only [gS] at hG8
       refine o_off hf ?_; clear hf a; intro a hf
       refine o_off hf ?_; clear hf a; intro a hf
       refine o_off hf ?_; clear hf a; intro a hf
       refine o_off hf ?_; clear hf a; intro a hf
       refine o_v hf hh (y_pt rfl rfl) ?_; clear hf a; intro a hf
       refine o_v hf hh (yv_move rfl) ?_; clear hf a; intro a hf
       refine o_off hf ?_; clear hf a; intro a hf
       refine o_off hf ?_; clear hf a; intro a hf
       refine o_off hf ?_; clear hf a; intro a hf
       refine o_off hf ?_; clear hf a; intro a hf
       refine o_v hf hh (y_pt rfl rfl) ?_; clear hf a; intro a hf
       refine o_v hf hh (yv_move rfl) ?_; clear hf a; intro a hf
       refine o_off hf ?_; clear hf a; intro a hf
       refine o_off hf ?_; clear hf a; intro a hf
       refine o_v hf hh (y_pt rfl rfl) ?_; clear hf a; intro a hf
       refine o_v hf hh (yv_assign rfl) ?_; clear hf a; intro a hf
       refine o_end ?_
       refine sy_ret ?_
       refine ret_r hf rfl rfl ?_
       refine ⟨congrArg Value.bool ?_, hh.ext⟩
       clear hf hh
       unfold grB
       rw [Bool.eq_iff_iff]
       simp only [Bool.or_eq_true, decide_eq_true_eq]
       first
         | omega
         | (simp; omega)
      ·have hG8 := hg8; try simp only [gS] at hG8
       refine o_v hf hh (yv_fieldAddr Try.fo_37_3 rfl) ?_; clear hf a; intro a hf
       refine o_v hf hh (y_ld Try.sc_35 rfl) ?_; clear hf a; intro a hf
       refine o_v hf hh (yv_len Try.se_35 rfl) ?_; clear hf a; intro a hf
       refine o_v hf hh (yv_bin rfl rfl rfl) ?_; clear hf a; intro a hf
       refine o_v hf hh (y_pf rfl rfl) ?_; clear hf a; intro a hf
       refine o_v hf hh (yv_move rfl) ?_; clear hf a; intro a hf
       refine guard_split hf (t := 40) rfl (fun hg10 => ?_) (fun hg10 => ?_)
       ·have hG10 := hg10; try simp only [gS] at hG10
        refine o_off hf ?_; clear hf a; intro a hf
        refine o_off hf ?_; clear hf a; intro a hf
        refine o_off hf ?_; clear hf a; intro a hf
        refine o_off hf ?_; clear hf a; intro a hf
        refine o_v hf hh (y_pt rfl rfl) ?_; clear hf a; intro a hf
        refine o_v hf hh (yv_move rfl) ?_; clear hf a; intro a hf
        refine o_off hf ?_; clear hf a; intro a hf
        refine o_off hf ?_; clear hf a; intro a hf
        refine o_v hf hh (y_pt rfl rfl) ?_; clear hf a; intro a hf
        refine o_v hf hh (yv_assign rfl) ?_; clear hf a; intro a hf
        refine o_end ?_
        refine sy_ret ?_
        refine ret_r hf rfl rfl ?_
        refine ⟨congrArg Value.bool ?_, hh.ext⟩
        clear hf hh
        unfold grB
        rw [Bool.eq_iff_iff]
        simp only [Bool.or_eq_true, decide_eq_true_eq]
        first
          | omega
          | (simp; omega)
       ·have hG10 := hg10; try simp only [gS] at hG10
        refine o_v hf hh (yv_fieldAddr Try.fo_37_4 rfl) ?_; clear hf a; intro a hf
        refine o_v hf hh (y_ld Try.sc_22 rfl) ?_; clear hf a; intro a hf
        refine o_v hf hh (yv_len Try.se_22 rfl) ?_; clear hf a; intro a hf
        refine o_v hf hh (yv_bin rfl rfl rfl) ?_; clear hf a; intro a hf
        refine o_v hf hh (y_pf rfl rfl) ?_; clear hf a; intro a hf
        refine o_v hf hh (yv_move rfl) ?_; clear hf a; intro a hf
        refine guard_split hf (t := 46) rfl (fun hg12 => ?_) (fun hg12 => ?_)
        ·have hG12 := hg12; try simp only [gS] at hG12
         refine o_off hf ?_; clear hf a; intro a hf
         refine o_off hf ?_; clear hf a; intro a hf
         refine o_v hf hh (y_pt rfl rfl) ?_; clear hf a; intro a hf
         refine o_v hf hh (yv_assign rfl) ?_; clear hf a; intro a hf
         refine o_end ?_
         refine sy_ret ?_
         refine ret_r hf rfl rfl ?_
         refine ⟨congrArg Value.bool ?_, hh.ext⟩
         clear hf hh
         unfold grB
         rw [Bool.eq_iff_iff]
         simp only [Bool.or_eq_true, decide_eq_true_eq]
         first
           | omega
           | (simp; omega)
        ·have hG12 := hg12; try simp only [gS] at hG12
         refine o_v hf hh (yv_move rfl) ?_; clear hf a; intro a hf
         refine o_v hf hh (yv_bin rfl rfl rfl) ?_; clear hf a; intro a hf
         refine o_v hf hh (y_pf rfl rfl) ?_; clear hf a; intro a hf
         refine o_v hf hh (yv_assign rfl) ?_; clear hf a; intro a hf
         refine o_end ?_
         refine sy_ret ?_
         refine ret_r hf rfl rfl ?_
         refine ⟨congrArg Value.bool ?_, hh.ext⟩
         clear hf hh
         unfold grB
         rw [Bool.eq_iff_iff]
         simp only [Bool.or_eq_true, decide_eq_true_eq]
         first
           | omega
           | (simp; omega)
theorem p24 (d : RoyD) (p : Pl) (g k : Int) (u : World) (hR : RoyAt u d p) : Calls Try.prog 24 #[.agg (royC d p), .int .i64 g, .int .i64 k] u (Ret fun v w' => v = .tuple #[.int .i64 ((claV d g k).1 : Nat), .int .i64 ((claV d g k).2 : Nat), .int .i64 (claE d g k)] ∧ Ext [] u w') := by
  refine calls_of Try.func24 rfl rfl (fun a hf => ?_)
  have hh := Hp.init u []
  refine sy_sq ?_
  refine o_box hf hh ?_; clear hf hh a; intro B3 a w hf hh
  refine o_v hf hh (yv_assign rfl) ?_; clear hf a; intro a hf
  refine o_v hf hh (yv_assign rfl) ?_; clear hf a; intro a hf
  refine o_v hf hh (yv_assign rfl) ?_; clear hf a; intro a hf
  refine o_end ?_
  refine sy_seq ?_
  refine sy_tree1 (.q 0 0 (.q 0 1 (.p 2 (.e1 3 (.p 4 (.q 0 5 (.p 6 (.e1 7 (.p 8 (.e1 9 (.p 10 (.fin)))))))))))) [] Try.follows (by kernel_rfl) hh (fun w hh => ?_)
  refine mc_q rfl rfl hh hf (y_lds Try.ag_37 rfl) (.inl rfl) rfl rfl ?_; clear hf a; intro a hf
  refine mc_q rfl rfl hh hf (y_lds Try.ag_37 rfl) (.inl rfl) rfl rfl ?_; clear hf a; intro a hf
  refine mc_p rfl   hf (yv_move rfl) (.inl rfl) rfl rfl ?_; clear hf a; intro a hf
  refine mc_e rfl fun Q1 => ?_
  refine o_call hf Try.en_67 rfl rfl rfl (p67 d p g _ hR.n1) ?_; clear hf a; intro v a w hR hf
  obtain ⟨rfl, hx⟩ := hR; replace hh := hh.more hx; clear hx
  refine ops_end ?_
  refine then_n ⟨⟨fun _ _ => hh, trivial⟩, ?_⟩
  refine mc_p rfl   hf (yv_move rfl) (.inl rfl) rfl rfl ?_; clear hf a; intro a hf
  refine guard_any hf (t := 16) rfl (fun hg2 => ?_) (fun hg2 => ?_)
  ·have hG2 := hg2; try simp only [gS] at hG2
   refine mc_q rfl rfl hh hf (y_lds Try.ag_37 rfl) (gon rfl rfl rfl (by first | assumption | rfl | (simp; done) | (simp; omega))) rfl rfl ?_; clear hf a; intro a hf
   refine mc_p rfl   hf (yv_move rfl) (gon rfl rfl rfl (by first | assumption | rfl | (simp; done) | (simp; omega))) rfl rfl ?_; clear hf a; intro a hf
   refine mc_e rfl fun Q1 => ?_
   refine o_call hf Try.en_43 rfl rfl rfl (p43 d p k _ hR.n2) ?_; clear hf a; intro v a w hR hf
   obtain ⟨rfl, hx⟩ := hR; replace hh := hh.more hx; clear hx
   refine ops_end ?_
   refine then_n ⟨⟨fun _ _ => hh, trivial⟩, ?_⟩
   refine mc_p rfl   hf (y_pt rfl rfl) (.inl rfl) rfl rfl ?_; clear hf a; intro a hf
   refine mc_e rfl fun Q1 => ?_
   first
     | (refine o_call hf Try.en_66 rfl rfl rfl (p66 d p _ _ (hR.ext hh.ext)) ?_; clear hf a; intro v a w hR2 hf
        rw [show openE d (isKd d k) = claE d g k by unfold claE; simp_all] at hR2)
     | (refine o_call hf Try.en_66 rfl rfl rfl (p66 d p _ _ (hR.ext hh.ext)) ?_; clear hf a; intro v a w hR2 hf
        rw [show openE d false = claE d g k by unfold claE; simp_all] at hR2)
   obtain ⟨rfl, hx⟩ := hR2; replace hh := hh.more hx; clear hx
   refine ops_end ?_
   refine then_n ⟨⟨fun _ _ => hh, trivial⟩, ?_⟩
   refine mc_p rfl   hf (yv_assign rfl) (.inl rfl) rfl rfl ?_; clear hf a; intro a hf
   refine mc_end ?_
   refine then_n ?_
   refine sy_seq ?_
   refine sy_sq ?_
   refine o_v hf hh (yv_move rfl) ?_; clear hf a; intro a hf
   refine o_v hf hh (yv_bin rfl rfl rfl) ?_; clear hf a; intro a hf
   refine o_end ?_
   refine sy_cond hf rfl (fun hg6 => ?_) (fun hg6 => ?_)
   ·have hG6 := hg6; try simp only [gS] at hG6
    refine sy_sq ?_
    refine o_v hf hh (yv_move rfl) ?_; clear hf a; intro a hf
    refine o_v hf hh (yv_assign rfl) ?_; clear hf a; intro a hf
    refine o_v hf hh (yv_assign rfl) ?_; clear hf a; intro a hf
    refine o_v hf hh (yv_assign rfl) ?_; clear hf a; intro a hf
    refine o_end ?_
    refine sy_ret ?_
    refine then_r ?_
    refine ret_r hf rfl rfl ?_
    first
      | (have e1 : claV d g k = (0, 0) := by unfold claV; rw [if_neg (by assumption)]
         exact ⟨by rw [e1]; rfl, hh.ext⟩)
      | exact ⟨by rw [e1, he]; rfl, hh.ext⟩
      | omega
   ·have hG6 := hg6; try simp only [gS] at hG6
    refine sy_skip ?_
    refine then_n ?_
    refine sy_seq ?_
    have he : claE d g k = 0 := by assumption
    obtain ⟨hok, hask⟩ := openE_zero.1 he
    have hO := royB_iff.1 hok
    rw [Bool.and_eq_true] at hask
    obtain ⟨hg0, hg1⟩ := inI_bd hask.1
    obtain ⟨q, rfl⟩ : ∃ q : Nat, g = q := ⟨g.toNat, by omega⟩
    have e1 : claV d q k = (surN d k q, clm d k q) := by unfold claV; rw [if_pos he]; rfl
    refine sy_ops ?_
    refine o_v hf hh (y_lds Try.ag_37 rfl) ?_; clear hf a; intro a hf
    refine o_v hf hh (yv_move rfl) ?_; clear hf a; intro a hf
    refine o_v hf hh (yv_move rfl) ?_; clear hf a; intro a hf
    refine o_call hf Try.en_68 rfl rfl rfl (p68 d p q k _ (hR.ext hh.ext) hO (by omega)) ?_; clear hf a; intro v a w hR hf
    obtain ⟨rfl, hx⟩ := hR; replace hh := hh.more hx; clear hx
    refine o_v hf hh (yv_move rfl) ?_; clear hf a; intro a hf
    refine o_v hf hh (yv_extract rfl rfl) ?_; clear hf a; intro a hf
    refine o_v hf hh (yv_extract rfl rfl) ?_; clear hf a; intro a hf
    refine o_v hf hh (yv_assign rfl) ?_; clear hf a; intro a hf
    refine o_v hf hh (yv_assign rfl) ?_; clear hf a; intro a hf
    refine o_end ?_
    refine sy_sq ?_
    refine o_v hf hh (yv_move rfl) ?_; clear hf a; intro a hf
    refine o_v hf hh (yv_move rfl) ?_; clear hf a; intro a hf
    refine o_v hf hh (yv_assign rfl) ?_; clear hf a; intro a hf
    refine o_v hf hh (yv_assign rfl) ?_; clear hf a; intro a hf
    refine o_v hf hh (yv_assign rfl) ?_; clear hf a; intro a hf
    refine o_end ?_
    refine sy_ret ?_
    refine ret_r hf rfl rfl ?_
    first
      | (have e1 : claV d g k = (0, 0) := by unfold claV; rw [if_neg (by assumption)]
         exact ⟨by rw [e1]; rfl, hh.ext⟩)
      | exact ⟨by rw [e1, he]; rfl, hh.ext⟩
      | omega
  ·have hG2 := hg2; try simp only [gS] at hG2
   refine mc_offq rfl rfl hh hf (goff rfl rfl rfl (by first | assumption | rfl | (simp; done) | (simp; omega))) rfl rfl ?_; clear hf a; intro a hf
   refine mc_off rfl hf (goff rfl rfl rfl (by first | assumption | rfl | (simp; done) | (simp; omega))) rfl rfl ?_; clear hf a; intro a hf
   refine mc_e rfl fun Q1 => ?_
   refine o_off hf ?_; clear hf a; intro a hf
   refine ops_end ?_
   refine then_n ⟨⟨fun _ _ => hh, trivial⟩, ?_⟩
   refine mc_p rfl   hf (y_pf rfl rfl) (.inl rfl) rfl rfl ?_; clear hf a; intro a hf
   refine mc_e rfl fun Q1 => ?_
   first
     | (refine o_call hf Try.en_66 rfl rfl rfl (p66 d p _ _ (hR.ext hh.ext)) ?_; clear hf a; intro v a w hR2 hf
        rw [show openE d (isKd d k) = claE d g k by unfold claE; simp_all] at hR2)
     | (refine o_call hf Try.en_66 rfl rfl rfl (p66 d p _ _ (hR.ext hh.ext)) ?_; clear hf a; intro v a w hR2 hf
        rw [show openE d false = claE d g k by unfold claE; simp_all] at hR2)
   obtain ⟨rfl, hx⟩ := hR2; replace hh := hh.more hx; clear hx
   refine ops_end ?_
   refine then_n ⟨⟨fun _ _ => hh, trivial⟩, ?_⟩
   refine mc_p rfl   hf (yv_assign rfl) (.inl rfl) rfl rfl ?_; clear hf a; intro a hf
   refine mc_end ?_
   refine then_n ?_
   refine sy_seq ?_
   refine sy_sq ?_
   refine o_v hf hh (yv_move rfl) ?_; clear hf a; intro a hf
   refine o_v hf hh (yv_bin rfl rfl rfl) ?_; clear hf a; intro a hf
   refine o_end ?_
   refine sy_cond hf rfl (fun hg12 => ?_) (fun hg12 => ?_)
   ·have hG12 := hg12; try simp only [gS] at hG12
    refine sy_sq ?_
    refine o_v hf hh (yv_move rfl) ?_; clear hf a; intro a hf
    refine o_v hf hh (yv_assign rfl) ?_; clear hf a; intro a hf
    refine o_v hf hh (yv_assign rfl) ?_; clear hf a; intro a hf
    refine o_v hf hh (yv_assign rfl) ?_; clear hf a; intro a hf
    refine o_end ?_
    refine sy_ret ?_
    refine then_r ?_
    refine ret_r hf rfl rfl ?_
    first
      | (have e1 : claV d g k = (0, 0) := by unfold claV; rw [if_neg (by assumption)]
         exact ⟨by rw [e1]; rfl, hh.ext⟩)
      | exact ⟨by rw [e1, he]; rfl, hh.ext⟩
      | omega
   ·have hG12 := hg12; try simp only [gS] at hG12
    refine sy_skip ?_
    refine then_n ?_
    refine sy_seq ?_
    have he : claE d g k = 0 := by assumption
    obtain ⟨hok, hask⟩ := openE_zero.1 he
    have hO := royB_iff.1 hok
    rw [Bool.and_eq_true] at hask
    obtain ⟨hg0, hg1⟩ := inI_bd hask.1
    obtain ⟨q, rfl⟩ : ∃ q : Nat, g = q := ⟨g.toNat, by omega⟩
    have e1 : claV d q k = (surN d k q, clm d k q) := by unfold claV; rw [if_pos he]; rfl
    refine sy_ops ?_
    refine o_v hf hh (y_lds Try.ag_37 rfl) ?_; clear hf a; intro a hf
    refine o_v hf hh (yv_move rfl) ?_; clear hf a; intro a hf
    refine o_v hf hh (yv_move rfl) ?_; clear hf a; intro a hf
    refine o_call hf Try.en_68 rfl rfl rfl (p68 d p q k _ (hR.ext hh.ext) hO (by omega)) ?_; clear hf a; intro v a w hR hf
    obtain ⟨rfl, hx⟩ := hR; replace hh := hh.more hx; clear hx
    refine o_v hf hh (yv_move rfl) ?_; clear hf a; intro a hf
    refine o_v hf hh (yv_extract rfl rfl) ?_; clear hf a; intro a hf
    refine o_v hf hh (yv_extract rfl rfl) ?_; clear hf a; intro a hf
    refine o_v hf hh (yv_assign rfl) ?_; clear hf a; intro a hf
    refine o_v hf hh (yv_assign rfl) ?_; clear hf a; intro a hf
    refine o_end ?_
    refine sy_sq ?_
    refine o_v hf hh (yv_move rfl) ?_; clear hf a; intro a hf
    refine o_v hf hh (yv_move rfl) ?_; clear hf a; intro a hf
    refine o_v hf hh (yv_assign rfl) ?_; clear hf a; intro a hf
    refine o_v hf hh (yv_assign rfl) ?_; clear hf a; intro a hf
    refine o_v hf hh (yv_assign rfl) ?_; clear hf a; intro a hf
    refine o_end ?_
    refine sy_ret ?_
    refine ret_r hf rfl rfl ?_
    first
      | (have e1 : claV d g k = (0, 0) := by unfold claV; rw [if_neg (by assumption)]
         exact ⟨by rw [e1]; rfl, hh.ext⟩)
      | exact ⟨by rw [e1, he]; rfl, hh.ext⟩
      | omega
set_option maxRecDepth 100000 in
theorem p26 (d : RoyD) (p : Pl) (g : Int) (u : World) (hRR : RoyAt u d p) : Calls Try.prog 26 #[.agg (royC d p), .int .i64 g] u (Ret fun v w' => v = .tuple #[.agg #[.int .i64 (oweV d g).1, .int .i64 (oweV d g).2], .int .i64 (oweE d g)] ∧ Ext [] u w') := by
  refine calls_of Try.func26 rfl rfl (fun a hf => ?_)
  have hh := Hp.init u []
  obtain ⟨st, sp, ss, sr, sd, ct, cp, cs, cr, cd⟩ := p
  have hr2 := hRR.n2
  refine sy_sq ?_
  refine o_box hf hh ?_; clear hf hh a; intro B2 a w hf hh
  refine o_alloc hf hh Try.ze_43 ?_; clear hf hh a; intro B4 a w hf hh
  refine o_v hf hh (yv_assign rfl) ?_; clear hf a; intro a hf
  refine o_end ?_
  refine sy_seq ?_
  refine sy_tree1 (.q 0 0 (.q 0 1 (.p 2 (.e1 3 (.e1 4 (.p 5 (.fin))))))) [] Try.follows (by kernel_rfl) hh (fun w hh => ?_)
  refine mc_q rfl rfl hh hf (y_lds Try.ag_37 rfl) (.inl rfl) rfl rfl ?_; clear hf a; intro a hf
  refine mc_q rfl rfl hh hf (y_lds Try.ag_37 rfl) (.inl rfl) rfl rfl ?_; clear hf a; intro a hf
  refine mc_p rfl   hf (yv_move rfl) (.inl rfl) rfl rfl ?_; clear hf a; intro a hf
  refine mc_e rfl fun Q1 => ?_
  refine o_call hf Try.en_67 rfl rfl rfl (p67 d _ g _ hRR.n1) ?_; clear hf a; intro v a w hR hf
  obtain ⟨rfl, hx⟩ := hR; replace hh := hh.more hx; clear hx
  refine ops_end ?_
  refine then_n ⟨⟨fun _ _ => hh, trivial⟩, ?_⟩
  refine mc_e rfl fun Q1 => ?_
  refine o_call hf Try.en_66 rfl rfl rfl (p66 d _ (isAg d g) _ (hRR.ext hh.ext)) ?_; clear hf a; intro v a w hR hf
  obtain ⟨rfl, hx⟩ := hR; replace hh := hh.more hx; clear hx
  refine ops_end ?_
  refine then_n ⟨⟨fun _ _ => hh, trivial⟩, ?_⟩
  refine mc_p rfl   hf (yv_assign rfl) (.inl rfl) rfl rfl ?_; clear hf a; intro a hf
  refine mc_end ?_
  refine then_n ?_
  refine sy_seq ?_
  refine sy_sq ?_
  refine o_v hf hh (yv_move rfl) ?_; clear hf a; intro a hf
  refine o_v hf hh (yv_bin rfl rfl rfl) ?_; clear hf a; intro a hf
  refine o_end ?_
  refine sy_cond hf rfl (fun hg4 => ?_) (fun hg4 => ?_)
  ·have hG4 := hg4; try simp only [gS] at hG4
   refine sy_sq ?_
   refine o_v hf hh (yv_buildS Try.bs_43 rfl rfl) ?_; clear hf a; intro a hf
   refine o_v hf hh (yv_move rfl) ?_; clear hf a; intro a hf
   refine o_store hf hh Try.sz_43 fun w hh => ?_
   refine o_v hf hh (yv_assign rfl) ?_; clear hf a; intro a hf
   refine o_end ?_
   refine sy_ret ?_
   refine then_r ?_
   refine ret_c (vs := [.agg #[.int .i64 0, .int .i64 0], .int .i64 (openE d (isAg d g))]) hf ?_ ?_
   · exact ⟨⟨B4, 0, _, _, _, rfl, hh.at (i := 0) rfl, .inr ⟨2, _, Try.ag_43, rfl, rfl⟩⟩, rfl, True.intro⟩
   · have ev : oweV d g = (0, 0) := by unfold oweV oweE; rw [if_neg (by assumption)]
     exact ⟨by rw [ev]; rfl, hh.ext⟩
  ·have hG4 := hg4; try simp only [gS] at hG4
   refine sy_skip ?_
   refine then_n ?_
   refine sy_seq ?_
   have he : openE d (isAg d g) = 0 := by assumption
   obtain ⟨hok, hask⟩ := openE_zero.1 he
   have hO := royB_iff.1 hok
   obtain ⟨hg0, hg1⟩ := inI_bd hask
   have hnt := hO.nt; have hnp := hO.np; have hpd := hO.npd
   obtain ⟨q, rfl⟩ : ∃ q : Nat, g = q := ⟨g.toNat, by omega⟩
   obtain ⟨tm, htm⟩ := ex_of (l := d.terms) (i := q) (by omega)
   obtain ⟨pd, hpdq⟩ := ex_of (l := d.paid) (i := q) (by omega)
   have hto := hO.t tm (List.mem_of_getElem? htm)
   have hpb := hO.pd pd (List.mem_of_getElem? hpdq)
   obtain ⟨blk, off, cc, T, fr, e, hb, hc⟩ := hRR.pd q pd hpdq; dsimp only at e; subst e
   obtain ⟨blk3, off3, cc3, T3, fr3, e3, hb3, hc3⟩ := hRR.tm q tm htm; dsimp only at e3; subst e3
   have e9 : lowL d q 0 = [-pd] := by unfold lowL; rw [getD_at hpdq]; rfl
   have e8 : higL d q 0 = [-pd] := by unfold higL; rw [getD_at hpdq]; rfl
   have ev : oweV d q = (sumI (lowL d q d.prices.length), sumI (higL d q d.prices.length)) := by unfold oweV; rw [if_pos (show oweE d q = 0 from he)]; rfl
   have hs12 : ∀ k, pc (surN d k q) ≤ 12 := fun k => pc_12 (sur_lt hO k q)
   have hc12 : ∀ k, pc (clm d k q) ≤ 12 := fun k => pc_12 (clm_lt12 hO k q)
   refine sy_tree1 (.p 0 (.q 0 1 (.p 2 (.p 3 (.q 0 4 (.p 5 (.p 6 (.q 0 7 (.p 8 (.p 9 (.q 0 10 (.p 11 (.p 12 (.e1 13 (.e1 14 (.fin)))))))))))))))) [14] Try.follows (by kernel_rfl) hh (fun w hh => ?_)
   refine mc_p rfl   hf (yv_fieldAddr Try.fo_37_4 rfl) (.inl rfl) rfl rfl ?_; clear hf a; intro a hf
   refine mc_q rfl rfl hh hf (y_ld Try.sc_22 rfl) (.inl rfl) rfl rfl ?_; clear hf a; intro a hf
   refine mc_p rfl   hf (yv_move rfl) (.inl rfl) rfl rfl ?_; clear hf a; intro a hf
   refine mc_p rfl   hf (y_ix Try.se_22 rfl rfl) (.inl rfl) rfl rfl ?_; clear hf a; intro a hf
   refine mc_q rfl rfl hh hf (y_ld Try.sc_3 rfl) (.inl rfl) rfl rfl ?_; clear hf a; intro a hf
   refine mc_p rfl   hf (yv_neg rfl (by omega) (by omega)) (.inl rfl) rfl rfl ?_; clear hf a; intro a hf
   refine mc_p rfl   hf (yv_fieldAddr Try.fo_37_4 rfl) (.inl rfl) rfl rfl ?_; clear hf a; intro a hf
   refine mc_q rfl rfl hh hf (y_ld Try.sc_22 rfl) (.inl rfl) rfl rfl ?_; clear hf a; intro a hf
   refine mc_p rfl   hf (yv_move rfl) (.inl rfl) rfl rfl ?_; clear hf a; intro a hf
   refine mc_p rfl   hf (y_ix Try.se_22 rfl rfl) (.inl rfl) rfl rfl ?_; clear hf a; intro a hf
   refine mc_q rfl rfl hh hf (y_ld Try.sc_3 rfl) (.inl rfl) rfl rfl ?_; clear hf a; intro a hf
   refine mc_p rfl   hf (yv_neg rfl (by omega) (by omega)) (.inl rfl) rfl rfl ?_; clear hf a; intro a hf
   refine mc_p rfl   hf (yv_buildS Try.bs_43 rfl rfl) (.inl rfl) rfl rfl ?_; clear hf a; intro a hf
   refine mc_e rfl fun Q1 => ?_
   refine o_alloc hf hh Try.ze_43 ?_; clear hf hh a; intro B7 a w hf hh
   refine ops_end ?_
   refine then_n ⟨⟨fun _ _ => (hh.less (.cons _ (List.Sublist.refl _))), trivial⟩, ?_⟩
   refine mc_e rfl fun Q1 => ?_
   refine o_store hf hh Try.sz_43 fun w hh => ?_
   refine ops_end ?_
   refine then_n ⟨⟨fun h => Bool.noConfusion (show true = false from h), trivial⟩, ?_⟩
   refine mc_end ?_
   refine then_n ?_
   refine sy_seq ?_
   refine sy_sq ?_
   refine o_v hf hh (yv_assign rfl) ?_; clear hf a; intro a hf
   refine o_end ?_
   refine sy_block ?_
   refine sy_loopH (σ := Nat) [8, 9, 10, 33, 34, 35, 36, 37, 38, 39, 40, 41, 42, 43, 44, 45, 46, 47, 48, 49, 50, 51, 52, 53, 54, 55, 56, 57, 58, 59, 60, 61, 62, 63, 64, 65, 66, 67, 68, 69, 70, 71, 72, 73, 74, 75, 76, 77, 78, 79, 80] (fun i => [(8, .int .i64 (i : Nat))]) (fun i => fun w' => i ≤ d.prices.length ∧ Hp u [] [(B7, .cells #[.int .i64 (sumI (lowL d q i)), .int .i64 (sumI (higL d q i))] 43), (B4, .cells #[.int .i64 0, .int .i64 0] 43), (B2, .cells (royC d ⟨some ⟨blk3, off3, none⟩, sp, ss, sr, some ⟨blk, off, none⟩, ct, cp, cs, cr, cd⟩) 37)] w') (fun i => d.prices.length - i) (0) hf ?_ ?_ ?_
   · repeat' (first | exact True.intro | refine And.intro rfl ?_)
   · refine ⟨Nat.zero_le _, ?_⟩
     rw [e9, e8]
     have e7 : sumI [-pd] = -pd := by rw [sumI_cons, sumI_nil]; omega
     rw [e7]; exact hh
   ·rintro i a w ⟨hi, hh⟩ hf
    refine sy_seq ?_
    refine sy_sq ?_
    refine o_v hf hh (yv_move rfl) ?_; clear hf a; intro a hf
    refine o_v hf hh (yv_fieldAddr Try.fo_37_1 rfl) ?_; clear hf a; intro a hf
    refine o_v hf hh (y_ld Try.sc_22 rfl) ?_; clear hf a; intro a hf
    refine o_v hf hh (yv_len Try.se_22 rfl) ?_; clear hf a; intro a hf
    refine o_v hf hh (yv_bin rfl rfl rfl) ?_; clear hf a; intro a hf
    refine o_end ?_
    refine sy_cond hf rfl (fun hg6 => ?_) (fun hg6 => ?_)
    ·have hG6 := hg6; try simp only [gS] at hG6
     refine sy_skip ?_
     refine then_n ?_
     refine sy_seq ?_
     refine sy_block ?_
     refine sy_seq ?_
     obtain ⟨x, hx⟩ := ex_of (l := d.prices) (i := i) (by omega)
     obtain ⟨blk2, off2, cc2, T2, fr2, e2, hb2, hc2⟩ := hRR.pr i x hx; dsimp only at e2; subst e2
     have hxb := hO.p x (List.mem_of_getElem? hx)
     have hl1 := low_sum (g := q) hx
     have hl2 := hig_sum (g := q) hx
     rw [term_at htm] at hl1 hl2
     have hq1 : -5497558138880 ≤ sumI (lowL d q i) ∧ sumI (lowL d q i) ≤ 5497558138880 := owe_bd hO (by omega) (fun k => pc (surN d k q)) (fun k => hs12 k) (by omega)
     have hq2 : -5497558138880 ≤ sumI (higL d q i) ∧ sumI (higL d q i) ≤ 5497558138880 := owe_bd hO (by omega) (fun k => pc (clm d k q)) (fun k => hc12 k) (by omega)
     have hw1 := com_bd hto hxb.1 hxb.2 (hs12 i)
     have hw2 := com_bd hto hxb.1 hxb.2 (hc12 i)
     have hz1 := hs12 i
     have hz2 := hc12 i
     refine sy_ops ?_
     refine o_v hf hh (y_lds Try.ag_37 rfl) ?_; clear hf a; intro a hf
     refine o_v hf hh (yv_move rfl) ?_; clear hf a; intro a hf
     refine o_v hf hh (yv_move rfl) ?_; clear hf a; intro a hf
     refine o_call hf Try.en_68 rfl rfl rfl (p68 d _ q (i : Nat) _ (hRR.ext hh.ext) hO (by omega)) ?_; clear hf a; intro v a w hR hf
     obtain ⟨rfl, hx⟩ := hR; replace hh := hh.more hx; clear hx
     refine o_v hf hh (yv_move rfl) ?_; clear hf a; intro a hf
     refine o_v hf hh (yv_extract rfl rfl) ?_; clear hf a; intro a hf
     refine o_v hf hh (yv_extract rfl rfl) ?_; clear hf a; intro a hf
     refine o_v hf hh (yv_assign rfl) ?_; clear hf a; intro a hf
     refine o_v hf hh (yv_assign rfl) ?_; clear hf a; intro a hf
     refine o_end ?_
     refine sy_seq ?_
     refine sy_tree1 (.p 0 (.q 0 1 (.p 2 (.q 0 3 (.p 4 (.p 5 (.q 0 6 (.p 7 (.q 0 8 (.p 9 (.p 10 (.q 0 11 (.p 12 (.e1 13 (.e1 14 (.p 15 (.p 16 (.e1 17 (.fin))))))))))))))))))) [17] Try.follows (by kernel_rfl) hh (fun w hh => ?_)
     refine mc_p rfl   hf (yv_fieldAddr Try.fo_43_0 rfl) (.inl rfl) rfl rfl ?_; clear hf a; intro a hf
     refine mc_q rfl rfl hh hf (y_ld Try.sc_3 rfl) (.inl rfl) rfl rfl ?_; clear hf a; intro a hf
     refine mc_p rfl   hf (yv_fieldAddr Try.fo_37_0 rfl) (.inl rfl) rfl rfl ?_; clear hf a; intro a hf
     refine mc_q rfl rfl hh hf (y_ld Try.sc_33 rfl) (.inl rfl) rfl rfl ?_; clear hf a; intro a hf
     refine mc_p rfl   hf (yv_move rfl) (.inl rfl) rfl rfl ?_; clear hf a; intro a hf
     refine mc_p rfl   hf (y_ix Try.se_33 rfl rfl) (.inl rfl) rfl rfl ?_; clear hf a; intro a hf
     refine mc_q rfl rfl hh hf (y_lds Try.ag_24 rfl) (.inl rfl) rfl rfl ?_; clear hf a; intro a hf
     refine mc_p rfl   hf (yv_fieldAddr Try.fo_37_1 rfl) (.inl rfl) rfl rfl ?_; clear hf a; intro a hf
     refine mc_q rfl rfl hh hf (y_ld Try.sc_22 rfl) (.inl rfl) rfl rfl ?_; clear hf a; intro a hf
     refine mc_p rfl   hf (yv_move rfl) (.inl rfl) rfl rfl ?_; clear hf a; intro a hf
     refine mc_p rfl   hf (y_ix Try.se_22 rfl rfl) (.inl rfl) rfl rfl ?_; clear hf a; intro a hf
     refine mc_q rfl rfl hh hf (y_ld Try.sc_3 rfl) (.inl rfl) rfl rfl ?_; clear hf a; intro a hf
     refine mc_p rfl   hf (yv_move rfl) (.inl rfl) rfl rfl ?_; clear hf a; intro a hf
     refine mc_e rfl fun Q1 => ?_
     refine o_call hf Try.en_73 rfl rfl rfl (p73 (surN d i q) (by have := sur_lt hO i q; omega) _) ?_; clear hf a; intro v a w hR hf
     obtain ⟨rfl, hx⟩ := hR; replace hh := hh.more hx; clear hx
     refine ops_end ?_
     refine then_n ⟨⟨fun _ _ => hh, trivial⟩, ?_⟩
     refine mc_e rfl fun Q1 => ?_
     refine o_call hf Try.en_54 rfl rfl rfl (p54 tm hto x (pc (surN d i q) : Nat) hxb.1 hxb.2 (by omega) (by omega) _) ?_; clear hf a; intro v a w hR hf
     obtain ⟨rfl, hx⟩ := hR; replace hh := hh.more hx; clear hx
     refine ops_end ?_
     refine then_n ⟨⟨fun _ _ => hh, trivial⟩, ?_⟩
     refine mc_p rfl   hf (yv_cast (yv_add rfl rfl (by omega) (by omega)) (intv (b := sumI (lowL d q (i + 1))) hl1.symm)) (.inl rfl) rfl rfl ?_; clear hf a; intro a hf
     refine mc_p rfl   hf (yv_fieldAddr Try.fo_43_0 rfl) (.inl rfl) rfl rfl ?_; clear hf a; intro a hf
     refine mc_e rfl fun Q1 => ?_
     refine o_store hf hh Try.sz_3 fun w hh => ?_
     refine ops_end ?_
     refine then_n ⟨⟨fun h => Bool.noConfusion (show true = false from h), trivial⟩, ?_⟩
     refine mc_end ?_
     refine then_n ?_
     refine sy_tree1 (.p 0 (.q 0 1 (.p 2 (.q 0 3 (.p 4 (.p 5 (.q 0 6 (.p 7 (.q 0 8 (.p 9 (.p 10 (.q 0 11 (.p 12 (.e1 13 (.e1 14 (.p 15 (.p 16 (.e1 17 (.fin))))))))))))))))))) [17] Try.follows (by kernel_rfl) hh (fun w hh => ?_)
     refine mc_p rfl   hf (yv_fieldAddr Try.fo_43_1 rfl) (.inl rfl) rfl rfl ?_; clear hf a; intro a hf
     refine mc_q rfl rfl hh hf (y_ld Try.sc_3 rfl) (.inl rfl) rfl rfl ?_; clear hf a; intro a hf
     refine mc_p rfl   hf (yv_fieldAddr Try.fo_37_0 rfl) (.inl rfl) rfl rfl ?_; clear hf a; intro a hf
     refine mc_q rfl rfl hh hf (y_ld Try.sc_33 rfl) (.inl rfl) rfl rfl ?_; clear hf a; intro a hf
     refine mc_p rfl   hf (yv_move rfl) (.inl rfl) rfl rfl ?_; clear hf a; intro a hf
     refine mc_p rfl   hf (y_ix Try.se_33 rfl rfl) (.inl rfl) rfl rfl ?_; clear hf a; intro a hf
     refine mc_q rfl rfl hh hf (y_lds Try.ag_24 rfl) (.inl rfl) rfl rfl ?_; clear hf a; intro a hf
     refine mc_p rfl   hf (yv_fieldAddr Try.fo_37_1 rfl) (.inl rfl) rfl rfl ?_; clear hf a; intro a hf
     refine mc_q rfl rfl hh hf (y_ld Try.sc_22 rfl) (.inl rfl) rfl rfl ?_; clear hf a; intro a hf
     refine mc_p rfl   hf (yv_move rfl) (.inl rfl) rfl rfl ?_; clear hf a; intro a hf
     refine mc_p rfl   hf (y_ix Try.se_22 rfl rfl) (.inl rfl) rfl rfl ?_; clear hf a; intro a hf
     refine mc_q rfl rfl hh hf (y_ld Try.sc_3 rfl) (.inl rfl) rfl rfl ?_; clear hf a; intro a hf
     refine mc_p rfl   hf (yv_move rfl) (.inl rfl) rfl rfl ?_; clear hf a; intro a hf
     refine mc_e rfl fun Q1 => ?_
     refine o_call hf Try.en_73 rfl rfl rfl (p73 (clm d i q) (by have := clm_lt12 hO i q; omega) _) ?_; clear hf a; intro v a w hR hf
     obtain ⟨rfl, hx⟩ := hR; replace hh := hh.more hx; clear hx
     refine ops_end ?_
     refine then_n ⟨⟨fun _ _ => hh, trivial⟩, ?_⟩
     refine mc_e rfl fun Q1 => ?_
     refine o_call hf Try.en_54 rfl rfl rfl (p54 tm hto x (pc (clm d i q) : Nat) hxb.1 hxb.2 (by omega) (by omega) _) ?_; clear hf a; intro v a w hR hf
     obtain ⟨rfl, hx⟩ := hR; replace hh := hh.more hx; clear hx
     refine ops_end ?_
     refine then_n ⟨⟨fun _ _ => hh, trivial⟩, ?_⟩
     refine mc_p rfl   hf (yv_cast (yv_add rfl rfl (by omega) (by omega)) (intv (b := sumI (higL d q (i + 1))) hl2.symm)) (.inl rfl) rfl rfl ?_; clear hf a; intro a hf
     refine mc_p rfl   hf (yv_fieldAddr Try.fo_43_1 rfl) (.inl rfl) rfl rfl ?_; clear hf a; intro a hf
     refine mc_e rfl fun Q1 => ?_
     refine o_store hf hh Try.sz_3 fun w hh => ?_
     refine ops_end ?_
     refine then_n ⟨⟨fun h => Bool.noConfusion (show true = false from h), trivial⟩, ?_⟩
     refine mc_end ?_
     refine blk_n ?_
     refine then_n ?_
     refine sy_ops ?_
     refine o_v hf hh (yv_move rfl) ?_; clear hf a; intro a hf
     refine o_v hf hh (y_add rfl rfl) ?_; clear hf a; intro a hf
     refine o_v hf hh (yv_assign rfl) ?_; clear hf a; intro a hf
     refine ops_end ?_
     refine then_n ?_
     exact ⟨i + 1, ⟨⟨by omega, hh⟩, (hf.head (by repeat' (first | exact True.intro | refine And.intro rfl ?_)) (Keep.cons rfl (Keep.cons rfl (Keep.cons rfl (Keep.cons rfl (Keep.cons rfl (Keep.cons rfl (Keep.cons rfl (Keep.cons rfl (Keep.cons rfl (Keep.cons rfl (Keep.cons rfl (Keep.cons rfl (Keep.cons rfl (Keep.cons rfl (Keep.cons rfl (Keep.cons rfl (Keep.cons rfl (Keep.cons rfl (Keep.cons rfl (Keep.cons rfl (Keep.cons rfl (Keep.cons rfl (Keep.cons rfl (Keep.cons rfl (Keep.cons rfl (Keep.cons rfl (Keep.cons rfl (Keep.cons rfl (Keep.cons rfl (Keep.cons rfl (Keep.cons rfl (Keep.cons rfl (Keep.cons rfl (Keep.cons rfl (Keep.cons rfl (Keep.cons rfl (Keep.cons rfl (Keep.cons rfl (Keep.cons rfl (Keep.cons rfl (Keep.cons rfl (Keep.cons rfl (Keep.cons rfl (Keep.cons rfl (Keep.cons rfl (Keep.cons rfl (Keep.cons rfl (Keep.cons rfl (Keep.cons rfl (Keep.cons rfl (Keep.cons rfl (Keep.app rfl (Keep.rm rfl Keep.base))))))))))))))))))))))))))))))))))))))))))))))))))))))⟩, by omega⟩
    ·have hG6 := hg6; try simp only [gS] at hG6
     refine sy_exit ?_
     refine then_e ?_
     refine then_e ?_
     refine blk_e ?_
     refine then_n ?_
     refine sy_seq ?_
     obtain rfl : i = d.prices.length := by omega
     refine sy_ops ?_
     refine o_v hf hh (y_lds Try.ag_43 rfl) ?_; clear hf a; intro a hf
     refine o_store hf hh Try.sz_43 fun w hh => ?_
     refine o_v hf hh (yv_assign rfl) ?_; clear hf a; intro a hf
     refine o_end ?_
     refine sy_ret ?_
     refine ret_c (vs := [.agg #[.int .i64 (sumI (lowL d q d.prices.length)), .int .i64 (sumI (higL d q d.prices.length))], .int .i64 0]) hf ?_ ?_
     · exact ⟨⟨B4, 0, _, _, _, rfl, hh.at (i := 1) rfl, .inr ⟨2, _, Try.ag_43, rfl, rfl⟩⟩, rfl, True.intro⟩
     · exact ⟨by rw [ev, show oweE d q = 0 from he]; rfl, hh.ext⟩
end Go.Proofs.Ytkfkifkdncdhoaa
namespace Go.RoyM
open Go Go.Sy
def wsL (d : RoyD) (k : Int) : List Nat := (soldL d k).map Prod.snd
def csL (d : RoyD) (k : Int) : List Nat := (soldL d k).map Prod.fst
/-- The truths that go on from some agents. -/
def trB (m : Nat) (ws : List Nat) (b : List Nat) : List (List Nat) := (truA m (ws.drop b.length)).map (b ++ ·)
theorem trB_end {m : Nat} {ws b : List Nat} (h : b.length = ws.length) : trB m ws b = [b] := by
  unfold trB
  rw [h, List.drop_length]
  simp [truA]
def curB (m : Nat) (ws b : List Nat) (l : List Nat) (j : Nat) : List (List Nat) := (l.take j).flatMap fun g => trB m ws (b ++ [g])
theorem curB_zero (m : Nat) (ws b l : List Nat) : curB m ws b l 0 = [] := by unfold curB; simp
theorem curB_next {m : Nat} {ws b l : List Nat} {j g : Nat} (h : l[j]? = some g) : curB m ws b l (j + 1) = curB m ws b l j ++ trB m ws (b ++ [g]) := by
  unfold curB
  rw [List.take_add_one, h, List.flatMap_append]
  simp
theorem curB_all {m : Nat} {ws b : List Nat} {w : Nat} (h : ws[b.length]? = some w) : curB m ws b (clrL m w) (clrL m w).length = trB m ws b := by
  have hi := len_of h
  unfold curB trB
  rw [List.take_length, List.drop_eq_getElem_cons hi, (List.getElem?_eq_some_iff.1 h).2, truA, fm_map]
  congr 1
  funext g
  rw [List.map_map, List.length_append]
  show List.map (fun t => b ++ [g] ++ t) (truA m (List.drop (b.length + 1) ws)) = _
  congr 1
  funext t
  simp
theorem flatMap_len {α β : Type} {f : α → List β} {c : Nat} : ∀ {l : List α}, (∀ x ∈ l, (f x).length ≤ c) → (l.flatMap f).length ≤ l.length * c
  | [], _ => by simp
  | x :: l, h => by
    have h1 := h x (.head _)
    have h2 := flatMap_len (l := l) (f := f) (c := c) fun y hy => h y (.tail _ hy)
    rw [List.flatMap_cons, List.length_append, List.length_cons, Nat.succ_mul]
    omega
theorem tru_len {m : Nat} (hm : m ≤ 4) : ∀ ws : List Nat, (truA m ws).length ≤ 4 ^ ws.length
  | [] => by simp [truA]
  | w :: ws => by
    have ih := tru_len hm ws
    rw [truA, List.length_cons, Nat.pow_succ]
    have h1 := flatMap_len (l := clrL m w) (f := fun g => (truA m ws).map (g :: ·)) (c := 4 ^ ws.length) fun g _ => by rw [List.length_map]; exact ih
    have h2 : (clrL m w).length ≤ 4 := by
      unfold clrL
      refine Nat.le_trans (List.length_filter_le _ _) ?_
      rw [List.length_range]; exact hm
    have h3 : (clrL m w).length * 4 ^ ws.length ≤ 4 * 4 ^ ws.length := Nat.mul_le_mul_right _ h2
    omega
theorem trB_len {m : Nat} (hm : m ≤ 4) {ws b : List Nat} (hw : ws.length ≤ 12) : (trB m ws b).length ≤ 16777216 := by
  unfold trB
  rw [List.length_map]
  refine Nat.le_trans (tru_len hm _) ?_
  have : 4 ^ (ws.drop b.length).length ≤ 4 ^ 12 := Nat.pow_le_pow_right (by omega) (by rw [List.length_drop]; omega)
  exact this
theorem curB_len {m : Nat} {ws b : List Nat} {w : Nat} (h : ws[b.length]? = some w) (j : Nat) : (curB m ws b (clrL m w) j).length ≤ (trB m ws b).length := by
  rw [← curB_all h]
  unfold curB
  rw [List.take_length]
  have h1 : (clrL m w).flatMap (fun g => trB m ws (b ++ [g])) = ((clrL m w).take j).flatMap (fun g => trB m ws (b ++ [g])) ++ ((clrL m w).drop j).flatMap (fun g => trB m ws (b ++ [g])) := by
    rw [← List.flatMap_append, List.take_append_drop]
  rw [h1, List.length_append]
  omega
theorem trB_nil (m : Nat) (ws : List Nat) : trB m ws [] = truA m ws := by unfold trB; simp
theorem nvs_len (l : List Nat) : (nvs l).length = l.length := List.length_map _
theorem nvs_1c (l : List Nat) : (nvs l).all (·.oneCell') = true := by
  rw [List.all_eq_true]
  intro v hv
  obtain ⟨x, _, rfl⟩ := List.mem_map.1 hv
  rfl
theorem nvs_at {l : List Nat} {i x : Nat} (h : l[i]? = some x) : (nvs l)[i]? = some (.int .i64 ((x : Nat) : Int)) := by unfold nvs; rw [List.getElem?_map, h]; rfl
/-- The agents who claim a card that is sold. -/
theorem claW {d : RoyD} (hO : RoyOk d) {k : Int} {i c w : Nat} (hc : (csL d k)[i]? = some c) (hw : (wsL d k)[i]? = some w) : claL d k c d.terms.length = clrL d.terms.length w := by
  unfold csL at hc; unfold wsL at hw
  rw [List.getElem?_map] at hc hw
  cases e : (soldL d k)[i]? with
  | none => rw [e] at hc; cases hc
  | some y =>
    rw [e] at hc hw; cases hc; cases hw
    rw [(soldT_mem.1 (List.mem_of_getElem? e)).2.1, who_clr hO, claL_eq]
theorem cs_len (d : RoyD) (k : Int) : (csL d k).length = (wsL d k).length := by unfold csL wsL; rw [List.length_map, List.length_map]
theorem ws_len (d : RoyD) (k : Int) : (wsL d k).length ≤ 12 := by unfold wsL; rw [List.length_map]; exact sold_len d k
/-- Which cards are sold: those that somebody claims. -/
theorem sold_iff {d : RoyD} (hO : RoyOk d) (k : Int) (c : Nat) : whoN d k c = 0 ↔ (claL d k c d.terms.length).length = 0 := by
  rw [claL_eq]
  constructor
  · intro h
    rw [← who_clr hO, h]
    unfold clrL
    simp
  · intro h
    refine Decidable.byContradiction fun hn => ?_
    have := clr_ne hO hn
    rw [who_clr hO] at this
    exact this (List.eq_nil_of_length_eq_zero h)
def csT (d : RoyD) (k : Int) (n : Nat) : List Nat := (soldT d k n).map Prod.fst
theorem csT_put {d : RoyD} {k : Int} {c : Nat} (h : ¬ whoN d k c = 0) : csT d k (c + 1) = csT d k c ++ [c] := by
  unfold csT
  rw [soldT, if_neg h, List.map_append]; rfl
theorem csT_no {d : RoyD} {k : Int} {c : Nat} (h : whoN d k c = 0) : csT d k (c + 1) = csT d k c := by unfold csT; rw [soldT, if_pos h, List.append_nil]
theorem csT_len (d : RoyD) (k : Int) (n : Nat) : (csT d k n).length ≤ n := by unfold csT; rw [List.length_map]; exact soldT_len n
theorem Ext.over {u0 u w : World} {M : List Nat} (h : Ext [] u0 u) (h' : Ext M u w) (hM : ∀ x ∈ M, u0.heap.size ≤ x) : Ext [] u0 w := h.chain h' fun x hx => .inr (hM x hx)
/-- How many cards an agent sold. -/
def cntG (t : List Nat) (g : Nat) : Nat := t.count g
theorem cnt_get : ∀ (t : List Nat) (n : Cts) (g : Nat), g < 4 → (∀ x ∈ t, x < 4) → cget (cnt n t) g = cget n g + t.count g
  | [], n, g, _, _ => by simp [cnt]
  | x :: t, n, g, hg, h => by
    have ih := cnt_get t (cinc n x) g hg fun y hy => h y (.tail _ hy)
    have e : cnt n (x :: t) = cnt (cinc n x) t := rfl
    rw [e, ih, cget_inc (h x (.head _)) hg, List.count_cons]
    by_cases hx : g = x
    · subst hx; simp; omega
    · have h1 : (x == g) = false := by simpa using fun e => hx e.symm
      rw [if_neg hx, h1]; simp
theorem cnt_zero {t : List Nat} (h : ∀ x ∈ t, x < 4) {g : Nat} (hg : g < 4) : cget (cnt (0, 0, 0, 0) t) g = t.count g := by
  rw [cnt_get t _ g hg h]
  rcases (show g = 0 ∨ g = 1 ∨ g = 2 ∨ g = 3 by omega) with rfl | rfl | rfl | rfl <;> simp [cget]
theorem tot_cnt {d : RoyD} (x : Int) {t : List Nat} (h : ∀ x ∈ t, x < 4) : ∀ g, g ≤ 4 → totF d x (cnt (0, 0, 0, 0) t) g = sumI ((List.range g).map fun j => comV (termN d j) x (t.count j : Nat))
  | 0, _ => by simp [totF, sumI]
  | g + 1, hg => by
    rw [totF, tot_cnt x h g (by omega), cnt_zero h (by omega), List.range_succ, List.map_append, sumI_app]
    show _ = _ + (0 + _)
    rw [Int.zero_add]; rfl
theorem count_take {t : List Nat} {i x g : Nat} (h : t[i]? = some x) : (t.take (i + 1)).count g = (t.take i).count g + if x = g then 1 else 0 := by
  rw [List.take_add_one, h, List.count_append]
  by_cases hx : x = g
  · subst hx; simp
  · simp [hx]
theorem cards_cnt : ∀ (t : List Nat) (n : Cts), cardsN (cnt n t) = cardsN n + t.length
  | [], n => by simp [cnt]
  | x :: t, n => by
    have e : cnt n (x :: t) = cnt (cinc n x) t := rfl
    rw [e, cards_cnt t, cardsN_inc, List.length_cons]; omega
theorem tru_mem {m : Nat} : ∀ {ws t : List Nat}, t ∈ truA m ws → t.length = ws.length ∧ ∀ x ∈ t, x < m
  | [], t, h => by simp [truA] at h; subst h; simp
  | w :: ws, t, h => by
    rw [truA] at h
    obtain ⟨g, hg, h⟩ := List.mem_flatMap.1 h
    obtain ⟨s, hs, rfl⟩ := List.mem_map.1 h
    obtain ⟨h1, h2⟩ := tru_mem hs
    refine ⟨by rw [List.length_cons, List.length_cons, h1], fun x hx => ?_⟩
    rcases List.mem_cons.1 hx with rfl | hx
    · unfold clrL at hg
      exact List.mem_range.1 (List.mem_filter.1 hg).1
    · exact h2 x hx
end Go.RoyM
namespace Go.RoyM
open Go Go.Sy
/-- Lists of agents lie in memory, a slice for each. -/
def LsAt (w : World) (so : Option Addr) (L : List (List Nat)) : Prop :=
  ∀ i t, L[i]? = some t → ∃ blk off c T fr sb cb, so = some ⟨blk, off, none⟩ ∧ w.heap[blk]? = some (.cells c T fr) ∧ c[off + ((i : Nat) : Int).toNat * 1]? = some (.slice sb t.length cb) ∧ NAt w sb t
theorem LsAt.ext {w w' : World} {so : Option Addr} {L : List (List Nat)} (h : LsAt w so L) (e : Ext [] w w') : LsAt w' so L := fun i s hi =>
  let ⟨blk, off, c, T, fr, sb, cb, h1, h2, h3, h4⟩ := h i s hi
  ⟨blk, off, c, T, fr, sb, cb, h1, e.get h2, h3, h4.ext e⟩
theorem nat_off {w : World} {X : List (Nat × Obj)} {sb : Option Addr} {t : List Nat} (h : ValsOff w X sb (nvs t)) : NAt w sb t := fun i x hi => by
  rcases h with h | ⟨blk, off, c, T, fr, h1, _, h3, h4⟩
  · have := congrArg List.length h
    rw [nvs_len] at this
    have h2 := len_of hi
    simp at this
    rw [this] at h2; simp at h2
  · exact ⟨blk, off, c, T, fr, h1, h3, by rw [Int.toNat_natCast, Nat.mul_one]; exact h4 i _ (nvs_at hi)⟩
theorem ls_of {w : World} {v : Value} {L : List (List Nat)} {hs : List Value} {X : List (Nat × Obj)} (h : OwnSl 22 1 v L.length hs X) (hH : HdsAt nvs List.length w X hs L) (hX : ∀ q ∈ X, w.heap[q.1]? = some q.2) : ∃ so co, v = .slice so L.length co ∧ LsAt w so L := by
  rcases h.2 with ⟨h1, h2, _⟩ | ⟨B, cap, cur, h1, h2, _, _, h5, h6⟩
  · refine ⟨none, 0, by rw [h1, h2], fun i t hi => ?_⟩
    have := len_of hi
    omega
  · refine ⟨_, _, h1, fun i t hi => ?_⟩
    obtain ⟨sb, cb, h7, h8⟩ := hH.2 i t hi
    refine ⟨B, 0, cur, 22, (0, 0), sb, cb, rfl, hX (B, .cells cur 22 (0, 0)) (by rw [h2]; exact .head _), ?_, nat_off h8⟩
    have hl := len_of hi
    rw [← h6, Nat.mul_one, List.getElem?_take, if_pos (by omega)] at h7
    rw [Int.toNat_natCast, Nat.zero_add, Nat.mul_one, ← Array.getElem?_toList]
    exact h7
theorem nat_own {oa : Option Addr} {m c : Nat} {l : List Nat} {X : List (Nat × Obj)} {w : World} (h : OwnSl 3 1 (.slice oa m c) m (nvs l) X) (hX : ∀ q ∈ X, w.heap[q.1]? = some q.2) : NAt w oa l := by
  obtain ⟨oa2, c2, e, _, h2⟩ := own_nat h hX
  cases e
  exact h2
def truL (d : RoyD) (k : Int) : List (List Nat) := truA d.terms.length (wsL d k)
def totF2 (d : RoyD) (x : Int) (t : List Nat) : Int := totV d x (cnt (0, 0, 0, 0) t)
theorem tru_facts {d : RoyD} (hO : RoyOk d) {k : Int} {t : List Nat} (h : t ∈ truL d k) : t.length ≤ 12 ∧ (∀ x ∈ t, x < 4) ∧ t.length = (wsL d k).length := by
  obtain ⟨h1, h2⟩ := tru_mem h
  have := ws_len d k
  have hn := hO.nt
  exact ⟨by omega, fun x hx => by have := h2 x hx; omega, h1⟩
theorem truL_ne {d : RoyD} (hO : RoyOk d) (k : Int) : truL d k ≠ [] := truA_ne (sold_some hO k)
theorem truL_len {d : RoyD} (hO : RoyOk d) (k : Int) : 1 ≤ (truL d k).length ∧ (truL d k).length ≤ 16777216 := by
  have h1 := List.length_pos_iff.2 (truL_ne hO k)
  have h2 := tru_len hO.nt (wsL d k)
  have h3 : 4 ^ (wsL d k).length ≤ 4 ^ 12 := Nat.pow_le_pow_right (by omega) (ws_len d k)
  exact ⟨h1, Nat.le_trans h2 h3⟩
theorem reach_map (d : RoyD) (k : Int) (f : Cts → Int) : (reachL d k).map f = (truL d k).map fun t => f (cnt (0, 0, 0, 0) t) := by
  rw [reachL_tru, List.map_map]; rfl
theorem lo_with {c : Int} {l : List Int} (hn : l ≠ []) (h : ∃ y ∈ l, y ≤ c) : loL (c :: l) = loL l := by
  obtain ⟨h1, h2⟩ := loL_spec hn
  refine lo_uniq (.tail _ h1) fun y hy => ?_
  rcases List.mem_cons.1 hy with rfl | hy
  · obtain ⟨z, hz, hzc⟩ := h
    exact Int.le_trans (h2 z hz) hzc
  · exact h2 y hy
theorem hi_with {c : Int} {l : List Int} (hn : l ≠ []) (h : ∃ y ∈ l, c ≤ y) : hiL (c :: l) = hiL l := by
  obtain ⟨h1, h2⟩ := hiL_spec hn
  refine hi_uniq (.tail _ h1) fun y hy => ?_
  rcases List.mem_cons.1 hy with rfl | hy
  · obtain ⟨z, hz, hzc⟩ := h
    exact Int.le_trans hzc (h2 z hz)
  · exact h2 y hy
theorem map_take {α : Type} {L : List α} {i : Nat} {t : α} (h : L[i]? = some t) (f : α → Int) (c : Int) : c :: (L.take (i + 1)).map f = (c :: (L.take i).map f) ++ [f t] := by
  rw [List.take_add_one, h, List.map_append]; rfl
/-- The first of those with the least. -/
def BestAt (f : List Nat → Int) (L : List (List Nat)) (i b : Nat) (tb : List Nat) : Prop :=
  L[b]? = some tb ∧ (∀ j t, j < i → L[j]? = some t → f tb ≤ f t) ∧ ∀ j t, j < b → L[j]? = some t → f tb < f t
theorem BestAt.keep {f : List Nat → Int} {L : List (List Nat)} {i b : Nat} {tb t : List Nat} (h : BestAt f L i b tb) (hi : L[i]? = some t) (hn : ¬ f t < f tb) : BestAt f L (i + 1) b tb :=
  ⟨h.1, fun j t' hj h' => by
    rcases (show j < i ∨ j = i by omega) with h1 | h1
    · exact h.2.1 j t' h1 h'
    · subst h1; rw [hi] at h'; cases h'; omega, h.2.2⟩
theorem BestAt.turn {f : List Nat → Int} {L : List (List Nat)} {i b : Nat} {tb t : List Nat} (h : BestAt f L i b tb) (hi : L[i]? = some t) (hn : f t < f tb) : BestAt f L (i + 1) i t :=
  ⟨hi, fun j t' hj h' => by
    rcases (show j < i ∨ j = i by omega) with h1 | h1
    · have := h.2.1 j t' h1 h'; omega
    · subst h1; rw [hi] at h'; cases h'; exact Int.le_refl _, fun j t' hj h' => by have := h.2.1 j t' hj h'; omega⟩
theorem BestAt.find {f : List Nat → Int} {L : List (List Nat)} {b : Nat} {tb : List Nat} (h : BestAt f L L.length b tb) : L.find? (fun t => decide (f t ≤ loL (L.map f))) = some tb := by
  have hb := len_of h.1
  have hne : L.map f ≠ [] := by
    intro e
    have := congrArg List.length e
    simp at this
    rw [this] at hb; simp at hb
  obtain ⟨h1, h2⟩ := loL_spec hne
  have hv : loL (L.map f) = f tb := by
    obtain ⟨t, ht, e⟩ := List.mem_map.1 h1
    obtain ⟨j, hj⟩ := List.mem_iff_getElem?.1 ht
    have h3 := h.2.1 j t (len_of hj) hj
    have h4 := h2 (f tb) (List.mem_map.2 ⟨tb, List.mem_of_getElem? h.1, rfl⟩)
    omega
  rw [hv, List.find?_eq_some_iff_getElem]
  refine ⟨by simp, b, hb, (List.getElem?_eq_some_iff.1 h.1).2, fun j hj => ?_⟩
  have h5 := h.2.2 j (L[j]'(by omega)) hj (List.getElem?_eq_getElem (by omega))
  simp only [Bool.not_eq_true', decide_eq_false_iff_not]
  omega
theorem lea_best {d : RoyD} (hO : RoyOk d) {k : Int} {b : Nat} {tb : List Nat} (h : BestAt (totF2 d (priceN d k)) (truL d k) (truL d k).length b tb) : leastL d (priceN d k) (wsL d k) (0, 0, 0, 0) = tb := by
  have h1 := leastL_first d (priceN d k) (wsL d k) (0, 0, 0, 0) (sold_some hO k)
  rw [least_tru d (priceN d k) (wsL d k) (0, 0, 0, 0) (sold_some hO k)] at h1
  have h2 := h.find
  have h3 : some (leastL d (priceN d k) (wsL d k) (0, 0, 0, 0)) = some tb := h1.symm.trans h2
  exact Option.some.inj h3
theorem part_bd {n : Int} {l : List Int} (h0 : 0 ≤ n) (h1 : n ≤ 12582912) (hS : ShOk l) {j : Nat} (h : j < l.length) : 0 ≤ (splitL n l).getD j 0 ∧ (splitL n l).getD j 0 ≤ 12582913 := by
  rw [split_at h]
  obtain ⟨s, hj⟩ := ex_of h
  rw [getD_at hj]
  have hs := hS.bd s (List.mem_of_getElem? hj)
  have h2 : n * s ≤ n * 1000 := Int.mul_le_mul_of_nonneg_left hs.2 h0
  have h3 : 0 ≤ n * s := Int.mul_nonneg h0 hs.1
  have h4 := more_01 n l j
  unfold flo
  omega
theorem openE_and {d : RoyD} {a b : Bool} : openE d (a && b) = if openE d a = 0 then (if b = false then 2 else 0) else openE d a := by
  unfold openE
  cases royB d <;> cases a <;> cases b <;> simp
end Go.RoyM
namespace Go.RoyM
open Go Go.Sy
/-- A truth: for each card one of those who claim it. -/
theorem tru_of {m : Nat} : ∀ {ws t : List Nat}, t.length = ws.length → (∀ (i g w : Nat), t[i]? = some g → ws[i]? = some w → g ∈ clrL m w) → t ∈ truA m ws
  | [], t, h, _ => by
    rw [List.length_nil] at h
    rw [List.eq_nil_of_length_eq_zero h]; simp [truA]
  | w :: ws, [], h, _ => by simp at h
  | w :: ws, g :: t, h, hg => by
    rw [truA]
    refine List.mem_flatMap.2 ⟨g, hg 0 g w rfl rfl, List.mem_map.2 ⟨t, tru_of (by simpa using h) fun i x y hx hy => hg (i + 1) x y hx hy, rfl⟩⟩
theorem tru_at {m : Nat} : ∀ {ws t : List Nat}, t ∈ truA m ws → ∀ {i g w : Nat}, t[i]? = some g → ws[i]? = some w → g ∈ clrL m w
  | [], t, h, i, g, w, _, hw => by simp at hw
  | w0 :: ws, t, h, i, g, w, hg, hw => by
    rw [truA] at h
    obtain ⟨g0, hg0, h⟩ := List.mem_flatMap.1 h
    obtain ⟨s, hs, rfl⟩ := List.mem_map.1 h
    match i, hg, hw with
    | 0, hg, hw => cases hg; cases hw; exact hg0
    | i + 1, hg, hw => exact tru_at hs (by simpa using hg) (by simpa using hw)
/-- One list comes before another one. -/
def lexlt (t s : List Nat) : Prop := ∃ (i a b : Nat), (∀ j : Nat, j < i → t[j]? = s[j]?) ∧ t[i]? = some a ∧ s[i]? = some b ∧ a < b
theorem lexlt_cons {g : Nat} {t s : List Nat} (h : lexlt t s) : lexlt (g :: t) (g :: s) := by
  obtain ⟨i, a, b, h1, h2, h3, h4⟩ := h
  refine ⟨i + 1, a, b, fun j hj => ?_, h2, h3, h4⟩
  match j with
  | 0 => rfl
  | j + 1 => exact h1 j (by omega)
theorem clr_sorted (m w : Nat) : (clrL m w).Pairwise (fun a b : Nat => a < b) := List.pairwise_lt_range.sublist List.filter_sublist
theorem tru_sorted (m : Nat) : ∀ ws : List Nat, (truA m ws).Pairwise lexlt
  | [] => by simp [truA]
  | w :: ws => by
    have ih := tru_sorted m ws
    rw [truA, List.pairwise_flatMap]
    refine ⟨fun g _ => List.pairwise_map.2 (ih.imp lexlt_cons), (clr_sorted m w).imp fun {a b} hab x hx y hy => ?_⟩
    obtain ⟨t, _, rfl⟩ := List.mem_map.1 hx
    obtain ⟨s, _, rfl⟩ := List.mem_map.1 hy
    exact ⟨0, a, b, fun j hj => absurd hj (by omega), rfl, rfl, hab⟩
/-- The first one that is found comes before all others that would do. -/
theorem find_lex {L : List (List Nat)} (hs : L.Pairwise lexlt) {p : List Nat → Bool} {b t : List Nat} (h : L.find? p = some b) (ht : t ∈ L) (hp : p t = true) : t = b ∨ lexlt b t := by
  rw [List.find?_eq_some_iff_append] at h
  obtain ⟨_, l1, l2, rfl, h3⟩ := h
  rcases List.mem_append.1 ht with h4 | h4
  · have := h3 t h4
    rw [hp] at this; simp at this
  · rcases List.mem_cons.1 h4 with h5 | h5
    · exact .inl h5
    · right
      rw [List.pairwise_append, List.pairwise_cons] at hs
      exact hs.2.1.1 t h5
theorem lea_mem {d : RoyD} (hO : RoyOk d) (k : Int) : leastL d (priceN d k) (wsL d k) (0, 0, 0, 0) ∈ truL d k :=
  List.mem_of_find?_eq_some (leastL_first d (priceN d k) (wsL d k) (0, 0, 0, 0) (sold_some hO k))
theorem lea_lo {d : RoyD} (hO : RoyOk d) (k : Int) : totF2 d (priceN d k) (leastL d (priceN d k) (wsL d k) (0, 0, 0, 0)) = loL ((reachL d k).map (totV d (priceN d k))) := by
  have h1 := leastL_first d (priceN d k) (wsL d k) (0, 0, 0, 0) (sold_some hO k)
  have h2 := List.find?_some h1
  have h3 := of_decide_eq_true h2
  rw [least_tru d (priceN d k) (wsL d k) (0, 0, 0, 0) (sold_some hO k)] at h3
  rw [reach_map]
  have hne : (truL d k).map (fun t => totV d (priceN d k) (cnt (0, 0, 0, 0) t)) ≠ [] := by simpa using truL_ne hO k
  have h4 := (loL_spec hne).2 _ (List.mem_map.2 ⟨_, lea_mem hO k, rfl⟩)
  exact Int.le_antisymm h3 h4
theorem lea_first {d : RoyD} (hO : RoyOk d) {k : Int} {t : List Nat} (ht : t ∈ truL d k) (hl : totF2 d (priceN d k) t = loL ((reachL d k).map (totV d (priceN d k)))) : t = leastL d (priceN d k) (wsL d k) (0, 0, 0, 0) ∨ lexlt (leastL d (priceN d k) (wsL d k) (0, 0, 0, 0)) t := by
  have h1 := leastL_first d (priceN d k) (wsL d k) (0, 0, 0, 0) (sold_some hO k)
  refine find_lex (tru_sorted _ _) h1 ht (decide_eq_true ?_)
  rw [least_tru d (priceN d k) (wsL d k) (0, 0, 0, 0) (sold_some hO k)]
  rw [reach_map] at hl
  exact Int.le_of_eq hl
/-- What all agents have in a truth lies within the span. -/
theorem tru_span {d : RoyD} {k : Int} {t : List Nat} (ht : t ∈ truL d k) : loL ((reachL d k).map (totV d (priceN d k))) ≤ totF2 d (priceN d k) t ∧ totF2 d (priceN d k) t ≤ hiL ((reachL d k).map (totV d (priceN d k))) := by
  rw [reach_map]
  have hm : totF2 d (priceN d k) t ∈ (truL d k).map (fun t => totV d (priceN d k) (cnt (0, 0, 0, 0) t)) := List.mem_map.2 ⟨t, ht, rfl⟩
  exact ⟨(loL_spec (List.ne_nil_of_mem hm)).2 _ hm, (hiL_spec (List.ne_nil_of_mem hm)).2 _ hm⟩
/-- Where two lists differ first. -/
theorem lex_at {b t : List Nat} (h : lexlt b t) {i x y : Nat} (hx : b[i]? = some x) (hy : t[i]? = some y) (hne : ¬ y = x) (hp : ∀ j, j < i → b[j]? = t[j]?) : x < y := by
  obtain ⟨i0, p, q, h1, h2, h3, h4⟩ := h
  rcases (show i0 < i ∨ i0 = i ∨ i < i0 by omega) with h5 | h5 | h5
  · have := hp i0 h5
    rw [h2, h3] at this
    cases this; omega
  · subst h5; rw [h2] at hx; rw [h3] at hy; cases hx; cases hy; exact h4
  · have := h1 i h5
    rw [hx, hy] at this
    cases this; exact absurd rfl hne
theorem leaV_ok {d : RoyD} {k : Int} (he : allE d k = 0) : leaV d k = leastL d (priceN d k) (wsL d k) (0, 0, 0, 0) := by unfold leaV; rw [if_pos he]; rfl
theorem allV_ok {d : RoyD} {k : Int} (he : allE d k = 0) : allV d k = (loL ((reachL d k).map (totV d (priceN d k))), hiL ((reachL d k).map (totV d (priceN d k)))) := by unfold allV; rw [if_pos he]
theorem allE_facts {d : RoyD} {k : Int} (he : ¬ allE d k = 0) : leaV d k = [] ∧ allV d k = (0, 0) ∧ ((allE d k = 1 ∧ royB d = false) ∨ (allE d k = 2 ∧ royB d = true)) := by
  refine ⟨by unfold leaV; rw [if_neg he], by unfold allV; rw [if_neg he], ?_⟩
  unfold allE openE at he ⊢
  cases h1 : royB d
  · exact .inl ⟨rfl, rfl⟩
  · cases h2 : isKd d k
    · exact .inr ⟨rfl, rfl⟩
    · rw [h1, h2] at he; exact absurd rfl he
/-- Bytes lie in memory. -/
def BAt (w : World) (sa : Option Addr) (l : List Int) : Prop :=
  ∀ i x, l[i]? = some x → ∃ blk off c T fr, sa = some ⟨blk, off, none⟩ ∧ w.heap[blk]? = some (.cells c T fr) ∧ c[off + ((i : Nat) : Int).toNat * 1]? = some (.int .u8 x)
theorem BAt.ext {w w' : World} {sa : Option Addr} {l : List Int} (h : BAt w sa l) (e : Ext [] w w') : BAt w' sa l := fun i s hi =>
  let ⟨blk, off, c, T, fr, h1, h2, h3⟩ := h i s hi
  ⟨blk, off, c, T, fr, h1, e.get h2, h3⟩
/-- A truth so far. -/
def TruT (m : Nat) (ws t : List Nat) (i : Nat) : Prop := t.length = i ∧ ∀ (j g w : Nat), t[j]? = some g → ws[j]? = some w → g ∈ clrL m w
theorem TruT.zero (m : Nat) (ws : List Nat) : TruT m ws [] 0 := ⟨rfl, fun j g w h => by simp at h⟩
theorem TruT.put {m : Nat} {ws t : List Nat} {i g w : Nat} (h : TruT m ws t i) (hw : ws[i]? = some w) (hg : g ∈ clrL m w) : TruT m ws (t ++ [g]) (i + 1) := by
  refine ⟨by rw [List.length_append, h.1]; rfl, fun j g' w' h1 h2 => ?_⟩
  rw [List.getElem?_append] at h1
  split at h1
  · exact h.2 j g' w' h1 h2
  · rename_i hj
    have hjl : j = i := by
      have := h.1
      have h3 := len_of h1
      simp at h3; omega
    subst hjl
    rw [h.1, Nat.sub_self] at h1
    rw [hw] at h2
    cases h1; cases h2; exact hg
theorem TruT.done {m : Nat} {ws t : List Nat} (h : TruT m ws t ws.length) : t ∈ truA m ws := tru_of h.1 h.2
end Go.RoyM
namespace Go.RoyM
open Go Go.Sy
/-- Whether two reports meet, by their ends. -/
def endB (x y : RepD) : Bool := decide (x.kd = y.kd) && decide (x.fi ≤ y.la) && decide (y.fi ≤ x.la)
theorem end_meet {d : RoyD} {x y : RepD} (hx : RepOk d x) (hy : RepOk d y) : endB x y = meetB x y := by
  have h1 := hx.f0; have h2 := hx.f1; have h3 := hx.l1; have h4 := hy.f0; have h5 := hy.f1; have h6 := hy.l1
  rw [Bool.eq_iff_iff, meet_iff hx hy]
  unfold endB hasB inI
  simp only [Bool.and_eq_true, decide_eq_true_eq, true_and]
  constructor
  · rintro ⟨⟨e, h7⟩, h8⟩
    refine ⟨(max x.fi y.fi).toNat, by omega, ⟨by omega, by omega⟩, e.symm, by omega, by omega⟩
  · rintro ⟨c, hc, h7, e, h8⟩
    exact ⟨⟨e.symm, by omega⟩, by omega⟩
def NoMeet (d : RoyD) : Prop := ∀ (i j : Nat) (x y : RepD), j < i → d.reps[i]? = some x → d.reps[j]? = some y → meetB x y = false
theorem no_two {d : RoyD} (hO : RoyOk d) (hn : NoMeet d) {k : Int} {a b c : Nat} (ha : clmB d k a c = true) (hb : clmB d k b c = true) : a = b := by
  unfold clmB at ha hb
  obtain ⟨x, hx, h1⟩ := List.any_eq_true.1 ha
  obtain ⟨y, hy, h2⟩ := List.any_eq_true.1 hb
  simp only [Bool.and_eq_true, decide_eq_true_eq] at h1 h2
  have hxo := hO.r x hx
  have hyo := hO.r y hy
  have hc12 : c < 12 := by have := hxo.l1; omega
  obtain ⟨i, hi⟩ := List.mem_iff_getElem?.1 hx
  obtain ⟨j, hj⟩ := List.mem_iff_getElem?.1 hy
  have key : ∀ {x y : RepD}, RepOk d x → RepOk d y → (x.kd = k ∧ x.fi ≤ c ∧ (c : Int) ≤ x.la) → (y.kd = k ∧ y.fi ≤ c ∧ (c : Int) ≤ y.la) → meetB x y = true := fun {x y} hxo hyo h1 h2 => by
    rw [meet_iff hxo hyo]
    refine ⟨c, hc12, ?_, ?_⟩
    · unfold hasB inI; simp only [Bool.and_eq_true, decide_eq_true_eq, true_and]; exact ⟨h1.2.1, h1.2.2⟩
    · unfold hasB inI; simp only [Bool.and_eq_true, decide_eq_true_eq]; exact ⟨by rw [h1.1, h2.1], h2.2.1, h2.2.2⟩
  rcases (show j < i ∨ j = i ∨ i < j by omega) with h | h | h
  · have h3 := hn i j x y h hi hj
    rw [key hxo hyo ⟨h1.1.1, h1.2⟩ ⟨h2.1.1, h2.2⟩] at h3; cases h3
  · subst h
    rw [hi] at hj; cases hj
    have := h1.1.2; have := h2.1.2; omega
  · have h3 := hn j i y x h hj hi
    rw [key hyo hxo ⟨h2.1.1, h2.2⟩ ⟨h1.1.1, h1.2⟩] at h3; cases h3
theorem sur_clm {d : RoyD} (hO : RoyOk d) (hn : NoMeet d) (k : Int) (g : Nat) : surN d k g = clm d k g := by
  apply Nat.eq_of_testBit_eq
  intro c
  rw [sur_bit hO, clm_bit hO]
  unfold surB
  cases hc : clmB d k g c
  · rfl
  · rw [Bool.true_and, decide_eq_true_eq, one_of (claL_nodup _ _ _ _) (claL_mem.2 ⟨clm_lt hO hc, hc⟩)]
    exact fun j hj => no_two hO hn (claL_mem.1 hj).2 hc
/-- The cards that the first agents claim. -/
def orC (d : RoyD) (k : Int) : Nat → Nat
  | 0 => 0
  | g + 1 => orC d k g ||| clm d k g
theorem orC_bit {d : RoyD} (k : Int) (c : Nat) : ∀ g, (orC d k g).testBit c = true → ∃ j, j < g ∧ (clm d k j).testBit c = true
  | 0, h => by simp [orC] at h
  | g + 1, h => by
    rw [orC, Nat.testBit_or, Bool.or_eq_true] at h
    rcases h with h | h
    · obtain ⟨j, hj, h1⟩ := orC_bit k c g h
      exact ⟨j, by omega, h1⟩
    · exact ⟨g, by omega, h⟩
theorem orC_lt {d : RoyD} (hO : RoyOk d) (k : Int) : ∀ g, orC d k g < 4096
  | 0 => by simp [orC]
  | g + 1 => or_lt (orC_lt hO k g) (clm_lt12 hO k g)
theorem orC_and {d : RoyD} (hO : RoyOk d) (hn : NoMeet d) (k : Int) (g : Nat) : orC d k g &&& clm d k g = 0 := by
  apply Nat.eq_of_testBit_eq
  intro c
  rw [Nat.testBit_and, Nat.zero_testBit]
  cases h1 : (orC d k g).testBit c
  · rfl
  · cases h2 : (clm d k g).testBit c
    · rfl
    · obtain ⟨j, hj, h3⟩ := orC_bit k c g h1
      rw [clm_bit hO] at h2 h3
      have := no_two hO hn h2 h3
      omega
theorem tru_one {m : Nat} : ∀ {ws : List Nat}, (∀ w ∈ ws, (clrL m w).length = 1) → (truA m ws).length = 1
  | [], _ => by simp [truA]
  | w :: ws, h => by
    have ih := tru_one (m := m) (ws := ws) fun x hx => h x (.tail _ hx)
    have h1 := h w (.head _)
    obtain ⟨g, hg⟩ : ∃ g, clrL m w = [g] := by
      match hl : clrL m w, h1 with
      | [g], _ => exact ⟨g, rfl⟩
    rw [truA, hg, List.flatMap_cons, List.flatMap_nil, List.append_nil, List.length_map, ih]
theorem all_one {d : RoyD} (hO : RoyOk d) (hn : NoMeet d) {k : Int} (he : allE d k = 0) : ∃ z, allV d k = (z, z) := by
  have h1 : (truL d k).length = 1 := tru_one fun w hw => by
    have h0 := sold_some hO k w hw
    unfold wsL at hw
    obtain ⟨y, hy, e⟩ := List.mem_map.1 hw
    obtain ⟨_, h3, _⟩ := soldT_mem.1 hy
    subst e
    rw [h3, who_clr hO] at h0 ⊢
    obtain ⟨g, hg⟩ := List.exists_mem_of_ne_nil _ h0
    have hnd : ((List.range d.terms.length).filter fun g => clmB d k g y.1).Nodup := List.Nodup.sublist List.filter_sublist List.nodup_range
    rw [one_of hnd hg]
    intro j hj
    exact no_two hO hn (List.mem_filter.1 hj).2 (List.mem_filter.1 hg).2
  obtain ⟨t, ht⟩ : ∃ t, truL d k = [t] := by
    match hl : truL d k, h1 with
    | [t], _ => exact ⟨t, rfl⟩
  refine ⟨totV d (priceN d k) (cnt (0, 0, 0, 0) t), ?_⟩
  rw [allV_ok he, reach_map, ht]; rfl
theorem openE_z {d : RoyD} {b : Bool} : openE d b = 0 ↔ royB d = true ∧ b = true := by
  unfold openE
  cases royB d <;> cases b <;> simp
theorem claV_ok {d : RoyD} (hO : RoyOk d) {g k : Nat} (hg : g < d.terms.length) (hk : k < d.prices.length) : claE d g k = 0 ∧ claV d g k = (surN d k g, clm d k g) := by
  have h1 : isAg d g = true := by unfold isAg inI; simp only [Bool.and_eq_true, decide_eq_true_eq]; omega
  have h2 : isKd d k = true := by unfold isKd inI; simp only [Bool.and_eq_true, decide_eq_true_eq]; omega
  have h3 : claE d g k = 0 := openE_z.2 ⟨royB_iff.2 hO, by rw [h1, h2]; rfl⟩
  exact ⟨h3, by unfold claV; rw [if_pos h3]; rfl⟩
theorem allE_ok {d : RoyD} (hO : RoyOk d) {k : Nat} (hk : k < d.prices.length) : allE d k = 0 := by
  have h2 : isKd d k = true := by unfold isKd inI; simp only [Bool.and_eq_true, decide_eq_true_eq]; omega
  exact openE_z.2 ⟨royB_iff.2 hO, h2⟩
theorem lea_cs {d : RoyD} (hO : RoyOk d) {k : Int} (he : allE d k = 0) : (leaV d k).length = (csL d k).length := by
  rw [leaV_ok he, cs_len]
  exact (tru_facts hO (lea_mem hO k)).2.2
theorem tw_none {d : RoyD} (hO : RoyOk d) (h0 : twF d.reps d.reps.length = none) : twA d = (0, 0) ∧ twE d = 4 := by
  have htw : twV d = none := by unfold twV; rw [royB_iff.2 hO, if_pos rfl]; exact h0
  exact ⟨by unfold twA; rw [htw]; rfl, by unfold twE; rw [royB_iff.2 hO, htw]; rfl⟩
theorem tw_some {d : RoyD} (hO : RoyOk d) {i j : Nat} (h0 : twF d.reps d.reps.length = some (i, j)) : twA d = (i, j) ∧ twE d = 0 := by
  have htw : twV d = some (i, j) := by unfold twV; rw [royB_iff.2 hO, if_pos rfl]; exact h0
  exact ⟨by unfold twA; rw [htw]; rfl, by unfold twE; rw [royB_iff.2 hO, htw]; rfl⟩
/-- No two reports meet among the first ones. -/
def NoT (d : RoyD) (n : Nat) : Prop := ∀ (i j : Nat) (x y : RepD), i < n → j < i → d.reps[i]? = some x → d.reps[j]? = some y → meetB x y = false
theorem NoT.next {d : RoyD} {n : Nat} {x : RepD} (h : NoT d n) (hx : d.reps[n]? = some x) (h2 : ∀ z, z < n → ∀ t, d.reps[z]? = some t → meetB x t = false) : NoT d (n + 1) := fun i j x' y hi hj h3 h4 => by
  rcases (show i < n ∨ i = n by omega) with h5 | h5
  · exact h i j x' y h5 hj h3 h4
  · subst h5; rw [hx] at h3; cases h3; exact h2 j hj y h4
theorem NoT.all {d : RoyD} (h : NoT d d.reps.length) : NoMeet d := fun i j x y hj hx hy => h i j x y (len_of hx) hj hx hy
end Go.RoyM
namespace Go.RoyM
open Go Go.Sy
theorem flat_get {α : Type} {enc : α → List Value} {n : Nat} (hn : ∀ x, (enc x).length = n) : ∀ {l : List α} {j : Nat} {v : Value}, (l.flatMap enc)[j]? = some v → ∃ i x r, l[i]? = some x ∧ (enc x)[r]? = some v ∧ j = i * n + r
  | [], j, v, h => by simp at h
  | y :: l, j, v, h => by
    rw [List.flatMap_cons, List.getElem?_append, hn y] at h
    split at h
    · exact ⟨0, y, j, rfl, h, by omega⟩
    · rename_i hj
      obtain ⟨i, x, r, h1, h2, h3⟩ := flat_get hn h
      refine ⟨i + 1, x, r, h1, h2, ?_⟩
      rw [Nat.add_mul, Nat.one_mul]; omega
theorem flat_len {α : Type} {enc : α → List Value} {n : Nat} (hn : ∀ x, (enc x).length = n) : ∀ l : List α, (l.flatMap enc).length = l.length * n
  | [] => by simp
  | y :: l => by rw [List.flatMap_cons, List.length_append, hn y, flat_len hn l, List.length_cons, Nat.add_mul, Nat.one_mul]; omega
theorem vals_of {α : Type} {enc : α → List Value} {n : Nat} (hn : ∀ x, (enc x).length = n) {w : World} {sa : Option Addr} {l : List α} (h : TAt n enc w sa l) : ValsIn w sa (l.flatMap enc) := by
  match l, h with
  | [], _ => exact .inl rfl
  | x :: l, h =>
    obtain ⟨blk, off, c, T, fr, h1, h2, _⟩ := h 0 x rfl
    refine .inr ⟨blk, off, c, T, fr, h1, h2, fun j v hj => ?_⟩
    obtain ⟨i, y, r, h3, h4, h5⟩ := flat_get hn hj
    obtain ⟨blk', off', c', T', fr', k1, k2, k3⟩ := h i y h3
    rw [h1] at k1; cases k1
    rw [h2] at k2; cases k2
    have := (cellsAt_get n _ _ k3).2 r v h4
    rw [Int.toNat_natCast] at this
    rw [h5, ← Nat.add_assoc]; exact this
theorem own_tat {α : Type} {enc : α → List Value} {n e : Nat} (hn : ∀ x, (enc x).length = n) {oa : Option Addr} {c m : Nat} {l : List α} {X : List (Nat × Obj)} {w : World} (h : OwnSl e n (.slice oa m c) m (l.flatMap enc) X) (hm : m = l.length) (hX : ∀ q ∈ X, w.heap[q.1]? = some q.2) : TAt n enc w oa l := fun i s hi => by
  have hl := len_of hi
  rcases h.2 with ⟨_, h2, _⟩ | ⟨B, cap, cur, h1, h2, _, _, h5, h6⟩
  · omega
  · cases h1
    refine ⟨B, 0, cur, e, (0, 0), rfl, hX (B, .cells cur e (0, 0)) (by rw [h2]; exact .head _), ?_⟩
    have key : ∀ r v, (enc s)[r]? = some v → cur[0 + ((i : Nat) : Int).toNat * n + r]? = some v := fun r v hr => by
      have hrl := len_of hr
      rw [hn] at hrl
      have h7 : (l.flatMap enc)[i * n + r]? = some v := by
        have gen : ∀ (l : List α) (i : Nat), l[i]? = some s → (l.flatMap enc)[i * n + r]? = some v := by
          intro l
          induction l with
          | nil => intro i h; simp at h
          | cons y l ih =>
            intro i h
            rw [List.flatMap_cons, List.getElem?_append, hn y]
            match i, h with
            | 0, h => cases h; rw [if_pos (by omega), Nat.zero_mul, Nat.zero_add]; exact hr
            | i + 1, h =>
              rw [if_neg (by rw [Nat.add_mul]; omega), show (i + 1) * n + r - n = i * n + r by rw [Nat.add_mul]; omega]
              exact ih i h
        exact gen l i hi
      rw [← h6, List.getElem?_take] at h7
      split at h7
      · rw [Int.toNat_natCast, Nat.zero_add, ← Array.getElem?_toList]; exact h7
      · cases h7
    have := cellsAt_of (c := cur) (enc s) (0 + ((i : Nat) : Int).toNat * n) key
    rwa [hn] at this
theorem pc_mono : ∀ (k : Nat) {a b : Nat}, k ≤ 64 → a < 2 ^ k → b < 2 ^ k → (∀ i, a.testBit i = true → b.testBit i = true) → pc a ≤ pc b
  | 0, a, b, _, ha, hb, _ => by
    rw [Nat.pow_zero] at ha hb
    rw [show a = 0 by omega, show b = 0 by omega]; exact Nat.le_refl _
  | k + 1, a, b, hk, ha, hb, h => by
    have h64 : 2 ^ (k + 1) ≤ 2 ^ 64 := Nat.pow_le_pow_right (by omega) hk
    rw [Nat.pow_succ] at ha hb h64
    have ih := pc_mono k (a := a / 2) (b := b / 2) (by omega) (by omega) (by omega) fun i hi => by
      rw [Nat.testBit_div_two] at hi ⊢
      exact h (i + 1) hi
    rw [pc_step (n := a) (by omega), pc_step (n := b) (by omega)]
    have h0 := h 0
    simp only [Nat.testBit_zero, decide_eq_true_eq] at h0
    omega
theorem com_mono {t : TermD} (ht : TermOk t) {price : Int} (hp : 0 ≤ price) {m n : Nat} (h : m ≤ n) : comV t price m ≤ comV t price n := by
  have key : perN t m ≤ perN t n := by
    induction n with
    | zero => rw [show m = 0 by omega]; exact Int.le_refl _
    | succ n ih =>
      by_cases e : m = n + 1
      · rw [e]; exact Int.le_refl _
      · have h1 := ih (by omega)
        have h2 := perN_step (t := t) (many := ((n + 1 : Nat) : Int)) (by omega) ht.u0
        rw [show ((n + 1 : Nat) : Int) - 1 = (n : Int) by omega] at h2
        have := ht.f0; have := ht.b0
        split at h2 <;> omega
  unfold comV
  exact Int.ediv_le_ediv (by omega) (Int.mul_le_mul_of_nonneg_right key hp)
theorem sum_le {α : Type} {f g : α → Int} : ∀ {l : List α}, (∀ x ∈ l, f x ≤ g x) → sumI (l.map f) ≤ sumI (l.map g)
  | [], _ => by simp
  | x :: l, h => by
    have h1 := h x (.head _)
    have h2 := sum_le (l := l) fun y hy => h y (.tail _ hy)
    rw [List.map_cons, List.map_cons, sumI_cons, sumI_cons]; omega
def addR (d : RoyD) (n : RepD) : RoyD := ⟨d.terms, d.prices, d.shares, d.reps ++ [n], d.paid⟩
/-- Part of another report. -/
structure PartOf (d : RoyD) (r n : RepD) : Prop where
  mem : r ∈ d.reps
  kd : n.kd = r.kd
  fi : n.fi = r.fi
  la : n.la ≤ r.la
  ok : RepOk d n
theorem add_ok {d : RoyD} (hO : RoyOk d) (hl : d.reps.length < 20) {n : RepD} (hn : RepOk d n) : RoyOk (addR d n) := by
  refine ⟨hO.nt, hO.np, hO.ns, by show (d.reps ++ [n]).length ≤ 20; rw [List.length_append]; show d.reps.length + 1 ≤ 20; omega, hO.npd, hO.t, hO.pd, hO.p, hO.s, fun x hx => ?_⟩
  have key : ∀ {x : RepD}, RepOk d x → RepOk (addR d n) x := fun h => ⟨h.a0, h.a1, h.k0, h.k1, h.f0, h.f1, h.l1⟩
  rcases List.mem_append.1 (show x ∈ d.reps ++ [n] from hx) with hx | hx
  · exact key (hO.r x hx)
  · rw [List.mem_singleton.1 hx]; exact key hn
def inR (n : RepD) (k : Int) (g c : Nat) : Bool := (decide (n.kd = k) && decide (n.ag = (g : Int))) && (decide (n.fi ≤ c) && decide ((c : Int) ≤ n.la))
theorem clm_add (d : RoyD) (n : RepD) (k : Int) (g c : Nat) : clmB (addR d n) k g c = (clmB d k g c || inR n k g c) := by
  unfold clmB
  show (d.reps ++ [n]).any _ = _
  rw [List.any_append, List.any_cons, List.any_nil, Bool.or_false]; rfl
section
variable {d : RoyD} {r n : RepD}
theorem part_old (hP : PartOf d r n) (hO : RoyOk d) {k : Int} {g c : Nat} (h : inR n k g c = true) : clmB d k r.ag.toNat c = true := by
  unfold inR at h
  simp only [Bool.and_eq_true, decide_eq_true_eq] at h
  unfold clmB
  rw [List.any_eq_true]
  have h1 := (hO.r r hP.mem).a0
  have h2 := hP.kd; have h3 := hP.fi; have h4 := hP.la
  refine ⟨r, hP.mem, ?_⟩
  simp only [Bool.and_eq_true, decide_eq_true_eq]
  omega
theorem in_ag {k : Int} {g c : Nat} (h : inR n k g c = true) : n.ag = g := by
  unfold inR at h
  simp only [Bool.and_eq_true, decide_eq_true_eq] at h
  exact h.1.2
theorem clm_same (hP : PartOf d r n) (hO : RoyOk d) (he : n.ag = r.ag) (k : Int) (g c : Nat) : clmB (addR d n) k g c = clmB d k g c := by
  rw [clm_add]
  cases h : inR n k g c
  · rw [Bool.or_false]
  · have h1 := part_old hP hO h
    have h2 := in_ag h
    rw [show r.ag.toNat = g by omega] at h1
    rw [h1]; rfl
theorem clm_other {k : Int} {g : Nat} (hg : ¬ n.ag = (g : Int)) (c : Nat) : clmB (addR d n) k g c = clmB d k g c := by
  rw [clm_add]
  cases h : inR n k g c
  · rw [Bool.or_false]
  · exact absurd (in_ag h) hg
theorem sur_add (hP : PartOf d r n) (hO : RoyOk d) {k : Int} {g c : Nat} (h : surB (addR d n) k g c = true) : surB d k g c = true := by
  unfold surB at h ⊢
  rw [Bool.and_eq_true, decide_eq_true_eq] at h ⊢
  obtain ⟨h1, h2⟩ := h
  have hg : g < d.terms.length := by
    rw [clm_add, Bool.or_eq_true] at h1
    rcases h1 with h1 | h1
    · exact clm_lt hO h1
    · have := in_ag h1; have := hP.ok.a1; omega
  rw [one_of (claL_nodup _ _ _ _) ((claL_mem (d := addR d n)).2 ⟨hg, h1⟩)] at h2
  have hsub : ∀ j, clmB d k j c = true → j = g := fun j hj => h2 j ((claL_mem (d := addR d n)).2 ⟨clm_lt hO hj, by rw [clm_add, hj]; rfl⟩)
  have h3 : clmB d k g c = true := by
    rw [clm_add, Bool.or_eq_true] at h1
    rcases h1 with h1 | h1
    · exact h1
    · have h4 := part_old hP hO h1
      rw [hsub _ h4] at h4; exact h4
  refine ⟨h3, (one_of (claL_nodup _ _ _ _) (claL_mem.2 ⟨hg, h3⟩)).2 fun j hj => hsub j (claL_mem.1 hj).2⟩
theorem sur_own (hO : RoyOk d) {k : Int} {g c : Nat} (hg : n.ag = (g : Int)) (h : surB d k g c = true) : surB (addR d n) k g c = true := by
  unfold surB at h ⊢
  rw [Bool.and_eq_true, decide_eq_true_eq] at h ⊢
  obtain ⟨h1, h2⟩ := h
  have hgl := clm_lt hO h1
  rw [one_of (claL_nodup _ _ _ _) (claL_mem.2 ⟨hgl, h1⟩)] at h2
  have h3 : clmB (addR d n) k g c = true := by rw [clm_add, h1]; rfl
  refine ⟨h3, (one_of (claL_nodup _ _ _ _) ((claL_mem (d := addR d n)).2 ⟨hgl, h3⟩)).2 fun j hj => ?_⟩
  have h4 := ((claL_mem (d := addR d n)).1 hj).2
  rw [clm_add, Bool.or_eq_true] at h4
  rcases h4 with h4 | h4
  · exact h2 j (claL_mem.2 ⟨clm_lt hO h4, h4⟩)
  · have := in_ag h4; omega
theorem owe_ok (hO : RoyOk d) {g : Nat} (hg : g < d.terms.length) : oweE d g = 0 ∧ oweV d g = (sumI (lowL d g d.prices.length), sumI (higL d g d.prices.length)) := by
  have h1 : isAg d g = true := by unfold isAg inI; simp only [Bool.and_eq_true, decide_eq_true_eq]; omega
  have h3 : oweE d g = 0 := openE_z.2 ⟨royB_iff.2 hO, h1⟩
  exact ⟨h3, by unfold oweV; rw [if_pos h3]; rfl⟩
theorem com_le (hO : RoyOk d) {g k : Nat} (hg : g < d.terms.length) (hk : k < d.prices.length) {a b : Nat} (h : a ≤ b) : comV (termN d g) (d.prices.getD k 0) (a : Nat) ≤ comV (termN d g) (d.prices.getD k 0) (b : Nat) := by
  obtain ⟨t, ht⟩ := ex_of hg
  obtain ⟨x, hx⟩ := ex_of hk
  rw [term_at ht, getD_at hx]
  exact com_mono (hO.t t (List.mem_of_getElem? ht)) (hO.p x (List.mem_of_getElem? hx)).1 h
/-- What each agent is owed, with the report more. -/
theorem owe_more (hP : PartOf d r n) (hO : RoyOk d) (hl : d.reps.length < 20) {g : Nat} (hg : g < d.terms.length) :
    (oweV (addR d n) g).1 ≤ (oweV d g).1 ∧ (oweV d g).2 ≤ (oweV (addR d n) g).2 ∧ (¬ n.ag = (g : Int) → (oweV (addR d n) g).2 = (oweV d g).2) ∧ (n.ag = (g : Int) → (oweV (addR d n) g).1 = (oweV d g).1) ∧ (n.ag = r.ag → oweV (addR d n) g = oweV d g) := by
  have hO' := add_ok hO hl hP.ok
  rw [(owe_ok hO hg).2, (owe_ok hO' (show g < (addR d n).terms.length from hg)).2]
  have hsl : ∀ k : Int, pc (surN (addR d n) k g) ≤ pc (surN d k g) := fun k => pc_mono 12 (by omega) (sur_lt hO' k g) (sur_lt hO k g) fun i hi => by
    rw [sur_bit hO'] at hi; rw [sur_bit hO]; exact sur_add hP hO hi
  have hcl : ∀ k : Int, pc (clm d k g) ≤ pc (clm (addR d n) k g) := fun k => pc_mono 12 (by omega) (clm_lt12 hO k g) (clm_lt12 hO' k g) fun i hi => by
    rw [clm_bit hO] at hi; rw [clm_bit hO', clm_add, hi]; rfl
  have hce : ¬ n.ag = (g : Int) → ∀ k : Int, clm (addR d n) k g = clm d k g := fun h k => Nat.eq_of_testBit_eq fun i => by rw [clm_bit hO, clm_bit hO', clm_other h]
  have hse : n.ag = (g : Int) → ∀ k : Int, surN (addR d n) k g = surN d k g := fun h k => Nat.eq_of_testBit_eq fun i => by
    rw [sur_bit hO, sur_bit hO', Bool.eq_iff_iff]
    exact ⟨sur_add hP hO, sur_own hO h⟩
  have lowE : ∀ d' : RoyD, d'.terms = d.terms → d'.prices = d.prices → d'.paid = d.paid → lowL d' g d'.prices.length = -(d.paid.getD g 0) :: (List.range d.prices.length).map fun k => comV (termN d g) (d.prices.getD k 0) (pc (surN d' k g) : Nat) := fun d' h1 h2 h3 => by unfold lowL termN; rw [h1, h2, h3]
  have higE : ∀ d' : RoyD, d'.terms = d.terms → d'.prices = d.prices → d'.paid = d.paid → higL d' g d'.prices.length = -(d.paid.getD g 0) :: (List.range d.prices.length).map fun k => comV (termN d g) (d.prices.getD k 0) (pc (clm d' k g) : Nat) := fun d' h1 h2 h3 => by unfold higL termN; rw [h1, h2, h3]
  rw [lowE d rfl rfl rfl, lowE (addR d n) rfl rfl rfl, higE d rfl rfl rfl, higE (addR d n) rfl rfl rfl]
  refine ⟨?_, ?_, fun h => ?_, fun h => ?_, fun h => ?_⟩
  · show sumI _ ≤ sumI _
    rw [sumI_cons, sumI_cons]
    have := sum_le (l := List.range d.prices.length) (f := fun k => comV (termN d g) (d.prices.getD k 0) (pc (surN (addR d n) k g) : Nat)) (g := fun k => comV (termN d g) (d.prices.getD k 0) (pc (surN d k g) : Nat)) fun k hk => com_le hO hg (List.mem_range.1 hk) (hsl k)
    omega
  · show sumI _ ≤ sumI _
    rw [sumI_cons, sumI_cons]
    have := sum_le (l := List.range d.prices.length) (f := fun k => comV (termN d g) (d.prices.getD k 0) (pc (clm d k g) : Nat)) (g := fun k => comV (termN d g) (d.prices.getD k 0) (pc (clm (addR d n) k g) : Nat)) fun k hk => com_le hO hg (List.mem_range.1 hk) (hcl k)
    omega
  · show sumI _ = sumI _
    have e : (fun k : Nat => comV (termN d g) (d.prices.getD k 0) (pc (clm (addR d n) k g) : Nat)) = fun k : Nat => comV (termN d g) (d.prices.getD k 0) (pc (clm d k g) : Nat) := funext fun k => by rw [hce h]
    rw [e]
  · show sumI _ = sumI _
    have e : (fun k : Nat => comV (termN d g) (d.prices.getD k 0) (pc (surN (addR d n) k g) : Nat)) = fun k : Nat => comV (termN d g) (d.prices.getD k 0) (pc (surN d k g) : Nat) := funext fun k => by rw [hse h]
    rw [e]
  · have hc : ∀ (k : Int) (j c : Nat), clmB (addR d n) k j c = clmB d k j c := clm_same hP hO h
    have e1 : ∀ k : Int, clm (addR d n) k g = clm d k g := fun k => Nat.eq_of_testBit_eq fun i => by rw [clm_bit hO, clm_bit hO', hc]
    have e2 : ∀ k : Int, surN (addR d n) k g = surN d k g := fun k => Nat.eq_of_testBit_eq fun i => by
      rw [sur_bit hO, sur_bit hO']
      unfold surB
      rw [claL_eq, claL_eq, hc]
      have e3 : (fun j => clmB (addR d n) k j i) = fun j => clmB d k j i := funext fun j => hc k j i
      rw [e3]; rfl
    have e4 : (fun k : Nat => comV (termN d g) (d.prices.getD k 0) (pc (clm (addR d n) k g) : Nat)) = fun k : Nat => comV (termN d g) (d.prices.getD k 0) (pc (clm d k g) : Nat) := funext fun k => by rw [e1]
    have e5 : (fun k : Nat => comV (termN d g) (d.prices.getD k 0) (pc (surN (addR d n) k g) : Nat)) = fun k : Nat => comV (termN d g) (d.prices.getD k 0) (pc (surN d k g) : Nat) := funext fun k => by rw [e2]
    rw [e4, e5]
end
theorem ws_map (d : RoyD) (k : Int) : ∀ n, (soldT d k n).map Prod.snd = (csT d k n).map (whoN d k)
  | 0 => rfl
  | n + 1 => by
    have ih := ws_map d k n
    unfold csT at ih ⊢
    rw [soldT, List.map_append, List.map_append, List.map_append, ih]
    split <;> rfl
theorem tru_mono {m : Nat} {f f' : Nat → Nat} : ∀ {cs : List Nat}, (∀ c ∈ cs, ∀ g, g ∈ clrL m (f c) → g ∈ clrL m (f' c)) → ∀ t, t ∈ truA m (cs.map f) → t ∈ truA m (cs.map f')
  | [], _, t, h => h
  | c :: cs, hs, t, h => by
    rw [List.map_cons, truA] at h ⊢
    obtain ⟨g, hg, h⟩ := List.mem_flatMap.1 h
    obtain ⟨s, h1, rfl⟩ := List.mem_map.1 h
    exact List.mem_flatMap.2 ⟨g, hs c (.head _) g hg, List.mem_map.2 ⟨s, tru_mono (fun c hc => hs c (.tail _ hc)) s h1, rfl⟩⟩
theorem tot_congr {d d' : RoyD} (h : d'.terms = d.terms) (x : Int) (n : Cts) : totV d' x n = totV d x n := by
  unfold totV
  rw [h]
  have : ∀ g, totF d' x n g = totF d x n g := fun g => by
    induction g with
    | zero => rfl
    | succ g ih => rw [totF, totF, ih, h]
  exact this _
theorem lo_sub {l m : List Int} (hn : l ≠ []) (h : ∀ x ∈ l, x ∈ m) : loL m ≤ loL l ∧ hiL l ≤ hiL m := by
  have hm : m ≠ [] := fun e => by
    obtain ⟨x, hx⟩ := List.exists_mem_of_ne_nil l hn
    have := h x hx; rw [e] at this; cases this
  exact ⟨(loL_spec hm).2 _ (h _ (loL_spec hn).1), (hiL_spec hm).2 _ (h _ (hiL_spec hn).1)⟩
theorem cs_add {d : RoyD} {r n : RepD} (hP : PartOf d r n) (hO : RoyOk d) (hO' : RoyOk (addR d n)) (k : Int) : ∀ m, csT (addR d n) k m = csT d k m
  | 0 => rfl
  | m + 1 => by
    have ih := cs_add hP hO hO' k m
    have hiff : whoN (addR d n) k m = 0 ↔ whoN d k m = 0 := by
      rw [sold_iff hO', sold_iff hO]
      constructor
      · intro h
        have h1 := List.eq_nil_of_length_eq_zero h
        cases h2 : claL d k m d.terms.length with
        | nil => rfl
        | cons j l =>
          have hj : j ∈ claL d k m d.terms.length := by rw [h2]; exact .head _
          obtain ⟨h3, h4⟩ := claL_mem.1 hj
          have : j ∈ claL (addR d n) k m (addR d n).terms.length := (claL_mem (d := addR d n)).2 ⟨h3, by rw [clm_add, h4]; rfl⟩
          rw [h1] at this; cases this
      · intro h
        have h1 := List.eq_nil_of_length_eq_zero h
        cases h2 : claL (addR d n) k m (addR d n).terms.length with
        | nil => rfl
        | cons j l =>
          have hj : j ∈ claL (addR d n) k m (addR d n).terms.length := by rw [h2]; exact .head _
          obtain ⟨h3, h4⟩ := (claL_mem (d := addR d n)).1 hj
          rw [clm_add, Bool.or_eq_true] at h4
          rcases h4 with h4 | h4
          · have : j ∈ claL d k m d.terms.length := claL_mem.2 ⟨h3, h4⟩
            rw [h1] at this; cases this
          · have h5 := part_old hP hO h4
            have : r.ag.toNat ∈ claL d k m d.terms.length := claL_mem.2 ⟨clm_lt hO h5, h5⟩
            rw [h1] at this; cases this
    by_cases hz : whoN d k m = 0
    · rw [csT_no hz, csT_no (hiff.2 hz), ih]
    · rw [csT_put hz, csT_put (fun h => hz (hiff.1 h)), ih]
/-- What all have together, with the report more. -/
theorem all_more {d : RoyD} {r n : RepD} (hP : PartOf d r n) (hO : RoyOk d) (hl : d.reps.length < 20) {k : Nat} (hk : k < d.prices.length) : (allV (addR d n) k).1 ≤ (allV d k).1 ∧ (allV d k).2 ≤ (allV (addR d n) k).2 := by
  have hO' := add_ok hO hl hP.ok
  have v1 := allV_ok (allE_ok hO hk)
  have v2 := allV_ok (allE_ok hO' (show k < (addR d n).prices.length from hk))
  rw [reach_map] at v1 v2
  have hne : (truL d k).map (fun t => totV d (priceN d k) (cnt (0, 0, 0, 0) t)) ≠ [] := by simpa using truL_ne hO k
  have hsub := lo_sub hne (m := (truL (addR d n) k).map fun t => totV (addR d n) (priceN (addR d n) k) (cnt (0, 0, 0, 0) t)) fun x hx => by
    obtain ⟨t, ht, rfl⟩ := List.mem_map.1 hx
    refine List.mem_map.2 ⟨t, ?_, tot_congr (d := d) (d' := addR d n) rfl (priceN d k) (cnt (0, 0, 0, 0) t)⟩
    have e1 : truL d k = truA d.terms.length ((csT d k 12).map (whoN d k)) := by unfold truL wsL soldL; rw [ws_map]
    have e2 : truL (addR d n) k = truA d.terms.length ((csT d k 12).map (whoN (addR d n) k)) := by unfold truL wsL soldL; rw [ws_map, cs_add hP hO hO']; rfl
    rw [e1] at ht
    rw [e2]
    refine tru_mono (fun c _ g hg => ?_) t ht
    rw [who_clr hO, List.mem_filter] at hg
    have h9 := who_clr hO' k c
    have h8 : clrL d.terms.length (whoN (addR d n) k c) = (List.range d.terms.length).filter fun g => clmB (addR d n) k g c := h9
    rw [h8, List.mem_filter]
    exact ⟨hg.1, by rw [clm_add, hg.2]; rfl⟩
  rw [v1, v2]
  dsimp only
  exact hsub
end Go.RoyM
namespace Go.RoyM
open Go Go.Sy
theorem or_half (x c : Nat) : (x ||| 2 ^ (c + 1)) / 2 = x / 2 ||| 2 ^ c := by
  apply Nat.eq_of_testBit_eq
  intro i
  rw [Nat.testBit_div_two, Nat.testBit_or, Nat.testBit_or, Nat.testBit_div_two, Nat.testBit_two_pow, Nat.testBit_two_pow]
  congr 1
  exact decide_eq_decide.2 (by omega)
theorem or_half0 (x : Nat) : (x ||| 1) / 2 = x / 2 := by
  apply Nat.eq_of_testBit_eq
  intro i
  rw [Nat.testBit_div_two, Nat.testBit_or, Nat.testBit_div_two]
  have : (1 : Nat).testBit (i + 1) = false := by
    have := Nat.testBit_two_pow (n := 0) (m := i + 1)
    rw [Nat.pow_zero] at this
    rw [this]; exact decide_eq_false (by omega)
  rw [this, Bool.or_false]
theorem mod2_bit (x : Nat) : x % 2 = if x.testBit 0 = true then 1 else 0 := by
  rw [Nat.testBit_zero]
  by_cases h : x % 2 = 1
  · rw [h]; rfl
  · rw [if_neg (by simpa using h)]; omega
theorem pc_put : ∀ (c x : Nat), c < 60 → x < 2 ^ 60 → x.testBit c = false → pc (x ||| 2 ^ c) = pc x + 1
  | 0, x, _, hx, h => by
    have h1 : x ||| 2 ^ 0 < 2 ^ 64 := Nat.or_lt_two_pow (by omega) (by decide)
    rw [pc_step h1, pc_step (n := x) (by omega), Nat.pow_zero, or_half0, mod2_bit (x ||| 1), mod2_bit x, h, Nat.testBit_or]
    simp; omega
  | c + 1, x, hc, hx, h => by
    have hp : 2 ^ (c + 1) < 2 ^ 64 := Nat.pow_lt_pow_right (by omega) (by omega)
    have h1 : x ||| 2 ^ (c + 1) < 2 ^ 64 := Nat.or_lt_two_pow (by omega) hp
    rw [pc_step h1, pc_step (n := x) (by omega), or_half, pc_put c (x / 2) (by omega) (by omega) (by rw [Nat.testBit_div_two]; exact h), mod2_bit (x ||| 2 ^ (c + 1)), mod2_bit x, Nat.testBit_or, Nat.testBit_two_pow]
    simp; omega
/-- The cards that an agent sold in a truth, by bits. -/
def ownC (cs t : List Nat) (g : Nat) : Nat → Nat
  | 0 => 0
  | i + 1 => if t[i]? = some g then ownC cs t g i ||| 2 ^ (cs.getD i 0) else ownC cs t g i
theorem ownC_bit (cs t : List Nat) (g c : Nat) : ∀ i, (ownC cs t g i).testBit c = true ↔ ∃ j, j < i ∧ t[j]? = some g ∧ cs.getD j 0 = c
  | 0 => by simp [ownC]
  | i + 1 => by
    have ih := ownC_bit cs t g c i
    rw [ownC]
    by_cases h : t[i]? = some g
    · rw [if_pos h, Nat.testBit_or, Bool.or_eq_true, ih, Nat.testBit_two_pow, decide_eq_true_eq]
      constructor
      · rintro (⟨j, h1, h2, h3⟩ | h1)
        · exact ⟨j, by omega, h2, h3⟩
        · exact ⟨i, by omega, h, h1⟩
      · rintro ⟨j, h1, h2, h3⟩
        rcases (show j < i ∨ j = i by omega) with h4 | h4
        · exact .inl ⟨j, h4, h2, h3⟩
        · subst h4; exact .inr h3
    · rw [if_neg h, ih]
      constructor
      · rintro ⟨j, h1, h2, h3⟩; exact ⟨j, by omega, h2, h3⟩
      · rintro ⟨j, h1, h2, h3⟩
        rcases (show j < i ∨ j = i by omega) with h4 | h4
        · exact ⟨j, h4, h2, h3⟩
        · subst h4; exact absurd h2 h
theorem csT_sorted (d : RoyD) (k : Int) : ∀ n, (csT d k n).Pairwise (fun a b : Nat => a < b) ∧ ∀ c ∈ csT d k n, c < n
  | 0 => ⟨.nil, fun c h => by cases h⟩
  | n + 1 => by
    obtain ⟨h1, h2⟩ := csT_sorted d k n
    by_cases hz : whoN d k n = 0
    · rw [csT_no hz]; exact ⟨h1, fun c h => Nat.lt_succ_of_lt (h2 c h)⟩
    · rw [csT_put hz]
      refine ⟨List.pairwise_append.2 ⟨h1, List.pairwise_singleton _ _, fun a ha b hb => ?_⟩, fun c hc => ?_⟩
      · rw [List.mem_singleton.1 hb]; exact h2 a ha
      · rcases List.mem_append.1 hc with hc | hc
        · exact Nat.lt_succ_of_lt (h2 c hc)
        · rw [List.mem_singleton.1 hc]; exact Nat.lt_succ_self n
theorem csL_T (d : RoyD) (k : Int) : csL d k = csT d k 12 := by unfold csL soldL csT; rfl
theorem sorted_inj {l : List Nat} (hs : l.Pairwise (fun a b : Nat => a < b)) {i j : Nat} (hi : i < l.length) (hj : j < l.length) (h : l.getD i 0 = l.getD j 0) : i = j := by
  have e1 : l.getD i 0 = l[i] := by simp [List.getD, hi]
  have e2 : l.getD j 0 = l[j] := by simp [List.getD, hj]
  rw [e1, e2] at h
  rcases (show i < j ∨ i = j ∨ j < i by omega) with h1 | h1 | h1
  · have h9 : l[i] < l[j] := List.pairwise_iff_getElem.1 hs i j hi hj h1
    omega
  · exact h1
  · have h9 : l[j] < l[i] := List.pairwise_iff_getElem.1 hs j i hj hi h1
    omega
theorem cs_inj {d : RoyD} {k : Int} {i j : Nat} (hi : i < (csL d k).length) (hj : j < (csL d k).length) (h : (csL d k).getD i 0 = (csL d k).getD j 0) : i = j := by
  have hs := (csT_sorted d k 12).1
  rw [← csL_T] at hs
  exact sorted_inj hs hi hj h
theorem cs_lt {d : RoyD} {k : Int} {i c : Nat} (h : (csL d k)[i]? = some c) : c < 12 := by
  rw [csL_T] at h
  exact (csT_sorted d k 12).2 c (List.mem_of_getElem? h)
theorem ownC_lt {d : RoyD} {k : Int} {t : List Nat} (g : Nat) (i : Nat) : ownC (csL d k) t g i < 4096 := by
  induction i with
  | zero => simp [ownC]
  | succ i ih =>
    rw [ownC]
    split
    · refine or_lt ih ?_
      have : (csL d k).getD i 0 < 12 := by
        cases h : (csL d k)[i]? with
        | none => simp [List.getD, h]
        | some c => rw [getD_at h]; exact cs_lt h
      exact Nat.lt_of_lt_of_le (Nat.pow_lt_pow_right (by omega) this) (by decide)
    · exact ih
theorem ownC_pc {d : RoyD} {k : Int} {t : List Nat} (ht : t.length = (csL d k).length) (g : Nat) : ∀ i, i ≤ t.length → pc (ownC (csL d k) t g i) = (t.take i).count g
  | 0, _ => by rw [ownC, pc_zero]; simp
  | i + 1, hi => by
    have ih := ownC_pc ht g i (by omega)
    obtain ⟨x, hx⟩ := ex_of (l := t) (i := i) (by omega)
    rw [count_take hx, ownC, hx]
    by_cases h : x = g
    · subst h
      rw [if_pos rfl, if_pos rfl]
      obtain ⟨c, hc⟩ := ex_of (l := csL d k) (i := i) (by omega)
      rw [getD_at hc, pc_put c _ (by have := cs_lt hc; omega) (Nat.lt_of_lt_of_le (ownC_lt x i) (by decide)), ih]
      rw [Bool.eq_false_iff]
      intro hb
      obtain ⟨j, h1, h2, h3⟩ := (ownC_bit _ _ _ _ _).1 hb
      have := cs_inj (d := d) (k := k) (i := j) (j := i) (by omega) (by omega) (by rw [h3, getD_at hc])
      omega
    · rw [if_neg (by simpa using h), if_neg h, ih]; omega
section
variable {d : RoyD} (hO : RoyOk d) {k : Int} {t : List Nat} (ht : t ∈ truL d k)
include hO ht
theorem own_len : t.length = (csL d k).length := by rw [(tru_facts hO ht).2.2, cs_len]
/-- An agent sold just cards that he claims. -/
theorem own_can {g c : Nat} (h : (ownC (csL d k) t g t.length).testBit c = true) : (clm d k g).testBit c = true := by
  obtain ⟨j, h1, h2, h3⟩ := (ownC_bit _ _ _ _ _).1 h
  have hl := own_len hO ht
  obtain ⟨c', hc⟩ := ex_of (l := csL d k) (i := j) (by omega)
  rw [getD_at hc] at h3
  subst h3
  obtain ⟨w, hw⟩ := ex_of (l := wsL d k) (i := j) (by rw [← cs_len]; omega)
  have h5 := tru_at ht h2 hw
  rw [← claW hO hc hw] at h5
  rw [clm_bit hO]
  exact (claL_mem.1 h5).2
/-- An agent sold all cards that are surely his. -/
theorem own_sur {g c : Nat} (h : (surN d k g).testBit c = true) : (ownC (csL d k) t g t.length).testBit c = true := by
  rw [sur_bit hO] at h
  unfold surB at h
  rw [Bool.and_eq_true, decide_eq_true_eq] at h
  obtain ⟨h1, h2⟩ := h
  rw [one_of (claL_nodup _ _ _ _) (claL_mem.2 ⟨clm_lt hO h1, h1⟩)] at h2
  have hc12 : c < 12 := by
    unfold clmB at h1
    obtain ⟨x, hx, h3⟩ := List.any_eq_true.1 h1
    simp only [Bool.and_eq_true, decide_eq_true_eq] at h3
    have := (hO.r x hx).l1; omega
  have hw : whoN d k c ≠ 0 := fun e => by
    have := (sold_iff hO k c).1 e
    have h5 := List.eq_nil_of_length_eq_zero this
    have h6 : g ∈ claL d k c d.terms.length := claL_mem.2 ⟨clm_lt hO h1, h1⟩
    rw [h5] at h6; cases h6
  have hm : (c, whoN d k c) ∈ soldL d k := soldT_mem.2 ⟨hc12, rfl, hw⟩
  obtain ⟨j, hj⟩ := List.mem_iff_getElem?.1 hm
  have hcj : (csL d k)[j]? = some c := by unfold csL; rw [List.getElem?_map, hj]; rfl
  have hwj : (wsL d k)[j]? = some (whoN d k c) := by unfold wsL; rw [List.getElem?_map, hj]; rfl
  have hl := own_len hO ht
  obtain ⟨g', hg'⟩ := ex_of (l := t) (i := j) (by have := len_of hcj; omega)
  have h5 := tru_at ht hg' hwj
  rw [← claW hO hcj hwj] at h5
  have h6 := h2 g' h5
  subst h6
  exact (ownC_bit _ _ _ _ _).2 ⟨j, len_of hg', hg', getD_at hcj⟩
theorem own_cnt (g : Nat) : pc (surN d k g) ≤ t.count g ∧ t.count g ≤ pc (clm d k g) ∧ t.count g ≤ 12 := by
  have h1 := ownC_pc (own_len hO ht) g t.length (Nat.le_refl _)
  rw [List.take_length] at h1
  rw [← h1]
  refine ⟨pc_mono 12 (by omega) (sur_lt hO k g) (ownC_lt g _) fun i hi => own_sur hO ht hi, pc_mono 12 (by omega) (ownC_lt g _) (clm_lt12 hO k g) fun i hi => own_can hO ht hi, pc_12 (ownC_lt g _)⟩
theorem own_no1 (g : Nat) : surN d k g ^^^ (surN d k g &&& ownC (csL d k) t g t.length) = 0 := by
  apply Nat.eq_of_testBit_eq
  intro c
  rw [Nat.testBit_xor, Nat.testBit_and, Nat.zero_testBit]
  cases h : (surN d k g).testBit c
  · rfl
  · rw [own_sur hO ht h]; rfl
theorem own_no2 (g : Nat) : ownC (csL d k) t g t.length ^^^ (ownC (csL d k) t g t.length &&& clm d k g) = 0 := by
  apply Nat.eq_of_testBit_eq
  intro c
  rw [Nat.testBit_xor, Nat.testBit_and, Nat.zero_testBit]
  cases h : (ownC (csL d k) t g t.length).testBit c
  · rfl
  · rw [own_can hO ht h]; rfl
end
/-- What an agent is owed, if these sold the cards of the first kinds. -/
def owdV (d : RoyD) (Ts : List (List Nat)) (g i : Nat) : Int := sumI (-(d.paid.getD g 0) :: (List.range i).map fun j => comV (termN d g) (d.prices.getD j 0) ((Ts.getD j []).count g : Nat))
theorem owd_zero (d : RoyD) (Ts : List (List Nat)) (g : Nat) : owdV d Ts g 0 = -(d.paid.getD g 0) := by
  unfold owdV
  rw [sumI_cons]; simp [sumI]
theorem owd_next {d : RoyD} {Ts : List (List Nat)} {t : List Nat} {g : Nat} {x : Int} (hx : d.prices[Ts.length]? = some x) : owdV d (Ts ++ [t]) g (Ts.length + 1) = owdV d Ts g Ts.length + comV (termN d g) x (t.count g : Nat) := by
  unfold owdV
  rw [List.range_succ, List.map_append, ← List.cons_append, sumI_app]
  have e1 : (List.range Ts.length).map (fun j => comV (termN d g) (d.prices.getD j 0) (((Ts ++ [t]).getD j []).count g : Nat)) = (List.range Ts.length).map fun j => comV (termN d g) (d.prices.getD j 0) ((Ts.getD j []).count g : Nat) := by
    refine List.map_congr_left fun j hj => ?_
    have hj := List.mem_range.1 hj
    have : (Ts ++ [t]).getD j [] = Ts.getD j [] := by
      simp only [List.getD]
      rw [List.getElem?_append, if_pos hj]
    rw [this]
  have e2 : ((Ts ++ [t]).getD Ts.length []) = t := by
    simp only [List.getD]
    rw [List.getElem?_append, if_neg (by omega), Nat.sub_self]; rfl
  rw [e1]
  show _ + (0 + comV _ (d.prices.getD Ts.length 0) _) = _
  rw [e2, getD_at hx, Int.zero_add]
/-- Truths of the first kinds. -/
def TruS (d : RoyD) (Ts : List (List Nat)) : Prop := ∀ (j : Nat) (t : List Nat), Ts[j]? = some t → t ∈ truL d j
theorem TruS.put {d : RoyD} {Ts : List (List Nat)} (h : TruS d Ts) {t : List Nat} (ht : t ∈ truL d (Ts.length : Nat)) : TruS d (Ts ++ [t]) := fun j s hj => by
  rw [List.getElem?_append] at hj
  split at hj
  · exact h j s hj
  · rename_i hl
    have h1 := len_of hj
    have h2 : j = Ts.length := by simp at h1; omega
    subst h2
    rw [Nat.sub_self] at hj
    cases hj; exact ht
theorem owd_bd {d : RoyD} (hO : RoyOk d) {Ts : List (List Nat)} (hT : TruS d Ts) {g : Nat} (hg : g < d.terms.length) (hl : Ts.length ≤ d.prices.length) : -5497558138880 ≤ owdV d Ts g Ts.length ∧ owdV d Ts g Ts.length ≤ 5497558138880 := by
  have h := owe_bd hO hg (fun j => if j < Ts.length then (Ts.getD j []).count g else 0) (fun j => by
    split
    · rename_i hj
      obtain ⟨t, ht⟩ := ex_of hj
      rw [getD_at ht]
      exact (own_cnt hO (hT j t ht) g).2.2
    · omega) hl
  have e : (List.range Ts.length).map (fun k => comV (termN d g) (d.prices.getD k 0) ((if k < Ts.length then (Ts.getD k []).count g else 0 : Nat) : Int)) = (List.range Ts.length).map fun j => comV (termN d g) (d.prices.getD j 0) ((Ts.getD j []).count g : Nat) :=
    List.map_congr_left fun j hj => by rw [if_pos (List.mem_range.1 hj)]
  unfold owdV
  rw [e] at h
  exact h
theorem owd_span {d : RoyD} (hO : RoyOk d) {Ts : List (List Nat)} (hT : TruS d Ts) {g : Nat} (hg : g < d.terms.length) (hl : Ts.length = d.prices.length) : (oweV d g).1 ≤ owdV d Ts g Ts.length ∧ owdV d Ts g Ts.length ≤ (oweV d g).2 := by
  rw [(owe_ok hO hg).2]
  unfold owdV lowL higL
  rw [hl]
  show sumI _ ≤ sumI _ ∧ sumI _ ≤ sumI _
  rw [sumI_cons, sumI_cons, sumI_cons]
  have key : ∀ j, j ∈ List.range d.prices.length → pc (surN d j g) ≤ (Ts.getD j []).count g ∧ (Ts.getD j []).count g ≤ pc (clm d j g) := fun j hj => by
    obtain ⟨t, ht⟩ := ex_of (l := Ts) (i := j) (by rw [hl]; exact List.mem_range.1 hj)
    rw [getD_at ht]
    have := own_cnt hO (hT j t ht) g
    exact ⟨this.1, this.2.1⟩
  have h1 := sum_le (l := List.range d.prices.length) (f := fun k => comV (termN d g) (d.prices.getD k 0) (pc (surN d k g) : Nat)) (g := fun j => comV (termN d g) (d.prices.getD j 0) ((Ts.getD j []).count g : Nat)) fun j hj => com_le hO hg (List.mem_range.1 hj) (key j hj).1
  have h2 := sum_le (l := List.range d.prices.length) (f := fun j => comV (termN d g) (d.prices.getD j 0) ((Ts.getD j []).count g : Nat)) (g := fun k => comV (termN d g) (d.prices.getD k 0) (pc (clm d k g) : Nat)) fun j hj => com_le hO hg (List.mem_range.1 hj) (key j hj).2
  omega
/-- What a part gets in a truth lies within its span. -/
theorem get_span {d : RoyD} (hO : RoyOk d) {k part : Nat} {t : List Nat} (ht : t ∈ truL d k) (hk : k < d.prices.length) (hp : part < (sharesN d k).length) : getE d k part = 0 ∧ (getV d k part).1 ≤ getF d k part (cnt (0, 0, 0, 0) t) ∧ getF d k part (cnt (0, 0, 0, 0) t) ≤ (getV d k part).2 := by
  have h1 : isKd d k = true := by unfold isKd inI; simp only [Bool.and_eq_true, decide_eq_true_eq]; omega
  have h2 : inI (part : Nat) 0 (((sharesN d k).length : Int) - 1) = true := by unfold inI; simp only [Bool.and_eq_true, decide_eq_true_eq]; omega
  have h3 : getE d k part = 0 := openE_z.2 ⟨royB_iff.2 hO, by rw [h1, h2]; rfl⟩
  refine ⟨h3, ?_⟩
  have hm : getF d k part (cnt (0, 0, 0, 0) t) ∈ (truL d k).map (fun t => getF d k part (cnt (0, 0, 0, 0) t)) := List.mem_map.2 ⟨t, ht, rfl⟩
  have ev : getV d k part = (loL ((truL d k).map fun t => getF d k part (cnt (0, 0, 0, 0) t)), hiL ((truL d k).map fun t => getF d k part (cnt (0, 0, 0, 0) t))) := by
    unfold getV
    rw [if_pos h3, reach_map]
  obtain ⟨L, hL⟩ : ∃ L, L = (truL d k).map fun t => getF d k part (cnt (0, 0, 0, 0) t) := ⟨_, rfl⟩
  rw [← hL] at hm ev
  rw [ev]
  exact ⟨(loL_spec (List.ne_nil_of_mem hm)).2 _ hm, (hiL_spec (List.ne_nil_of_mem hm)).2 _ hm⟩
end Go.RoyM
namespace Go.RoyM
open Go Go.Sy
def mvR (σ : Nat → Nat) (x : RepD) : RepD := ⟨((σ x.ag.toNat : Nat) : Int), x.kd, x.fi, x.la⟩
theorem clmB_iff {d : RoyD} {k : Int} {g c : Nat} : clmB d k g c = true ↔ ∃ x ∈ d.reps, x.kd = k ∧ x.ag = (g : Int) ∧ x.fi ≤ c ∧ (c : Int) ≤ x.la := by
  unfold clmB
  rw [List.any_eq_true]
  simp only [Bool.and_eq_true, decide_eq_true_eq, and_assoc]
structure TurnD (d d' : RoyD) (σ τ : Nat → Nat) : Prop where
  len : d'.terms.length = d.terms.length
  lenp : d'.paid.length = d.paid.length
  s1 : ∀ a, a < d.terms.length → σ a < d.terms.length ∧ τ (σ a) = a
  t1 : ∀ b, b < d.terms.length → τ b < d.terms.length ∧ σ (τ b) = b
  tm : ∀ a, a < d.terms.length → termN d' (σ a) = termN d a
  pd : ∀ a, a < d.terms.length → d'.paid.getD (σ a) 0 = d.paid.getD a 0
  pr : d'.prices = d.prices
  sh : d'.shares = d.shares
  rp : d'.reps = d.reps.reverse.map (mvR σ)
section
variable {d d' : RoyD} {σ τ : Nat → Nat} (hT : TurnD d d' σ τ) (hO : RoyOk d)
include hT hO
theorem turn_ok : RoyOk d' := by
  have hpl := hO.npd
  refine ⟨by rw [hT.len]; exact hO.nt, by rw [hT.pr]; exact hO.np, by rw [hT.sh, hT.pr]; exact hO.ns, by rw [hT.rp]; simp; exact hO.nr, by rw [hT.len, hT.lenp]; exact hO.npd, fun t ht => ?_, fun n hn => ?_, by rw [hT.pr]; exact hO.p, by rw [hT.sh]; exact hO.s, fun x hx => ?_⟩
  · obtain ⟨b, hb⟩ := List.mem_iff_getElem?.1 ht
    have hl := len_of hb
    rw [hT.len] at hl
    obtain ⟨h1, h2⟩ := hT.t1 b hl
    have h3 := hT.tm (τ b) h1
    rw [h2, term_at hb] at h3
    obtain ⟨s, hs⟩ := ex_of h1
    rw [term_at hs] at h3
    rw [h3]; exact hO.t s (List.mem_of_getElem? hs)
  · obtain ⟨b, hb⟩ := List.mem_iff_getElem?.1 hn
    have hl := len_of hb
    rw [hT.lenp, hpl] at hl
    obtain ⟨h1, h2⟩ := hT.t1 b hl
    have h3 := hT.pd (τ b) h1
    rw [h2, getD_at hb] at h3
    obtain ⟨s, hs⟩ := ex_of (l := d.paid) (i := τ b) (by omega)
    rw [getD_at hs] at h3
    rw [h3]; exact hO.pd s (List.mem_of_getElem? hs)
  · rw [hT.rp] at hx
    obtain ⟨y, hy, rfl⟩ := List.mem_map.1 hx
    have hyo := hO.r y (List.mem_reverse.1 hy)
    have h1 := hyo.a0; have h2 := hyo.a1
    have h3 := hT.s1 y.ag.toNat (by omega)
    exact ⟨by show (0 : Int) ≤ (σ y.ag.toNat : Nat); omega, by rw [hT.len]; show ((σ y.ag.toNat : Nat) : Int) < _; omega, hyo.k0, by rw [hT.pr]; exact hyo.k1, hyo.f0, hyo.f1, hyo.l1⟩
theorem turn_clm (k : Int) {a : Nat} (ha : a < d.terms.length) (c : Nat) : clmB d' k (σ a) c = clmB d k a c := by
  rw [Bool.eq_iff_iff, clmB_iff, clmB_iff, hT.rp]
  constructor
  · rintro ⟨x, hx, h0, h1, h2⟩
    obtain ⟨y, hy, rfl⟩ := List.mem_map.1 hx
    have hy := List.mem_reverse.1 hy
    have hyo := hO.r y hy
    have h3 := hyo.a0; have h4 := hyo.a1
    refine ⟨y, hy, h0, ?_, h2⟩
    replace h1 : ((σ y.ag.toNat : Nat) : Int) = (σ a : Nat) := h1
    have h5 : σ y.ag.toNat = σ a := by omega
    have h6 := (hT.s1 y.ag.toNat (by omega)).2
    rw [h5, (hT.s1 a ha).2] at h6
    omega
  · rintro ⟨y, hy, h0, h1, h2⟩
    refine ⟨mvR σ y, List.mem_map.2 ⟨y, List.mem_reverse.2 hy, rfl⟩, h0, ?_, h2⟩
    show ((σ y.ag.toNat : Nat) : Int) = (σ a : Nat)
    rw [h1, Int.toNat_natCast]
theorem turn_clm2 (k : Int) {b : Nat} (hb : b < d.terms.length) (c : Nat) : clmB d' k b c = clmB d k (τ b) c := by
  obtain ⟨h1, h2⟩ := hT.t1 b hb
  have := turn_clm hT hO k h1 c
  rwa [h2] at this
theorem turn_sur (k : Int) {a : Nat} (ha : a < d.terms.length) (c : Nat) : surB d' k (σ a) c = surB d k a c := by
  have hO' := turn_ok hT hO
  unfold surB
  rw [turn_clm hT hO k ha]
  cases hc : clmB d k a c
  · rfl
  · rw [Bool.true_and, Bool.true_and]
    have h1 : σ a ∈ claL d' k c d'.terms.length := claL_mem.2 ⟨by rw [hT.len]; exact (hT.s1 a ha).1, by rw [turn_clm hT hO k ha, hc]⟩
    have h2 : a ∈ claL d k c d.terms.length := claL_mem.2 ⟨ha, hc⟩
    rw [decide_eq_decide, one_of (claL_nodup _ _ _ _) h1, one_of (claL_nodup _ _ _ _) h2]
    constructor
    · intro h j hj
      obtain ⟨h3, h4⟩ := claL_mem.1 hj
      have h5 := h (σ j) (claL_mem.2 ⟨by rw [hT.len]; exact (hT.s1 j h3).1, by rw [turn_clm hT hO k h3, h4]⟩)
      have h6 := (hT.s1 j h3).2
      rw [h5, (hT.s1 a ha).2] at h6
      exact h6.symm
    · intro h j hj
      obtain ⟨h3, h4⟩ := claL_mem.1 hj
      rw [hT.len] at h3
      obtain ⟨h5, h6⟩ := hT.t1 j h3
      rw [turn_clm2 hT hO k h3] at h4
      rw [← h6, h (τ j) (claL_mem.2 ⟨h5, h4⟩)]
theorem turn_owe {a : Nat} (ha : a < d.terms.length) : oweV d' (σ a) = oweV d a ∧ oweE d' (σ a) = 0 := by
  have hO' := turn_ok hT hO
  have hs : σ a < d'.terms.length := by rw [hT.len]; exact (hT.s1 a ha).1
  refine ⟨?_, (owe_ok hO' hs).1⟩
  rw [(owe_ok hO ha).2, (owe_ok hO' hs).2]
  have e1 : ∀ k : Int, surN d' k (σ a) = surN d k a := fun k => Nat.eq_of_testBit_eq fun i => by rw [sur_bit hO, sur_bit hO', turn_sur hT hO k ha]
  have e2 : ∀ k : Int, clm d' k (σ a) = clm d k a := fun k => Nat.eq_of_testBit_eq fun i => by rw [clm_bit hO, clm_bit hO', turn_clm hT hO k ha]
  unfold lowL higL
  rw [hT.pr, hT.pd a ha, hT.tm a ha]
  have e3 : (fun k : Nat => comV (termN d a) (d.prices.getD k 0) (pc (surN d' k (σ a)) : Nat)) = fun k : Nat => comV (termN d a) (d.prices.getD k 0) (pc (surN d k a) : Nat) := funext fun k => by rw [e1]
  have e4 : (fun k : Nat => comV (termN d a) (d.prices.getD k 0) (pc (clm d' k (σ a)) : Nat)) = fun k : Nat => comV (termN d a) (d.prices.getD k 0) (pc (clm d k a) : Nat) := funext fun k => by rw [e2]
  rw [e3, e4]
theorem turn_cs (k : Int) : ∀ m, csT d' k m = csT d k m
  | 0 => rfl
  | m + 1 => by
    have ih := turn_cs k m
    have hO' := turn_ok hT hO
    have hiff : whoN d' k m = 0 ↔ whoN d k m = 0 := by
      rw [sold_iff hO', sold_iff hO]
      constructor
      · intro h
        have h1 := List.eq_nil_of_length_eq_zero h
        cases h2 : claL d k m d.terms.length with
        | nil => rfl
        | cons j l =>
          have hj : j ∈ claL d k m d.terms.length := by rw [h2]; exact .head _
          obtain ⟨h3, h4⟩ := claL_mem.1 hj
          have : σ j ∈ claL d' k m d'.terms.length := claL_mem.2 ⟨by rw [hT.len]; exact (hT.s1 j h3).1, by rw [turn_clm hT hO k h3, h4]⟩
          rw [h1] at this; cases this
      · intro h
        have h1 := List.eq_nil_of_length_eq_zero h
        cases h2 : claL d' k m d'.terms.length with
        | nil => rfl
        | cons j l =>
          have hj : j ∈ claL d' k m d'.terms.length := by rw [h2]; exact .head _
          obtain ⟨h3, h4⟩ := claL_mem.1 hj
          rw [hT.len] at h3
          rw [turn_clm2 hT hO k h3] at h4
          have : τ j ∈ claL d k m d.terms.length := claL_mem.2 ⟨(hT.t1 j h3).1, h4⟩
          rw [h1] at this; cases this
    by_cases hz : whoN d k m = 0
    · rw [csT_no hz, csT_no (hiff.2 hz), ih]
    · rw [csT_put hz, csT_put (fun h => hz (hiff.1 h)), ih]
omit hT in
theorem tru_who (k : Int) (t : List Nat) : (t ∈ truL d k ↔ t.length = (csT d k 12).length ∧ ∀ (i g c : Nat), t[i]? = some g → (csT d k 12)[i]? = some c → g < d.terms.length ∧ clmB d k g c = true) := by
  have hw : wsL d k = (csT d k 12).map (whoN d k) := by unfold wsL soldL; rw [ws_map]
  unfold truL
  rw [hw]
  constructor
  · intro h
    refine ⟨by rw [(tru_mem h).1, List.length_map], fun i g c hg hc => ?_⟩
    have := tru_at h hg (w := whoN d k c) (by rw [List.getElem?_map, hc]; rfl)
    rw [who_clr hO, List.mem_filter, List.mem_range] at this
    exact this
  · rintro ⟨h1, h2⟩
    refine tru_of (by rw [h1, List.length_map]) fun i g w hg hw => ?_
    rw [List.getElem?_map] at hw
    cases hc : (csT d k 12)[i]? with
    | none => rw [hc] at hw; cases hw
    | some c =>
      rw [hc] at hw; cases hw
      rw [who_clr hO, List.mem_filter, List.mem_range]
      exact h2 i g c hg hc
end
theorem count_inj {σ τ : Nat → Nat} {n : Nat} (hs : ∀ a, a < n → τ (σ a) = a) : ∀ {t : List Nat}, (∀ x ∈ t, x < n) → ∀ {a : Nat}, a < n → (t.map σ).count (σ a) = t.count a
  | [], _, a, _ => rfl
  | x :: t, h, a, ha => by
    have ih := count_inj hs (t := t) (fun y hy => h y (.tail _ hy)) ha
    rw [List.map_cons, List.count_cons, List.count_cons, ih]
    congr 1
    by_cases e : x = a
    · subst e; simp
    · have hne : ¬ σ x = σ a := fun e2 => e (by rw [← hs x (h x (.head _)), e2, hs a ha])
      have e1 : (σ x == σ a) = false := by simpa using hne
      have e2 : (x == a) = false := by simpa using e
      rw [e1, e2]
theorem perm_turn {σ τ : Nat → Nat} {n : Nat} (hs : ∀ a, a < n → σ a < n ∧ τ (σ a) = a) (ht : ∀ b, b < n → τ b < n ∧ σ (τ b) = b) : ((List.range n).map σ).Perm (List.range n) := by
  rw [List.perm_ext_iff_of_nodup ?_ List.nodup_range]
  · intro x
    rw [List.mem_map, List.mem_range]
    constructor
    · rintro ⟨a, ha, rfl⟩; exact (hs a (List.mem_range.1 ha)).1
    · intro hx; exact ⟨τ x, List.mem_range.2 (ht x hx).1, (ht x hx).2⟩
  · rw [List.Nodup, List.pairwise_map]
    refine List.Pairwise.imp_of_mem (fun {a b} ha hb hab e => hab ?_) List.nodup_range
    rw [← (hs a (List.mem_range.1 ha)).2, e, (hs b (List.mem_range.1 hb)).2]
section
variable {d d' : RoyD} {σ τ : Nat → Nat} (hT : TurnD d d' σ τ) (hO : RoyOk d)
include hT hO
theorem turn_tot (x : Int) {t : List Nat} (ht : ∀ y ∈ t, y < d.terms.length) : totV d' x (cnt (0, 0, 0, 0) (t.map σ)) = totV d x (cnt (0, 0, 0, 0) t) := by
  have hn := hO.nt
  unfold totV
  rw [hT.len, tot_cnt x (fun y hy => by
    obtain ⟨z, hz, rfl⟩ := List.mem_map.1 hy
    have := (hT.s1 z (ht z hz)).1; omega) _ hn, tot_cnt x (fun y hy => by have := ht y hy; omega) _ hn]
  have hp := perm_turn hT.s1 hT.t1
  have h1 : sumI ((List.range d.terms.length).map fun j => comV (termN d' j) x ((t.map σ).count j : Nat)) = sumI (((List.range d.terms.length).map σ).map fun j => comV (termN d' j) x ((t.map σ).count j : Nat)) := sum_perm (hp.symm.map _)
  rw [h1, List.map_map]
  congr 1
  refine List.map_congr_left fun a ha => ?_
  have ha := List.mem_range.1 ha
  show comV (termN d' (σ a)) x ((t.map σ).count (σ a) : Nat) = _
  rw [hT.tm a ha, count_inj (fun a ha => (hT.s1 a ha).2) ht ha]
theorem turn_tru (k : Int) (F F' : List Nat → Int) (hF : ∀ t, t ∈ truL d k → F' (t.map σ) = F t) : ∀ x, x ∈ (truL d' k).map F' ↔ x ∈ (truL d k).map F := by
  have hO' := turn_ok hT hO
  have hcs := turn_cs hT hO k 12
  intro x
  rw [List.mem_map, List.mem_map]
  have fwd : ∀ t, t ∈ truL d k → t.map σ ∈ truL d' k := fun t h => by
    rw [tru_who hO] at h
    have key : (t.map σ).length = (csT d' k 12).length ∧ ∀ (i g c : Nat), (t.map σ)[i]? = some g → (csT d' k 12)[i]? = some c → g < d'.terms.length ∧ clmB d' k g c = true := by
      rw [hcs]
      refine ⟨by rw [List.length_map]; exact h.1, fun i g c hg hc => ?_⟩
      rw [List.getElem?_map] at hg
      cases e : t[i]? with
      | none => rw [e] at hg; cases hg
      | some y =>
        rw [e] at hg; cases hg
        obtain ⟨h1, h2⟩ := h.2 i y c e hc
        exact ⟨by rw [hT.len]; exact (hT.s1 y h1).1, by rw [turn_clm hT hO k h1, h2]⟩
    have hw : wsL d' k = (csT d' k 12).map (whoN d' k) := by unfold wsL soldL; rw [ws_map]
    unfold truL
    rw [hw]
    refine tru_of (by rw [key.1, List.length_map]) fun i g w hg hw => ?_
    rw [List.getElem?_map] at hw
    cases hc : (csT d' k 12)[i]? with
    | none => rw [hc] at hw; cases hw
    | some c =>
      rw [hc] at hw; cases hw
      rw [who_clr hO', List.mem_filter, List.mem_range]
      exact key.2 i g c hg hc
  constructor
  · rintro ⟨t, ht, rfl⟩
    have h1 := tru_mem ht
    have hw : wsL d' k = (csT d' k 12).map (whoN d' k) := by unfold wsL soldL; rw [ws_map]
    have h2 : ∀ (i g c : Nat), t[i]? = some g → (csT d' k 12)[i]? = some c → g < d'.terms.length ∧ clmB d' k g c = true := fun i g c hg hc => by
      have := tru_at ht hg (w := whoN d' k c) (by rw [hw, List.getElem?_map, hc]; rfl)
      rw [who_clr hO', List.mem_filter, List.mem_range] at this
      exact this
    have hlt : ∀ y ∈ t, y < d.terms.length := fun y hy => by have := h1.2 y hy; rwa [hT.len] at this
    have hback : t.map τ ∈ truL d k := by
      rw [tru_who hO]
      refine ⟨?_, fun i g c hg hc => ?_⟩
      · rw [List.length_map, h1.1, hw, List.length_map, hcs]
      · rw [List.getElem?_map] at hg
        cases e : t[i]? with
        | none => rw [e] at hg; cases hg
        | some y =>
          rw [e] at hg; cases hg
          have hy := hlt y (List.mem_of_getElem? e)
          have h3 := (h2 i y c e (by rw [hcs]; exact hc)).2
          rw [turn_clm2 hT hO k hy] at h3
          exact ⟨(hT.t1 y hy).1, h3⟩
    have hrt : (t.map τ).map σ = t := by
      rw [List.map_map]
      conv => rhs; rw [← List.map_id t]
      refine List.map_congr_left fun y hy => (hT.t1 y (hlt y hy)).2
    refine ⟨t.map τ, hback, ?_⟩
    rw [← hF _ hback, hrt]
  · rintro ⟨t, ht, rfl⟩
    exact ⟨t.map σ, fwd t ht, hF t ht⟩
theorem turn_all {k : Nat} (hk : k < d.prices.length) : allV d' k = allV d k ∧ allE d' k = 0 := by
  have hO' := turn_ok hT hO
  have hk' : k < d'.prices.length := by rw [hT.pr]; exact hk
  refine ⟨?_, allE_ok hO' hk'⟩
  have v1 := allV_ok (allE_ok hO hk)
  have v2 := allV_ok (allE_ok hO' hk')
  rw [reach_map] at v1 v2
  have ep : priceN d' k = priceN d k := by unfold priceN; rw [hT.pr]
  have h := turn_tru hT hO k (fun t => totV d (priceN d k) (cnt (0, 0, 0, 0) t)) (fun t => totV d' (priceN d' k) (cnt (0, 0, 0, 0) t)) fun t ht => by
    rw [ep]; exact turn_tot hT hO _ (tru_mem ht).2
  have hne : (truL d' k).map (fun t => totV d' (priceN d' k) (cnt (0, 0, 0, 0) t)) ≠ [] := by simpa using truL_ne hO' k
  obtain ⟨e1, e2⟩ := lo_same h hne
  rw [v1, v2, e1, e2]
theorem turn_get {k part : Nat} (hk : k < d.prices.length) (hp : part < (sharesN d k).length) : getV d' k part = getV d k part ∧ getE d' k part = 0 ∧ getE d k part = 0 := by
  have hO' := turn_ok hT hO
  have hk' : k < d'.prices.length := by rw [hT.pr]; exact hk
  have es : sharesN d' k = sharesN d k := by unfold sharesN; rw [hT.sh]
  have ep : priceN d' k = priceN d k := by unfold priceN; rw [hT.pr]
  have g0 : ∀ {d : RoyD}, RoyOk d → k < d.prices.length → part < (sharesN d k).length → getE d k part = 0 := fun {d} hO hk hp => by
    have h1 : isKd d k = true := by unfold isKd inI; simp only [Bool.and_eq_true, decide_eq_true_eq]; omega
    have h2 : inI (part : Nat) 0 (((sharesN d k).length : Int) - 1) = true := by unfold inI; simp only [Bool.and_eq_true, decide_eq_true_eq]; omega
    exact openE_z.2 ⟨royB_iff.2 hO, by rw [h1, h2]; rfl⟩
  have h3 := g0 hO hk hp
  have h4 := g0 hO' hk' (by rw [es]; exact hp)
  refine ⟨?_, h4, h3⟩
  have v1 : getV d k part = (loL ((truL d k).map fun t => getF d k part (cnt (0, 0, 0, 0) t)), hiL ((truL d k).map fun t => getF d k part (cnt (0, 0, 0, 0) t))) := by unfold getV; rw [if_pos h3, reach_map]
  have v2 : getV d' k part = (loL ((truL d' k).map fun t => getF d' k part (cnt (0, 0, 0, 0) t)), hiL ((truL d' k).map fun t => getF d' k part (cnt (0, 0, 0, 0) t))) := by unfold getV; rw [if_pos h4, reach_map]
  have h := turn_tru hT hO k (fun t => getF d k part (cnt (0, 0, 0, 0) t)) (fun t => getF d' k part (cnt (0, 0, 0, 0) t)) fun t ht => by
    unfold getF poolV
    rw [es, ep, turn_tot hT hO _ (tru_mem ht).2, cards_N, cards_N, cards_cnt, cards_cnt, List.length_map]
  have hne : (truL d' k).map (fun t => getF d' k part (cnt (0, 0, 0, 0) t)) ≠ [] := by simpa using truL_ne hO' k
  obtain ⟨e1, e2⟩ := lo_same h hne
  rw [v1, v2, e1, e2]
end
/-- Agents turned by so many. -/
def rot (n s a : Nat) : Nat := (a + s) % n
def rotB (n s b : Nat) : Nat := (b + (n - s % n)) % n
theorem rot_ok {n s a : Nat} (ha : a < n) : rot n s a < n ∧ rotB n s (rot n s a) = a := by
  have hn : 0 < n := by omega
  unfold rot rotB
  refine ⟨Nat.mod_lt _ hn, ?_⟩
  have h1 := Nat.mod_lt s hn
  have e : (a + s) % n = if a + s % n < n then a + s % n else a + s % n - n := by
    rw [← Nat.add_mod_mod]
    split
    · exact Nat.mod_eq_of_lt (by assumption)
    · rw [Nat.mod_eq_sub_mod (by omega), Nat.mod_eq_of_lt (by omega)]
  rw [e]
  split
  · rw [show a + s % n + (n - s % n) = a + n by omega, Nat.add_mod_right, Nat.mod_eq_of_lt ha]
  · rw [show a + s % n - n + (n - s % n) = a by omega, Nat.mod_eq_of_lt ha]
theorem rotB_ok {n s b : Nat} (hb : b < n) : rotB n s b < n ∧ rot n s (rotB n s b) = b := by
  have hn : 0 < n := by omega
  unfold rot rotB
  refine ⟨Nat.mod_lt _ hn, ?_⟩
  have h1 := Nat.mod_lt s hn
  rw [← Nat.add_mod_mod]
  have e : (b + (n - s % n)) % n = if b + (n - s % n) < n then b + (n - s % n) else b + (n - s % n) - n := by
    split
    · exact Nat.mod_eq_of_lt (by assumption)
    · rw [Nat.mod_eq_sub_mod (by omega), Nat.mod_eq_of_lt (by omega)]
  rw [e]
  split
  · rw [show b + (n - s % n) + s % n = b + n by omega, Nat.add_mod_right, Nat.mod_eq_of_lt hb]
  · rw [show b + (n - s % n) - n + s % n = b by omega, Nat.mod_eq_of_lt hb]
end Go.RoyM
namespace Go.RoyM
open Go Go.Sy
theorem spl_get {c : Array Value} {off : Nat} {vs : List Value} (h : off + vs.length ≤ c.size) (j : Nat) : (spl c off vs)[j]? = if off ≤ j ∧ j < off + vs.length then vs[j - off]? else c[j]? := by
  have hc : c.toList.length = c.size := Array.length_toList
  have hl : (c.toList.take off).length = off := by rw [List.length_take]; omega
  unfold spl
  rw [List.getElem?_toArray]
  by_cases h1 : j < off
  · rw [List.append_assoc, List.getElem?_append_left (by omega), List.getElem?_take_of_lt h1, if_neg (by omega), Array.getElem?_toList]
  · by_cases h2 : j < off + vs.length
    · rw [List.append_assoc, List.getElem?_append_right (by omega), hl, List.getElem?_append_left (by omega), if_pos ⟨by omega, h2⟩]
    · rw [List.getElem?_append_right (by rw [List.length_append]; omega), List.length_append, hl, List.getElem?_drop, if_neg (by omega), Array.getElem?_toList]
      congr 1; omega
theorem spl_sizeN {c : Array Value} {off : Nat} {vs : List Value} (h : off + vs.length ≤ c.size) : (spl c off vs).size = c.size := by
  unfold spl
  simp only [List.size_toArray, List.length_append, List.length_take, List.length_drop, Array.length_toList]
  omega
/-- Terms that are set so far lie where the agents' new numbers say. -/
def TF (d : RoyD) (τ : Nat → Nat) (cur : Array Value) (i : Nat) : Prop :=
  cur.size = d.terms.length * 3 ∧ ∀ j, j < d.terms.length → τ j < i → cellsAt cur (0 + ((j : Nat) : Int).toNat * 3) 3 = some (tmC (termN d (τ j)))
theorem TF.put {d : RoyD} {σ τ : Nat → Nat} {cur : Array Value} {i : Nat} (h : TF d τ cur i) (hs : σ i < d.terms.length) (e : τ (σ i) = i) (ht : ∀ b, b < d.terms.length → σ (τ b) = b) : TF d τ (spl cur (0 + ((σ i : Nat) : Int).toNat * 3) (tmC (termN d i))) (i + 1) := by
  have h0 := h.1
  have hz : (0 + ((σ i : Nat) : Int).toNat * 3) + (tmC (termN d i)).length ≤ cur.size := by rw [Int.toNat_natCast]; show _ + 3 ≤ _; omega
  refine ⟨by rw [spl_sizeN hz]; exact h0, fun j hj hlt => ?_⟩
  have key : ∀ r v, (tmC (termN d (τ j)))[r]? = some v → (spl cur (0 + ((σ i : Nat) : Int).toNat * 3) (tmC (termN d i)))[(0 + ((j : Nat) : Int).toNat * 3) + r]? = some v := fun r v hr => by
    have hr3 : r < 3 := len_of hr
    rw [spl_get hz]
    rw [Int.toNat_natCast, Int.toNat_natCast]
    show (if _ ∧ _ < _ + 3 then _ else _) = _
    by_cases e2 : τ j = i
    · have e3 : j = σ i := by rw [← e2, ht j hj]
      rw [if_pos (by rw [e3]; omega), ← hr, e2]
      congr 1; rw [e3]; omega
    · have e3 : j ≠ σ i := fun e3 => e2 (by rw [e3, e])
      rw [if_neg (by omega)]
      have := (cellsAt_get 3 _ _ (h.2 j hj (by omega))).2 r v hr
      rw [Int.toNat_natCast] at this
      exact this
  exact cellsAt_of (tmC (termN d (τ j))) _ key
theorem TF.tat {d : RoyD} {τ : Nat → Nat} {cur : Array Value} {B : Nat} {w : World} {T : TypeId} {fr : Nat × Nat} (h : TF d τ cur d.terms.length) (ht : ∀ b, b < d.terms.length → τ b < d.terms.length) (hb : w.heap[B]? = some (.cells cur T fr)) : TAt 3 tmC w (some ⟨B, 0, none⟩) ((List.range d.terms.length).map fun j => termN d (τ j)) := fun i s hi => by
  have hl := len_of hi
  rw [List.length_map, List.length_range] at hl
  rw [List.getElem?_map, List.getElem?_range hl] at hi
  cases hi
  exact ⟨B, 0, cur, T, fr, rfl, hb, h.2 i hl (ht i hl)⟩
def turnD (d : RoyD) (σ τ : Nat → Nat) : RoyD := ⟨(List.range d.terms.length).map fun j => termN d (τ j), d.prices, d.shares, d.reps.reverse.map (mvR σ), (List.range d.terms.length).map fun j => d.paid.getD (τ j) 0⟩
theorem turnD_ok {d : RoyD} (hO : RoyOk d) {σ τ : Nat → Nat} (hs : ∀ a, a < d.terms.length → σ a < d.terms.length ∧ τ (σ a) = a) (ht : ∀ b, b < d.terms.length → τ b < d.terms.length ∧ σ (τ b) = b) : TurnD d (turnD d σ τ) σ τ := by
  have hpl := hO.npd
  have at_ : ∀ {α : Type} (f : Nat → α) (z : α) {j : Nat}, j < d.terms.length → ((List.range d.terms.length).map f).getD j z = f j := fun f z j hj => by
    rw [List.getD_eq_getElem?_getD, List.getElem?_map, List.getElem?_range hj]; rfl
  refine ⟨by simp [turnD], by simp [turnD, hpl], hs, ht, fun a ha => ?_, fun a ha => ?_, rfl, rfl, rfl⟩
  · have h1 : (turnD d σ τ).terms[σ a]? = some (termN d (τ (σ a))) := by
      show ((List.range d.terms.length).map _)[σ a]? = _
      rw [List.getElem?_map, List.getElem?_range (hs a ha).1]; rfl
    rw [term_at h1, (hs a ha).2]
  · show ((List.range d.terms.length).map _).getD (σ a) 0 = _
    rw [at_ _ _ (hs a ha).1, (hs a ha).2]
theorem rev_take {l : List RepD} {f : RepD → RepD} {i : Nat} {r : RepD} (hr : l[i]? = some r) : ((l.take (i + 1)).map f).flatMap rpC = ((l.take i).map f).flatMap rpC ++ rpC (f r) := by
  rw [List.take_add_one, hr]; simp
abbrev ivC (x : Int) : List Value := [.int .i64 x]
theorem iat_tat {w : World} {oa : Option Addr} {l : List Int} (h : IAt w oa l) : TAt 1 ivC w oa l := fun i s hi =>
  let ⟨blk, off, c, T, fr, h1, h2, h3⟩ := h i s hi
  ⟨blk, off, c, T, fr, h1, h2, cellsAt_of (ivC s) _ fun j v hj => by
    have h4 : j < 1 := len_of hj
    obtain rfl : j = 0 := by omega
    cases hj; exact h3⟩
theorem tat_iat {w : World} {oa : Option Addr} {l : List Int} (h : TAt 1 ivC w oa l) : IAt w oa l := fun i s hi =>
  let ⟨blk, off, c, T, fr, h1, h2, h3⟩ := h i s hi
  ⟨blk, off, c, T, fr, h1, h2, (cellsAt_get 1 _ _ h3).2 0 _ rfl⟩
theorem iv_1c (l : List Int) : (l.flatMap ivC).all (·.oneCell') = true := by
  rw [List.all_eq_true]
  intro v hv
  obtain ⟨x, _, hx⟩ := List.mem_flatMap.1 hv
  rw [List.mem_singleton.1 hx]; rfl
theorem mem5 {α : Type} {q a b c d e : α} {l : List α} (h : q ∈ [a, b, c, d, e]) : q ∈ a :: b :: c :: d :: e :: l := List.mem_append_left l h
theorem mem3 {α : Type} {q a b c : α} {l : List α} (h : q ∈ [a, b, c]) : q ∈ a :: b :: c :: l := List.mem_append_left l h
end Go.RoyM
namespace Go.Proofs.Ytkfkifkdncdhoaa
open Go Go.Sy Go.RoyM
theorem map_getD9 (f : Nat → Int) {n j : Nat} (hj : j < n) : ((List.range n).map f).getD j 0 = f j := by
  rw [List.getD_eq_getElem?_getD, List.getElem?_map, List.getElem?_range hj]; rfl
theorem eb33 : elemB Try.prog 33 = some (24, 3, 24, .agg #[.int .i64 0, .int .i64 0, .int .i64 0]) := by kernel_rfl
theorem fl66 : flatB Try.prog 66 = some 4 := by kernel_rfl
theorem rq_1c (l : List RepD) : (l.flatMap rpC).all (·.oneCell') = true := by
  rw [List.all_eq_true]
  intro v hv
  obtain ⟨x, _, hx⟩ := List.mem_flatMap.1 hv
  simp only [rpC, List.mem_cons, List.not_mem_nil, or_false] at hx
  rcases hx with rfl | rfl | rfl | rfl <;> rfl
theorem own_cap9 {e size m c : Nat} {oa : Option Addr} {xs : List Value} {X : List (Nat × Obj)} (h : OwnSl e size (.slice oa m c) m xs X) : m ≤ c := by
  rcases h.2 with ⟨h1, h2, _⟩ | ⟨B, cap, cur, h1, _, h3, _⟩
  · omega
  · cases h1; exact h3
theorem p47 (x : Int) (s n B3 B5 : Nat) (σ : Nat → Nat) (u : World) (hσ : σ = rot n s) (q3 : u.heap[B3]? = some (.cells #[.int .u8 (s : Nat)] 5 (0, 0))) (q5 : u.heap[B5]? = some (.cells #[.int .i64 (n : Nat)] 3 (0, 0))) (hx : 0 ≤ x ∧ x ≤ 1000) (hs : s ≤ 255) (hn : 1 ≤ n ∧ n ≤ 1000) : Calls Try.prog 47 #[.int .i64 x, ptr B3 0, ptr B5 0] u (Ret fun v w' => v = .int .i64 (σ x.toNat : Nat) ∧ Ext [] u w') := by
  refine calls_of Try.func47 rfl rfl (fun a hf => ?_)
  have hh := Hp.init u []
  refine sy_sq ?_
  refine o_v hf hh (yv_assign rfl) ?_; clear hf a; intro a hf
  refine o_end ?_
  refine sy_seq ?_
  obtain ⟨y, rfl⟩ : ∃ y : Nat, x = y := ⟨x.toNat, by omega⟩
  refine sy_ops ?_
  refine o_v hf hh (yv_move rfl) ?_; clear hf a; intro a hf
  refine o_v hf hh (y_ld Try.sc_5 rfl) ?_; clear hf a; intro a hf
  first | refine o_v hf hh (yv_convx (.inl rfl) (by kernel_rfl) Try.un_3 rfl (by omega) (by simp only [IntKind.top]; omega)) ?_; clear hf a; intro a hf | refine o_v hf hh (yv_conv (by kernel_rfl) Try.un_3 rfl) ?_; clear hf a; intro a hf
  refine o_v hf hh (y_add rfl rfl) ?_; clear hf a; intro a hf
  refine o_v hf hh (y_ld Try.sc_3 rfl) ?_; clear hf a; intro a hf
  refine ops_v hf hh (yv_cast (yv_rem rfl rfl (by omega) (by omega)) (intv (b := ((σ y : Nat) : Int)) (by rw [hσ]; unfold rot; rw [Int.natCast_emod, Int.natCast_add]))) (.inl rfl) rfl rfl rfl ?_; clear hf a; intro a hf
  refine o_v hf hh (yv_assign rfl) ?_; clear hf a; intro a hf
  refine o_end ?_
  refine sy_ret ?_
  refine ret_r hf rfl rfl ?_
  exact ⟨by rw [Int.toNat_natCast]; rfl, hh.ext⟩
set_option maxRecDepth 100000 in
set_option maxHeartbeats 8000000 in
theorem p13 (d : RoyD) (p : Pl) (z : Int) (u : World) (hR : RoyIn u d p) (hz : 0 ≤ z ∧ z ≤ 255) : Calls Try.prog 13 #[.agg (royC d p), .int .u8 z] u (Ret fun v w' => v = .bool true ∧ Ext [] u w') := by
  refine calls_of Try.func13 rfl rfl (fun a hf => ?_)
  have hh := Hp.init u []
  obtain ⟨st, sp, ss, sr, sd, ct, cp, cs, cr, cd⟩ := p
  obtain ⟨s, rfl⟩ : ∃ s : Nat, z = s := ⟨z.toNat, by omega⟩
  refine sy_sq ?_
  refine o_box hf hh ?_; clear hf hh a; intro B2 a w hf hh
  refine o_box hf hh ?_; clear hf hh a; intro B3 a w hf hh
  refine o_v hf hh (yv_assign rfl) ?_; clear hf a; intro a hf
  refine o_end ?_
  refine sy_seq ?_
  refine sy_sq ?_
  refine o_v hf hh (y_lds Try.ag_37 rfl) ?_; clear hf a; intro a hf
  refine o_call hf Try.en_20 rfl rfl rfl (p20 d _ _ (hR.ext hh.ext)) ?_; clear hf a; intro v a w hR hf
  obtain ⟨rfl, hx⟩ := hR; replace hh := hh.more hx; clear hx
  refine o_v hf hh (yv_move rfl) ?_; clear hf a; intro a hf
  refine guard_split hf (t := 38) rfl (fun hg2 => ?_) (fun hg2 => ?_)
  ·have hG2 := hg2; try simp only [gS] at hG2
   refine o_off hf ?_; clear hf a; intro a hf
   refine o_off hf ?_; clear hf a; intro a hf
   refine o_off hf ?_; clear hf a; intro a hf
   refine o_v hf hh (y_pt rfl rfl) ?_; clear hf a; intro a hf
   refine o_end ?_
   refine c_t hf ?_
   refine sy_sq ?_
   refine o_call hf Try.en_14 rfl rfl rfl (p14 _) ?_; clear hf a; intro v a w hR hf
   obtain ⟨rfl, hx⟩ := hR; replace hh := hh.more hx; clear hx
   refine o_v hf hh (yv_assign rfl) ?_; clear hf a; intro a hf
   refine o_end ?_
   refine sy_ret ?_
   refine then_r ?_
   refine ret_r hf rfl rfl ?_
   first
     | exact ⟨rfl, hh.ext⟩
     | exact ⟨rfl, hx0.trans hh.ext⟩
     | omega
  ·have hG2 := hg2; try simp only [gS] at hG2
   have hA := hR.at (by assumption)
   refine o_v hf hh (y_lds Try.ag_37 rfl) ?_; clear hf a; intro a hf
   refine o_call hf Try.en_40 rfl rfl rfl (p40 d _ _ (hA.ext hh.ext)) ?_; clear hf a; intro v a w hR hf
   obtain ⟨rfl, hx⟩ := hR; replace hh := hh.more hx; clear hx
   refine o_v hf hh (yv_not rfl) ?_; clear hf a; intro a hf
   refine o_v hf hh (y_pf rfl rfl) ?_; clear hf a; intro a hf
   refine o_end ?_
   refine sy_cond hf rfl (fun hg5 => ?_) (fun hg5 => ?_)
   ·have hG5 := hg5; try simp only [gS] at hG5
    refine sy_sq ?_
    refine o_call hf Try.en_14 rfl rfl rfl (p14 _) ?_; clear hf a; intro v a w hR hf
    obtain ⟨rfl, hx⟩ := hR; replace hh := hh.more hx; clear hx
    refine o_v hf hh (yv_assign rfl) ?_; clear hf a; intro a hf
    refine o_end ?_
    refine sy_ret ?_
    refine then_r ?_
    refine ret_r hf rfl rfl ?_
    first
      | exact ⟨rfl, hh.ext⟩
      | exact ⟨rfl, hx0.trans hh.ext⟩
      | omega
   ·have hG5 := hg5; try simp only [gS] at hG5
    refine sy_skip ?_
    refine then_n ?_
    refine sy_seq ?_
    have hA := hR.at (by assumption)
    have hok : royB d = true := by assumption
    have hO := royB_iff.1 hok
    have hnt := hO.nt; have hnp := hO.np; have hns := hO.ns; have hnr := hO.nr; have hpd := hO.npd
    obtain ⟨σ, hσ⟩ : ∃ σ, σ = rot d.terms.length s := ⟨_, rfl⟩
    obtain ⟨τ, hτ⟩ : ∃ τ, τ = rotB d.terms.length s := ⟨_, rfl⟩
    have hs9 : ∀ a, a < d.terms.length → σ a < d.terms.length ∧ τ (σ a) = a := fun a ha => by rw [hσ, hτ]; exact rot_ok ha
    have ht9 : ∀ b, b < d.terms.length → τ b < d.terms.length ∧ σ (τ b) = b := fun b hb => by rw [hσ, hτ]; exact rotB_ok hb
    refine sy_ops ?_
    refine o_v hf hh (yv_fieldAddr Try.fo_37_0 rfl) ?_; clear hf a; intro a hf
    refine o_v hf hh (y_ld Try.sc_33 rfl) ?_; clear hf a; intro a hf
    refine o_v hf hh (yv_len Try.se_33 rfl) ?_; clear hf a; intro a hf
    refine o_alloc hf hh Try.ze_3 ?_; clear hf hh a; intro B5 a w hf hh
    refine o_store hf hh Try.sz_3 fun w hh => ?_
    refine o_end ?_
    refine sy_sq ?_
    refine o_v hf hh (yv_makeFunc rfl rfl) ?_; clear hf a; intro a hf
    refine o_v hf hh (yv_assign rfl) ?_; clear hf a; intro a hf
    refine o_end ?_
    refine sy_sq ?_
    refine o_v hf hh (y_lds Try.ag_37 rfl) ?_; clear hf a; intro a hf
    refine o_alloc hf hh Try.ze_37 ?_; clear hf hh a; intro B7 a w hf hh
    refine o_store hf hh Try.sz_37 fun w hh => ?_
    refine o_end ?_
    refine sy_cut (σ := Nat × Nat) [49, 50, 51, 52, 53, 54, 55] (fun q => []) (fun q => fun w' => Hp u [] ([(B7, .cells #[.slice (some ⟨q.1, 0, none⟩) d.terms.length d.terms.length, .slice sp d.prices.length cp, .slice ss d.shares.length cs, .slice none 0 0, .slice (some ⟨q.2, 0, none⟩) d.terms.length d.terms.length] 37), (B5, .cells #[.int .i64 (d.terms.length : Nat)] 3), (B3, .cells #[.int .u8 (s : Nat)] 5), (B2, .cells (royC d ⟨st, sp, ss, sr, sd, ct, cp, cs, cr, cd⟩) 37), (q.1, .cells (madeCells (Value.agg #[.int .i64 0, .int .i64 0, .int .i64 0]).cells (d.terms.length * 3)) 24), (q.2, .cells (madeCells (Value.int .i64 0).cells (d.terms.length * 1)) 3)]) w') hf ?_ ?_
    ·refine sy_treeC (.q 0 0 (.q 0 2 (.e2 1 (.p 4 (.e2 3 (.e1 5 (.p 6 (.e1 7 (.p 8 (.e1 9 (.fin)))))) 5 (.e1 3 (.p 6 (.e1 7 (.p 8 (.e1 9 (.fin)))))))) 3 (.e1 1 (.p 4 (.e1 5 (.p 6 (.e1 7 (.p 8 (.e1 9 (.fin))))))))))) [[]] [(AtE u [] [(B5, .cells #[.int .i64 (d.terms.length : Nat)] 3), (B3, .cells #[.int .u8 (s : Nat)] 5), (B2, .cells (royC d ⟨st, sp, ss, sr, sd, ct, cp, cs, cr, cd⟩) 37)], [])] Try.follows (by kernel_rfl) rfl hh (fun w hh => ?_)
     refine mc_q rfl rfl (AtE.of hh (fun q hq => by first | exact .tail _ hq | exact .tail _ (.tail _ hq) | exact .tail _ (.tail _ (.tail _ hq)))) hf (y_ld Try.sc_3 rfl) (.inl rfl) rfl rfl ?_; clear hf a; intro a hf
     refine mc_q rfl rfl (AtE.of hh (fun q hq => by first | exact .tail _ hq | exact .tail _ (.tail _ hq) | exact .tail _ (.tail _ (.tail _ hq)))) hf (y_ld Try.sc_3 rfl) (.inl rfl) rfl rfl ?_; clear hf a; intro a hf
     refine ⟨?_, ?_⟩
     ·refine mc_e rfl fun Q1 => ?_
      refine ops_make hf hh eb33 rfl rfl (by omega) (by omega) (.inl rfl) rfl ?_; clear hf hh a; intro B50 a w hf hh
      refine ops_end ?_
      refine then_n ⟨⟨fun _ _ => (AtE.of hh (fun q hq => by first | exact .tail _ hq | exact .tail _ (.tail _ hq) | exact .tail _ (.tail _ (.tail _ hq)))), trivial⟩, ?_⟩
      refine mc_p rfl   hf (yv_fieldAddr Try.fo_37_0 rfl) (.inl rfl) rfl rfl ?_; clear hf a; intro a hf
      refine ⟨?_, ?_⟩
      ·refine mc_e rfl fun Q1 => ?_
       refine ops_make hf hh Try.eb_22 rfl rfl (by omega) (by omega) (.inl rfl) rfl ?_; clear hf hh a; intro B52 a w hf hh
       refine ops_end ?_
       refine then_n ⟨⟨fun _ _ => (AtE.of hh (fun q hq => by first | exact .tail _ hq | exact .tail _ (.tail _ hq) | exact .tail _ (.tail _ (.tail _ hq)))), trivial⟩, ?_⟩
       refine mc_e rfl fun Q1 => ?_
       refine o_store hf hh Try.sz_33 fun w hh => ?_
       refine ops_end ?_
       refine then_n ⟨⟨fun _ _ => (AtE.of hh (fun q hq => by first | exact .tail _ hq | exact .tail _ (.tail _ hq) | exact .tail _ (.tail _ (.tail _ hq)))), trivial⟩, ?_⟩
       refine mc_p rfl   hf (yv_fieldAddr Try.fo_37_4 rfl) (.inl rfl) rfl rfl ?_; clear hf a; intro a hf
       refine mc_e rfl fun Q1 => ?_
       refine o_store hf hh Try.sz_22 fun w hh => ?_
       refine ops_end ?_
       refine then_n ⟨⟨fun _ _ => (AtE.of hh (fun q hq => by first | exact .tail _ hq | exact .tail _ (.tail _ hq) | exact .tail _ (.tail _ (.tail _ hq)))), trivial⟩, ?_⟩
       refine mc_p rfl   hf (yv_fieldAddr Try.fo_37_3 rfl) (.inl rfl) rfl rfl ?_; clear hf a; intro a hf
       refine mc_e rfl fun Q1 => ?_
       refine o_store hf hh Try.sz_35 fun w hh => ?_
       refine ops_end ?_
       refine then_n ⟨⟨fun _ _ => (AtE.of hh (fun q hq => by first | exact .tail _ hq | exact .tail _ (.tail _ hq) | exact .tail _ (.tail _ (.tail _ hq)))), trivial⟩, ?_⟩
       refine mc_end ?_
       refine then_n ?_
       exact ⟨(B50, B52), by first | exact hh.pick [2, 3, 4, 5, 1, 0] | exact hh.pick [2, 3, 4, 5, 0, 1], hf.head True.intro (Keep.cons rfl (Keep.cons rfl (Keep.cons rfl (Keep.cons rfl (Keep.cons rfl (Keep.cons rfl (Keep.cons rfl (Keep.base))))))))⟩
      ·refine mc_e rfl fun Q1 => ?_
       refine o_store hf hh Try.sz_33 fun w hh => ?_
       refine ops_end ?_
       refine then_n ⟨⟨fun _ _ => (AtE.of hh (fun q hq => by first | exact .tail _ hq | exact .tail _ (.tail _ hq) | exact .tail _ (.tail _ (.tail _ hq)))), trivial⟩, ?_⟩
       refine mc_e rfl fun Q1 => ?_
       refine ops_make hf hh Try.eb_22 rfl rfl (by omega) (by omega) (.inl rfl) rfl ?_; clear hf hh a; intro B52 a w hf hh
       refine ops_end ?_
       refine then_n ⟨⟨fun _ _ => (AtE.of hh (fun q hq => by first | exact .tail _ hq | exact .tail _ (.tail _ hq) | exact .tail _ (.tail _ (.tail _ hq)))), trivial⟩, ?_⟩
       refine mc_p rfl   hf (yv_fieldAddr Try.fo_37_4 rfl) (.inl rfl) rfl rfl ?_; clear hf a; intro a hf
       refine mc_e rfl fun Q1 => ?_
       refine o_store hf hh Try.sz_22 fun w hh => ?_
       refine ops_end ?_
       refine then_n ⟨⟨fun _ _ => (AtE.of hh (fun q hq => by first | exact .tail _ hq | exact .tail _ (.tail _ hq) | exact .tail _ (.tail _ (.tail _ hq)))), trivial⟩, ?_⟩
       refine mc_p rfl   hf (yv_fieldAddr Try.fo_37_3 rfl) (.inl rfl) rfl rfl ?_; clear hf a; intro a hf
       refine mc_e rfl fun Q1 => ?_
       refine o_store hf hh Try.sz_35 fun w hh => ?_
       refine ops_end ?_
       refine then_n ⟨⟨fun _ _ => (AtE.of hh (fun q hq => by first | exact .tail _ hq | exact .tail _ (.tail _ hq) | exact .tail _ (.tail _ (.tail _ hq)))), trivial⟩, ?_⟩
       refine mc_end ?_
       refine then_n ?_
       exact ⟨(B50, B52), by first | exact hh.pick [2, 3, 4, 5, 1, 0] | exact hh.pick [2, 3, 4, 5, 0, 1], hf.head True.intro (Keep.cons rfl (Keep.cons rfl (Keep.cons rfl (Keep.cons rfl (Keep.cons rfl (Keep.cons rfl (Keep.cons rfl (Keep.base))))))))⟩
     ·refine mc_e rfl fun Q1 => ?_
      refine ops_make hf hh Try.eb_22 rfl rfl (by omega) (by omega) (.inl rfl) rfl ?_; clear hf hh a; intro B52 a w hf hh
      refine ops_end ?_
      refine then_n ⟨⟨fun _ _ => (AtE.of hh (fun q hq => by first | exact .tail _ hq | exact .tail _ (.tail _ hq) | exact .tail _ (.tail _ (.tail _ hq)))), trivial⟩, ?_⟩
      refine mc_e rfl fun Q1 => ?_
      refine ops_make hf hh eb33 rfl rfl (by omega) (by omega) (.inl rfl) rfl ?_; clear hf hh a; intro B50 a w hf hh
      refine ops_end ?_
      refine then_n ⟨⟨fun _ _ => (AtE.of hh (fun q hq => by first | exact .tail _ hq | exact .tail _ (.tail _ hq) | exact .tail _ (.tail _ (.tail _ hq)))), trivial⟩, ?_⟩
      refine mc_p rfl   hf (yv_fieldAddr Try.fo_37_0 rfl) (.inl rfl) rfl rfl ?_; clear hf a; intro a hf
      refine mc_e rfl fun Q1 => ?_
      refine o_store hf hh Try.sz_33 fun w hh => ?_
      refine ops_end ?_
      refine then_n ⟨⟨fun _ _ => (AtE.of hh (fun q hq => by first | exact .tail _ hq | exact .tail _ (.tail _ hq) | exact .tail _ (.tail _ (.tail _ hq)))), trivial⟩, ?_⟩
      refine mc_p rfl   hf (yv_fieldAddr Try.fo_37_4 rfl) (.inl rfl) rfl rfl ?_; clear hf a; intro a hf
      refine mc_e rfl fun Q1 => ?_
      refine o_store hf hh Try.sz_22 fun w hh => ?_
      refine ops_end ?_
      refine then_n ⟨⟨fun _ _ => (AtE.of hh (fun q hq => by first | exact .tail _ hq | exact .tail _ (.tail _ hq) | exact .tail _ (.tail _ (.tail _ hq)))), trivial⟩, ?_⟩
      refine mc_p rfl   hf (yv_fieldAddr Try.fo_37_3 rfl) (.inl rfl) rfl rfl ?_; clear hf a; intro a hf
      refine mc_e rfl fun Q1 => ?_
      refine o_store hf hh Try.sz_35 fun w hh => ?_
      refine ops_end ?_
      refine then_n ⟨⟨fun _ _ => (AtE.of hh (fun q hq => by first | exact .tail _ hq | exact .tail _ (.tail _ hq) | exact .tail _ (.tail _ (.tail _ hq)))), trivial⟩, ?_⟩
      refine mc_end ?_
      refine then_n ?_
      exact ⟨(B50, B52), by first | exact hh.pick [2, 3, 4, 5, 1, 0] | exact hh.pick [2, 3, 4, 5, 0, 1], hf.head True.intro (Keep.cons rfl (Keep.cons rfl (Keep.cons rfl (Keep.cons rfl (Keep.cons rfl (Keep.cons rfl (Keep.cons rfl (Keep.base))))))))⟩
    ·rintro q a w hh hf
     obtain ⟨Bt, Bp⟩ := q; dsimp only at hh hf
     refine sy_seq ?_
     refine sy_sq ?_
     refine o_v hf hh (yv_fieldAddr Try.fo_37_0 rfl) ?_; clear hf a; intro a hf
     refine o_v hf hh (y_ld Try.sc_33 rfl) ?_; clear hf a; intro a hf
     refine o_v hf hh (yv_len Try.se_33 rfl) ?_; clear hf a; intro a hf
     refine o_v hf hh (yv_move rfl) ?_; clear hf a; intro a hf
     refine o_end ?_
     refine sy_block ?_
     refine sy_loopH (σ := Nat × Array Value × Array Value) [8, 9, 59, 60, 61, 62, 63, 64, 65, 66, 67, 68, 69, 70, 71, 72, 73, 74, 75, 76, 77, 78, 79, 80, 81, 82] (fun x => [(59, .int .i64 (x.1 : Nat))]) (fun x => fun w' => x.1 ≤ d.terms.length ∧ TF d τ x.2.1 x.1 ∧ CF x.2.2 d.terms.length (fun j => if τ j < x.1 then d.paid.getD (τ j) 0 else 0) ∧ Hp u [] ([(B7, .cells #[.slice (some ⟨Bt, 0, none⟩) d.terms.length d.terms.length, .slice sp d.prices.length cp, .slice ss d.shares.length cs, .slice none 0 0, .slice (some ⟨Bp, 0, none⟩) d.terms.length d.terms.length] 37), (B5, .cells #[.int .i64 (d.terms.length : Nat)] 3), (B3, .cells #[.int .u8 (s : Nat)] 5), (B2, .cells (royC d ⟨st, sp, ss, sr, sd, ct, cp, cs, cr, cd⟩) 37), (Bt, .cells x.2.1 24), (Bp, .cells x.2.2 3)]) w') (fun x => d.terms.length - x.1) ((0, madeCells (Value.agg #[.int .i64 0, .int .i64 0, .int .i64 0]).cells (d.terms.length * 3), madeCells (Value.int .i64 0).cells (d.terms.length * 1))) hf ?_ ?_ ?_
     · repeat' (first | exact True.intro | refine And.intro rfl ?_)
     · exact ⟨Nat.zero_le _, ⟨by simp [madeCells], fun j _ h => absurd h (Nat.not_lt_zero _)⟩, (made_CF _).congr fun j _ => (if_neg (Nat.not_lt_zero _)).symm, hh⟩
     ·rintro x a w ⟨hi, hTF, hCF, hh⟩ hf
      obtain ⟨i, curT, curP⟩ := x; dsimp only at hi hTF hCF hh hf ⊢
      refine sy_sq ?_
      refine o_v hf hh (yv_bin rfl rfl rfl) ?_; clear hf a; intro a hf
      refine o_end ?_
      refine sy_seq ?_
      refine sy_cond hf rfl (fun hg13 => ?_) (fun hg13 => ?_)
      ·have hG13 := hg13; try simp only [gS] at hG13
       refine sy_skip ?_
       refine then_n ?_
       refine sy_seq ?_
       refine sy_block ?_
       refine sy_seq ?_
       obtain ⟨tm, htm⟩ := ex_of (l := d.terms) (i := i) (by omega)
       obtain ⟨pd, hpdi⟩ := ex_of (l := d.paid) (i := i) (by omega)
       obtain ⟨blk, off, cc, T, fr, e, hb, hc⟩ := hA.tm i tm htm; dsimp only at e; subst e
       obtain ⟨blkd, offd, ccd, Td, frd, ed, hbd, hcd⟩ := hA.pd i pd hpdi; dsimp only at ed; subst ed
       obtain ⟨hsi, hsi2⟩ := hs9 i (by omega)
       have hz1 := hTF.1; have hz2 := hCF.1
       have hTF2 := hTF.put hsi hsi2 (fun b hb => (ht9 b hb).2)
       rw [term_at htm] at hTF2
       have hCF2 := (hCF.put (j := σ i) hsi pd).congr (G := fun j => if τ j < i + 1 then d.paid.getD (τ j) 0 else 0) fun j hj => by
         by_cases e : j = σ i
         · rw [if_pos e, e, hsi2, if_pos (by omega), getD_at hpdi]
         · have e2 : τ j ≠ i := fun e2 => e (by rw [← e2, (ht9 j hj).2])
           rw [if_neg e]
           by_cases h2 : τ j < i
           · rw [if_pos h2, if_pos (by omega)]
           · rw [if_neg h2, if_neg (by omega)]
       refine sy_ops ?_
       refine o_v hf hh (yv_move rfl) ?_; clear hf a; intro a hf
       refine o_v hf hh (y_ix Try.se_33 rfl rfl) ?_; clear hf a; intro a hf
       refine o_v hf hh (y_lds Try.ag_24 rfl) ?_; clear hf a; intro a hf
       refine o_alloc hf hh Try.ze_24 ?_; clear hf hh a; intro B9 a w hf hh
       refine o_v hf hh (yv_assign rfl) ?_; clear hf a; intro a hf
       refine o_store hf hh Try.sz_24 fun w hh => ?_
       refine o_end ?_
       refine sy_treeC (.p 0 (.q 0 1 (.p 2 (.p 3 (.p 5 (.q 0 6 (.p 7 (.p 8 (.q 0 10 (.p 11 (.q 0 12 (.p 13 (.p 14 (.q 0 15 (.e1 4 (.e1 9 (.p 16 (.e1 17 (.p 18 (.e1 19 (.fin))))))))))))))))))))) [[]] [(AtE u [] [(B9, .cells (tmC tm).toArray 24), (B7, .cells #[.slice (some ⟨Bt, 0, none⟩) d.terms.length d.terms.length, .slice sp d.prices.length cp, .slice ss d.shares.length cs, .slice none 0 0, .slice (some ⟨Bp, 0, none⟩) d.terms.length d.terms.length] 37), (B5, .cells #[.int .i64 (d.terms.length : Nat)] 3), (B3, .cells #[.int .u8 (s : Nat)] 5), (B2, .cells (royC d ⟨some ⟨blk, off, none⟩, sp, ss, sr, some ⟨blkd, offd, none⟩, ct, cp, cs, cr, cd⟩) 37)], [])] Try.follows (by kernel_rfl) rfl hh (fun w hh => ?_)
       refine mc_p rfl   hf (yv_fieldAddr Try.fo_37_0 rfl) (.inl rfl) rfl rfl ?_; clear hf a; intro a hf
       refine mc_q rfl rfl (AtE.of hh (fun q hq => mem5 hq)) hf (y_ld Try.sc_33 rfl) (.inl rfl) rfl rfl ?_; clear hf a; intro a hf
       refine mc_p rfl   hf (yv_move rfl) (.inl rfl) rfl rfl ?_; clear hf a; intro a hf
       refine mc_p rfl   hf (yv_move rfl) (.inl rfl) rfl rfl ?_; clear hf a; intro a hf
       refine mc_p rfl   hf (yv_fieldAddr Try.fo_37_4 rfl) (.inl rfl) rfl rfl ?_; clear hf a; intro a hf
       refine mc_q rfl rfl (AtE.of hh (fun q hq => mem5 hq)) hf (y_ld Try.sc_22 rfl) (.inl rfl) rfl rfl ?_; clear hf a; intro a hf
       refine mc_p rfl   hf (yv_move rfl) (.inl rfl) rfl rfl ?_; clear hf a; intro a hf
       refine mc_p rfl   hf (yv_move rfl) (.inl rfl) rfl rfl ?_; clear hf a; intro a hf
       refine mc_q rfl rfl (AtE.of hh (fun q hq => mem5 hq)) hf (y_lds Try.ag_24 rfl) (.inl rfl) rfl rfl ?_; clear hf a; intro a hf
       refine mc_p rfl   hf (yv_fieldAddr Try.fo_37_4 rfl) (.inl rfl) rfl rfl ?_; clear hf a; intro a hf
       refine mc_q rfl rfl (AtE.of hh (fun q hq => mem5 hq)) hf (y_ld Try.sc_22 rfl) (.inl rfl) rfl rfl ?_; clear hf a; intro a hf
       refine mc_p rfl   hf (yv_move rfl) (.inl rfl) rfl rfl ?_; clear hf a; intro a hf
       refine mc_p rfl   hf (y_ix Try.se_22 rfl rfl) (.inl rfl) rfl rfl ?_; clear hf a; intro a hf
       refine mc_q rfl rfl (AtE.of hh (fun q hq => mem5 hq)) hf (y_ld Try.sc_3 rfl) (.inl rfl) rfl rfl ?_; clear hf a; intro a hf
       refine mc_e rfl fun Q1 => ?_
       refine o_call hf Try.en_47 rfl rfl rfl (p47 ((i : Nat) : Int) s d.terms.length B3 B5 σ _ hσ (hh.at (i := 3) rfl) (hh.at (i := 2) rfl) (by omega) (by omega) (by omega)) ?_; clear hf a; intro v a w hR hf
       rw [Int.toNat_natCast] at hR
       obtain ⟨rfl, hx⟩ := hR; replace hh := hh.more hx; clear hx
       refine ops_end ?_
       refine then_n ⟨⟨fun _ _ => (AtE.of hh (fun q hq => mem5 hq)), trivial⟩, ?_⟩
       refine mc_e rfl fun Q1 => ?_
       refine o_call hf Try.en_47 rfl rfl rfl (p47 ((i : Nat) : Int) s d.terms.length B3 B5 σ _ hσ (hh.at (i := 3) rfl) (hh.at (i := 2) rfl) (by omega) (by omega) (by omega)) ?_; clear hf a; intro v a w hR hf
       rw [Int.toNat_natCast] at hR
       obtain ⟨rfl, hx⟩ := hR; replace hh := hh.more hx; clear hx
       refine ops_end ?_
       refine then_n ⟨⟨fun _ _ => (AtE.of hh (fun q hq => mem5 hq)), trivial⟩, ?_⟩
       refine mc_p rfl   hf (y_ix Try.se_33 rfl rfl) (.inl rfl) rfl rfl ?_; clear hf a; intro a hf
       refine mc_e rfl fun Q1 => ?_
       refine o_store (i := 5) hf hh Try.sz_24 (hx := rfl) (hi := atI (i := 5) rfl) (hy := rfl) (hl := Nat.ble_eq_true_of_le (by rw [Int.toNat_natCast]; show _ + 3 ≤ _; omega)) fun w hh => ?_
       refine ops_end ?_
       refine then_n ⟨⟨fun _ _ => (AtE.of hh (fun q hq => mem5 hq)), trivial⟩, ?_⟩
       refine mc_p rfl   hf (y_ix Try.se_22 rfl rfl) (.inl rfl) rfl rfl ?_; clear hf a; intro a hf
       refine mc_e rfl fun Q1 => ?_
       refine o_store (i := 6) hf hh Try.sz_3 (hx := rfl) (hi := atI (i := 6) rfl) (hy := rfl) (hl := Nat.ble_eq_true_of_le (by rw [Int.toNat_natCast]; omega)) fun w hh => ?_
       refine ops_end ?_
       refine then_n ⟨⟨fun _ _ => (AtE.of hh (fun q hq => mem5 hq)), trivial⟩, ?_⟩
       refine mc_end ?_
       refine blk_n ?_
       refine then_n ?_
       refine sy_ops ?_
       refine o_v hf hh (y_add rfl rfl) ?_; clear hf a; intro a hf
       refine o_v hf hh (yv_move rfl) ?_; clear hf a; intro a hf
       refine ops_end ?_
       refine then_n ?_
       exact ⟨(i + 1, _, _), ⟨⟨by dsimp only; omega, hTF2, hCF2, hh.less (.cons _ (.refl _))⟩, (hf.head (by repeat' (first | exact True.intro | refine And.intro rfl ?_)) (Keep.cons rfl (Keep.cons rfl (Keep.cons rfl (Keep.cons rfl (Keep.cons rfl (Keep.cons rfl (Keep.cons rfl (Keep.cons rfl (Keep.cons rfl (Keep.cons rfl (Keep.cons rfl (Keep.cons rfl (Keep.cons rfl (Keep.cons rfl (Keep.cons rfl (Keep.cons rfl (Keep.cons rfl (Keep.cons rfl (Keep.cons rfl (Keep.cons rfl (Keep.cons rfl (Keep.cons rfl (Keep.cons rfl (Keep.cons rfl (Keep.cons rfl (Keep.cons rfl (Keep.app rfl (Keep.rm rfl Keep.base)))))))))))))))))))))))))))))⟩, by dsimp only; omega⟩
      ·have hG13 := hg13; try simp only [gS] at hG13
       refine sy_exit ?_
       refine then_e ?_
       refine then_e ?_
       refine blk_e ?_
       refine then_n ?_
       refine sy_seq ?_
       refine sy_seq ?_
       obtain rfl : i = d.terms.length := by omega
       refine sy_ops ?_
       refine o_v hf hh (yv_fieldAddr Try.fo_37_3 rfl) ?_; clear hf a; intro a hf
       refine o_v hf hh (y_ld Try.sc_35 rfl) ?_; clear hf a; intro a hf
       refine o_v hf hh (yv_len Try.se_35 rfl) ?_; clear hf a; intro a hf
       refine o_v hf hh (yv_move rfl) ?_; clear hf a; intro a hf
       refine o_end ?_
       refine sy_block ?_
       refine sy_loopH (σ := Nat × Option Addr × Nat × List (Nat × Obj)) [10, 11, 86, 87, 88, 89, 90, 91, 92, 93, 94, 95, 96, 97, 98, 99, 100, 101, 102, 103, 104, 105, 106, 107, 108, 109, 110] (fun x => [(86, .int .i64 (x.1 : Nat))]) (fun x => fun w' => x.1 ≤ d.reps.length ∧ OwnSl 66 4 (.slice x.2.1 x.1 x.2.2.1) x.1 (((d.reps.reverse.take x.1).map (mvR σ)).flatMap rpC) x.2.2.2 ∧ Hp u [] ([(B7, .cells #[.slice (some ⟨Bt, 0, none⟩) d.terms.length d.terms.length, .slice sp d.prices.length cp, .slice ss d.shares.length cs, .slice x.2.1 x.1 x.2.2.1, .slice (some ⟨Bp, 0, none⟩) d.terms.length d.terms.length] 37), (B5, .cells #[.int .i64 (d.terms.length : Nat)] 3), (B3, .cells #[.int .u8 (s : Nat)] 5), (B2, .cells (royC d ⟨st, sp, ss, sr, sd, ct, cp, cs, cr, cd⟩) 37), (Bt, .cells curT 24), (Bp, .cells curP 3)] ++ x.2.2.2) w') (fun x => d.reps.length - x.1) ((0, none, 0, [])) hf ?_ ?_ ?_
       · repeat' (first | exact True.intro | refine And.intro rfl ?_)
       · exact ⟨Nat.zero_le _, OwnSl.nil _ _, hh⟩
       ·rintro x a w ⟨hi, hOw, hh⟩ hf
        obtain ⟨i, oa, cx, X⟩ := x; dsimp only at hi hOw hh hf ⊢
        refine sy_sq ?_
        refine o_v hf hh (yv_bin rfl rfl rfl) ?_; clear hf a; intro a hf
        refine o_end ?_
        refine sy_seq ?_
        refine sy_cond hf rfl (fun hg17 => ?_) (fun hg17 => ?_)
        ·have hG17 := hg17; try simp only [gS] at hG17
         refine sy_skip ?_
         refine then_n ?_
         refine sy_seq ?_
         refine sy_block ?_
         refine sy_sq ?_
         refine o_v hf hh (yv_move rfl) ?_; clear hf a; intro a hf
         refine o_v hf hh (yv_assign rfl) ?_; clear hf a; intro a hf
         refine o_end ?_
         refine sy_seq ?_
         obtain ⟨r, hr⟩ := ex_of (l := d.reps.reverse) (i := i) (by rw [List.length_reverse]; omega)
         have hr2 : d.reps[d.reps.length - 1 - i]? = some r := by rw [List.getElem?_reverse (by omega)] at hr; exact hr
         have hro := hO.r r (List.mem_of_getElem? hr2)
         have o1 := hro.a0; have o2 := hro.a1
         obtain ⟨blk, off, cc, T, fr, e, hb, hc⟩ := hA.rp _ r hr2; dsimp only at e; subst e
         refine sy_ops ?_
         refine o_v hf hh (yv_fieldAddr Try.fo_37_3 rfl) ?_; clear hf a; intro a hf
         refine o_v hf hh (y_ld Try.sc_35 rfl) ?_; clear hf a; intro a hf
         refine o_v hf hh (yv_fieldAddr Try.fo_37_3 rfl) ?_; clear hf a; intro a hf
         refine o_v hf hh (y_ld Try.sc_35 rfl) ?_; clear hf a; intro a hf
         refine o_v hf hh (yv_len Try.se_35 rfl) ?_; clear hf a; intro a hf
         refine o_v hf hh (y_sub rfl rfl) ?_; clear hf a; intro a hf
         refine o_v hf hh (yv_move rfl) ?_; clear hf a; intro a hf
         refine ops_v hf hh (yv_cast (yv_sub rfl rfl (by omega) (by omega)) (intv (b := ((d.reps.length - 1 - i : Nat) : Int)) (by omega))) (.inl rfl) rfl rfl rfl ?_; clear hf a; intro a hf
         refine o_v hf hh (y_ix Try.se_35 rfl rfl) ?_; clear hf a; intro a hf
         refine o_v hf hh (y_lds Try.ag_66 rfl) ?_; clear hf a; intro a hf
         refine o_alloc hf hh Try.ze_66 ?_; clear hf hh a; intro B11 a w hf hh
         refine o_store hf hh Try.sz_66 fun w hh => ?_
         refine o_end ?_
         refine sy_sq ?_
         refine o_v hf hh (yv_move rfl) ?_; clear hf a; intro a hf
         refine o_v hf hh (yv_fieldAddr Try.fo_66_0 rfl) ?_; clear hf a; intro a hf
         refine o_v hf hh (y_ld Try.sc_3 rfl) ?_; clear hf a; intro a hf
         refine o_call hf Try.en_47 rfl rfl rfl (p47 r.ag s d.terms.length B3 B5 σ _ hσ (hh.at (i := 3) rfl) (hh.at (i := 2) rfl) (by omega) (by omega) (by omega)) ?_; clear hf a; intro v a w hR hf
         obtain ⟨rfl, hx⟩ := hR; replace hh := hh.more hx; clear hx
         refine o_v hf hh (yv_fieldAddr Try.fo_66_0 rfl) ?_; clear hf a; intro a hf
         refine o_store hf hh Try.sz_3 fun w hh => ?_
         refine o_end ?_
         refine sy_ops ?_
         refine o_v hf hh (yv_fieldAddr Try.fo_37_3 rfl) ?_; clear hf a; intro a hf
         refine o_v hf hh (y_ld Try.sc_35 rfl) ?_; clear hf a; intro a hf
         refine o_v hf hh (y_lds Try.ag_66 rfl) ?_; clear hf a; intro a hf
         refine ops_buildSl hf hh Try.bl_35_1 rfl rfl (.inl rfl) rfl ?_; clear hf hh; clear a; intro B107 a w hf hh
         replace hh : Hp u [] ((B107, .cells (rpC (mvR σ r)).toArray 66) :: (((B11, .cells (rpC (mvR σ r)).toArray 66) :: [(B7, .cells #[.slice (some ⟨Bt, 0, none⟩) d.terms.length d.terms.length, .slice sp d.prices.length cp, .slice ss d.shares.length cs, .slice oa i cx, .slice (some ⟨Bp, 0, none⟩) d.terms.length d.terms.length] 37), (B5, .cells #[.int .i64 (d.terms.length : Nat)] 3), (B3, .cells #[.int .u8 (s : Nat)] 5), (B2, .cells (royC d ⟨st, sp, ss, some ⟨blk, off, none⟩, sd, ct, cp, cs, cr, cd⟩) 37), (Bt, .cells curT 24), (Bp, .cells curP 3)]) ++ X)) w := hh
         refine ops_append (e := 66) (size := 4) (xs := ((d.reps.reverse.take i).map (mvR σ)).flatMap rpC) (X := X) (Z := ((B11, .cells (rpC (mvR σ r)).toArray 66) :: [(B7, .cells #[.slice (some ⟨Bt, 0, none⟩) d.terms.length d.terms.length, .slice sp d.prices.length cp, .slice ss d.shares.length cs, .slice oa i cx, .slice (some ⟨Bp, 0, none⟩) d.terms.length d.terms.length] 37), (B5, .cells #[.int .i64 (d.terms.length : Nat)] 3), (B3, .cells #[.int .u8 (s : Nat)] 5), (B2, .cells (royC d ⟨st, sp, ss, some ⟨blk, off, none⟩, sd, ct, cp, cs, cr, cd⟩) 37), (Bt, .cells curT 24), (Bp, .cells curP 3)])) (m := i) (q := 1) hf (hh.perm (.cons _ List.perm_append_comm)) Try.eb_35 rfl rfl hOw rfl rfl rfl (by simp only [maxLen]; omega) (by omega) (.inl rfl) rfl ?_
         clear hf hh a; intro v17 X17 a w hO17 hf hh
         obtain ⟨oa17, cp17, rfl⟩ := own_val hO17
         rw [← rev_take hr] at hO17
         replace hh := hh.perm (List.perm_append_comm (l₁ := X17) (l₂ := ((B11, Obj.cells (rpC (mvR σ r)).toArray 66) :: [(B7, Obj.cells #[.slice (some ⟨Bt, 0, none⟩) d.terms.length d.terms.length, .slice sp d.prices.length cp, .slice ss d.shares.length cs, .slice oa i cx, .slice (some ⟨Bp, 0, none⟩) d.terms.length d.terms.length] 37), (B5, Obj.cells #[.int .i64 (d.terms.length : Nat)] 3), (B3, Obj.cells #[.int .u8 (s : Nat)] 5), (B2, Obj.cells (royC d ⟨st, sp, ss, some ⟨blk, off, none⟩, sd, ct, cp, cs, cr, cd⟩) 37), (Bt, Obj.cells curT 24), (Bp, Obj.cells curP 3)])))
         refine o_v hf hh (yv_fieldAddr Try.fo_37_3 rfl) ?_; clear hf a; intro a hf
         refine o_store hf hh Try.sz_35 fun w hh => ?_
         refine ops_end ?_
         refine blk_n ?_
         refine then_n ?_
         refine sy_ops ?_
         refine o_v hf hh (y_add rfl rfl) ?_; clear hf a; intro a hf
         refine o_v hf hh (yv_move rfl) ?_; clear hf a; intro a hf
         refine ops_end ?_
         refine then_n ?_
         exact ⟨(i + 1, oa17, cp17, X17), ⟨⟨by dsimp only; omega, hO17, hh.less (.cons _ (.refl _))⟩, (hf.head (by repeat' (first | exact True.intro | refine And.intro rfl ?_)) (Keep.cons rfl (Keep.cons rfl (Keep.cons rfl (Keep.cons rfl (Keep.cons rfl (Keep.cons rfl (Keep.cons rfl (Keep.cons rfl (Keep.cons rfl (Keep.cons rfl (Keep.cons rfl (Keep.cons rfl (Keep.cons rfl (Keep.cons rfl (Keep.cons rfl (Keep.cons rfl (Keep.cons rfl (Keep.cons rfl (Keep.cons rfl (Keep.cons rfl (Keep.cons rfl (Keep.cons rfl (Keep.cons rfl (Keep.cons rfl (Keep.cons rfl (Keep.cons rfl (Keep.cons rfl (Keep.app rfl (Keep.rm rfl Keep.base))))))))))))))))))))))))))))))⟩, by dsimp only; omega⟩
        ·have hG17 := hg17; try simp only [gS] at hG17
         refine sy_exit ?_
         refine then_e ?_
         refine then_e ?_
         refine blk_e ?_
         refine then_n ?_
         refine sy_seq ?_
         obtain rfl : i = d.reps.length := by omega
         rw [List.take_of_length_le (by rw [List.length_reverse]; omega)] at hOw
         refine sy_ops ?_
         refine ops_buildSl hf hh Try.bl_35_0 rfl rfl (.inl rfl) rfl ?_; clear hf hh; clear a; intro B111 a w hf hh
         refine o_v hf hh (yv_fieldAddr Try.fo_37_3 rfl) ?_; clear hf a; intro a hf
         refine o_v hf hh (y_ld Try.sc_35 rfl) ?_; clear hf a; intro a hf
         refine ops_appendV (e := 66) (size := 4) (xs := []) (news := d.reps.flatMap rpC) (X := [(B111, .cells #[] 66)]) (m := 0) hf hh Try.eb_35 rfl rfl ⟨rfl, .inr ⟨B111, 0, #[], rfl, rfl, Nat.le_refl _, Nat.zero_le _, rfl, rfl⟩⟩ (vals_of (enc := rpC) (n := 4) (fun _ => rfl) (hA.rp.ext hh.ext)) (flat_len (enc := rpC) (n := 4) (fun _ => rfl) _) (by omega) (rq_1c _) (by simp only [maxLen]; omega) (by omega) (.inl rfl) rfl ?_
         clear hf hh a; intro v12 X12 a w hO12 hf hh
         rw [Nat.zero_add, List.nil_append] at hO12
         obtain ⟨oa12, cp12, rfl⟩ := own_val hO12
         refine o_v hf hh (yv_assign rfl) ?_; clear hf a; intro a hf
         refine o_end ?_
         refine sy_seq ?_
         refine sy_seq ?_
         have hC9 := own_tat (enc := rpC) (n := 4) (l := d.reps) (fun _ => rfl) hO12 rfl (fun q hq => hh.get q (List.mem_append_left _ hq))
         have hrp := own_tat (enc := rpC) (n := 4) (l := d.reps.reverse.map (mvR σ)) (fun _ => rfl) hOw (by simp) (fun q hq => hh.get q (List.mem_append_right _ (show q ∈ [(B7, .cells #[.slice (some ⟨Bt, 0, none⟩) d.terms.length d.terms.length, .slice sp d.prices.length cp, .slice ss d.shares.length cs, .slice oa d.reps.length cx, .slice (some ⟨Bp, 0, none⟩) d.terms.length d.terms.length] 37), (B5, .cells #[.int .i64 (d.terms.length : Nat)] 3), (B3, .cells #[.int .u8 (s : Nat)] 5), (B2, .cells (royC d ⟨st, sp, ss, sr, sd, ct, cp, cs, cr, cd⟩) 37), (Bt, .cells curT 24), (Bp, .cells curP 3)] ++ X from List.mem_append_right _ hq)))
         have hx0 := hh.ext
         have hG : ∀ q ∈ [(B7, .cells #[.slice (some ⟨Bt, 0, none⟩) d.terms.length d.terms.length, .slice sp d.prices.length cp, .slice ss d.shares.length cs, .slice oa d.reps.length cx, .slice (some ⟨Bp, 0, none⟩) d.terms.length d.terms.length] 37), (B5, .cells #[.int .i64 (d.terms.length : Nat)] 3), (B3, .cells #[.int .u8 (s : Nat)] 5), (B2, .cells (royC d ⟨st, sp, ss, sr, sd, ct, cp, cs, cr, cd⟩) 37), (Bt, .cells curT 24), (Bp, .cells curP 3)], w.heap[q.1]? = some q.2 := fun q hq => hh.get q (List.mem_append_right _ (List.mem_append_left _ hq))
         have q7 := hG _ (.head _)
         have q5 := hG _ (.tail _ (.head _))
         have q3 := hG _ (.tail _ (.tail _ (.head _)))
         have q2 := hG _ (.tail _ (.tail _ (.tail _ (.head _))))
         have qt := hG _ (.tail _ (.tail _ (.tail _ (.tail _ (.head _)))))
         have qp := hG _ (.tail _ (.tail _ (.tail _ (.tail _ (.tail _ (.head _))))))
         dsimp only at q7 q5 q3 q2 qt qp
         have hA9 := hA.ext hx0
         have htm := hTF.tat (fun b hb => (ht9 b hb).1) qt
         have hT := turnD_ok hO hs9 ht9
         obtain ⟨p', hp'⟩ : ∃ p' : Pl, p' = ⟨some ⟨Bt, 0, none⟩, sp, ss, oa, some ⟨Bp, 0, none⟩, d.terms.length, cp, cs, cx, d.terms.length⟩ := ⟨_, rfl⟩
         obtain ⟨d', hd'⟩ : ∃ d', d' = turnD d σ τ := ⟨_, rfl⟩
         have hcx := own_cap9 hOw
         have hpp : IAt w (some ⟨Bp, 0, none⟩) ((List.range d.terms.length).map fun j => d.paid.getD (τ j) 0) := by
           have h : CF curP ((List.range d.terms.length).map fun j => d.paid.getD (τ j) 0).length (fun j => ((List.range d.terms.length).map fun j => d.paid.getD (τ j) 0).getD j 0) := by
             rw [List.length_map, List.length_range]
             refine hCF.congr fun j hj => ?_
             rw [if_pos (ht9 j hj).1, map_getD9 _ hj]
           exact h.iat qp
         have hB9 : RoyAt w d' p' := by
           rw [hp', hd']
           exact ⟨htm, hA9.pr, hA9.sh, hrp, hpp, by simp [turnD]; omega, hA9.n2, hA9.n3, by simp [turnD]; omega, by simp [turnD]; omega, hA9.n6, by simp [turnD]; exact hcx⟩
         replace q7 : w.heap[B7]? = some (.cells (royC d' p') 37 (0, 0)) := by
           rw [q7, hd', hp']
           simp only [royC, turnD, List.length_map, List.length_range, List.length_reverse]
         rw [← hd'] at hT
         clear hd' hp' htm hpp hrp hG
         obtain ⟨w9, rfl⟩ : ∃ z, z = w := ⟨_, rfl⟩
         repeat clear hh
         have hh := Hp.init w9 []
         refine sy_ops ?_
         refine o_v hf hh (yv_fieldAddr Try.fo_37_0 rfl) ?_; clear hf a; intro a hf
         refine o_v hf hh (y_ld Try.sc_33 rfl) ?_; clear hf a; intro a hf
         refine o_v hf hh (yv_len Try.se_33 rfl) ?_; clear hf a; intro a hf
         refine o_v hf hh (yv_move rfl) ?_; clear hf a; intro a hf
         refine o_end ?_
         refine sy_block ?_
         refine sy_loopH (σ := Nat) [4, 13, 14, 15, 16, 17, 118, 119, 120, 121, 122, 123, 124, 125, 126, 127, 128, 129, 130, 131, 132, 133, 134, 135, 136, 137, 138, 139, 140, 141, 142, 143] (fun g => [(118, .int .i64 (g : Nat))]) (fun g => fun w' => g ≤ d.terms.length ∧ Hp w9 [] [] w') (fun g => d.terms.length - g) (0) hf ?_ ?_ ?_
         · repeat' (first | exact True.intro | refine And.intro rfl ?_)
         · exact ⟨Nat.zero_le _, hh⟩
         ·rintro g a w ⟨hg, hh⟩ hf
          refine sy_sq ?_
          refine o_v hf hh (yv_bin rfl rfl rfl) ?_; clear hf a; intro a hf
          refine o_end ?_
          refine sy_seq ?_
          refine sy_cond hf rfl (fun hg23 => ?_) (fun hg23 => ?_)
          ·have hG23 := hg23; try simp only [gS] at hG23
           refine sy_skip ?_
           refine then_n ?_
           refine sy_seq ?_
           refine sy_block ?_
           refine sy_sq ?_
           refine o_v hf hh (yv_move rfl) ?_; clear hf a; intro a hf
           refine o_v hf hh (yv_assign rfl) ?_; clear hf a; intro a hf
           refine o_end ?_
           refine sy_seq ?_
           obtain ⟨m1, m2⟩ := turn_owe hT hO (a := g) (by omega)
           obtain ⟨e1, _⟩ := owe_ok hO (g := g) (by omega)
           obtain ⟨s1, s2, hs⟩ : ∃ s1 s2, oweV d g = (s1, s2) := ⟨_, _, rfl⟩
           rw [hs] at m1
           refine sy_ops ?_
           refine o_v hf hh (y_lds Try.ag_37 rfl) ?_; clear hf a; intro a hf
           refine o_v hf hh (yv_move rfl) ?_; clear hf a; intro a hf
           refine o_call hf Try.en_25 rfl rfl rfl (p25 d _ (g : Nat) _ (hA9.ext hh.ext)) ?_; clear hf a; intro v a w hR hf
           rw [hs, e1] at hR
           obtain ⟨rfl, hx⟩ := hR; replace hh := hh.more hx; clear hx
           refine o_v hf hh (yv_move rfl) ?_; clear hf a; intro a hf
           refine o_v hf hh (yv_extract rfl rfl) ?_; clear hf a; intro a hf
           refine o_v hf hh (yv_extract rfl rfl) ?_; clear hf a; intro a hf
           refine o_alloc hf hh Try.ze_43 ?_; clear hf hh a; intro B14 a w hf hh
           refine o_store hf hh Try.sz_43 fun w hh => ?_
           refine o_v hf hh (yv_assign rfl) ?_; clear hf a; intro a hf
           refine o_end ?_
           refine sy_seq ?_
           refine sy_tree1 (.q 0 0 (.p 1 (.p 2 (.e2 3 (.e2 4 (.p 5 (.p 6 (.p 7 (.e1 8 (.e1 9 (.p 10 (.fin))))))) 8 (.e1 4 (.p 5 (.p 6 (.p 7 (.e1 9 (.p 10 (.fin)))))))) 8 (.e1 3 (.e1 4 (.p 5 (.p 6 (.p 7 (.e1 9 (.p 10 (.fin)))))))))))) [] Try.follows (by kernel_rfl) hh (fun w hh => ?_)
           refine mc_q rfl rfl hh hf (y_lds Try.ag_37 rfl) (.inl rfl) rfl rfl ?_; clear hf a; intro a hf
           refine mc_p rfl   hf (yv_move rfl) (.inl rfl) rfl rfl ?_; clear hf a; intro a hf
           refine mc_p rfl   hf (yv_move rfl) (.inl rfl) rfl rfl ?_; clear hf a; intro a hf
           refine ⟨?_, ?_⟩
           ·refine mc_e rfl fun Q1 => ?_
            refine o_call hf Try.en_47 rfl rfl rfl (p47 ((g : Nat) : Int) s d.terms.length B3 B5 σ _ hσ (hh.ext.get q3) (hh.ext.get q5) (by omega) (by omega) (by omega)) ?_; clear hf a; intro v a w hR hf
            rw [Int.toNat_natCast] at hR
            obtain ⟨rfl, hx⟩ := hR; replace hh := hh.more hx; clear hx
            refine ops_end ?_
            refine then_n ⟨⟨fun _ _ => hh, trivial⟩, ?_⟩
            refine ⟨?_, ?_⟩
            ·refine mc_e rfl fun Q1 => ?_
             refine o_call hf Try.en_25 rfl rfl rfl (p25 d' p' (σ g : Nat) _ (hB9.ext hh.ext)) ?_; clear hf a; intro v a w hR hf
             rw [m1, m2] at hR
             obtain ⟨rfl, hx⟩ := hR; replace hh := hh.more hx; clear hx
             refine ops_end ?_
             refine then_n ⟨⟨fun _ _ => hh, trivial⟩, ?_⟩
             refine mc_p rfl   hf (yv_move rfl) (.inl rfl) rfl rfl ?_; clear hf a; intro a hf
             refine mc_p rfl   hf (yv_extract rfl rfl) (.inl rfl) rfl rfl ?_; clear hf a; intro a hf
             refine mc_p rfl   hf (yv_extract rfl rfl) (.inl rfl) rfl rfl ?_; clear hf a; intro a hf
             refine mc_e rfl fun Q1 => ?_
             refine o_alloc hf hh Try.ze_43 ?_; clear hf hh a; intro B16 a w hf hh
             refine ops_end ?_
             refine then_n ⟨⟨fun _ _ => (hh.less (.cons _ (List.Sublist.refl _))), trivial⟩, ?_⟩
             refine mc_e rfl fun Q1 => ?_
             refine o_store hf hh Try.sz_43 fun w hh => ?_
             refine ops_end ?_
             refine then_n ⟨⟨fun _ _ => (hh.less (.cons _ (List.Sublist.refl _))), trivial⟩, ?_⟩
             refine mc_p rfl   hf (yv_assign rfl) (.inl rfl) rfl rfl ?_; clear hf a; intro a hf
             refine mc_end ?_
             refine then_n ?_
             refine sy_sq ?_
             refine o_v hf hh (y_lds Try.ag_43 rfl) ?_; clear hf a; intro a hf
             refine o_v hf hh (y_lds Try.ag_43 rfl) ?_; clear hf a; intro a hf
             refine o_v hf hh (yv_cast (yv_neF [s1, s2] [s1, s2] fl43 rfl rfl) (congrArg Value.bool (show _ = false by simp))) ?_; clear hf a; intro a hf
             refine o_v hf hh (yv_move rfl) ?_; clear hf a; intro a hf
             refine o_v hf hh (yv_move rfl) ?_; clear hf a; intro a hf
             refine o_v hf hh (yv_move rfl) ?_; clear hf a; intro a hf
             refine o_v hf hh (yv_bin rfl rfl rfl) ?_; clear hf a; intro a hf
             refine o_v hf hh (y_pf rfl rfl) ?_; clear hf a; intro a hf
             refine o_end ?_
             refine c_f hf ?_
             refine sy_skip ?_
             refine blk_n ?_
             refine then_n ?_
             refine sy_ops ?_
             refine o_v hf hh (y_add rfl rfl) ?_; clear hf a; intro a hf
             refine o_v hf hh (yv_move rfl) ?_; clear hf a; intro a hf
             refine ops_end ?_
             refine then_n ?_
             exact ⟨g + 1, ⟨⟨by omega, hh.less (List.nil_sublist _)⟩, (hf.head (by repeat' (first | exact True.intro | refine And.intro rfl ?_)) (Keep.cons rfl (Keep.cons rfl (Keep.cons rfl (Keep.cons rfl (Keep.cons rfl (Keep.cons rfl (Keep.cons rfl (Keep.cons rfl (Keep.cons rfl (Keep.cons rfl (Keep.cons rfl (Keep.cons rfl (Keep.cons rfl (Keep.cons rfl (Keep.cons rfl (Keep.cons rfl (Keep.cons rfl (Keep.cons rfl (Keep.cons rfl (Keep.cons rfl (Keep.cons rfl (Keep.cons rfl (Keep.cons rfl (Keep.cons rfl (Keep.cons rfl (Keep.cons rfl (Keep.cons rfl (Keep.cons rfl (Keep.cons rfl (Keep.cons rfl (Keep.cons rfl (Keep.app rfl (Keep.rm rfl Keep.base))))))))))))))))))))))))))))))))))⟩, by omega⟩
            ·refine mc_e rfl fun Q1 => ?_
             refine o_alloc hf hh Try.ze_43 ?_; clear hf hh a; intro B16 a w hf hh
             refine ops_end ?_
             refine then_n ⟨⟨fun _ _ => (hh.less (.cons _ (List.Sublist.refl _))), trivial⟩, ?_⟩
             refine mc_e rfl fun Q1 => ?_
             refine o_call hf Try.en_25 rfl rfl rfl (p25 d' p' (σ g : Nat) _ (hB9.ext hh.ext)) ?_; clear hf a; intro v a w hR hf
             rw [m1, m2] at hR
             obtain ⟨rfl, hx⟩ := hR; replace hh := hh.more hx; clear hx
             refine ops_end ?_
             refine then_n ⟨⟨fun _ _ => (hh.less (.cons _ (List.Sublist.refl _))), trivial⟩, ?_⟩
             refine mc_p rfl   hf (yv_move rfl) (.inl rfl) rfl rfl ?_; clear hf a; intro a hf
             refine mc_p rfl   hf (yv_extract rfl rfl) (.inl rfl) rfl rfl ?_; clear hf a; intro a hf
             refine mc_p rfl   hf (yv_extract rfl rfl) (.inl rfl) rfl rfl ?_; clear hf a; intro a hf
             refine mc_e rfl fun Q1 => ?_
             refine o_store hf hh Try.sz_43 fun w hh => ?_
             refine ops_end ?_
             refine then_n ⟨⟨fun _ _ => (hh.less (.cons _ (List.Sublist.refl _))), trivial⟩, ?_⟩
             refine mc_p rfl   hf (yv_assign rfl) (.inl rfl) rfl rfl ?_; clear hf a; intro a hf
             refine mc_end ?_
             refine then_n ?_
             refine sy_sq ?_
             refine o_v hf hh (y_lds Try.ag_43 rfl) ?_; clear hf a; intro a hf
             refine o_v hf hh (y_lds Try.ag_43 rfl) ?_; clear hf a; intro a hf
             refine o_v hf hh (yv_cast (yv_neF [s1, s2] [s1, s2] fl43 rfl rfl) (congrArg Value.bool (show _ = false by simp))) ?_; clear hf a; intro a hf
             refine o_v hf hh (yv_move rfl) ?_; clear hf a; intro a hf
             refine o_v hf hh (yv_move rfl) ?_; clear hf a; intro a hf
             refine o_v hf hh (yv_move rfl) ?_; clear hf a; intro a hf
             refine o_v hf hh (yv_bin rfl rfl rfl) ?_; clear hf a; intro a hf
             refine o_v hf hh (y_pf rfl rfl) ?_; clear hf a; intro a hf
             refine o_end ?_
             refine c_f hf ?_
             refine sy_skip ?_
             refine blk_n ?_
             refine then_n ?_
             refine sy_ops ?_
             refine o_v hf hh (y_add rfl rfl) ?_; clear hf a; intro a hf
             refine o_v hf hh (yv_move rfl) ?_; clear hf a; intro a hf
             refine ops_end ?_
             refine then_n ?_
             exact ⟨g + 1, ⟨⟨by omega, hh.less (List.nil_sublist _)⟩, (hf.head (by repeat' (first | exact True.intro | refine And.intro rfl ?_)) (Keep.cons rfl (Keep.cons rfl (Keep.cons rfl (Keep.cons rfl (Keep.cons rfl (Keep.cons rfl (Keep.cons rfl (Keep.cons rfl (Keep.cons rfl (Keep.cons rfl (Keep.cons rfl (Keep.cons rfl (Keep.cons rfl (Keep.cons rfl (Keep.cons rfl (Keep.cons rfl (Keep.cons rfl (Keep.cons rfl (Keep.cons rfl (Keep.cons rfl (Keep.cons rfl (Keep.cons rfl (Keep.cons rfl (Keep.cons rfl (Keep.cons rfl (Keep.cons rfl (Keep.cons rfl (Keep.cons rfl (Keep.cons rfl (Keep.cons rfl (Keep.cons rfl (Keep.app rfl (Keep.rm rfl Keep.base))))))))))))))))))))))))))))))))))⟩, by omega⟩
           ·refine mc_e rfl fun Q1 => ?_
            refine o_alloc hf hh Try.ze_43 ?_; clear hf hh a; intro B16 a w hf hh
            refine ops_end ?_
            refine then_n ⟨⟨fun _ _ => (hh.less (.cons _ (List.Sublist.refl _))), trivial⟩, ?_⟩
            refine mc_e rfl fun Q1 => ?_
            refine o_call hf Try.en_47 rfl rfl rfl (p47 ((g : Nat) : Int) s d.terms.length B3 B5 σ _ hσ (hh.ext.get q3) (hh.ext.get q5) (by omega) (by omega) (by omega)) ?_; clear hf a; intro v a w hR hf
            rw [Int.toNat_natCast] at hR
            obtain ⟨rfl, hx⟩ := hR; replace hh := hh.more hx; clear hx
            refine ops_end ?_
            refine then_n ⟨⟨fun _ _ => (hh.less (.cons _ (List.Sublist.refl _))), trivial⟩, ?_⟩
            refine mc_e rfl fun Q1 => ?_
            refine o_call hf Try.en_25 rfl rfl rfl (p25 d' p' (σ g : Nat) _ (hB9.ext hh.ext)) ?_; clear hf a; intro v a w hR hf
            rw [m1, m2] at hR
            obtain ⟨rfl, hx⟩ := hR; replace hh := hh.more hx; clear hx
            refine ops_end ?_
            refine then_n ⟨⟨fun _ _ => (hh.less (.cons _ (List.Sublist.refl _))), trivial⟩, ?_⟩
            refine mc_p rfl   hf (yv_move rfl) (.inl rfl) rfl rfl ?_; clear hf a; intro a hf
            refine mc_p rfl   hf (yv_extract rfl rfl) (.inl rfl) rfl rfl ?_; clear hf a; intro a hf
            refine mc_p rfl   hf (yv_extract rfl rfl) (.inl rfl) rfl rfl ?_; clear hf a; intro a hf
            refine mc_e rfl fun Q1 => ?_
            refine o_store hf hh Try.sz_43 fun w hh => ?_
            refine ops_end ?_
            refine then_n ⟨⟨fun _ _ => (hh.less (.cons _ (List.Sublist.refl _))), trivial⟩, ?_⟩
            refine mc_p rfl   hf (yv_assign rfl) (.inl rfl) rfl rfl ?_; clear hf a; intro a hf
            refine mc_end ?_
            refine then_n ?_
            refine sy_sq ?_
            refine o_v hf hh (y_lds Try.ag_43 rfl) ?_; clear hf a; intro a hf
            refine o_v hf hh (y_lds Try.ag_43 rfl) ?_; clear hf a; intro a hf
            refine o_v hf hh (yv_cast (yv_neF [s1, s2] [s1, s2] fl43 rfl rfl) (congrArg Value.bool (show _ = false by simp))) ?_; clear hf a; intro a hf
            refine o_v hf hh (yv_move rfl) ?_; clear hf a; intro a hf
            refine o_v hf hh (yv_move rfl) ?_; clear hf a; intro a hf
            refine o_v hf hh (yv_move rfl) ?_; clear hf a; intro a hf
            refine o_v hf hh (yv_bin rfl rfl rfl) ?_; clear hf a; intro a hf
            refine o_v hf hh (y_pf rfl rfl) ?_; clear hf a; intro a hf
            refine o_end ?_
            refine c_f hf ?_
            refine sy_skip ?_
            refine blk_n ?_
            refine then_n ?_
            refine sy_ops ?_
            refine o_v hf hh (y_add rfl rfl) ?_; clear hf a; intro a hf
            refine o_v hf hh (yv_move rfl) ?_; clear hf a; intro a hf
            refine ops_end ?_
            refine then_n ?_
            exact ⟨g + 1, ⟨⟨by omega, hh.less (List.nil_sublist _)⟩, (hf.head (by repeat' (first | exact True.intro | refine And.intro rfl ?_)) (Keep.cons rfl (Keep.cons rfl (Keep.cons rfl (Keep.cons rfl (Keep.cons rfl (Keep.cons rfl (Keep.cons rfl (Keep.cons rfl (Keep.cons rfl (Keep.cons rfl (Keep.cons rfl (Keep.cons rfl (Keep.cons rfl (Keep.cons rfl (Keep.cons rfl (Keep.cons rfl (Keep.cons rfl (Keep.cons rfl (Keep.cons rfl (Keep.cons rfl (Keep.cons rfl (Keep.cons rfl (Keep.cons rfl (Keep.cons rfl (Keep.cons rfl (Keep.cons rfl (Keep.cons rfl (Keep.cons rfl (Keep.cons rfl (Keep.cons rfl (Keep.cons rfl (Keep.app rfl (Keep.rm rfl Keep.base))))))))))))))))))))))))))))))))))⟩, by omega⟩
          ·have hG23 := hg23; try simp only [gS] at hG23
           refine sy_exit ?_
           refine then_e ?_
           refine then_e ?_
           refine blk_e ?_
           refine then_n ?_
           refine sy_seq ?_
           refine sy_sq ?_
           refine o_v hf hh (yv_fieldAddr Try.fo_37_1 rfl) ?_; clear hf a; intro a hf
           refine o_v hf hh (y_ld Try.sc_22 rfl) ?_; clear hf a; intro a hf
           refine o_v hf hh (yv_len Try.se_22 rfl) ?_; clear hf a; intro a hf
           refine o_v hf hh (yv_move rfl) ?_; clear hf a; intro a hf
           refine o_end ?_
           refine sy_block ?_
           refine sy_loopH (σ := Nat) [4, 18, 19, 20, 21, 22, 23, 24, 25, 26, 27, 28, 29, 30, 31, 32, 33, 34, 147, 148, 149, 150, 151, 152, 153, 154, 155, 156, 157, 158, 159, 160, 161, 162, 163, 164, 165, 166, 167, 168, 169, 170, 171, 172, 173, 174, 175, 176, 177, 178, 179, 180, 181, 182, 183, 184, 185, 186, 187, 188, 189, 190, 191, 192, 193, 194, 195, 196, 197, 198, 199, 200, 201, 202, 203, 204, 205, 206, 207, 208, 209, 210, 211, 212, 213, 214, 215, 216, 217, 218, 219, 220, 221, 222, 223, 224, 225, 226, 227, 228, 229, 230, 231, 232, 233, 234, 235, 236, 237, 238, 239, 240, 241, 242, 243, 244, 245, 246, 247, 248, 249, 250, 251, 252, 253] (fun k => [(147, .int .i64 (k : Nat))]) (fun k => fun w' => k ≤ d.prices.length ∧ Hp w9 [] [] w') (fun k => d.prices.length - k) (0) hf ?_ ?_ ?_
           · repeat' (first | exact True.intro | refine And.intro rfl ?_)
           · exact ⟨Nat.zero_le _, hh⟩
           ·rintro k a w ⟨hk, hh⟩ hf
            refine sy_sq ?_
            refine o_v hf hh (yv_bin rfl rfl rfl) ?_; clear hf a; intro a hf
            refine o_end ?_
            refine sy_seq ?_
            refine sy_cond hf rfl (fun hg42 => ?_) (fun hg42 => ?_)
            ·have hG42 := hg42; try simp only [gS] at hG42
             refine sy_skip ?_
             refine then_n ?_
             refine sy_seq ?_
             refine sy_block ?_
             refine sy_sq ?_
             refine o_v hf hh (yv_move rfl) ?_; clear hf a; intro a hf
             refine o_v hf hh (yv_assign rfl) ?_; clear hf a; intro a hf
             refine o_end ?_
             refine sy_seq ?_
             obtain ⟨m1, m2⟩ := turn_all hT hO (k := k) (by omega)
             have e1 := allE_ok hO (k := k) (by omega)
             obtain ⟨s1, s2, hs⟩ : ∃ s1 s2, allV d k = (s1, s2) := ⟨_, _, rfl⟩
             rw [hs] at m1
             obtain ⟨m, hm⟩ := ex_of (l := d.shares) (i := k) (by omega)
             have hS := hO.s m (List.mem_of_getElem? hm)
             have es : sharesN d k = m := getD_at hm
             have hm1 := hS.n1; have hm5 := hS.n2
             obtain ⟨blks, offs, ccs, Ts, frs, sb, cb, e9, hbs, hcs, hI⟩ := hA9.sh k m hm; dsimp only at e9; subst e9
             refine sy_ops ?_
             refine o_v hf hh (y_lds Try.ag_37 rfl) ?_; clear hf a; intro a hf
             refine o_v hf hh (yv_move rfl) ?_; clear hf a; intro a hf
             refine o_call hf Try.en_28 rfl rfl rfl (p28 d _ (k : Nat) _ (hA9.ext hh.ext)) ?_; clear hf a; intro v a w hR hf
             rw [hs, e1] at hR
             obtain ⟨rfl, hx⟩ := hR; replace hh := hh.more hx; clear hx
             refine o_v hf hh (yv_move rfl) ?_; clear hf a; intro a hf
             refine o_v hf hh (yv_extract rfl rfl) ?_; clear hf a; intro a hf
             refine o_v hf hh (yv_extract rfl rfl) ?_; clear hf a; intro a hf
             refine o_alloc hf hh Try.ze_43 ?_; clear hf hh a; intro B19 a w hf hh
             refine o_store hf hh Try.sz_43 fun w hh => ?_
             refine o_v hf hh (yv_assign rfl) ?_; clear hf a; intro a hf
             refine o_end ?_
             refine sy_sq ?_
             refine o_v hf hh (y_lds Try.ag_37 rfl) ?_; clear hf a; intro a hf
             refine o_v hf hh (yv_move rfl) ?_; clear hf a; intro a hf
             refine o_call hf Try.en_28 rfl rfl rfl (p28 d' p' (k : Nat) _ (hB9.ext hh.ext)) ?_; clear hf a; intro v a w hR hf
             rw [m1, m2] at hR
             obtain ⟨rfl, hx⟩ := hR; replace hh := hh.more hx; clear hx
             refine o_v hf hh (yv_move rfl) ?_; clear hf a; intro a hf
             refine o_v hf hh (yv_extract rfl rfl) ?_; clear hf a; intro a hf
             refine o_v hf hh (yv_extract rfl rfl) ?_; clear hf a; intro a hf
             refine o_alloc hf hh Try.ze_43 ?_; clear hf hh a; intro B21 a w hf hh
             refine o_store hf hh Try.sz_43 fun w hh => ?_
             refine o_v hf hh (yv_assign rfl) ?_; clear hf a; intro a hf
             refine o_end ?_
             refine sy_seq ?_
             refine sy_sq ?_
             refine o_v hf hh (y_lds Try.ag_43 rfl) ?_; clear hf a; intro a hf
             refine o_v hf hh (y_lds Try.ag_43 rfl) ?_; clear hf a; intro a hf
             refine o_v hf hh (yv_cast (yv_neF [s1, s2] [s1, s2] fl43 rfl rfl) (congrArg Value.bool (show _ = false by simp))) ?_; clear hf a; intro a hf
             refine o_v hf hh (yv_move rfl) ?_; clear hf a; intro a hf
             refine o_v hf hh (yv_move rfl) ?_; clear hf a; intro a hf
             refine o_v hf hh (yv_move rfl) ?_; clear hf a; intro a hf
             refine o_v hf hh (yv_bin rfl rfl rfl) ?_; clear hf a; intro a hf
             refine o_v hf hh (y_pf rfl rfl) ?_; clear hf a; intro a hf
             refine o_end ?_
             refine c_f hf ?_
             refine sy_skip ?_
             refine then_n ?_
             refine sy_seq ?_
             refine sy_sq ?_
             refine o_v hf hh (yv_fieldAddr Try.fo_37_2 rfl) ?_; clear hf a; intro a hf
             refine o_v hf hh (y_ld Try.sc_34 rfl) ?_; clear hf a; intro a hf
             refine o_v hf hh (yv_move rfl) ?_; clear hf a; intro a hf
             refine o_v hf hh (y_ix Try.se_34 rfl rfl) ?_; clear hf a; intro a hf
             refine o_v hf hh (y_ld Try.sc_22 rfl) ?_; clear hf a; intro a hf
             refine o_v hf hh (yv_len Try.se_22 rfl) ?_; clear hf a; intro a hf
             refine o_v hf hh (yv_move rfl) ?_; clear hf a; intro a hf
             refine o_end ?_
             refine sy_block ?_
             refine sy_loopH (σ := Nat) [4, 23, 24, 25, 26, 27, 176, 177, 178, 179, 180, 181, 182, 183, 184, 185, 186, 187, 188, 189, 190, 191, 192, 193, 194, 195, 196, 197, 198, 199, 200, 201] (fun j => [(176, .int .i64 (j : Nat))]) (fun j => fun w' => j ≤ m.length ∧ Hp w9 [] [] w') (fun j => m.length - j) (0) hf ?_ ?_ ?_
             · repeat' (first | exact True.intro | refine And.intro rfl ?_)
             · exact ⟨Nat.zero_le _, hh.less (List.nil_sublist _)⟩
             ·rintro j a w ⟨hj, hh⟩ hf
              refine sy_sq ?_
              refine o_v hf hh (yv_bin rfl rfl rfl) ?_; clear hf a; intro a hf
              refine o_end ?_
              refine sy_seq ?_
              refine sy_cond hf rfl (fun hg51 => ?_) (fun hg51 => ?_)
              ·have hG51 := hg51; try simp only [gS] at hG51
               refine sy_skip ?_
               refine then_n ?_
               refine sy_seq ?_
               refine sy_block ?_
               refine sy_sq ?_
               refine o_v hf hh (yv_move rfl) ?_; clear hf a; intro a hf
               refine o_v hf hh (yv_assign rfl) ?_; clear hf a; intro a hf
               refine o_end ?_
               refine sy_seq ?_
               obtain ⟨m3, m4, e2⟩ := turn_get hT hO (k := k) (part := j) (by omega) (by rw [es]; omega)
               obtain ⟨s1, s2, hs⟩ : ∃ s1 s2, getV d k j = (s1, s2) := ⟨_, _, rfl⟩
               rw [hs] at m3
               refine sy_ops ?_
               refine o_v hf hh (y_lds Try.ag_37 rfl) ?_; clear hf a; intro a hf
               refine o_v hf hh (yv_move rfl) ?_; clear hf a; intro a hf
               refine o_v hf hh (yv_move rfl) ?_; clear hf a; intro a hf
               refine o_call hf Try.en_32 rfl rfl rfl (p32 d _ (k : Nat) (j : Nat) _ (hA9.ext hh.ext)) ?_; clear hf a; intro v a w hR hf
               rw [hs, e2] at hR
               obtain ⟨rfl, hx⟩ := hR; replace hh := hh.more hx; clear hx
               refine o_v hf hh (yv_move rfl) ?_; clear hf a; intro a hf
               refine o_v hf hh (yv_extract rfl rfl) ?_; clear hf a; intro a hf
               refine o_v hf hh (yv_extract rfl rfl) ?_; clear hf a; intro a hf
               refine o_alloc hf hh Try.ze_43 ?_; clear hf hh a; intro B24 a w hf hh
               refine o_store hf hh Try.sz_43 fun w hh => ?_
               refine o_v hf hh (yv_assign rfl) ?_; clear hf a; intro a hf
               refine o_end ?_
               refine sy_sq ?_
               refine o_v hf hh (y_lds Try.ag_37 rfl) ?_; clear hf a; intro a hf
               refine o_v hf hh (yv_move rfl) ?_; clear hf a; intro a hf
               refine o_v hf hh (yv_move rfl) ?_; clear hf a; intro a hf
               refine o_call hf Try.en_32 rfl rfl rfl (p32 d' p' (k : Nat) (j : Nat) _ (hB9.ext hh.ext)) ?_; clear hf a; intro v a w hR hf
               rw [m3, m4] at hR
               obtain ⟨rfl, hx⟩ := hR; replace hh := hh.more hx; clear hx
               refine o_v hf hh (yv_move rfl) ?_; clear hf a; intro a hf
               refine o_v hf hh (yv_extract rfl rfl) ?_; clear hf a; intro a hf
               refine o_v hf hh (yv_extract rfl rfl) ?_; clear hf a; intro a hf
               refine o_alloc hf hh Try.ze_43 ?_; clear hf hh a; intro B26 a w hf hh
               refine o_store hf hh Try.sz_43 fun w hh => ?_
               refine o_v hf hh (yv_assign rfl) ?_; clear hf a; intro a hf
               refine o_end ?_
               refine sy_sq ?_
               refine o_v hf hh (y_lds Try.ag_43 rfl) ?_; clear hf a; intro a hf
               refine o_v hf hh (y_lds Try.ag_43 rfl) ?_; clear hf a; intro a hf
               refine o_v hf hh (yv_cast (yv_neF [s1, s2] [s1, s2] fl43 rfl rfl) (congrArg Value.bool (show _ = false by simp))) ?_; clear hf a; intro a hf
               refine o_v hf hh (yv_move rfl) ?_; clear hf a; intro a hf
               refine o_v hf hh (yv_move rfl) ?_; clear hf a; intro a hf
               refine o_v hf hh (yv_move rfl) ?_; clear hf a; intro a hf
               refine o_v hf hh (yv_bin rfl rfl rfl) ?_; clear hf a; intro a hf
               refine o_v hf hh (y_pf rfl rfl) ?_; clear hf a; intro a hf
               refine o_end ?_
               refine c_f hf ?_
               refine sy_skip ?_
               refine blk_n ?_
               refine then_n ?_
               refine sy_ops ?_
               refine o_v hf hh (y_add rfl rfl) ?_; clear hf a; intro a hf
               refine o_v hf hh (yv_move rfl) ?_; clear hf a; intro a hf
               refine ops_end ?_
               refine then_n ?_
               exact ⟨j + 1, ⟨⟨by omega, hh.less (List.nil_sublist _)⟩, (hf.head (by repeat' (first | exact True.intro | refine And.intro rfl ?_)) (Keep.cons rfl (Keep.cons rfl (Keep.cons rfl (Keep.cons rfl (Keep.cons rfl (Keep.cons rfl (Keep.cons rfl (Keep.cons rfl (Keep.cons rfl (Keep.cons rfl (Keep.cons rfl (Keep.cons rfl (Keep.cons rfl (Keep.cons rfl (Keep.cons rfl (Keep.cons rfl (Keep.cons rfl (Keep.cons rfl (Keep.cons rfl (Keep.cons rfl (Keep.cons rfl (Keep.cons rfl (Keep.cons rfl (Keep.cons rfl (Keep.cons rfl (Keep.cons rfl (Keep.cons rfl (Keep.cons rfl (Keep.cons rfl (Keep.cons rfl (Keep.cons rfl (Keep.app rfl (Keep.rm rfl Keep.base))))))))))))))))))))))))))))))))))⟩, by omega⟩
              ·have hG51 := hg51; try simp only [gS] at hG51
               refine sy_exit ?_
               refine then_e ?_
               refine then_e ?_
               refine blk_e ?_
               refine then_n ?_
               refine sy_sq ?_
               refine ops_buildSl hf hh Try.bl_22_0 rfl rfl (.inl rfl) rfl ?_; clear hf hh; clear a; intro B202 a w hf hh
               refine o_v hf hh (yv_fieldAddr Try.fo_37_2 rfl) ?_; clear hf a; intro a hf
               refine o_v hf hh (y_ld Try.sc_34 rfl) ?_; clear hf a; intro a hf
               refine o_v hf hh (yv_move rfl) ?_; clear hf a; intro a hf
               refine o_v hf hh (y_ix Try.se_34 rfl rfl) ?_; clear hf a; intro a hf
               refine o_v hf hh (y_ld Try.sc_22 rfl) ?_; clear hf a; intro a hf
               refine ops_appendV (e := 3) (size := 1) (xs := []) (news := m.flatMap ivC) (X := [(B202, .cells #[] 3)]) (m := 0) hf hh Try.eb_22 rfl rfl ⟨rfl, .inr ⟨B202, 0, #[], rfl, rfl, Nat.le_refl _, Nat.zero_le _, rfl, rfl⟩⟩ (vals_of (enc := ivC) (n := 1) (fun _ => rfl) (iat_tat (hI.ext hh.ext))) (flat_len (enc := ivC) (n := 1) (fun _ => rfl) _) (by omega) (iv_1c _) (by simp only [maxLen]; omega) (by omega) (.inl rfl) rfl ?_
               clear hf hh a; intro v28 X28 a w hO28 hf hh
               rw [Nat.zero_add, List.nil_append] at hO28
               obtain ⟨oa28, cp28, rfl⟩ := own_val hO28
               rw [List.append_nil] at hh
               refine o_v hf hh (yv_assign rfl) ?_; clear hf a; intro a hf
               refine o_end ?_
               refine sy_seq ?_
               have ev := (splV_ok (n := 1001) (l := m) (by decide) (shB_iff.2 hS)).1
               obtain ⟨L, hL⟩ : ∃ L, L = splV 1001 m := ⟨_, rfl⟩
               have hLl : L.length = m.length := by rw [hL, ev, split_len]
               refine sy_ops ?_
               refine o_v hf hh (yv_fieldAddr Try.fo_37_2 rfl) ?_; clear hf a; intro a hf
               refine o_v hf hh (y_ld Try.sc_34 rfl) ?_; clear hf a; intro a hf
               refine o_v hf hh (yv_move rfl) ?_; clear hf a; intro a hf
               refine o_v hf hh (y_ix Try.se_34 rfl rfl) ?_; clear hf a; intro a hf
               refine o_v hf hh (y_ld Try.sc_22 rfl) ?_; clear hf a; intro a hf
               refine o_call hf Try.en_15 rfl rfl rfl (p15 1001 m sb cb _ (hI.ext hh.ext) (by omega)) ?_; clear hf a; intro v a w hR hf
               rw [← hL] at hR
               obtain ⟨oap, cpp, Xp, rfl, hOp, hx9⟩ := hR; replace hh := (hh.join hx9).perm List.perm_append_comm; clear hx9
               obtain ⟨B29, cur29, rfl, rfl, rfl, hCF29⟩ := hOp.pos (by omega)
               have hz29 := hCF29.1
               refine o_v hf hh (yv_move rfl) ?_; clear hf a; intro a hf
               refine o_v hf hh (yv_extract rfl rfl) ?_; clear hf a; intro a hf
               refine o_v hf hh (yv_extract rfl rfl) ?_; clear hf a; intro a hf
               refine o_v hf hh (yv_assign rfl) ?_; clear hf a; intro a hf
               refine o_v hf hh (yv_assign rfl) ?_; clear hf a; intro a hf
               refine o_end ?_
               refine sy_sq ?_
               refine ops_buildSl hf hh Try.bl_22_0 rfl rfl (.inl rfl) rfl ?_; clear hf hh; clear a; intro B218 a w hf hh
               refine o_v hf hh (yv_move rfl) ?_; clear hf a; intro a hf
               refine ops_appendV (e := 3) (size := 1) (xs := []) (news := L.flatMap ivC) (X := [(B218, .cells #[] 3)]) (m := 0) hf hh Try.eb_22 rfl rfl ⟨rfl, .inr ⟨B218, 0, #[], rfl, rfl, Nat.le_refl _, Nat.zero_le _, rfl, rfl⟩⟩ (vals_of (enc := ivC) (n := 1) (fun _ => rfl) (iat_tat (hCF29.iat (hh.get (B29, .cells cur29 3) (by simp))))) (flat_len (enc := ivC) (n := 1) (fun _ => rfl) _) (by omega) (iv_1c _) (by simp only [maxLen]; omega) (by omega) (.inl rfl) rfl ?_
               clear hf hh a; intro v31 X31 a w hO31 hf hh
               rw [Nat.zero_add, List.nil_append] at hO31
               obtain ⟨oa31, cp31, rfl⟩ := own_val hO31
               replace hh : Hp w9 [] ((B29, .cells cur29 3) :: (X28 ++ X31)) w := hh.perm ((List.perm_append_comm (l₁ := X31) (l₂ := X28 ++ [(B29, Obj.cells cur29 3)])).trans (by rw [List.append_assoc]; exact List.perm_middle))
               refine o_v hf hh (yv_assign rfl) ?_; clear hf a; intro a hf
               refine o_end ?_
               refine sy_seq ?_
               refine sy_sq ?_
               refine o_v hf hh (yv_move rfl) ?_; clear hf a; intro a hf
               refine o_v hf hh (yv_len Try.se_22 rfl) ?_; clear hf a; intro a hf
               refine o_v hf hh (yv_move rfl) ?_; clear hf a; intro a hf
               refine o_end ?_
               refine sy_block ?_
               refine sy_loopH (σ := Nat × Array Value) [32, 223, 224, 225, 226, 227, 228, 229] (fun x => [(223, .int .i64 (x.1 : Nat))]) (fun x => fun w' => x.1 ≤ L.length ∧ x.2.size = cur29.size ∧ Hp w9 [] ((B29, .cells x.2 3) :: (X28 ++ X31)) w') (fun x => L.length - x.1) ((0, cur29)) hf ?_ ?_ ?_
               · repeat' (first | exact True.intro | refine And.intro rfl ?_)
               · exact ⟨Nat.zero_le _, rfl, hh⟩
               ·rintro x a w ⟨hj, hzc, hh⟩ hf
                obtain ⟨j, cur⟩ := x; dsimp only at hj hzc hh hf ⊢
                refine sy_sq ?_
                refine o_v hf hh (yv_bin rfl rfl rfl) ?_; clear hf a; intro a hf
                refine o_end ?_
                refine sy_seq ?_
                refine sy_cond hf rfl (fun hg65 => ?_) (fun hg65 => ?_)
                ·have hG65 := hg65; try simp only [gS] at hG65
                 refine sy_skip ?_
                 refine then_n ?_
                 refine sy_seq ?_
                 refine sy_block ?_
                 refine sy_sq ?_
                 refine o_v hf hh (yv_move rfl) ?_; clear hf a; intro a hf
                 refine o_v hf hh (yv_assign rfl) ?_; clear hf a; intro a hf
                 refine o_end ?_
                 refine sy_ops ?_
                 refine o_v hf hh (yv_move rfl) ?_; clear hf a; intro a hf
                 refine o_v hf hh (yv_move rfl) ?_; clear hf a; intro a hf
                 refine o_v hf hh (y_ix Try.se_22 rfl rfl) ?_; clear hf a; intro a hf
                 refine o_store (i := 0) hf hh Try.sz_3 (hx := rfl) (hi := atI (i := 0) rfl) (hy := rfl) (hl := Nat.ble_eq_true_of_le (by rw [Int.toNat_natCast]; omega)) fun w hh => ?_
                 refine ops_end ?_
                 refine blk_n ?_
                 refine then_n ?_
                 refine sy_ops ?_
                 refine o_v hf hh (y_add rfl rfl) ?_; clear hf a; intro a hf
                 refine o_v hf hh (yv_move rfl) ?_; clear hf a; intro a hf
                 refine ops_end ?_
                 refine then_n ?_
                 exact ⟨(j + 1, _), ⟨⟨by dsimp only; omega, (spl_sizeN (c := cur) (off := 0 + ((j : Nat) : Int).toNat * 1) (vs := [.int .i64 (-9)]) (by rw [Int.toNat_natCast]; show _ + 1 ≤ _; omega)).trans hzc, hh⟩, (hf.head (by repeat' (first | exact True.intro | refine And.intro rfl ?_)) (Keep.cons rfl (Keep.cons rfl (Keep.cons rfl (Keep.cons rfl (Keep.cons rfl (Keep.cons rfl (Keep.cons rfl (Keep.cons rfl (Keep.app rfl (Keep.rm rfl Keep.base)))))))))))⟩, by dsimp only; omega⟩
                ·have hG65 := hg65; try simp only [gS] at hG65
                 refine sy_exit ?_
                 refine then_e ?_
                 refine then_e ?_
                 refine blk_e ?_
                 refine then_n ?_
                 refine sy_sq ?_
                 refine o_v hf hh (yv_fieldAddr Try.fo_37_2 rfl) ?_; clear hf a; intro a hf
                 refine o_v hf hh (y_ld Try.sc_34 rfl) ?_; clear hf a; intro a hf
                 refine o_v hf hh (yv_move rfl) ?_; clear hf a; intro a hf
                 refine o_v hf hh (y_ix Try.se_34 rfl rfl) ?_; clear hf a; intro a hf
                 refine o_v hf hh (y_ld Try.sc_22 rfl) ?_; clear hf a; intro a hf
                 refine o_call hf Try.en_15 rfl rfl rfl (p15 1001 m sb cb _ (hI.ext hh.ext) (by omega)) ?_; clear hf a; intro v a w hR hf
                 rw [← hL] at hR
                 obtain ⟨oaq, cpq, Xq, rfl, hOq, hx9⟩ := hR; replace hh := (hh.join hx9).perm List.perm_append_comm; clear hx9
                 refine o_v hf hh (yv_move rfl) ?_; clear hf a; intro a hf
                 refine o_v hf hh (yv_extract rfl rfl) ?_; clear hf a; intro a hf
                 refine o_v hf hh (yv_extract rfl rfl) ?_; clear hf a; intro a hf
                 refine o_v hf hh (yv_assign rfl) ?_; clear hf a; intro a hf
                 refine o_v hf hh (yv_assign rfl) ?_; clear hf a; intro a hf
                 refine o_end ?_
                 refine sy_sq ?_
                 refine o_v hf hh (yv_move rfl) ?_; clear hf a; intro a hf
                 refine o_v hf hh (yv_move rfl) ?_; clear hf a; intro a hf
                 refine o_call hf Try.en_19 rfl rfl rfl (p19 L L _ _ _ _ _ (hOq.iat (fun q hq => hh.get q (by simp [hq]))) (tat_iat (own_tat (enc := ivC) (n := 1) (l := L) (fun _ => rfl) hO31 rfl (fun q hq => hh.get q (by simp [hq])))) (by omega)) ?_; clear hf a; intro v a w hR hf
                 rw [decide_eq_true (rfl : L = L)] at hR
                 obtain ⟨rfl, hx⟩ := hR; replace hh := hh.more hx; clear hx
                 refine o_v hf hh (yv_not rfl) ?_; clear hf a; intro a hf
                 refine o_v hf hh (yv_move rfl) ?_; clear hf a; intro a hf
                 refine o_v hf hh (yv_move rfl) ?_; clear hf a; intro a hf
                 refine o_v hf hh (yv_fieldAddr Try.fo_37_2 rfl) ?_; clear hf a; intro a hf
                 refine o_v hf hh (y_ld Try.sc_34 rfl) ?_; clear hf a; intro a hf
                 refine o_v hf hh (yv_move rfl) ?_; clear hf a; intro a hf
                 refine o_v hf hh (y_ix Try.se_34 rfl rfl) ?_; clear hf a; intro a hf
                 refine o_v hf hh (y_ld Try.sc_22 rfl) ?_; clear hf a; intro a hf
                 refine o_call hf Try.en_19 rfl rfl rfl (p19 m m _ _ _ _ _ (tat_iat (own_tat (enc := ivC) (n := 1) (l := m) (fun _ => rfl) hO28 rfl (fun q hq => hh.get q (by simp [hq])))) (hI.ext hh.ext) (by omega)) ?_; clear hf a; intro v a w hR hf
                 rw [decide_eq_true (rfl : m = m)] at hR
                 obtain ⟨rfl, hx⟩ := hR; replace hh := hh.more hx; clear hx
                 refine o_v hf hh (yv_not rfl) ?_; clear hf a; intro a hf
                 refine o_v hf hh (y_pf rfl rfl) ?_; clear hf a; intro a hf
                 refine o_end ?_
                 refine c_f hf ?_
                 refine sy_skip ?_
                 refine blk_n ?_
                 refine then_n ?_
                 refine sy_ops ?_
                 refine o_v hf hh (y_add rfl rfl) ?_; clear hf a; intro a hf
                 refine o_v hf hh (yv_move rfl) ?_; clear hf a; intro a hf
                 refine ops_end ?_
                 refine then_n ?_
                 exact ⟨k + 1, ⟨⟨by omega, hh.less (List.nil_sublist _)⟩, (hf.head (by repeat' (first | exact True.intro | refine And.intro rfl ?_)) (Keep.cons rfl (Keep.cons rfl (Keep.cons rfl (Keep.cons rfl (Keep.cons rfl (Keep.cons rfl (Keep.cons rfl (Keep.cons rfl (Keep.cons rfl (Keep.cons rfl (Keep.cons rfl (Keep.cons rfl (Keep.cons rfl (Keep.cons rfl (Keep.cons rfl (Keep.cons rfl (Keep.cons rfl (Keep.cons rfl (Keep.cons rfl (Keep.cons rfl (Keep.cons rfl (Keep.cons rfl (Keep.cons rfl (Keep.cons rfl (Keep.cons rfl (Keep.cons rfl (Keep.cons rfl (Keep.cons rfl (Keep.app rfl (Keep.rm rfl (Keep.cons rfl (Keep.cons rfl (Keep.cons rfl (Keep.cons rfl (Keep.cons rfl (Keep.cons rfl (Keep.cons rfl (Keep.cons rfl (Keep.cons rfl (Keep.cons rfl (Keep.cons rfl (Keep.cons rfl (Keep.cons rfl (Keep.cons rfl (Keep.cons rfl (Keep.cons rfl (Keep.cons rfl (Keep.cons rfl (Keep.cons rfl (Keep.cons rfl (Keep.cons rfl (Keep.cons rfl (Keep.cons rfl (Keep.cons rfl (Keep.cons rfl (Keep.cons rfl (Keep.cons rfl (Keep.app rfl (Keep.rm rfl (Keep.cons rfl (Keep.cons rfl (Keep.cons rfl (Keep.cons rfl (Keep.cons rfl (Keep.cons rfl (Keep.cons rfl (Keep.cons rfl (Keep.cons rfl (Keep.cons rfl (Keep.cons rfl (Keep.cons rfl (Keep.cons rfl (Keep.cons rfl (Keep.cons rfl (Keep.cons rfl (Keep.cons rfl (Keep.cons rfl (Keep.cons rfl (Keep.cons rfl (Keep.cons rfl (Keep.cons rfl (Keep.cons rfl (Keep.cons rfl (Keep.cons rfl (Keep.cons rfl (Keep.cons rfl (Keep.cons rfl (Keep.cons rfl (Keep.cons rfl (Keep.cons rfl (Keep.cons rfl (Keep.cons rfl (Keep.cons rfl (Keep.app rfl (Keep.rm rfl Keep.base))))))))))))))))))))))))))))))))))))))))))))))))))))))))))))))))))))))))))))))))))))))))))))))))⟩, by omega⟩
            ·have hG42 := hg42; try simp only [gS] at hG42
             refine sy_exit ?_
             refine then_e ?_
             refine then_e ?_
             refine blk_e ?_
             refine then_n ?_
             refine sy_seq ?_
             refine sy_sq ?_
             refine o_v hf hh (yv_move rfl) ?_; clear hf a; intro a hf
             refine o_v hf hh (yv_len Try.se_35 rfl) ?_; clear hf a; intro a hf
             refine o_v hf hh (yv_move rfl) ?_; clear hf a; intro a hf
             refine o_end ?_
             refine sy_block ?_
             refine sy_loopH (σ := Nat) [4, 35, 256, 257, 258, 259, 260, 261, 262, 263, 264, 265, 266, 267, 268, 269] (fun i => [(256, .int .i64 (i : Nat))]) (fun i => fun w' => i ≤ d.reps.length ∧ Hp w9 [] [] w') (fun i => d.reps.length - i) (0) hf ?_ ?_ ?_
             · repeat' (first | exact True.intro | refine And.intro rfl ?_)
             · exact ⟨Nat.zero_le _, hh⟩
             ·rintro i a w ⟨hi, hh⟩ hf
              refine sy_sq ?_
              refine o_v hf hh (yv_bin rfl rfl rfl) ?_; clear hf a; intro a hf
              refine o_end ?_
              refine sy_seq ?_
              refine sy_cond hf rfl (fun hg70 => ?_) (fun hg70 => ?_)
              ·have hG70 := hg70; try simp only [gS] at hG70
               refine sy_skip ?_
               refine then_n ?_
               refine sy_seq ?_
               refine sy_block ?_
               refine sy_sq ?_
               refine o_v hf hh (yv_move rfl) ?_; clear hf a; intro a hf
               refine o_v hf hh (yv_assign rfl) ?_; clear hf a; intro a hf
               refine o_end ?_
               refine sy_seq ?_
               obtain ⟨r, hr⟩ := ex_of (l := d.reps) (i := i) (by omega)
               obtain ⟨blk1, off1, cc1, T1, fr1, e1, hb1, hc1⟩ := hC9 i r hr; subst e1
               obtain ⟨blk2, off2, cc2, T2, fr2, e2, hb2, hc2⟩ := hA9.rp i r hr; dsimp only at e2; subst e2
               refine sy_quiet (C := Hp _ _ _) Try.follows (by kernel_rfl) (hh.drawn _) ?_
               refine oq_v hf (yv_move rfl) ?_; clear hf a; intro a hf
               refine oq_v hf (yv_move rfl) ?_; clear hf a; intro a hf
               refine oq_v hf (y_ix Try.se_35 rfl rfl) ?_; clear hf a; intro a hf
               refine oq_v hf (y_lds Try.ag_66 rfl) ?_; clear hf a; intro a hf
               refine oq_v hf (yv_fieldAddr Try.fo_37_3 rfl) ?_; clear hf a; intro a hf
               refine oq_v hf (y_ld Try.sc_35 rfl) ?_; clear hf a; intro a hf
               refine oq_v hf (yv_move rfl) ?_; clear hf a; intro a hf
               refine oq_v hf (y_ix Try.se_35 rfl rfl) ?_; clear hf a; intro a hf
               refine oq_v hf (y_lds Try.ag_66 rfl) ?_; clear hf a; intro a hf
               refine oq_v hf (yv_cast (yv_neF [r.ag, r.kd, r.fi, r.la] [r.ag, r.kd, r.fi, r.la] fl66 rfl rfl) (congrArg Value.bool (show _ = false by simp))) ?_; clear hf a; intro a hf
               refine q_end fun w hh => ?_
               refine then_n ?_
               refine c_f hf ?_
               refine sy_skip ?_
               refine blk_n ?_
               refine then_n ?_
               refine sy_ops ?_
               refine o_v hf hh (y_add rfl rfl) ?_; clear hf a; intro a hf
               refine o_v hf hh (yv_move rfl) ?_; clear hf a; intro a hf
               refine ops_end ?_
               refine then_n ?_
               exact ⟨i + 1, ⟨⟨by omega, hh.less (List.nil_sublist _)⟩, (hf.head (by repeat' (first | exact True.intro | refine And.intro rfl ?_)) (Keep.cons rfl (Keep.cons rfl (Keep.cons rfl (Keep.cons rfl (Keep.cons rfl (Keep.cons rfl (Keep.cons rfl (Keep.cons rfl (Keep.cons rfl (Keep.cons rfl (Keep.cons rfl (Keep.cons rfl (Keep.cons rfl (Keep.cons rfl (Keep.cons rfl (Keep.app rfl (Keep.rm rfl Keep.base))))))))))))))))))⟩, by omega⟩
              ·have hG70 := hg70; try simp only [gS] at hG70
               refine sy_exit ?_
               refine then_e ?_
               refine then_e ?_
               refine blk_e ?_
               refine then_n ?_
               refine sy_sq ?_
               refine o_call hf Try.en_14 rfl rfl rfl (p14 _) ?_; clear hf a; intro v a w hR hf
               obtain ⟨rfl, hx⟩ := hR; replace hh := hh.more hx; clear hx
               refine o_v hf hh (yv_assign rfl) ?_; clear hf a; intro a hf
               refine o_end ?_
               refine sy_ret ?_
               refine ret_r hf rfl rfl ?_
               first
                 | exact ⟨rfl, hh.ext⟩
                 | exact ⟨rfl, hx0.trans hh.ext⟩
                 | omega
end Go.Proofs.Ytkfkifkdncdhoaa
