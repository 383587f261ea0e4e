/- Lemmas, in order: RoyalOnce. What a law is handed, opened: royalties, terms, numbers.. -/
import Derived.Test.YtkfkifkdncdhoaaQ18
import Derived.Test.YtkfkifkdncdhoaaRows
import Derived.Test.YtkfkifkdncdhoaaChecked
import Derived.JoinedOf
import Derived.LaidLaws
import Derived.RowKit
import Derived.RowKitTokens
import Derived.LaidHandle
import Derived.Stop.Joined
import Derived.Lay
import Derived.SizedLaws
import Derived.SevenTiedAt
namespace Go.Proofs.Ytkfkifkdncdhoaa
open Go Go.Sy Go.RoyM
set_option maxRecDepth 100000 in
theorem p46 (d : RoyD) (p : Pl) (B i j : Nat) (x y : RepD) (u : World) (hB : u.heap[B]? = some (.cells (royC d p) 37 (0, 0))) (hR : RoyAt u d p) (hx : d.reps[i]? = some x) (hy : d.reps[j]? = some y) : Calls Try.prog 46 #[.int .i64 (i : Nat), .int .i64 (j : Nat), ptr B 0] u (Ret fun v w' => v = .bool (endB x y) ∧ Ext [] u w') := by
  refine calls_of Try.func46 rfl rfl (fun a hf => ?_)
  have hh := Hp.init u []
  obtain ⟨st, sp, ss, sr, sd, ct, cp, cs, cr, cd⟩ := p
  have hn4 := hR.n4
  have hil := len_of hx; have hjl := len_of hy
  obtain ⟨blk, off, cc, T, fr, e, hb, hc⟩ := hR.rp i x hx; dsimp only at e; subst e
  obtain ⟨blk2, off2, cc2, T2, fr2, e2, hb2, hc2⟩ := hR.rp j y hy; dsimp only at e2; cases e2
  rw [hb] at hb2; cases hb2
  refine sy_sq ?_
  refine o_v hf hh (yv_assign rfl) ?_; clear hf a; intro a hf
  refine o_end ?_
  refine sy_seq ?_
  refine sy_tree1 (.p 0 (.q 0 1 (.p 2 (.p 3 (.q 0 4 (.p 5 (.q 0 6 (.p 7 (.p 8 (.q 0 9 (.e2 10 (.e1 11 (.e1 12 (.e1 13 (.fin)))) 11 (.e1 10 (.e1 12 (.e1 13 (.fin))))))))))))))) [] Try.follows (by kernel_rfl) hh (fun w hh => ?_)
  refine mc_p rfl   hf (yv_fieldAddr Try.fo_37_3 rfl) (.inl rfl) rfl rfl ?_; clear hf a; intro a hf
  refine mc_q rfl rfl hh hf (y_ld Try.sc_35 rfl) (.inl rfl) rfl rfl ?_; clear hf a; intro a hf
  refine mc_p rfl   hf (yv_move rfl) (.inl rfl) rfl rfl ?_; clear hf a; intro a hf
  refine mc_p rfl   hf (y_ix Try.se_35 rfl rfl) (.inl rfl) rfl rfl ?_; clear hf a; intro a hf
  refine mc_q rfl rfl hh hf (y_lds Try.ag_66 rfl) (.inl rfl) rfl rfl ?_; clear hf a; intro a hf
  refine mc_p rfl   hf (yv_fieldAddr Try.fo_37_3 rfl) (.inl rfl) rfl rfl ?_; clear hf a; intro a hf
  refine mc_q rfl rfl hh hf (y_ld Try.sc_35 rfl) (.inl rfl) rfl rfl ?_; clear hf a; intro a hf
  refine mc_p rfl   hf (yv_move rfl) (.inl rfl) rfl rfl ?_; clear hf a; intro a hf
  refine mc_p rfl   hf (y_ix Try.se_35 rfl rfl) (.inl rfl) rfl rfl ?_; clear hf a; intro a hf
  refine mc_q rfl rfl hh hf (y_lds Try.ag_66 rfl) (.inl rfl) rfl rfl ?_; clear hf a; intro a hf
  refine ⟨?_, ?_⟩
  ·refine mc_e rfl fun Q1 => ?_
   refine o_alloc hf hh Try.ze_66 ?_; clear hf hh a; intro B6 a w hf hh
   refine ops_end ?_
   refine then_n ⟨⟨fun _ _ => (hh.less (.cons _ (List.Sublist.refl _))), trivial⟩, ?_⟩
   refine mc_e rfl fun Q1 => ?_
   refine o_alloc hf hh Try.ze_66 ?_; clear hf hh a; intro B7 a w hf hh
   refine ops_end ?_
   refine then_n ⟨⟨fun _ _ => (hh.less (.cons _ (.cons _ (List.Sublist.refl _)))), trivial⟩, ?_⟩
   refine mc_e rfl fun Q1 => ?_
   refine o_store hf hh Try.sz_66 fun w hh => ?_
   refine ops_end ?_
   refine then_n ⟨⟨fun _ _ => (hh.less (.cons _ (.cons _ (List.Sublist.refl _)))), trivial⟩, ?_⟩
   refine mc_e rfl fun Q1 => ?_
   refine o_store hf hh Try.sz_66 fun w hh => ?_
   refine ops_end ?_
   refine then_n ⟨⟨fun _ _ => (hh.less (.cons _ (.cons _ (List.Sublist.refl _)))), trivial⟩, ?_⟩
   refine mc_end ?_
   refine then_n ?_
   refine sy_sq ?_
   refine o_v hf hh (yv_fieldAddr Try.fo_66_1 rfl) ?_; clear hf a; intro a hf
   refine o_v hf hh (y_ld Try.sc_3 rfl) ?_; clear hf a; intro a hf
   refine o_v hf hh (yv_fieldAddr Try.fo_66_1 rfl) ?_; clear hf a; intro a hf
   refine o_v hf hh (y_ld Try.sc_3 rfl) ?_; clear hf a; intro a hf
   refine o_v hf hh (yv_bin rfl rfl rfl) ?_; clear hf a; intro a hf
   refine o_v hf hh (yv_move rfl) ?_; clear hf a; intro a hf
   refine guard_split hf (t := 23) rfl (fun hg2 => ?_) (fun hg2 => ?_)
   ·have hG2 := hg2; try simp only [gS] at hG2
    refine o_v hf hh (yv_fieldAddr Try.fo_66_2 rfl) ?_; clear hf a; intro a hf
    refine o_v hf hh (y_ld Try.sc_3 rfl) ?_; clear hf a; intro a hf
    refine o_v hf hh (yv_fieldAddr Try.fo_66_3 rfl) ?_; clear hf a; intro a hf
    refine o_v hf hh (y_ld Try.sc_3 rfl) ?_; clear hf a; intro a hf
    refine o_v hf hh (yv_bin rfl rfl rfl) ?_; clear hf a; intro a hf
    refine o_v hf hh (y_pt rfl rfl) ?_; clear hf a; intro a hf
    refine o_v hf hh (yv_move rfl) ?_; clear hf a; intro a hf
    refine guard_split hf (t := 30) rfl (fun hg4 => ?_) (fun hg4 => ?_)
    ·have hG4 := hg4; try simp only [gS] at hG4
     refine o_v hf hh (yv_fieldAddr Try.fo_66_2 rfl) ?_; clear hf a; intro a hf
     refine o_v hf hh (y_ld Try.sc_3 rfl) ?_; clear hf a; intro a hf
     refine o_v hf hh (yv_fieldAddr Try.fo_66_3 rfl) ?_; clear hf a; intro a hf
     refine o_v hf hh (y_ld Try.sc_3 rfl) ?_; clear hf a; intro a hf
     refine o_v hf hh (yv_bin rfl rfl rfl) ?_; clear hf a; intro a hf
     refine o_v hf hh (y_pt rfl rfl) ?_; clear hf a; intro a hf
     refine o_v hf hh (yv_assign rfl) ?_; clear hf a; intro a hf
     refine o_end ?_
     refine sy_ret ?_
     refine ret_r hf rfl rfl ?_
     refine ⟨congrArg Value.bool ?_, hh.ext⟩
     clear hf hh
     unfold endB
     first
       | (simp_all; done)
       | (simp_all; omega)
    ·have hG4 := hg4; try simp only [gS] at hG4
     refine o_off hf ?_; clear hf a; intro a hf
     refine o_off hf ?_; clear hf a; intro a hf
     refine o_off hf ?_; clear hf a; intro a hf
     refine o_off hf ?_; clear hf a; intro a hf
     refine o_off hf ?_; clear hf a; intro a hf
     refine o_v hf hh (y_pf rfl rfl) ?_; clear hf a; intro a hf
     refine o_v hf hh (yv_assign rfl) ?_; clear hf a; intro a hf
     refine o_end ?_
     refine sy_ret ?_
     refine ret_r hf rfl rfl ?_
     refine ⟨congrArg Value.bool ?_, hh.ext⟩
     clear hf hh
     unfold endB
     first
       | (simp_all; done)
       | (simp_all; omega)
   ·have hG2 := hg2; try simp only [gS] at hG2
    refine o_off hf ?_; clear hf a; intro a hf
    refine o_off hf ?_; clear hf a; intro a hf
    refine o_off hf ?_; clear hf a; intro a hf
    refine o_off hf ?_; clear hf a; intro a hf
    refine o_off hf ?_; clear hf a; intro a hf
    refine o_v hf hh (y_pf rfl rfl) ?_; clear hf a; intro a hf
    refine o_v hf hh (yv_move rfl) ?_; clear hf a; intro a hf
    refine o_off hf ?_; clear hf a; intro a hf
    refine o_off hf ?_; clear hf a; intro a hf
    refine o_off hf ?_; clear hf a; intro a hf
    refine o_off hf ?_; clear hf a; intro a hf
    refine o_off hf ?_; clear hf a; intro a hf
    refine o_v hf hh (y_pf rfl rfl) ?_; clear hf a; intro a hf
    refine o_v hf hh (yv_assign rfl) ?_; clear hf a; intro a hf
    refine o_end ?_
    refine sy_ret ?_
    refine ret_r hf rfl rfl ?_
    refine ⟨congrArg Value.bool ?_, hh.ext⟩
    clear hf hh
    unfold endB
    first
      | (simp_all; done)
      | (simp_all; omega)
  ·refine mc_e rfl fun Q1 => ?_
   refine o_alloc hf hh Try.ze_66 ?_; clear hf hh a; intro B7 a w hf hh
   refine ops_end ?_
   refine then_n ⟨⟨fun _ _ => (hh.less (.cons _ (List.Sublist.refl _))), trivial⟩, ?_⟩
   refine mc_e rfl fun Q1 => ?_
   refine o_alloc hf hh Try.ze_66 ?_; clear hf hh a; intro B6 a w hf hh
   refine ops_end ?_
   refine then_n ⟨⟨fun _ _ => (hh.less (.cons _ (.cons _ (List.Sublist.refl _)))), trivial⟩, ?_⟩
   refine mc_e rfl fun Q1 => ?_
   refine o_store hf hh Try.sz_66 fun w hh => ?_
   refine ops_end ?_
   refine then_n ⟨⟨fun _ _ => (hh.less (.cons _ (.cons _ (List.Sublist.refl _)))), trivial⟩, ?_⟩
   refine mc_e rfl fun Q1 => ?_
   refine o_store hf hh Try.sz_66 fun w hh => ?_
   refine ops_end ?_
   refine then_n ⟨⟨fun _ _ => (hh.less (.cons _ (.cons _ (List.Sublist.refl _)))), trivial⟩, ?_⟩
   refine mc_end ?_
   refine then_n ?_
   refine sy_sq ?_
   refine o_v hf hh (yv_fieldAddr Try.fo_66_1 rfl) ?_; clear hf a; intro a hf
   refine o_v hf hh (y_ld Try.sc_3 rfl) ?_; clear hf a; intro a hf
   refine o_v hf hh (yv_fieldAddr Try.fo_66_1 rfl) ?_; clear hf a; intro a hf
   refine o_v hf hh (y_ld Try.sc_3 rfl) ?_; clear hf a; intro a hf
   refine o_v hf hh (yv_bin rfl rfl rfl) ?_; clear hf a; intro a hf
   refine o_v hf hh (yv_move rfl) ?_; clear hf a; intro a hf
   refine guard_split hf (t := 23) rfl (fun hg7 => ?_) (fun hg7 => ?_)
   ·have hG7 := hg7; try simp only [gS] at hG7
    refine o_v hf hh (yv_fieldAddr Try.fo_66_2 rfl) ?_; clear hf a; intro a hf
    refine o_v hf hh (y_ld Try.sc_3 rfl) ?_; clear hf a; intro a hf
    refine o_v hf hh (yv_fieldAddr Try.fo_66_3 rfl) ?_; clear hf a; intro a hf
    refine o_v hf hh (y_ld Try.sc_3 rfl) ?_; clear hf a; intro a hf
    refine o_v hf hh (yv_bin rfl rfl rfl) ?_; clear hf a; intro a hf
    refine o_v hf hh (y_pt rfl rfl) ?_; clear hf a; intro a hf
    refine o_v hf hh (yv_move rfl) ?_; clear hf a; intro a hf
    refine guard_split hf (t := 30) rfl (fun hg9 => ?_) (fun hg9 => ?_)
    ·have hG9 := hg9; try simp only [gS] at hG9
     refine o_v hf hh (yv_fieldAddr Try.fo_66_2 rfl) ?_; clear hf a; intro a hf
     refine o_v hf hh (y_ld Try.sc_3 rfl) ?_; clear hf a; intro a hf
     refine o_v hf hh (yv_fieldAddr Try.fo_66_3 rfl) ?_; clear hf a; intro a hf
     refine o_v hf hh (y_ld Try.sc_3 rfl) ?_; clear hf a; intro a hf
     refine o_v hf hh (yv_bin rfl rfl rfl) ?_; clear hf a; intro a hf
     refine o_v hf hh (y_pt rfl rfl) ?_; clear hf a; intro a hf
     refine o_v hf hh (yv_assign rfl) ?_; clear hf a; intro a hf
     refine o_end ?_
     refine sy_ret ?_
     refine ret_r hf rfl rfl ?_
     refine ⟨congrArg Value.bool ?_, hh.ext⟩
     clear hf hh
     unfold endB
     first
       | (simp_all; done)
       | (simp_all; omega)
    ·have hG9 := hg9; try simp only [gS] at hG9
     refine o_off hf ?_; clear hf a; intro a hf
     refine o_off hf ?_; clear hf a; intro a hf
     refine o_off hf ?_; clear hf a; intro a hf
     refine o_off hf ?_; clear hf a; intro a hf
     refine o_off hf ?_; clear hf a; intro a hf
     refine o_v hf hh (y_pf rfl rfl) ?_; clear hf a; intro a hf
     refine o_v hf hh (yv_assign rfl) ?_; clear hf a; intro a hf
     refine o_end ?_
     refine sy_ret ?_
     refine ret_r hf rfl rfl ?_
     refine ⟨congrArg Value.bool ?_, hh.ext⟩
     clear hf hh
     unfold endB
     first
       | (simp_all; done)
       | (simp_all; omega)
   ·have hG7 := hg7; try simp only [gS] at hG7
    refine o_off hf ?_; clear hf a; intro a hf
    refine o_off hf ?_; clear hf a; intro a hf
    refine o_off hf ?_; clear hf a; intro a hf
    refine o_off hf ?_; clear hf a; intro a hf
    refine o_off hf ?_; clear hf a; intro a hf
    refine o_v hf hh (y_pf rfl rfl) ?_; clear hf a; intro a hf
    refine o_v hf hh (yv_move rfl) ?_; clear hf a; intro a hf
    refine o_off hf ?_; clear hf a; intro a hf
    refine o_off hf ?_; clear hf a; intro a hf
    refine o_off hf ?_; clear hf a; intro a hf
    refine o_off hf ?_; clear hf a; intro a hf
    refine o_off hf ?_; clear hf a; intro a hf
    refine o_v hf hh (y_pf rfl rfl) ?_; clear hf a; intro a hf
    refine o_v hf hh (yv_assign rfl) ?_; clear hf a; intro a hf
    refine o_end ?_
    refine sy_ret ?_
    refine ret_r hf rfl rfl ?_
    refine ⟨congrArg Value.bool ?_, hh.ext⟩
    clear hf hh
    unfold endB
    first
      | (simp_all; done)
      | (simp_all; omega)
set_option maxRecDepth 100000 in
set_option maxHeartbeats 4000000 in
theorem p11 (d : RoyD) (p : Pl) (u : World) (hR : RoyIn u d p) : Calls Try.prog 11 #[.agg (royC d p)] u (Ret fun v w' => v = .bool true ∧ Ext [] u w') := by
  refine calls_of Try.func11 rfl rfl (fun a hf => ?_)
  have hh := Hp.init u []
  refine sy_sq ?_
  refine o_box hf hh ?_; clear hf hh a; intro B1 a w hf hh
  refine o_v hf hh (yv_assign rfl) ?_; clear hf a; intro a hf
  refine o_end ?_
  refine sy_seq ?_
  refine sy_sq ?_
  refine o_v hf hh (y_lds Try.ag_37 rfl) ?_; clear hf a; intro a hf
  refine o_call hf Try.en_20 rfl rfl rfl (p20 d p _ (hR.ext hh.ext)) ?_; clear hf a; intro v a w hR hf
  obtain ⟨rfl, hx⟩ := hR; replace hh := hh.more hx; clear hx
  refine o_v hf hh (yv_move rfl) ?_; clear hf a; intro a hf
  refine guard_split hf (t := 21) rfl (fun hg2 => ?_) (fun hg2 => ?_)
  ·have hG2 := hg2; try simp only [gS] at hG2
   refine o_off hf ?_; clear hf a; intro a hf
   refine o_off hf ?_; clear hf a; intro a hf
   refine o_off hf ?_; clear hf a; intro a hf
   refine o_v hf hh (y_pt rfl rfl) ?_; clear hf a; intro a hf
   refine o_end ?_
   refine c_t hf ?_
   refine sy_sq ?_
   refine o_call hf Try.en_14 rfl rfl rfl (p14 _) ?_; clear hf a; intro v a w hR hf
   obtain ⟨rfl, hx⟩ := hR; replace hh := hh.more hx; clear hx
   refine o_v hf hh (yv_assign rfl) ?_; clear hf a; intro a hf
   refine o_end ?_
   refine sy_ret ?_
   refine then_r ?_
   refine ret_r hf rfl rfl ?_
   first
     | exact ⟨rfl, hh.ext⟩
     | omega
  ·have hG2 := hg2; try simp only [gS] at hG2
   have hA := hR.at (by assumption)
   refine o_v hf hh (y_lds Try.ag_37 rfl) ?_; clear hf a; intro a hf
   refine o_call hf Try.en_40 rfl rfl rfl (p40 d p _ (hA.ext hh.ext)) ?_; clear hf a; intro v a w hR hf
   obtain ⟨rfl, hx⟩ := hR; replace hh := hh.more hx; clear hx
   refine o_v hf hh (yv_not rfl) ?_; clear hf a; intro a hf
   refine o_v hf hh (y_pf rfl rfl) ?_; clear hf a; intro a hf
   refine o_end ?_
   refine sy_cond hf rfl (fun hg5 => ?_) (fun hg5 => ?_)
   ·have hG5 := hg5; try simp only [gS] at hG5
    refine sy_sq ?_
    refine o_call hf Try.en_14 rfl rfl rfl (p14 _) ?_; clear hf a; intro v a w hR hf
    obtain ⟨rfl, hx⟩ := hR; replace hh := hh.more hx; clear hx
    refine o_v hf hh (yv_assign rfl) ?_; clear hf a; intro a hf
    refine o_end ?_
    refine sy_ret ?_
    refine then_r ?_
    refine ret_r hf rfl rfl ?_
    first
      | exact ⟨rfl, hh.ext⟩
      | omega
   ·have hG5 := hg5; try simp only [gS] at hG5
    refine sy_skip ?_
    refine then_n ?_
    refine sy_seq ?_
    have hA := hR.at (by assumption)
    have hok : royB d = true := by assumption
    have hO := royB_iff.1 hok
    have hnt := hO.nt; have hnp := hO.np; have hnr := hO.nr
    refine sy_ops ?_
    refine o_v hf hh (y_lds Try.ag_37 rfl) ?_; clear hf a; intro a hf
    refine o_call hf Try.en_21 rfl rfl rfl (p21 d p _ (hA.ext hh.ext)) ?_; clear hf a; intro v a w hR hf
    obtain ⟨rfl, hx⟩ := hR; replace hh := hh.more hx; clear hx
    refine o_v hf hh (yv_move rfl) ?_; clear hf a; intro a hf
    refine o_v hf hh (yv_extract rfl rfl) ?_; clear hf a; intro a hf
    refine o_v hf hh (yv_extract rfl rfl) ?_; clear hf a; intro a hf
    refine o_v hf hh (yv_extract rfl rfl) ?_; clear hf a; intro a hf
    refine o_v hf hh (yv_assign rfl) ?_; clear hf a; intro a hf
    refine o_v hf hh (yv_assign rfl) ?_; clear hf a; intro a hf
    refine o_v hf hh (yv_assign rfl) ?_; clear hf a; intro a hf
    refine o_end ?_
    refine sy_sq ?_
    refine o_v hf hh (yv_makeFunc rfl rfl) ?_; clear hf a; intro a hf
    refine o_v hf hh (yv_assign rfl) ?_; clear hf a; intro a hf
    refine o_end ?_
    refine sy_seq ?_
    refine sy_sq ?_
    refine o_v hf hh (yv_fieldAddr Try.fo_37_3 rfl) ?_; clear hf a; intro a hf
    refine o_v hf hh (y_ld Try.sc_35 rfl) ?_; clear hf a; intro a hf
    refine o_v hf hh (yv_len Try.se_35 rfl) ?_; clear hf a; intro a hf
    refine o_v hf hh (yv_move rfl) ?_; clear hf a; intro a hf
    refine o_end ?_
    refine sy_block ?_
    refine sy_loopF (σ := Nat) [2, 7, 8, 37, 38, 39, 40, 41, 42, 43, 44, 45, 46, 47, 48, 49, 50, 51, 52, 53, 54, 55, 56, 57, 58, 59, 60, 61, 62] (fun i => [(37, .int .i64 (i : Nat))]) (fun i => i ≤ d.reps.length ∧ twF d.reps i = none ∧ NoT d i) (fun i => d.reps.length - i) (0) hf hh ?_ ?_ ?_
    · repeat' (first | exact True.intro | refine And.intro rfl ?_)
    · exact ⟨Nat.zero_le _, rfl, fun i j x y h => absurd h (by omega)⟩
    ·rintro i a w ⟨hi, h0, hNo⟩ hf hh
     refine sy_sq ?_
     refine o_v hf hh (yv_bin rfl rfl rfl) ?_; clear hf a; intro a hf
     refine o_end ?_
     refine sy_seq ?_
     refine sy_cond hf rfl (fun hg12 => ?_) (fun hg12 => ?_)
     ·have hG12 := hg12; try simp only [gS] at hG12
      refine sy_skip ?_
      refine then_n ?_
      refine sy_seq ?_
      refine sy_block ?_
      refine sy_sq ?_
      refine o_v hf hh (yv_move rfl) ?_; clear hf a; intro a hf
      refine o_v hf hh (yv_assign rfl) ?_; clear hf a; intro a hf
      refine o_end ?_
      refine sy_sq ?_
      refine o_v hf hh (yv_move rfl) ?_; clear hf a; intro a hf
      refine o_v hf hh (yv_move rfl) ?_; clear hf a; intro a hf
      refine o_end ?_
      refine sy_block ?_
      refine sy_loopF (σ := Nat) [2, 8, 41, 42, 43, 44, 45, 46, 47, 48, 49, 50, 51, 52, 53, 54, 55, 56, 57, 58, 59, 60, 61] (fun j => [(41, .int .i64 (j : Nat))]) (fun j => j ≤ i ∧ ∀ x, d.reps[i]? = some x → ∀ z, z < j → ∀ t, d.reps[z]? = some t → meetB x t = false) (fun j => i - j) (0) hf hh ?_ ?_ ?_
      · repeat' (first | exact True.intro | refine And.intro rfl ?_)
      · exact ⟨Nat.zero_le _, fun x hx z hz => absurd hz (by omega)⟩
      ·rintro j a w ⟨hj, hno2⟩ hf hh
       refine sy_sq ?_
       refine o_v hf hh (yv_bin rfl rfl rfl) ?_; clear hf a; intro a hf
       refine o_end ?_
       refine sy_seq ?_
       refine sy_cond hf rfl (fun hg14 => ?_) (fun hg14 => ?_)
       ·have hG14 := hg14; try simp only [gS] at hG14
        refine sy_skip ?_
        refine then_n ?_
        refine sy_seq ?_
        refine sy_block ?_
        refine sy_sq ?_
        refine o_v hf hh (yv_move rfl) ?_; clear hf a; intro a hf
        refine o_v hf hh (yv_assign rfl) ?_; clear hf a; intro a hf
        refine o_end ?_
        refine sy_seq ?_
        obtain ⟨x, hx⟩ := ex_of (l := d.reps) (i := i) (by omega)
        obtain ⟨y, hy⟩ := ex_of (l := d.reps) (i := j) (by omega)
        have hxo := hO.r x (List.mem_of_getElem? hx)
        have hyo := hO.r y (List.mem_of_getElem? hy)
        refine sy_ops ?_
        refine o_v hf hh (yv_move rfl) ?_; clear hf a; intro a hf
        refine o_v hf hh (yv_move rfl) ?_; clear hf a; intro a hf
        refine o_v hf hh (yv_move rfl) ?_; clear hf a; intro a hf
        refine o_call hf Try.en_46 rfl rfl rfl (p46 d p B1 i j x y _ (hh.at (i := 0) rfl) (hA.ext hh.ext) hx hy) ?_; clear hf a; intro v a w hR hf
        rw [end_meet hxo hyo] at hR
        obtain ⟨rfl, hx⟩ := hR; replace hh := hh.more hx; clear hx
        refine o_end ?_
        refine sy_cond hf rfl (fun hg16 => ?_) (fun hg16 => ?_)
        ·have hG16 := hg16; try simp only [gS] at hG16
         refine sy_seq ?_
         refine sy_seq ?_
         obtain ⟨ht1, ht2⟩ := tw_some hO (twF_hit h0 hx (by omega) hy (by assumption) (fun z hz => hno2 x hx z hz))
         rw [ht1, ht2] at hf
         refine sy_ops ?_
         refine o_v hf hh (yv_move rfl) ?_; clear hf a; intro a hf
         refine o_v hf hh (yv_bin rfl rfl rfl) ?_; clear hf a; intro a hf
         refine o_v hf hh (yv_move rfl) ?_; clear hf a; intro a hf
         refine o_v hf hh (yv_move rfl) ?_; clear hf a; intro a hf
         refine o_v hf hh (yv_move rfl) ?_; clear hf a; intro a hf
         refine o_v hf hh (yv_bin rfl rfl rfl) ?_; clear hf a; intro a hf
         refine o_v hf hh (y_pf rfl rfl) ?_; clear hf a; intro a hf
         refine o_v hf hh (yv_move rfl) ?_; clear hf a; intro a hf
         refine o_v hf hh (yv_move rfl) ?_; clear hf a; intro a hf
         refine o_v hf hh (yv_move rfl) ?_; clear hf a; intro a hf
         refine o_v hf hh (yv_bin rfl rfl rfl) ?_; clear hf a; intro a hf
         refine o_v hf hh (y_pf rfl rfl) ?_; clear hf a; intro a hf
         refine o_end ?_
         refine c_f hf ?_
         refine sy_skip ?_
         refine then_n ?_
         refine sy_sq ?_
         refine o_call hf Try.en_14 rfl rfl rfl (p14 _) ?_; clear hf a; intro v a w hR hf
         obtain ⟨rfl, hx⟩ := hR; replace hh := hh.more hx; clear hx
         refine o_v hf hh (yv_assign rfl) ?_; clear hf a; intro a hf
         refine o_end ?_
         refine sy_ret ?_
         refine blk_r ?_
         refine then_r ?_
         refine then_r ?_
         refine blk_r ?_
         refine blk_r ?_
         refine then_r ?_
         refine then_r ?_
         refine blk_r ?_
         refine then_r ?_
         refine ret_r hf rfl rfl ?_
         first
           | exact ⟨rfl, hh.ext⟩
           | omega
        ·have hG16 := hg16; try simp only [gS] at hG16
         refine sy_skip ?_
         refine blk_n ?_
         refine then_n ?_
         refine sy_ops ?_
         refine o_v hf hh (y_add rfl rfl) ?_; clear hf a; intro a hf
         refine o_v hf hh (yv_move rfl) ?_; clear hf a; intro a hf
         refine ops_end ?_
         refine then_n ?_
         exact ⟨j + 1, ⟨⟨by omega, fun x' hx' z hz t ht => by
           rcases (show z < j ∨ z = j by omega) with h | h
           · exact hno2 x' hx' z h t ht
           · subst h; rw [hx] at hx'; rw [hy] at ht; cases hx'; cases ht; simp_all⟩, (hf.head (by repeat' (first | exact True.intro | refine And.intro rfl ?_)) (Keep.cons rfl (Keep.cons rfl (Keep.cons rfl (Keep.cons rfl (Keep.cons rfl (Keep.cons rfl (Keep.cons rfl (Keep.cons rfl (Keep.cons rfl (Keep.app rfl (Keep.rm rfl Keep.base)))))))))))), hh⟩, by omega⟩
       ·have hG14 := hg14; try simp only [gS] at hG14
        refine sy_exit ?_
        refine then_e ?_
        refine then_e ?_
        refine blk_e ?_
        refine blk_n ?_
        refine then_n ?_
        refine sy_ops ?_
        refine o_v hf hh (y_add rfl rfl) ?_; clear hf a; intro a hf
        refine o_v hf hh (yv_move rfl) ?_; clear hf a; intro a hf
        refine ops_end ?_
        refine then_n ?_
        obtain ⟨x9, hx9⟩ := ex_of (l := d.reps) (i := i) (by omega)
        exact ⟨i + 1, ⟨⟨by omega, twF_miss h0 hx9 fun z hz => hno2 x9 hx9 z (by omega), hNo.next hx9 fun z hz => hno2 x9 hx9 z (by omega)⟩, (hf.head (by repeat' (first | exact True.intro | refine And.intro rfl ?_)) (Keep.cons rfl (Keep.cons rfl (Keep.cons rfl (Keep.app rfl (Keep.rm rfl (Keep.cons rfl (Keep.cons rfl (Keep.cons rfl (Keep.cons rfl (Keep.cons rfl (Keep.app rfl (Keep.rm rfl Keep.base))))))))))))), hh⟩, by omega⟩
     ·have hG12 := hg12; try simp only [gS] at hG12
      refine sy_exit ?_
      refine then_e ?_
      refine then_e ?_
      refine blk_e ?_
      refine then_n ?_
      refine sy_seq ?_
      refine sy_seq ?_
      obtain rfl : i = d.reps.length := by omega
      obtain ⟨ht1, ht2⟩ := tw_none hO h0
      have hNM := hNo.all
      rw [ht1, ht2] at hf
      refine sy_ops ?_
      refine o_v hf hh (yv_move rfl) ?_; clear hf a; intro a hf
      refine o_v hf hh (yv_bin rfl rfl rfl) ?_; clear hf a; intro a hf
      refine o_v hf hh (yv_move rfl) ?_; clear hf a; intro a hf
      refine o_v hf hh (yv_move rfl) ?_; clear hf a; intro a hf
      refine o_v hf hh (yv_bin rfl rfl rfl) ?_; clear hf a; intro a hf
      refine o_v hf hh (y_pf rfl rfl) ?_; clear hf a; intro a hf
      refine o_v hf hh (yv_move rfl) ?_; clear hf a; intro a hf
      refine o_v hf hh (yv_move rfl) ?_; clear hf a; intro a hf
      refine o_v hf hh (yv_bin rfl rfl rfl) ?_; clear hf a; intro a hf
      refine o_v hf hh (y_pf rfl rfl) ?_; clear hf a; intro a hf
      refine o_end ?_
      refine c_f hf ?_
      refine sy_skip ?_
      refine then_n ?_
      refine sy_seq ?_
      refine sy_sq ?_
      refine o_v hf hh (yv_fieldAddr Try.fo_37_1 rfl) ?_; clear hf a; intro a hf
      refine o_v hf hh (y_ld Try.sc_22 rfl) ?_; clear hf a; intro a hf
      refine o_v hf hh (yv_len Try.se_22 rfl) ?_; clear hf a; intro a hf
      refine o_v hf hh (yv_move rfl) ?_; clear hf a; intro a hf
      refine o_end ?_
      refine sy_block ?_
      refine sy_loopF (σ := Nat) [2, 9, 10, 11, 12, 13, 14, 15, 16, 17, 18, 76, 77, 78, 79, 80, 81, 82, 83, 84, 85, 86, 87, 88, 89, 90, 91, 92, 93, 94, 95, 96, 97, 98, 99, 100, 101, 102, 103, 104, 105, 106, 107, 108, 109, 110, 111, 112, 113, 114, 115, 116, 117, 118, 119, 120, 121, 122, 123, 124, 125, 126, 127, 128, 129, 130, 131, 132, 133, 134, 135, 136, 137, 138, 139, 140, 141, 142, 143, 144, 145, 146, 147, 148, 149, 150, 151, 152, 153] (fun k => [(76, .int .i64 (k : Nat))]) (fun k => k ≤ d.prices.length) (fun k => d.prices.length - k) (0) hf hh ?_ ?_ ?_
      · repeat' (first | exact True.intro | refine And.intro rfl ?_)
      · exact Nat.zero_le _
      ·rintro k a w hk hf hh
       refine sy_sq ?_
       refine o_v hf hh (yv_bin rfl rfl rfl) ?_; clear hf a; intro a hf
       refine o_end ?_
       refine sy_seq ?_
       refine sy_cond hf rfl (fun hg25 => ?_) (fun hg25 => ?_)
       ·have hG25 := hg25; try simp only [gS] at hG25
        refine sy_skip ?_
        refine then_n ?_
        refine sy_seq ?_
        refine sy_block ?_
        refine sy_sq ?_
        refine o_v hf hh (yv_move rfl) ?_; clear hf a; intro a hf
        refine o_v hf hh (yv_assign rfl) ?_; clear hf a; intro a hf
        refine o_end ?_
        refine sy_sq ?_
        refine o_v hf hh (yv_assign rfl) ?_; clear hf a; intro a hf
        refine o_end ?_
        refine sy_seq ?_
        refine sy_sq ?_
        refine o_v hf hh (yv_fieldAddr Try.fo_37_0 rfl) ?_; clear hf a; intro a hf
        refine o_v hf hh (y_ld Try.sc_33 rfl) ?_; clear hf a; intro a hf
        refine o_v hf hh (yv_len Try.se_33 rfl) ?_; clear hf a; intro a hf
        refine o_v hf hh (yv_move rfl) ?_; clear hf a; intro a hf
        refine o_end ?_
        refine sy_block ?_
        refine sy_loopF (σ := Nat) [2, 10, 11, 12, 13, 14, 82, 83, 84, 85, 86, 87, 88, 89, 90, 91, 92, 93, 94, 95, 96, 97, 98, 99, 100, 101, 102, 103, 104, 105, 106, 107, 108, 109] (fun g => [(10, .int .i64 (orC d k g : Nat)), (82, .int .i64 (g : Nat))]) (fun g => g ≤ d.terms.length) (fun g => d.terms.length - g) (0) hf hh ?_ ?_ ?_
        · repeat' (first | exact True.intro | refine And.intro rfl ?_)
        · exact Nat.zero_le _
        ·rintro g a w hg hf hh
         refine sy_sq ?_
         refine o_v hf hh (yv_bin rfl rfl rfl) ?_; clear hf a; intro a hf
         refine o_end ?_
         refine sy_seq ?_
         refine sy_cond hf rfl (fun hg27 => ?_) (fun hg27 => ?_)
         ·have hG27 := hg27; try simp only [gS] at hG27
          refine sy_skip ?_
          refine then_n ?_
          refine sy_seq ?_
          refine sy_block ?_
          refine sy_sq ?_
          refine o_v hf hh (yv_move rfl) ?_; clear hf a; intro a hf
          refine o_v hf hh (yv_assign rfl) ?_; clear hf a; intro a hf
          refine o_end ?_
          refine sy_seq ?_
          obtain ⟨ec1, ec2⟩ := claV_ok hO (g := g) (k := k) (by omega) (by omega)
          rw [sur_clm hO hNM] at ec2
          have hol := orC_lt hO k g
          have hcl := clm_lt12 hO k g
          have hand := orC_and hO hNM k g
          refine sy_ops ?_
          refine o_v hf hh (y_lds Try.ag_37 rfl) ?_; clear hf a; intro a hf
          refine o_v hf hh (yv_move rfl) ?_; clear hf a; intro a hf
          refine o_v hf hh (yv_move rfl) ?_; clear hf a; intro a hf
          refine o_call hf Try.en_23 rfl rfl rfl (p23 d p (g : Nat) (k : Nat) _ (hA.ext hh.ext)) ?_; clear hf a; intro v a w hR hf
          rw [ec1, ec2] at hR
          obtain ⟨rfl, hx⟩ := hR; replace hh := hh.more hx; clear hx
          refine o_v hf hh (yv_move rfl) ?_; clear hf a; intro a hf
          refine o_v hf hh (yv_extract rfl rfl) ?_; clear hf a; intro a hf
          refine o_v hf hh (yv_extract rfl rfl) ?_; clear hf a; intro a hf
          refine o_v hf hh (yv_extract rfl rfl) ?_; clear hf a; intro a hf
          refine o_v hf hh (yv_assign rfl) ?_; clear hf a; intro a hf
          refine o_v hf hh (yv_assign rfl) ?_; clear hf a; intro a hf
          refine o_v hf hh (yv_assign rfl) ?_; clear hf a; intro a hf
          refine o_end ?_
          refine sy_seq ?_
          refine sy_sq ?_
          refine o_v hf hh (yv_move rfl) ?_; clear hf a; intro a hf
          refine o_v hf hh (yv_bin rfl rfl rfl) ?_; clear hf a; intro a hf
          refine o_v hf hh (yv_move rfl) ?_; clear hf a; intro a hf
          refine o_v hf hh (yv_move rfl) ?_; clear hf a; intro a hf
          refine o_v hf hh (yv_move rfl) ?_; clear hf a; intro a hf
          refine o_v hf hh (yv_bin rfl rfl rfl) ?_; clear hf a; intro a hf
          refine o_v hf hh (y_pf rfl rfl) ?_; clear hf a; intro a hf
          refine o_v hf hh (yv_move rfl) ?_; clear hf a; intro a hf
          refine o_v hf hh (yv_move rfl) ?_; clear hf a; intro a hf
          refine o_v hf hh (yv_move rfl) ?_; clear hf a; intro a hf
          refine o_v hf hh (yv_cast (yv_andI rfl rfl (by omega) (by omega)) (intv (b := 0) (by rw [hand]; rfl))) ?_; clear hf a; intro a hf
          refine o_v hf hh (yv_bin rfl rfl rfl) ?_; clear hf a; intro a hf
          refine o_v hf hh (y_pf rfl rfl) ?_; clear hf a; intro a hf
          refine o_end ?_
          refine c_f hf ?_
          refine sy_skip ?_
          refine then_n ?_
          refine sy_ops ?_
          refine o_v hf hh (yv_move rfl) ?_; clear hf a; intro a hf
          refine o_v hf hh (yv_move rfl) ?_; clear hf a; intro a hf
          refine o_v hf hh (yv_orI rfl rfl (by omega) (by omega)) ?_; clear hf a; intro a hf
          refine o_v hf hh (yv_assign rfl) ?_; clear hf a; intro a hf
          refine ops_end ?_
          refine blk_n ?_
          refine then_n ?_
          refine sy_ops ?_
          refine o_v hf hh (y_add rfl rfl) ?_; clear hf a; intro a hf
          refine o_v hf hh (yv_move rfl) ?_; clear hf a; intro a hf
          refine ops_end ?_
          refine then_n ?_
          exact ⟨g + 1, ⟨by omega, (hf.head (by repeat' (first | exact True.intro | refine And.intro rfl ?_)) (Keep.cons rfl (Keep.cons rfl (Keep.cons rfl (Keep.cons rfl (Keep.cons rfl (Keep.cons rfl (Keep.cons rfl (Keep.cons rfl (Keep.cons rfl (Keep.cons rfl (Keep.cons rfl (Keep.cons rfl (Keep.cons rfl (Keep.cons rfl (Keep.cons rfl (Keep.cons rfl (Keep.cons rfl (Keep.cons rfl (Keep.cons rfl (Keep.cons rfl (Keep.cons rfl (Keep.cons rfl (Keep.cons rfl (Keep.cons rfl (Keep.cons rfl (Keep.cons rfl (Keep.cons rfl (Keep.cons rfl (Keep.cons rfl (Keep.cons rfl (Keep.cons rfl (Keep.cons rfl (Keep.cons rfl (Keep.app rfl (Keep.rm rfl Keep.base)))))))))))))))))))))))))))))))))))), hh⟩, by omega⟩
         ·have hG27 := hg27; try simp only [gS] at hG27
          refine sy_exit ?_
          refine then_e ?_
          refine then_e ?_
          refine blk_e ?_
          refine then_n ?_
          refine sy_seq ?_
          obtain rfl : g = d.terms.length := by omega
          have hek := allE_ok hO (k := k) (by omega)
          obtain ⟨z, hz⟩ := all_one hO hNM hek
          have hlc := lea_cs hO hek
          have hol := orC_lt hO k d.terms.length
          refine sy_ops ?_
          refine o_v hf hh (y_lds Try.ag_37 rfl) ?_; clear hf a; intro a hf
          refine o_v hf hh (yv_move rfl) ?_; clear hf a; intro a hf
          refine o_call hf Try.en_28 rfl rfl rfl (p28 d p (k : Nat) _ (hA.ext hh.ext)) ?_; clear hf a; intro v a w hR hf
          rw [hz, hek] at hR
          obtain ⟨rfl, hx⟩ := hR; replace hh := hh.more hx; clear hx
          refine o_v hf hh (yv_move rfl) ?_; clear hf a; intro a hf
          refine o_v hf hh (yv_extract rfl rfl) ?_; clear hf a; intro a hf
          refine o_v hf hh (yv_extract rfl rfl) ?_; clear hf a; intro a hf
          refine o_alloc hf hh Try.ze_43 ?_; clear hf hh a; intro B15 a w hf hh
          refine o_store hf hh Try.sz_43 fun w hh => ?_
          refine o_v hf hh (yv_assign rfl) ?_; clear hf a; intro a hf
          refine o_end ?_
          refine sy_sq ?_
          refine o_v hf hh (y_lds Try.ag_37 rfl) ?_; clear hf a; intro a hf
          refine o_v hf hh (yv_move rfl) ?_; clear hf a; intro a hf
          refine o_call hf Try.en_30 rfl rfl rfl (p30 d p (k : Nat) _ (hA.ext hh.ext)) ?_; clear hf a; intro v a w hR hf
          rw [hek] at hR
          obtain ⟨sv, X, rfl, hOl, hx⟩ := hR; obtain ⟨oal, cpl, rfl⟩ := own_val hOl
          replace hh := hh.more hx.ext; clear hx
          refine o_v hf hh (yv_move rfl) ?_; clear hf a; intro a hf
          refine o_v hf hh (yv_extract rfl rfl) ?_; clear hf a; intro a hf
          refine o_v hf hh (yv_extract rfl rfl) ?_; clear hf a; intro a hf
          refine o_v hf hh (yv_assign rfl) ?_; clear hf a; intro a hf
          refine o_v hf hh (yv_assign rfl) ?_; clear hf a; intro a hf
          refine o_end ?_
          refine sy_sq ?_
          refine o_v hf hh (yv_move rfl) ?_; clear hf a; intro a hf
          refine o_v hf hh (yv_bin rfl rfl rfl) ?_; clear hf a; intro a hf
          refine o_v hf hh (yv_move rfl) ?_; clear hf a; intro a hf
          refine o_v hf hh (yv_fieldAddr Try.fo_43_0 rfl) ?_; clear hf a; intro a hf
          refine o_v hf hh (y_ld Try.sc_3 rfl) ?_; clear hf a; intro a hf
          refine o_v hf hh (yv_fieldAddr Try.fo_43_1 rfl) ?_; clear hf a; intro a hf
          refine o_v hf hh (y_ld Try.sc_3 rfl) ?_; clear hf a; intro a hf
          refine o_v hf hh (yv_bin rfl rfl rfl) ?_; clear hf a; intro a hf
          refine o_v hf hh (y_pf rfl rfl) ?_; clear hf a; intro a hf
          refine o_v hf hh (yv_move rfl) ?_; clear hf a; intro a hf
          refine o_v hf hh (yv_move rfl) ?_; clear hf a; intro a hf
          refine o_v hf hh (yv_bin rfl rfl rfl) ?_; clear hf a; intro a hf
          refine o_v hf hh (y_pf rfl rfl) ?_; clear hf a; intro a hf
          refine o_v hf hh (yv_move rfl) ?_; clear hf a; intro a hf
          refine o_v hf hh (yv_move rfl) ?_; clear hf a; intro a hf
          refine o_v hf hh (yv_len Try.se_22 rfl) ?_; clear hf a; intro a hf
          refine o_v hf hh (y_lds Try.ag_37 rfl) ?_; clear hf a; intro a hf
          refine o_v hf hh (yv_move rfl) ?_; clear hf a; intro a hf
          refine o_call hf Try.en_42 rfl rfl rfl (p42 d p (k : Nat) _ (hA.ext hh.ext) hO) ?_; clear hf a; intro v a w hR hf
          obtain ⟨Xc, hOc, hx⟩ := hR; obtain ⟨oac, cpc, rfl⟩ := own_val hOc
          replace hh := hh.more hx.ext; clear hx
          refine o_v hf hh (yv_len Try.se_22 rfl) ?_; clear hf a; intro a hf
          refine o_v hf hh (yv_bin rfl rfl rfl) ?_; clear hf a; intro a hf
          refine o_v hf hh (y_pf rfl rfl) ?_; clear hf a; intro a hf
          refine o_v hf hh (yv_move rfl) ?_; clear hf a; intro a hf
          refine o_v hf hh (yv_move rfl) ?_; clear hf a; intro a hf
          refine o_v hf hh (yv_bin rfl rfl rfl) ?_; clear hf a; intro a hf
          refine o_v hf hh (y_pf rfl rfl) ?_; clear hf a; intro a hf
          refine o_v hf hh (yv_move rfl) ?_; clear hf a; intro a hf
          refine o_v hf hh (yv_move rfl) ?_; clear hf a; intro a hf
          refine o_v hf hh (yv_cast (yv_shrI (n := 12) rfl rfl) (intv (b := 0) (by rw [Nat.shiftRight_eq_div_pow]; omega))) ?_; clear hf a; intro a hf
          refine o_v hf hh (yv_bin rfl rfl rfl) ?_; clear hf a; intro a hf
          refine o_v hf hh (y_pf rfl rfl) ?_; clear hf a; intro a hf
          refine o_end ?_
          refine c_f hf ?_
          refine sy_skip ?_
          refine blk_n ?_
          refine then_n ?_
          refine sy_ops ?_
          refine o_v hf hh (y_add rfl rfl) ?_; clear hf a; intro a hf
          refine o_v hf hh (yv_move rfl) ?_; clear hf a; intro a hf
          refine ops_end ?_
          refine then_n ?_
          exact ⟨k + 1, ⟨by omega, (hf.head (by repeat' (first | exact True.intro | refine And.intro rfl ?_)) (Keep.cons rfl (Keep.cons rfl (Keep.cons rfl (Keep.cons rfl (Keep.cons rfl (Keep.cons rfl (Keep.cons rfl (Keep.cons rfl (Keep.cons rfl (Keep.cons rfl (Keep.cons rfl (Keep.cons rfl (Keep.cons rfl (Keep.cons rfl (Keep.cons rfl (Keep.cons rfl (Keep.cons rfl (Keep.cons rfl (Keep.cons rfl (Keep.cons rfl (Keep.cons rfl (Keep.cons rfl (Keep.cons rfl (Keep.cons rfl (Keep.cons rfl (Keep.cons rfl (Keep.cons rfl (Keep.cons rfl (Keep.cons rfl (Keep.cons rfl (Keep.cons rfl (Keep.cons rfl (Keep.cons rfl (Keep.cons rfl (Keep.cons rfl (Keep.cons rfl (Keep.cons rfl (Keep.cons rfl (Keep.cons rfl (Keep.cons rfl (Keep.cons rfl (Keep.cons rfl (Keep.cons rfl (Keep.cons rfl (Keep.cons rfl (Keep.cons rfl (Keep.cons rfl (Keep.cons rfl (Keep.cons rfl (Keep.cons rfl (Keep.app rfl (Keep.rm rfl (Keep.cons rfl (Keep.cons rfl (Keep.cons rfl (Keep.cons rfl (Keep.cons rfl (Keep.cons rfl (Keep.cons rfl (Keep.cons rfl (Keep.app rfl (Keep.rm rfl Keep.base))))))))))))))))))))))))))))))))))))))))))))))))))))))))))))))), hh.less (.cons _ (List.Sublist.refl _))⟩, by omega⟩
       ·have hG25 := hg25; try simp only [gS] at hG25
        refine sy_exit ?_
        refine then_e ?_
        refine then_e ?_
        refine blk_e ?_
        refine then_n ?_
        refine sy_sq ?_
        refine o_call hf Try.en_14 rfl rfl rfl (p14 _) ?_; clear hf a; intro v a w hR hf
        obtain ⟨rfl, hx⟩ := hR; replace hh := hh.more hx; clear hx
        refine o_v hf hh (yv_assign rfl) ?_; clear hf a; intro a hf
        refine o_end ?_
        refine sy_ret ?_
        refine ret_r hf rfl rfl ?_
        first
          | exact ⟨rfl, hh.ext⟩
          | omega
end Go.Proofs.Ytkfkifkdncdhoaa
namespace Go.Proofs.Ytkfkifkdncdhoaa
open Go Go.Sy Go.RoyM Go.ChangeShapes Go.WideShapes Go.Deep Go.RowKit
theorem hs37 : Try.prog.underlying 37 = some (.struct (Try.prog.fieldsOf 37)) := by kernel_rfl
theorem fs37 : (Try.prog.fieldsOf 37).map (fun f => (f.offset, f.type)) = #[(0, 33), (1, 22), (2, 34), (3, 35), (4, 22)] := by kernel_rfl
theorem co37 : Try.prog.cellsOf 37 = 5 := by kernel_rfl
theorem co22 : Try.prog.cellsOf 22 = 1 := by kernel_rfl
theorem co33 : Try.prog.cellsOf 33 = 1 := by kernel_rfl
theorem co34 : Try.prog.cellsOf 34 = 1 := by kernel_rfl
theorem co35 : Try.prog.cellsOf 35 = 1 := by kernel_rfl
theorem un22 : Try.prog.underlying 22 = some (.slice 3) := by kernel_rfl
theorem un33 : Try.prog.underlying 33 = some (.slice 24) := by kernel_rfl
theorem un34 : Try.prog.underlying 34 = some (.slice 22) := by kernel_rfl
theorem un35 : Try.prog.underlying 35 = some (.slice 66) := by kernel_rfl
theorem un58 : Try.prog.underlying 58 = some (.slice 5) := by kernel_rfl
theorem un5 : Try.prog.underlying 5 = some (.int .u8) := by kernel_rfl
theorem hs24 : Try.prog.underlying 24 = some (.struct (Try.prog.fieldsOf 24)) := by kernel_rfl
theorem co24 : Try.prog.cellsOf 24 = 3 := by kernel_rfl
theorem fk24 : flK Try.prog .i64 9 24 = some 3 := by kernel_rfl
theorem fk66 : flK Try.prog .i64 9 66 = some 4 := by kernel_rfl
theorem fk3 : flK Try.prog .i64 9 3 = some 1 := by kernel_rfl
theorem fk5 : flK Try.prog .u8 9 5 = some 1 := by kernel_rfl
theorem un4 : Try.prog.underlying 4 = some .bool := by kernel_rfl
theorem own : ownKnob Try.prog.godebug = none := by kernel_rfl
def toTm (p : List Int) : TermD := match p with
  | [x, y, z] => ⟨x, y, z⟩
  | _ => ⟨0, 0, 0⟩
def toRp (p : List Int) : RepD := match p with
  | [x, y, z, t] => ⟨x, y, z, t⟩
  | _ => ⟨0, 0, 0, 0⟩
theorem tAt_flat {α : Type} {W : World} {sa : Option Addr} {l : List (List Int)} {n : Nat} {enc : α → List Value} {f : List Int → α} (hf : ∀ p ∈ l, enc (f p) = p.map (Value.int .i64)) (h : FlatAt W .i64 sa n l) : TAt n enc W sa (l.map f) := fun i s hi => by
  rw [List.getElem?_map] at hi
  cases hp : l[i]? with
  | none => rw [hp] at hi; cases hi
  | some p =>
    rw [hp] at hi
    cases hi
    obtain ⟨blk, off, c, T, fr, h1, h2, h3⟩ := h i p hp
    exact ⟨blk, off, c, T, fr, h1, h2, by rw [hf p (List.mem_of_getElem? hp)]; exact h3⟩
theorem iat_flat {W : World} {sa : Option Addr} {m : List Int} (h : FlatAt W .i64 sa 1 (m.map fun z => [z])) : IAt W sa m := fun i x hi => by
  obtain ⟨blk, off, c, T, fr, h1, h2, h3⟩ := h i [x] (by rw [List.getElem?_map, hi]; rfl)
  refine ⟨blk, off, c, T, fr, h1, h2, ?_⟩
  unfold cellsAt at h3
  cases hc : c[off + i * 1]? with
  | none => rw [hc] at h3; simp at h3
  | some v => rw [hc] at h3; simp [cellsAt] at h3; rw [Int.toNat_natCast, hc, h3]
theorem bat_flat {W : World} {sa : Option Addr} {m : List Int} (h : FlatAt W .u8 sa 1 (m.map fun z => [z])) : BAt W sa m := fun i x hi => by
  obtain ⟨blk, off, c, T, fr, h1, h2, h3⟩ := h i [x] (by rw [List.getElem?_map, hi]; rfl)
  refine ⟨blk, off, c, T, fr, h1, h2, ?_⟩
  unfold cellsAt at h3
  cases hc : c[off + i * 1]? with
  | none => rw [hc] at h3; simp at h3
  | some v => rw [hc] at h3; simp [cellsAt] at h3; rw [Int.toNat_natCast, hc, h3]
theorem toTm_enc {p : List Int} (h : p.length = 3) : tmC (toTm p) = p.map (Value.int .i64) := by
  match p, h with
  | [x, y, z], _ => rfl
theorem toRp_enc {p : List Int} (h : p.length = 4) : rpC (toRp p) = p.map (Value.int .i64) := by
  match p, h with
  | [x, y, z, t], _ => rfl
theorem len5 {l : List Value} (h : l.length = 5) : ∃ a b c d e, l = [a, b, c, d, e] := by
  match l, h with
  | [a, b, c, d, e], _ => exact ⟨a, b, c, d, e, rfl⟩
section
variable {H : Type} {enc : TypeId × Value → H} {W : World} {base : Nat} {spare : Nat → Bool} {held : Bool}
set_option maxRecDepth 100000 in
theorem openRoy {r : Reach} {b0 : Nat} {v : Value} {d : DataW H} {p : List MemPlace} (hv : Value.okWide Try.prog W r b0 37 v) (h : DataW.Trod enc Try.prog W base spare held 37 v d p) : ∃ (d : RoyD) (p : Pl), v = .agg (royC d p) ∧ RoyIn W d p := by
  obtain ⟨cs, rfl, hsz⟩ := okWide_struct hs37 hv
  obtain ⟨fuel, h⟩ := h
  obtain ⟨_, hf⟩ := trod_field hs37 h
  rw [fs37] at hf
  rw [co37] at hsz
  obtain ⟨l, rfl⟩ : ∃ l : List Value, cs = l.toArray := ⟨cs.toList, by simp⟩
  obtain ⟨c0, c1, c2, c3, c4, rfl⟩ := len5 (by simpa using hsz)
  replace hf : ∀ (i o : Nat) (u : TypeId) (c : Nat), (#[(0, 33), (1, 22), (2, 34), (3, 35), (4, 22)] : Array (Nat × TypeId))[i]? = some (o, u) → Try.prog.cellsOf u = c → ∃ n y, DataW.trod enc Try.prog W base spare held n u (([c0, c1, c2, c3, c4].drop o).take c) = some y := hf
  obtain ⟨_, _, g0⟩ := hf 0 0 33 1 rfl co33
  obtain ⟨_, _, g1⟩ := hf 1 1 22 1 rfl co22
  obtain ⟨_, _, g2⟩ := hf 2 2 34 1 rfl co34
  obtain ⟨_, _, g3⟩ := hf 3 3 35 1 rfl co35
  obtain ⟨_, _, g4⟩ := hf 4 4 22 1 rfl co22
  obtain ⟨l0, s0, a0, e0, m0, b0', f0⟩ := trod_slices un33 fk24 (by omega) g0
  obtain ⟨l1, s1, a1, e1, m1, b1, f1⟩ := trod_slices un22 fk3 (by omega) g1
  obtain ⟨l2, s2, a2, e2, m2, b2, f2⟩ := trod_slices2 un34 un22 co22 fk3 g2
  obtain ⟨l3, s3, a3, e3, m3, b3, f3⟩ := trod_slices un35 fk66 (by omega) g3
  obtain ⟨l4, s4, a4, e4, m4, b4, f4⟩ := trod_slices un22 fk3 (by omega) g4
  have hc2 := trod_cap un34 e2 g2
  have hc3 := trod_cap un35 e3 g3
  obtain ⟨i1, rfl⟩ := flat1 (W := W) (sa := s1) (fun p hp => (b1 p hp).1)
  obtain ⟨i4, rfl⟩ := flat1 (W := W) (sa := s4) (fun p hp => (b4 p hp).1)
  simp at e0 e1 e2 e3 e4
  subst e0; subst e1; subst e2; subst e3; subst e4
  refine ⟨⟨l0.map toTm, i1, l2, l3.map toRp, i4⟩, ⟨s0, s1, s2, s3, s4, a0, a1, a2, a3, a4⟩, by simp, ⟨tAt_flat (fun p hp => toTm_enc (b0' p hp).1) f0, iat_flat f1, fun i p hi => ?_, tAt_flat (fun p hp => toRp_enc (b3 p hp).1) f3, iat_flat f4, by simpa using m0, by simpa using m1, m2, by simpa using m3, by simpa using m4, fun p hp => (b2 p hp).1, by simpa using hc3, hc2⟩⟩
  obtain ⟨blk, off, c, T, fr, sb, cb, h1, h2, h3, h4⟩ := f2 i p hi
  exact ⟨blk, off, c, T, fr, sb, cb, h1, h2, by rw [Int.toNat_natCast, Nat.mul_one]; exact h3, iat_flat h4⟩
set_option maxRecDepth 100000 in
theorem openTm {r : Reach} {b0 : Nat} {v : Value} {d : DataW H} {p : List MemPlace} (hv : Value.okWide Try.prog W r b0 24 v) (h : DataW.Trod enc Try.prog W base spare held 24 v d p) : ∃ t : TermD, v = tmV t ∧ (-9223372036854775808 ≤ t.f ∧ t.f ≤ 9223372036854775807) ∧ (-9223372036854775808 ≤ t.u ∧ t.u ≤ 9223372036854775807) ∧ (-9223372036854775808 ≤ t.b ∧ t.b ≤ 9223372036854775807) := by
  obtain ⟨cs, rfl, hsz⟩ := okWide_struct hs24 hv
  obtain ⟨fuel, h⟩ := h
  obtain ⟨p, h1, h2, h3⟩ := trod_fl fk24 h
  match p, h1 with
  | [x, y, z], _ =>
    have e : cs = #[.int .i64 x, .int .i64 y, .int .i64 z] := by
      apply Array.ext'
      have h4 : cs.toList = [x, y, z].map (Value.int .i64) := h2
      rw [h4]; rfl
    subst e
    exact ⟨⟨x, y, z⟩, rfl, wf64 (h3 x (by simp)), wf64 (h3 y (by simp)), wf64 (h3 z (by simp))⟩
end
end Go.Proofs.Ytkfkifkdncdhoaa
