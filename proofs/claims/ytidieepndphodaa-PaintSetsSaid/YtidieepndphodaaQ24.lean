/- Lemmas, in order: PaintMore: the law's code returns true. What the law gathers of one set. What is told of all sets, and of none. PaintSets: the law's code returns true. What a law is handed, opened: canvases.. -/
import Derived.Test.YtidieepndphodaaQ23
import Derived.Test.YtidieepndphodaaRows
import Derived.Test.YtidieepndphodaaChecked
import Derived.JoinedOf
import Derived.LaidLaws
import Derived.RowKit
import Derived.RowKitTokens
import Derived.LaidHandle
import Derived.Stop.Joined
import Derived.Lay
import Derived.SizedLaws
import Derived.SevenTiedAt
namespace Go.Proofs.Ytidieepndphodaa
open Go Go.Sy Go.MatM
set_option maxRecDepth 100000 in
set_option maxHeartbeats 4000000 in
theorem p9 (d : RowsD) (p : Int) (sa sb : Option Addr) (ca cb : Nat) (u : World) (hA : MkAt u sa d.l) (hB : MkAt u sb d.r) (l r : Int) : Calls Try.prog 9 #[canV d p sa sb ca cb, .int .i64 l, .int .i64 r] u (Ret fun v w' => v = .bool true ∧ Ext [] u w') := by
  refine calls_of Try.func9 rfl rfl (fun a hf => ?_)
  have hh := Hp.init u []
  refine sy_sq ?_
  refine o_box hf hh ?_; clear hf hh a; intro B3 a w hf hh
  refine o_v hf hh (yv_assign rfl) ?_; clear hf a; intro a hf
  refine o_end ?_
  refine sy_seq ?_
  refine sy_sq ?_
  refine o_v hf hh (y_lds Try.ag_31 rfl) ?_; clear hf a; intro a hf
  refine o_call hf Try.en_18 rfl rfl rfl (p18 d p sa sb ca cb _ (hA.ext hh.ext) (hB.ext hh.ext) 8) ?_; clear hf a; intro v a w hR hf
  obtain ⟨rfl, hx⟩ := hR; replace hh := hh.more hx; clear hx
  refine o_v hf hh (yv_move rfl) ?_; clear hf a; intro a hf
  refine guard_split hf (t := 38) rfl (fun hg2 => ?_) (fun hg2 => ?_)
  ·have hG2 := hg2; try simp only [gS] at hG2
   refine o_off hf ?_; clear hf a; intro a hf
   refine o_off hf ?_; clear hf a; intro a hf
   refine o_off hf ?_; clear hf a; intro a hf
   refine o_v hf hh (y_pt rfl rfl) ?_; clear hf a; intro a hf
   refine o_end ?_
   refine c_t hf ?_
   refine sy_sq ?_
   refine o_call hf Try.en_17 rfl rfl rfl (p17 _) ?_; clear hf a; intro v a w hR hf
   obtain ⟨rfl, hx⟩ := hR; replace hh := hh.more hx; clear hx
   refine o_v hf hh (yv_assign rfl) ?_; clear hf a; intro a hf
   refine o_end ?_
   refine sy_ret ?_
   refine then_r ?_
   refine ret_r hf rfl rfl ?_
   exact ⟨rfl, hh.ext⟩
  ·have hG2 := hg2; try simp only [gS] at hG2
   refine o_v hf hh (y_lds Try.ag_31 rfl) ?_; clear hf a; intro a hf
   have hg9 : (decide (24 < d.l.length ∨ 24 < d.r.length) || (decide ((8 : Int) < d.l.length ∨ (8 : Int) < d.r.length) && okCan d p)) = false := by assumption
   have hlen : d.l.length ≤ 24 ∧ d.r.length ≤ 24 := by
     rw [Bool.or_eq_false_iff, decide_eq_false_iff_not] at hg9
     omega
   refine o_call hf Try.en_19 rfl rfl rfl (p19 d p sa sb ca cb _ (hA.ext hh.ext) (hB.ext hh.ext) (by omega) (by omega)) ?_; clear hf a; intro v a w hR hf
   obtain ⟨rfl, hx⟩ := hR; replace hh := hh.more hx; clear hx
   refine o_v hf hh (yv_not rfl) ?_; clear hf a; intro a hf
   refine o_v hf hh (y_pf rfl rfl) ?_; clear hf a; intro a hf
   refine o_end ?_
   refine sy_cond hf rfl (fun hg5 => ?_) (fun hg5 => ?_)
   ·have hG5 := hg5; try simp only [gS] at hG5
    refine sy_sq ?_
    refine o_call hf Try.en_17 rfl rfl rfl (p17 _) ?_; clear hf a; intro v a w hR hf
    obtain ⟨rfl, hx⟩ := hR; replace hh := hh.more hx; clear hx
    refine o_v hf hh (yv_assign rfl) ?_; clear hf a; intro a hf
    refine o_end ?_
    refine sy_ret ?_
    refine then_r ?_
    refine ret_r hf rfl rfl ?_
    exact ⟨rfl, hh.ext⟩
   ·have hG5 := hg5; try simp only [gS] at hG5
    refine sy_skip ?_
    refine then_n ?_
    refine sy_cut (σ := Nat × Nat × Nat) [7, 8, 9, 44, 45, 46] (fun q => [(7, ptr q.1 0), (8, ptr q.2.1 0), (9, ptr q.2.2 0)]) (fun q => fun w' => Hp u [] [(q.2.2, .cells (canV d p sa sb ca cb).cells 31), (q.2.1, .cells (canV d p sa sb ca cb).cells 31), (q.1, .cells (canV d p sa sb ca cb).cells 31), (B3, .cells (canV d p sa sb ca cb).cells 31)] w') hf ?_ ?_
    ·refine sy_tree1 (.q 0 0 (.q 0 1 (.q 0 2 (.e3 3 (.e2 4 (.e1 5 (.e1 6 (.e1 7 (.e1 8 (.fin))))) 5 (.e1 4 (.e1 6 (.e1 7 (.e1 8 (.fin)))))) 4 (.e2 3 (.e1 5 (.e1 6 (.e1 7 (.e1 8 (.fin))))) 5 (.e1 3 (.e1 6 (.e1 7 (.e1 8 (.fin)))))) 5 (.e2 3 (.e1 4 (.e1 6 (.e1 7 (.e1 8 (.fin))))) 4 (.e1 3 (.e1 6 (.e1 7 (.e1 8 (.fin)))))))))) [] Try.follows (by kernel_rfl) hh (fun w hh => ?_)
     refine mc_q rfl rfl hh hf (y_lds Try.ag_31 rfl) (.inl rfl) rfl rfl ?_; clear hf a; intro a hf
     refine mc_q rfl rfl hh hf (y_lds Try.ag_31 rfl) (.inl rfl) rfl rfl ?_; clear hf a; intro a hf
     refine mc_q rfl rfl hh hf (y_lds Try.ag_31 rfl) (.inl rfl) rfl rfl ?_; clear hf a; intro a hf
     refine ⟨?_, ?_, ?_⟩
     ·refine mc_e rfl fun Q1 => ?_
      refine o_alloc hf hh Try.ze_31 ?_; clear hf hh a; intro B7 a w hf hh
      refine ops_end ?_
      refine then_n ⟨⟨fun _ _ => (hh.less (.cons _ (List.Sublist.refl _))), trivial⟩, ?_⟩
      refine ⟨?_, ?_⟩
      ·refine mc_e rfl fun Q1 => ?_
       refine o_alloc hf hh Try.ze_31 ?_; clear hf hh a; intro B8 a w hf hh
       refine ops_end ?_
       refine then_n ⟨⟨fun _ _ => (hh.less (.cons _ (.cons _ (List.Sublist.refl _)))), trivial⟩, ?_⟩
       refine mc_e rfl fun Q1 => ?_
       refine o_alloc hf hh Try.ze_31 ?_; clear hf hh a; intro B9 a w hf hh
       refine ops_end ?_
       refine then_n ⟨⟨fun _ _ => (hh.less (.cons _ (.cons _ (.cons _ (List.Sublist.refl _))))), trivial⟩, ?_⟩
       refine mc_e rfl fun Q1 => ?_
       refine o_store hf hh Try.sz_31 fun w hh => ?_
       refine ops_end ?_
       refine then_n ⟨⟨fun _ _ => (hh.less (.cons _ (.cons _ (.cons _ (List.Sublist.refl _))))), trivial⟩, ?_⟩
       refine mc_e rfl fun Q1 => ?_
       refine o_store hf hh Try.sz_31 fun w hh => ?_
       refine ops_end ?_
       refine then_n ⟨⟨fun _ _ => (hh.less (.cons _ (.cons _ (.cons _ (List.Sublist.refl _))))), trivial⟩, ?_⟩
       refine mc_e rfl fun Q1 => ?_
       refine o_store hf hh Try.sz_31 fun w hh => ?_
       refine ops_end ?_
       refine then_n ⟨⟨fun _ _ => (hh.less (.cons _ (.cons _ (.cons _ (List.Sublist.refl _))))), trivial⟩, ?_⟩
       refine mc_end ?_
       refine then_n ?_
       exact ⟨(B7, B8, B9), (by first | exact hh | exact hh.perm (.swap _ _ _) | exact hh.perm (.cons _ (.swap _ _ _)) | exact hh.perm ((List.Perm.swap _ _ _).trans (.cons _ (.swap _ _ _))) | exact hh.perm ((List.Perm.cons _ (.swap _ _ _)).trans (.swap _ _ _)) | exact hh.perm ((List.Perm.swap _ _ _).trans ((List.Perm.cons _ (.swap _ _ _)).trans (.swap _ _ _)))), hf.head ⟨rfl, rfl, rfl, True.intro⟩ (Keep.cons rfl (Keep.cons rfl (Keep.cons rfl (Keep.cons rfl (Keep.cons rfl (Keep.cons rfl (Keep.base)))))))⟩
      ·refine mc_e rfl fun Q1 => ?_
       refine o_alloc hf hh Try.ze_31 ?_; clear hf hh a; intro B9 a w hf hh
       refine ops_end ?_
       refine then_n ⟨⟨fun _ _ => (hh.less (.cons _ (.cons _ (List.Sublist.refl _)))), trivial⟩, ?_⟩
       refine mc_e rfl fun Q1 => ?_
       refine o_alloc hf hh Try.ze_31 ?_; clear hf hh a; intro B8 a w hf hh
       refine ops_end ?_
       refine then_n ⟨⟨fun _ _ => (hh.less (.cons _ (.cons _ (.cons _ (List.Sublist.refl _))))), trivial⟩, ?_⟩
       refine mc_e rfl fun Q1 => ?_
       refine o_store hf hh Try.sz_31 fun w hh => ?_
       refine ops_end ?_
       refine then_n ⟨⟨fun _ _ => (hh.less (.cons _ (.cons _ (.cons _ (List.Sublist.refl _))))), trivial⟩, ?_⟩
       refine mc_e rfl fun Q1 => ?_
       refine o_store hf hh Try.sz_31 fun w hh => ?_
       refine ops_end ?_
       refine then_n ⟨⟨fun _ _ => (hh.less (.cons _ (.cons _ (.cons _ (List.Sublist.refl _))))), trivial⟩, ?_⟩
       refine mc_e rfl fun Q1 => ?_
       refine o_store hf hh Try.sz_31 fun w hh => ?_
       refine ops_end ?_
       refine then_n ⟨⟨fun _ _ => (hh.less (.cons _ (.cons _ (.cons _ (List.Sublist.refl _))))), trivial⟩, ?_⟩
       refine mc_end ?_
       refine then_n ?_
       exact ⟨(B7, B8, B9), (by first | exact hh | exact hh.perm (.swap _ _ _) | exact hh.perm (.cons _ (.swap _ _ _)) | exact hh.perm ((List.Perm.swap _ _ _).trans (.cons _ (.swap _ _ _))) | exact hh.perm ((List.Perm.cons _ (.swap _ _ _)).trans (.swap _ _ _)) | exact hh.perm ((List.Perm.swap _ _ _).trans ((List.Perm.cons _ (.swap _ _ _)).trans (.swap _ _ _)))), hf.head ⟨rfl, rfl, rfl, True.intro⟩ (Keep.cons rfl (Keep.cons rfl (Keep.cons rfl (Keep.cons rfl (Keep.cons rfl (Keep.cons rfl (Keep.base)))))))⟩
     ·refine mc_e rfl fun Q1 => ?_
      refine o_alloc hf hh Try.ze_31 ?_; clear hf hh a; intro B8 a w hf hh
      refine ops_end ?_
      refine then_n ⟨⟨fun _ _ => (hh.less (.cons _ (List.Sublist.refl _))), trivial⟩, ?_⟩
      refine ⟨?_, ?_⟩
      ·refine mc_e rfl fun Q1 => ?_
       refine o_alloc hf hh Try.ze_31 ?_; clear hf hh a; intro B7 a w hf hh
       refine ops_end ?_
       refine then_n ⟨⟨fun _ _ => (hh.less (.cons _ (.cons _ (List.Sublist.refl _)))), trivial⟩, ?_⟩
       refine mc_e rfl fun Q1 => ?_
       refine o_alloc hf hh Try.ze_31 ?_; clear hf hh a; intro B9 a w hf hh
       refine ops_end ?_
       refine then_n ⟨⟨fun _ _ => (hh.less (.cons _ (.cons _ (.cons _ (List.Sublist.refl _))))), trivial⟩, ?_⟩
       refine mc_e rfl fun Q1 => ?_
       refine o_store hf hh Try.sz_31 fun w hh => ?_
       refine ops_end ?_
       refine then_n ⟨⟨fun _ _ => (hh.less (.cons _ (.cons _ (.cons _ (List.Sublist.refl _))))), trivial⟩, ?_⟩
       refine mc_e rfl fun Q1 => ?_
       refine o_store hf hh Try.sz_31 fun w hh => ?_
       refine ops_end ?_
       refine then_n ⟨⟨fun _ _ => (hh.less (.cons _ (.cons _ (.cons _ (List.Sublist.refl _))))), trivial⟩, ?_⟩
       refine mc_e rfl fun Q1 => ?_
       refine o_store hf hh Try.sz_31 fun w hh => ?_
       refine ops_end ?_
       refine then_n ⟨⟨fun _ _ => (hh.less (.cons _ (.cons _ (.cons _ (List.Sublist.refl _))))), trivial⟩, ?_⟩
       refine mc_end ?_
       refine then_n ?_
       exact ⟨(B7, B8, B9), (by first | exact hh | exact hh.perm (.swap _ _ _) | exact hh.perm (.cons _ (.swap _ _ _)) | exact hh.perm ((List.Perm.swap _ _ _).trans (.cons _ (.swap _ _ _))) | exact hh.perm ((List.Perm.cons _ (.swap _ _ _)).trans (.swap _ _ _)) | exact hh.perm ((List.Perm.swap _ _ _).trans ((List.Perm.cons _ (.swap _ _ _)).trans (.swap _ _ _)))), hf.head ⟨rfl, rfl, rfl, True.intro⟩ (Keep.cons rfl (Keep.cons rfl (Keep.cons rfl (Keep.cons rfl (Keep.cons rfl (Keep.cons rfl (Keep.base)))))))⟩
      ·refine mc_e rfl fun Q1 => ?_
       refine o_alloc hf hh Try.ze_31 ?_; clear hf hh a; intro B9 a w hf hh
       refine ops_end ?_
       refine then_n ⟨⟨fun _ _ => (hh.less (.cons _ (.cons _ (List.Sublist.refl _)))), trivial⟩, ?_⟩
       refine mc_e rfl fun Q1 => ?_
       refine o_alloc hf hh Try.ze_31 ?_; clear hf hh a; intro B7 a w hf hh
       refine ops_end ?_
       refine then_n ⟨⟨fun _ _ => (hh.less (.cons _ (.cons _ (.cons _ (List.Sublist.refl _))))), trivial⟩, ?_⟩
       refine mc_e rfl fun Q1 => ?_
       refine o_store hf hh Try.sz_31 fun w hh => ?_
       refine ops_end ?_
       refine then_n ⟨⟨fun _ _ => (hh.less (.cons _ (.cons _ (.cons _ (List.Sublist.refl _))))), trivial⟩, ?_⟩
       refine mc_e rfl fun Q1 => ?_
       refine o_store hf hh Try.sz_31 fun w hh => ?_
       refine ops_end ?_
       refine then_n ⟨⟨fun _ _ => (hh.less (.cons _ (.cons _ (.cons _ (List.Sublist.refl _))))), trivial⟩, ?_⟩
       refine mc_e rfl fun Q1 => ?_
       refine o_store hf hh Try.sz_31 fun w hh => ?_
       refine ops_end ?_
       refine then_n ⟨⟨fun _ _ => (hh.less (.cons _ (.cons _ (.cons _ (List.Sublist.refl _))))), trivial⟩, ?_⟩
       refine mc_end ?_
       refine then_n ?_
       exact ⟨(B7, B8, B9), (by first | exact hh | exact hh.perm (.swap _ _ _) | exact hh.perm (.cons _ (.swap _ _ _)) | exact hh.perm ((List.Perm.swap _ _ _).trans (.cons _ (.swap _ _ _))) | exact hh.perm ((List.Perm.cons _ (.swap _ _ _)).trans (.swap _ _ _)) | exact hh.perm ((List.Perm.swap _ _ _).trans ((List.Perm.cons _ (.swap _ _ _)).trans (.swap _ _ _)))), hf.head ⟨rfl, rfl, rfl, True.intro⟩ (Keep.cons rfl (Keep.cons rfl (Keep.cons rfl (Keep.cons rfl (Keep.cons rfl (Keep.cons rfl (Keep.base)))))))⟩
     ·refine mc_e rfl fun Q1 => ?_
      refine o_alloc hf hh Try.ze_31 ?_; clear hf hh a; intro B9 a w hf hh
      refine ops_end ?_
      refine then_n ⟨⟨fun _ _ => (hh.less (.cons _ (List.Sublist.refl _))), trivial⟩, ?_⟩
      refine ⟨?_, ?_⟩
      ·refine mc_e rfl fun Q1 => ?_
       refine o_alloc hf hh Try.ze_31 ?_; clear hf hh a; intro B7 a w hf hh
       refine ops_end ?_
       refine then_n ⟨⟨fun _ _ => (hh.less (.cons _ (.cons _ (List.Sublist.refl _)))), trivial⟩, ?_⟩
       refine mc_e rfl fun Q1 => ?_
       refine o_alloc hf hh Try.ze_31 ?_; clear hf hh a; intro B8 a w hf hh
       refine ops_end ?_
       refine then_n ⟨⟨fun _ _ => (hh.less (.cons _ (.cons _ (.cons _ (List.Sublist.refl _))))), trivial⟩, ?_⟩
       refine mc_e rfl fun Q1 => ?_
       refine o_store hf hh Try.sz_31 fun w hh => ?_
       refine ops_end ?_
       refine then_n ⟨⟨fun _ _ => (hh.less (.cons _ (.cons _ (.cons _ (List.Sublist.refl _))))), trivial⟩, ?_⟩
       refine mc_e rfl fun Q1 => ?_
       refine o_store hf hh Try.sz_31 fun w hh => ?_
       refine ops_end ?_
       refine then_n ⟨⟨fun _ _ => (hh.less (.cons _ (.cons _ (.cons _ (List.Sublist.refl _))))), trivial⟩, ?_⟩
       refine mc_e rfl fun Q1 => ?_
       refine o_store hf hh Try.sz_31 fun w hh => ?_
       refine ops_end ?_
       refine then_n ⟨⟨fun _ _ => (hh.less (.cons _ (.cons _ (.cons _ (List.Sublist.refl _))))), trivial⟩, ?_⟩
       refine mc_end ?_
       refine then_n ?_
       exact ⟨(B7, B8, B9), (by first | exact hh | exact hh.perm (.swap _ _ _) | exact hh.perm (.cons _ (.swap _ _ _)) | exact hh.perm ((List.Perm.swap _ _ _).trans (.cons _ (.swap _ _ _))) | exact hh.perm ((List.Perm.cons _ (.swap _ _ _)).trans (.swap _ _ _)) | exact hh.perm ((List.Perm.swap _ _ _).trans ((List.Perm.cons _ (.swap _ _ _)).trans (.swap _ _ _)))), hf.head ⟨rfl, rfl, rfl, True.intro⟩ (Keep.cons rfl (Keep.cons rfl (Keep.cons rfl (Keep.cons rfl (Keep.cons rfl (Keep.cons rfl (Keep.base)))))))⟩
      ·refine mc_e rfl fun Q1 => ?_
       refine o_alloc hf hh Try.ze_31 ?_; clear hf hh a; intro B8 a w hf hh
       refine ops_end ?_
       refine then_n ⟨⟨fun _ _ => (hh.less (.cons _ (.cons _ (List.Sublist.refl _)))), trivial⟩, ?_⟩
       refine mc_e rfl fun Q1 => ?_
       refine o_alloc hf hh Try.ze_31 ?_; clear hf hh a; intro B7 a w hf hh
       refine ops_end ?_
       refine then_n ⟨⟨fun _ _ => (hh.less (.cons _ (.cons _ (.cons _ (List.Sublist.refl _))))), trivial⟩, ?_⟩
       refine mc_e rfl fun Q1 => ?_
       refine o_store hf hh Try.sz_31 fun w hh => ?_
       refine ops_end ?_
       refine then_n ⟨⟨fun _ _ => (hh.less (.cons _ (.cons _ (.cons _ (List.Sublist.refl _))))), trivial⟩, ?_⟩
       refine mc_e rfl fun Q1 => ?_
       refine o_store hf hh Try.sz_31 fun w hh => ?_
       refine ops_end ?_
       refine then_n ⟨⟨fun _ _ => (hh.less (.cons _ (.cons _ (.cons _ (List.Sublist.refl _))))), trivial⟩, ?_⟩
       refine mc_e rfl fun Q1 => ?_
       refine o_store hf hh Try.sz_31 fun w hh => ?_
       refine ops_end ?_
       refine then_n ⟨⟨fun _ _ => (hh.less (.cons _ (.cons _ (.cons _ (List.Sublist.refl _))))), trivial⟩, ?_⟩
       refine mc_end ?_
       refine then_n ?_
       exact ⟨(B7, B8, B9), (by first | exact hh | exact hh.perm (.swap _ _ _) | exact hh.perm (.cons _ (.swap _ _ _)) | exact hh.perm ((List.Perm.swap _ _ _).trans (.cons _ (.swap _ _ _))) | exact hh.perm ((List.Perm.cons _ (.swap _ _ _)).trans (.swap _ _ _)) | exact hh.perm ((List.Perm.swap _ _ _).trans ((List.Perm.cons _ (.swap _ _ _)).trans (.swap _ _ _)))), hf.head ⟨rfl, rfl, rfl, True.intro⟩ (Keep.cons rfl (Keep.cons rfl (Keep.cons rfl (Keep.cons rfl (Keep.cons rfl (Keep.cons rfl (Keep.base)))))))⟩
    ·rintro q a w hh hf
     have hok : okCan d p = true := by assumption
     obtain ⟨hV, hp0, hp3⟩ := okCan_valid hok
     have hnl := hV.nl; have hnr := hV.nr; have hh1 := hV.h1; have hh2 := hV.h2
     obtain ⟨B7, B8, B9⟩ := q
     simp only at hh hf
     have hM1 := more_p hok
     have hM2 := more_h hok
     obtain ⟨p1, hp1⟩ : ∃ z, z = min 3 (p + 1) := ⟨_, rfl⟩
     obtain ⟨dH, hdH⟩ : ∃ y, y = setH d (min 20 (d.hid + 1)) := ⟨_, rfl⟩
     rw [← hp1] at hM1; rw [← hdH] at hM2
     refine sy_sq ?_
     refine o_v hf hh (yv_fieldAddr Try.fo_31_1 rfl) ?_; clear hf a; intro a hf
     refine o_v hf hh (y_ld Try.sc_3 rfl) ?_; clear hf a; intro a hf
     refine o_v hf hh (y_add rfl rfl) ?_; clear hf a; intro a hf
     refine o_v hf hh (yv_min rfl rfl) ?_; clear hf a; intro a hf
     refine o_v hf hh (yv_fieldAddr Try.fo_31_1 rfl) ?_; clear hf a; intro a hf
     refine o_store hf hh Try.sz_3 fun w hh => ?_
     refine o_v hf hh (yv_fieldAddr Try.fo_31_1 rfl) ?_; clear hf a; intro a hf
     refine o_store hf hh Try.sz_3 fun w hh => ?_
     refine o_end ?_
     refine sy_sq ?_
     refine o_v hf hh (yv_fieldAddr Try.fo_31_0 rfl) ?_; clear hf a; intro a hf
     refine o_v hf hh (yv_fieldAddr Try.fo_29_3 rfl) ?_; clear hf a; intro a hf
     refine o_v hf hh (y_ld Try.sc_3 rfl) ?_; clear hf a; intro a hf
     refine o_v hf hh (y_add rfl rfl) ?_; clear hf a; intro a hf
     refine o_v hf hh (yv_min rfl rfl) ?_; clear hf a; intro a hf
     refine o_v hf hh (yv_fieldAddr Try.fo_31_0 rfl) ?_; clear hf a; intro a hf
     refine o_v hf hh (yv_fieldAddr Try.fo_29_3 rfl) ?_; clear hf a; intro a hf
     refine o_store hf hh Try.sz_3 fun w hh => ?_
     refine o_end ?_
     refine sy_seq ?_
     replace hh : Hp u [] [(B9, .cells (canV d 0 sa sb ca cb).cells 31), (B8, .cells (canV dH p sa sb ca cb).cells 31), (B7, .cells (canV d p1 sa sb ca cb).cells 31), (B3, .cells (canV d p sa sb ca cb).cells 31)] w := by rw [hdH, hp1]; exact hh
     have hw1 := pow_le_10 hnl
     have hw2 := pow_le_10 hnr
     obtain ⟨q1, hq1⟩ : ∃ q : Nat, q = 2 ^ d.l.length := ⟨_, rfl⟩
     obtain ⟨q2, hq2⟩ : ∃ q : Nat, q = 2 ^ d.r.length := ⟨_, rfl⟩
     have hr1 : 0 < q1 := hq1 ▸ Nat.two_pow_pos _
     have hr2 : 0 < q2 := hq2 ▸ Nat.two_pow_pos _
     rw [← hq1] at hw1; rw [← hq2] at hw2
     refine sy_quiet (C := Hp _ _ _) Try.follows (by kernel_rfl) (hh.drawn _) ?_
     refine oq_v hf (yv_move rfl) ?_; clear hf a; intro a hf
     refine oq_v hf (yv_fieldAddr Try.fo_31_0 rfl) ?_; clear hf a; intro a hf
     refine oq_v hf (yv_fieldAddr Try.fo_29_0 rfl) ?_; clear hf a; intro a hf
     refine oq_v hf (y_ld Try.sc_25 rfl) ?_; clear hf a; intro a hf
     refine oq_v hf (yv_len Try.se_25 rfl) ?_; clear hf a; intro a hf
     refine oq_v hf (yv_cast (yv_shl1 (.inl rfl) rfl rfl (by omega) (by omega)) (intv (b := ((q1 : Nat) : Int)) (by rw [hq1]; exact shl_one))) ?_; clear hf a; intro a hf
     refine oq_v hf (y_sub rfl rfl) ?_; clear hf a; intro a hf
     refine oq_v hf (yv_andm rfl rfl (by omega) (by simp only [IntKind.top]; omega)) ?_; clear hf a; intro a hf
     refine oq_v hf (yv_move rfl) ?_; clear hf a; intro a hf
     refine oq_v hf (yv_fieldAddr Try.fo_31_0 rfl) ?_; clear hf a; intro a hf
     refine oq_v hf (yv_fieldAddr Try.fo_29_1 rfl) ?_; clear hf a; intro a hf
     refine oq_v hf (y_ld Try.sc_25 rfl) ?_; clear hf a; intro a hf
     refine oq_v hf (yv_len Try.se_25 rfl) ?_; clear hf a; intro a hf
     refine oq_v hf (yv_cast (yv_shl1 (.inl rfl) rfl rfl (by omega) (by omega)) (intv (b := ((q2 : Nat) : Int)) (by rw [hq2]; exact shl_one))) ?_; clear hf a; intro a hf
     refine oq_v hf (y_sub rfl rfl) ?_; clear hf a; intro a hf
     refine oq_v hf (yv_andm rfl rfl (by omega) (by simp only [IntKind.top]; omega)) ?_; clear hf a; intro a hf
     refine oq_v hf (yv_assign rfl) ?_; clear hf a; intro a hf
     refine oq_v hf (yv_assign rfl) ?_; clear hf a; intro a hf
     refine q_end fun w hh => ?_
     refine then_n ?_
     refine sy_seq ?_
     have hx1 := andm_le l ((q1 : Int) - 1) (by omega)
     have hy1 := andm_le r ((q2 : Int) - 1) (by omega)
     obtain ⟨x, hxd⟩ : ∃ z, z = andm l ((q1 : Int) - 1) := ⟨_, rfl⟩
     obtain ⟨y, hyd⟩ : ∃ z, z = andm r ((q2 : Int) - 1) := ⟨_, rfl⟩
     rw [← hxd] at hf hx1; rw [← hyd] at hf hy1
     have hask : askS d x y = true := by
       unfold askS inS
       rw [← hq1, ← hq2, decide_eq_true hx1, decide_eq_true hy1, decide_eq_true (Int.natCast_nonneg x), decide_eq_true (Int.natCast_nonneg y)]
       rfl
     have hE0 := fitsCE_0 hok hask
     have hC0 := casesE_ok hok
     refine sy_ops ?_
     refine o_v hf hh (y_lds Try.ag_31 rfl) ?_; clear hf a; intro a hf
     refine o_v hf hh (yv_move rfl) ?_; clear hf a; intro a hf
     refine o_v hf hh (yv_move rfl) ?_; clear hf a; intro a hf
     refine o_call hf Try.en_10 rfl rfl rfl (p10 d p sa sb ca cb _ (hA.ext hh.ext) (hB.ext hh.ext) x y) ?_; clear hf a; intro v a w hR hf
     obtain ⟨rfl, hx⟩ := hR; replace hh := hh.more hx; clear hx
     refine o_v hf hh (yv_move rfl) ?_; clear hf a; intro a hf
     refine o_v hf hh (yv_extract rfl rfl) ?_; clear hf a; intro a hf
     refine o_v hf hh (yv_extract rfl rfl) ?_; clear hf a; intro a hf
     refine o_v hf hh (yv_assign rfl) ?_; clear hf a; intro a hf
     refine o_v hf hh (yv_assign rfl) ?_; clear hf a; intro a hf
     refine o_end ?_
     refine sy_sq ?_
     refine o_v hf hh (y_lds Try.ag_31 rfl) ?_; clear hf a; intro a hf
     refine o_call hf Try.en_12 rfl rfl rfl (p12 d p sa sb ca cb _ (hA.ext hh.ext) (hB.ext hh.ext)) ?_; clear hf a; intro v a w hR hf
     obtain ⟨rfl, hx⟩ := hR; replace hh := hh.more hx; clear hx
     refine o_v hf hh (yv_move rfl) ?_; clear hf a; intro a hf
     refine o_v hf hh (yv_extract rfl rfl) ?_; clear hf a; intro a hf
     refine o_v hf hh (yv_extract rfl rfl) ?_; clear hf a; intro a hf
     refine o_v hf hh (yv_assign rfl) ?_; clear hf a; intro a hf
     refine o_v hf hh (yv_assign rfl) ?_; clear hf a; intro a hf
     refine o_end ?_
     refine sy_sq ?_
     refine o_v hf hh (y_lds Try.ag_31 rfl) ?_; clear hf a; intro a hf
     refine o_call hf Try.en_20 rfl rfl rfl (p20 d p sa sb ca cb _ (hA.ext hh.ext) (hB.ext hh.ext)) ?_; clear hf a; intro v a w hR hf
     obtain ⟨rfl, hx⟩ := hR; replace hh := hh.more hx; clear hx
     refine o_v hf hh (yv_move rfl) ?_; clear hf a; intro a hf
     refine o_v hf hh (yv_extract rfl rfl) ?_; clear hf a; intro a hf
     refine o_v hf hh (yv_extract rfl rfl) ?_; clear hf a; intro a hf
     refine o_v hf hh (yv_extract rfl rfl) ?_; clear hf a; intro a hf
     refine o_v hf hh (yv_assign rfl) ?_; clear hf a; intro a hf
     refine o_v hf hh (yv_assign rfl) ?_; clear hf a; intro a hf
     refine o_v hf hh (yv_assign rfl) ?_; clear hf a; intro a hf
     refine o_end ?_
     refine sy_sq ?_
     refine o_v hf hh (y_lds Try.ag_31 rfl) ?_; clear hf a; intro a hf
     refine o_call hf Try.en_15 rfl rfl rfl (p15 d p sa sb ca cb _ (hA.ext hh.ext) (hB.ext hh.ext)) ?_; clear hf a; intro v a w hR hf
     obtain ⟨rfl, hx⟩ := hR; replace hh := hh.more hx; clear hx
     refine o_v hf hh (yv_move rfl) ?_; clear hf a; intro a hf
     refine o_v hf hh (yv_extract rfl rfl) ?_; clear hf a; intro a hf
     refine o_v hf hh (yv_extract rfl rfl) ?_; clear hf a; intro a hf
     refine o_v hf hh (yv_extract rfl rfl) ?_; clear hf a; intro a hf
     refine o_v hf hh (yv_assign rfl) ?_; clear hf a; intro a hf
     refine o_v hf hh (yv_assign rfl) ?_; clear hf a; intro a hf
     refine o_v hf hh (yv_assign rfl) ?_; clear hf a; intro a hf
     refine o_end ?_
     refine sy_seq ?_
     refine sy_sq ?_
     refine o_v hf hh (yv_move rfl) ?_; clear hf a; intro a hf
     refine o_v hf hh (yv_bin rfl rfl rfl) ?_; clear hf a; intro a hf
     refine o_v hf hh (yv_move rfl) ?_; clear hf a; intro a hf
     refine o_v hf hh (yv_move rfl) ?_; clear hf a; intro a hf
     refine o_v hf hh (yv_bin rfl rfl rfl) ?_; clear hf a; intro a hf
     refine o_v hf hh (y_pf rfl rfl) ?_; clear hf a; intro a hf
     refine o_end ?_
     refine c_f hf ?_
     refine sy_skip ?_
     refine then_n ?_
     refine sy_seq ?_
     refine sy_seq ?_
     obtain ⟨hs1, hs2, hs3, hs4⟩ := joinV_lt (p := p) hV
     have hpick := fun j hj => pickC2 (sa := sa) (sb := sb) (ca := ca) (cb := cb) hM1 hM2 j hj
     refine sy_ops ?_
     refine o_v hf hh (y_lds Try.ag_31 rfl) ?_; clear hf a; intro a hf
     refine o_v hf hh (y_lds Try.ag_31 rfl) ?_; clear hf a; intro a hf
     refine ops_buildSl hf hh Try.bl_63_2 rfl rfl (.inl rfl) rfl ?_; clear hf hh; clear a; intro B108 a w hf hh
     refine o_v hf hh (yv_len Try.se_63 rfl) ?_; clear hf a; intro a hf
     refine o_v hf hh (yv_move rfl) ?_; clear hf a; intro a hf
     refine o_end ?_
     refine sy_block ?_
     refine sy_loopH (σ := Nat) [6, 21, 22, 23, 24, 25, 26, 27, 28, 29, 30, 31, 110, 111, 112, 113, 114, 115, 116, 117, 118, 119, 120, 121, 122, 123, 124, 125, 126, 127, 128, 129, 130, 131, 132, 133, 134, 135, 136, 137, 138, 139, 140, 141, 142, 143, 144, 145, 146, 147, 148, 149, 150, 151, 152, 153, 154, 155, 156, 157, 158, 159, 160, 161, 162, 163, 164, 165, 166, 167, 168, 169, 170, 171, 172, 173, 174, 175, 176, 177, 178, 179, 180, 181, 182, 183, 184, 185, 186, 187, 188] (fun j => [(110, .int .i64 j)]) (fun j => fun w' => j ≤ 2 ∧ Hp u [] [(B108, .cells #[.slice sa d.l.length ca, .slice sb d.r.length cb, .int .i64 d.lo, .int .i64 d.hi, .int .i64 d.hid, .int .i64 p1, .slice sa dH.l.length ca, .slice sb dH.r.length cb, .int .i64 dH.lo, .int .i64 dH.hi, .int .i64 dH.hid, .int .i64 p] 31), (B9, .cells (canV d 0 sa sb ca cb).cells 31), (B8, .cells (canV dH p sa sb ca cb).cells 31), (B7, .cells (canV d p1 sa sb ca cb).cells 31), (B3, .cells (canV d p sa sb ca cb).cells 31)] w') (fun j => 2 - j) (0) hf ?_ ?_ ?_
     · repeat' (first | exact True.intro | refine And.intro rfl ?_)
     · exact ⟨Nat.zero_le _, hh⟩
     ·rintro j a w ⟨hj, hh⟩ hf
      refine sy_sq ?_
      refine o_v hf hh (yv_bin rfl rfl rfl) ?_; clear hf a; intro a hf
      refine o_end ?_
      refine sy_seq ?_
      refine sy_cond hf rfl (fun hg28 => ?_) (fun hg28 => ?_)
      ·have hG28 := hg28; try simp only [gS] at hG28
       refine sy_skip ?_
       refine then_n ?_
       refine sy_seq ?_
       refine sy_block ?_
       refine sy_seq ?_
       obtain ⟨e, q, hcx, hM⟩ := hpick j (by omega)
       have hAe : MkAt u sa e.l := hM.l ▸ hA
       have hBe : MkAt u sb e.r := hM.r ▸ hB
       obtain ⟨hFE, hfits⟩ := hM.fits hE0
       have hCE := casesE_ok hM.ok
       have hCn := hM.cases hok
       obtain ⟨hVe, hq0, hq3⟩ := okCan_valid hM.ok
       refine sy_ops ?_
       refine o_v hf hh (y_ix Try.se_63 rfl rfl) ?_; clear hf a; intro a hf
       refine o_v hf hh (y_lds Try.ag_31 rfl) ?_; clear hf a; intro a hf
       refine o_alloc hf hh Try.ze_31 ?_; clear hf hh a; intro B21 a w hf hh
       refine o_store hf hh Try.sz_31 fun w hh => ?_
       refine o_end ?_
       refine sy_seq ?_
       replace hh : Hp u [] [(B21, .cells (canV e q sa sb ca cb).cells 31), (B108, .cells #[.slice sa d.l.length ca, .slice sb d.r.length cb, .int .i64 d.lo, .int .i64 d.hi, .int .i64 d.hid, .int .i64 p1, .slice sa dH.l.length ca, .slice sb dH.r.length cb, .int .i64 dH.lo, .int .i64 dH.hi, .int .i64 dH.hid, .int .i64 p] 31), (B9, .cells (canV d 0 sa sb ca cb).cells 31), (B8, .cells (canV dH p sa sb ca cb).cells 31), (B7, .cells (canV d p1 sa sb ca cb).cells 31), (B3, .cells (canV d p sa sb ca cb).cells 31)] w := hh
       refine sy_ops ?_
       refine o_v hf hh (y_lds Try.ag_31 rfl) ?_; clear hf a; intro a hf
       refine o_v hf hh (yv_move rfl) ?_; clear hf a; intro a hf
       refine o_v hf hh (yv_move rfl) ?_; clear hf a; intro a hf
       refine o_call hf Try.en_10 rfl rfl rfl (p10 e q sa sb ca cb _ (hAe.ext hh.ext) (hBe.ext hh.ext) x y) ?_; clear hf a; intro v a w hR hf
       obtain ⟨rfl, hx⟩ := hR; replace hh := hh.more hx; clear hx
       refine o_v hf hh (yv_move rfl) ?_; clear hf a; intro a hf
       refine o_v hf hh (yv_extract rfl rfl) ?_; clear hf a; intro a hf
       refine o_v hf hh (yv_extract rfl rfl) ?_; clear hf a; intro a hf
       refine o_v hf hh (yv_assign rfl) ?_; clear hf a; intro a hf
       refine o_v hf hh (yv_assign rfl) ?_; clear hf a; intro a hf
       refine o_end ?_
       refine sy_sq ?_
       refine o_v hf hh (y_lds Try.ag_31 rfl) ?_; clear hf a; intro a hf
       refine o_call hf Try.en_12 rfl rfl rfl (p12 e q sa sb ca cb _ (hAe.ext hh.ext) (hBe.ext hh.ext)) ?_; clear hf a; intro v a w hR hf
       obtain ⟨rfl, hx⟩ := hR; replace hh := hh.more hx; clear hx
       refine o_v hf hh (yv_move rfl) ?_; clear hf a; intro a hf
       refine o_v hf hh (yv_extract rfl rfl) ?_; clear hf a; intro a hf
       refine o_v hf hh (yv_extract rfl rfl) ?_; clear hf a; intro a hf
       refine o_v hf hh (yv_assign rfl) ?_; clear hf a; intro a hf
       refine o_v hf hh (yv_assign rfl) ?_; clear hf a; intro a hf
       refine o_end ?_
       refine sy_seq ?_
       refine sy_sq ?_
       refine o_v hf hh (yv_move rfl) ?_; clear hf a; intro a hf
       refine o_v hf hh (yv_bin rfl rfl rfl) ?_; clear hf a; intro a hf
       refine o_v hf hh (yv_move rfl) ?_; clear hf a; intro a hf
       refine o_v hf hh (yv_move rfl) ?_; clear hf a; intro a hf
       refine o_v hf hh (yv_move rfl) ?_; clear hf a; intro a hf
       refine guard_split hf (t := 130) rfl (fun hg36 => ?_) (fun hg36 => ?_)
       ·have hG36 := hg36; try simp only [gS] at hG36
        have hf9 := hfits (by assumption)
        refine o_v hf hh (yv_move rfl) ?_; clear hf a; intro a hf
        refine o_v hf hh (yv_not rfl) ?_; clear hf a; intro a hf
        refine o_v hf hh (y_pt rfl rfl) ?_; clear hf a; intro a hf
        refine o_v hf hh (y_pf rfl rfl) ?_; clear hf a; intro a hf
        refine o_v hf hh (yv_move rfl) ?_; clear hf a; intro a hf
        refine o_v hf hh (yv_move rfl) ?_; clear hf a; intro a hf
        refine o_v hf hh (yv_bin rfl rfl rfl) ?_; clear hf a; intro a hf
        refine o_v hf hh (y_pf rfl rfl) ?_; clear hf a; intro a hf
        refine o_v hf hh (yv_move rfl) ?_; clear hf a; intro a hf
        refine o_v hf hh (yv_move rfl) ?_; clear hf a; intro a hf
        refine o_v hf hh (yv_move rfl) ?_; clear hf a; intro a hf
        refine o_v hf hh (yv_bin rfl rfl rfl) ?_; clear hf a; intro a hf
        refine o_v hf hh (y_pf rfl rfl) ?_; clear hf a; intro a hf
        refine o_end ?_
        refine c_f hf ?_
        refine sy_skip ?_
        refine then_n ?_
        refine sy_seq ?_
        refine sy_sq ?_
        refine o_v hf hh (yv_move rfl) ?_; clear hf a; intro a hf
        refine o_v hf hh (yv_bin rfl rfl rfl) ?_; clear hf a; intro a hf
        refine o_end ?_
        refine sy_cond hf rfl (fun hg40 => ?_) (fun hg40 => ?_)
        ·have hG40 := hg40; try simp only [gS] at hG40
         refine sy_exit ?_
         refine then_e ?_
         refine blk_e ?_
         refine then_n ?_
         refine sy_ops ?_
         refine o_v hf hh (y_add rfl rfl) ?_; clear hf a; intro a hf
         refine o_v hf hh (yv_move rfl) ?_; clear hf a; intro a hf
         refine ops_end ?_
         refine then_n ?_
         exact ⟨j + 1, ⟨⟨by omega, hh.less (.cons _ (.refl _))⟩, hf.head ⟨rfl, True.intro⟩ (Keep.cons rfl (Keep.cons rfl (Keep.cons rfl (Keep.cons rfl (Keep.cons rfl (Keep.cons rfl (Keep.cons rfl (Keep.cons rfl (Keep.cons rfl (Keep.cons rfl (Keep.cons rfl (Keep.cons rfl (Keep.cons rfl (Keep.cons rfl (Keep.cons rfl (Keep.cons rfl (Keep.cons rfl (Keep.cons rfl (Keep.cons rfl (Keep.cons rfl (Keep.cons rfl (Keep.cons rfl (Keep.cons rfl (Keep.cons rfl (Keep.cons rfl (Keep.cons rfl (Keep.cons rfl (Keep.cons rfl (Keep.cons rfl (Keep.cons rfl (Keep.cons rfl (Keep.cons rfl (Keep.cons rfl (Keep.cons rfl (Keep.cons rfl (Keep.cons rfl (Keep.cons rfl (Keep.cons rfl (Keep.cons rfl (Keep.cons rfl (Keep.cons rfl (Keep.cons rfl (Keep.app rfl (Keep.rm rfl Keep.base))))))))))))))))))))))))))))))))))))))))))))⟩, by omega⟩
        ·have hG40 := hg40; try simp only [gS] at hG40
         refine sy_skip ?_
         refine then_n ?_
         refine sy_seq ?_
         have hgd : gatE d p = 0 := by omega
         have hge := hM.gat hok hgd
         obtain ⟨hc1, hc2⟩ := hM.can hok hgd
         obtain ⟨hd1, hd2⟩ := hM.sure hok hgd
         obtain ⟨ht1, ht2, ht3, ht4⟩ := joinV_lt (p := q) hVe
         refine sy_ops ?_
         refine o_v hf hh (y_lds Try.ag_31 rfl) ?_; clear hf a; intro a hf
         refine o_call hf Try.en_20 rfl rfl rfl (p20 e q sa sb ca cb _ (hAe.ext hh.ext) (hBe.ext hh.ext)) ?_; clear hf a; intro v a w hR hf
         obtain ⟨rfl, hx⟩ := hR; replace hh := hh.more hx; clear hx
         refine o_v hf hh (yv_move rfl) ?_; clear hf a; intro a hf
         refine o_v hf hh (yv_extract rfl rfl) ?_; clear hf a; intro a hf
         refine o_v hf hh (yv_extract rfl rfl) ?_; clear hf a; intro a hf
         refine o_v hf hh (yv_extract rfl rfl) ?_; clear hf a; intro a hf
         refine o_v hf hh (yv_assign rfl) ?_; clear hf a; intro a hf
         refine o_v hf hh (yv_assign rfl) ?_; clear hf a; intro a hf
         refine o_v hf hh (yv_assign rfl) ?_; clear hf a; intro a hf
         refine o_end ?_
         refine sy_sq ?_
         refine o_v hf hh (y_lds Try.ag_31 rfl) ?_; clear hf a; intro a hf
         refine o_call hf Try.en_15 rfl rfl rfl (p15 e q sa sb ca cb _ (hAe.ext hh.ext) (hBe.ext hh.ext)) ?_; clear hf a; intro v a w hR hf
         obtain ⟨rfl, hx⟩ := hR; replace hh := hh.more hx; clear hx
         refine o_v hf hh (yv_move rfl) ?_; clear hf a; intro a hf
         refine o_v hf hh (yv_extract rfl rfl) ?_; clear hf a; intro a hf
         refine o_v hf hh (yv_extract rfl rfl) ?_; clear hf a; intro a hf
         refine o_v hf hh (yv_extract rfl rfl) ?_; clear hf a; intro a hf
         refine o_v hf hh (yv_assign rfl) ?_; clear hf a; intro a hf
         refine o_v hf hh (yv_assign rfl) ?_; clear hf a; intro a hf
         refine o_v hf hh (yv_assign rfl) ?_; clear hf a; intro a hf
         refine o_end ?_
         refine sy_sq ?_
         refine o_v hf hh (yv_move rfl) ?_; clear hf a; intro a hf
         refine o_v hf hh (yv_bin rfl rfl rfl) ?_; clear hf a; intro a hf
         refine o_v hf hh (yv_move rfl) ?_; clear hf a; intro a hf
         refine o_v hf hh (yv_move rfl) ?_; clear hf a; intro a hf
         refine o_v hf hh (yv_bin rfl rfl rfl) ?_; clear hf a; intro a hf
         refine o_v hf hh (y_pf rfl rfl) ?_; clear hf a; intro a hf
         refine o_v hf hh (yv_move rfl) ?_; clear hf a; intro a hf
         refine o_v hf hh (yv_move rfl) ?_; clear hf a; intro a hf
         refine o_v hf hh (yv_move rfl) ?_; clear hf a; intro a hf
         refine o_v hf hh (yv_cast (yv_andn (.inl rfl) rfl rfl (by omega) (by simp only [IntKind.top]; omega) (by omega) (by simp only [IntKind.top]; omega)) (intv (b := 0) (by rw [Int.toNat_natCast, Int.toNat_natCast, andn_none hc1]; rfl))) ?_; clear hf a; intro a hf
         refine o_v hf hh (yv_bin rfl rfl rfl) ?_; clear hf a; intro a hf
         refine o_v hf hh (y_pf rfl rfl) ?_; clear hf a; intro a hf
         refine o_v hf hh (yv_move rfl) ?_; clear hf a; intro a hf
         refine o_v hf hh (yv_move rfl) ?_; clear hf a; intro a hf
         refine o_v hf hh (yv_move rfl) ?_; clear hf a; intro a hf
         refine o_v hf hh (yv_cast (yv_andn (.inl rfl) rfl rfl (by omega) (by simp only [IntKind.top]; omega) (by omega) (by simp only [IntKind.top]; omega)) (intv (b := 0) (by rw [Int.toNat_natCast, Int.toNat_natCast, andn_none hc2]; rfl))) ?_; clear hf a; intro a hf
         refine o_v hf hh (yv_bin rfl rfl rfl) ?_; clear hf a; intro a hf
         refine o_v hf hh (y_pf rfl rfl) ?_; clear hf a; intro a hf
         refine o_v hf hh (yv_move rfl) ?_; clear hf a; intro a hf
         refine o_v hf hh (yv_move rfl) ?_; clear hf a; intro a hf
         refine o_v hf hh (yv_move rfl) ?_; clear hf a; intro a hf
         refine o_v hf hh (yv_cast (yv_andn (.inl rfl) rfl rfl (by omega) (by simp only [IntKind.top]; omega) (by omega) (by simp only [IntKind.top]; omega)) (intv (b := 0) (by rw [Int.toNat_natCast, Int.toNat_natCast, andn_none hd1]; rfl))) ?_; clear hf a; intro a hf
         refine o_v hf hh (yv_bin rfl rfl rfl) ?_; clear hf a; intro a hf
         refine o_v hf hh (y_pf rfl rfl) ?_; clear hf a; intro a hf
         refine o_v hf hh (yv_move rfl) ?_; clear hf a; intro a hf
         refine o_v hf hh (yv_move rfl) ?_; clear hf a; intro a hf
         refine o_v hf hh (yv_move rfl) ?_; clear hf a; intro a hf
         refine o_v hf hh (yv_cast (yv_andn (.inl rfl) rfl rfl (by omega) (by simp only [IntKind.top]; omega) (by omega) (by simp only [IntKind.top]; omega)) (intv (b := 0) (by rw [Int.toNat_natCast, Int.toNat_natCast, andn_none hd2]; rfl))) ?_; clear hf a; intro a hf
         refine o_v hf hh (yv_bin rfl rfl rfl) ?_; clear hf a; intro a hf
         refine o_v hf hh (y_pf rfl rfl) ?_; clear hf a; intro a hf
         refine o_end ?_
         refine c_f hf ?_
         refine sy_skip ?_
         refine blk_n ?_
         refine then_n ?_
         refine sy_ops ?_
         refine o_v hf hh (y_add rfl rfl) ?_; clear hf a; intro a hf
         refine o_v hf hh (yv_move rfl) ?_; clear hf a; intro a hf
         refine ops_end ?_
         refine then_n ?_
         exact ⟨j + 1, ⟨⟨by omega, hh.less (.cons _ (.refl _))⟩, hf.head ⟨rfl, True.intro⟩ (Keep.cons rfl (Keep.cons rfl (Keep.cons rfl (Keep.cons rfl (Keep.cons rfl (Keep.cons rfl (Keep.cons rfl (Keep.cons rfl (Keep.cons rfl (Keep.cons rfl (Keep.cons rfl (Keep.cons rfl (Keep.cons rfl (Keep.cons rfl (Keep.cons rfl (Keep.cons rfl (Keep.cons rfl (Keep.cons rfl (Keep.cons rfl (Keep.cons rfl (Keep.cons rfl (Keep.cons rfl (Keep.cons rfl (Keep.cons rfl (Keep.cons rfl (Keep.cons rfl (Keep.cons rfl (Keep.cons rfl (Keep.cons rfl (Keep.cons rfl (Keep.cons rfl (Keep.cons rfl (Keep.cons rfl (Keep.cons rfl (Keep.cons rfl (Keep.cons rfl (Keep.cons rfl (Keep.cons rfl (Keep.cons rfl (Keep.cons rfl (Keep.cons rfl (Keep.cons rfl (Keep.cons rfl (Keep.cons rfl (Keep.cons rfl (Keep.cons rfl (Keep.cons rfl (Keep.cons rfl (Keep.cons rfl (Keep.cons rfl (Keep.cons rfl (Keep.cons rfl (Keep.cons rfl (Keep.cons rfl (Keep.cons rfl (Keep.cons rfl (Keep.cons rfl (Keep.cons rfl (Keep.cons rfl (Keep.cons rfl (Keep.cons rfl (Keep.cons rfl (Keep.cons rfl (Keep.cons rfl (Keep.cons rfl (Keep.cons rfl (Keep.cons rfl (Keep.cons rfl (Keep.cons rfl (Keep.cons rfl (Keep.cons rfl (Keep.cons rfl (Keep.cons rfl (Keep.cons rfl (Keep.cons rfl (Keep.cons rfl (Keep.cons rfl (Keep.cons rfl (Keep.cons rfl (Keep.cons rfl (Keep.cons rfl (Keep.cons rfl (Keep.cons rfl (Keep.cons rfl (Keep.cons rfl (Keep.cons rfl (Keep.cons rfl (Keep.cons rfl (Keep.cons rfl (Keep.cons rfl (Keep.app rfl (Keep.rm rfl Keep.base))))))))))))))))))))))))))))))))))))))))))))))))))))))))))))))))))))))))))))))))))))))))))))⟩, by omega⟩
       ·have hG36 := hg36; try simp only [gS] at hG36
        refine o_off hf ?_; clear hf a; intro a hf
        refine o_off hf ?_; clear hf a; intro a hf
        refine o_v hf hh (y_pf rfl rfl) ?_; clear hf a; intro a hf
        refine o_v hf hh (y_pf rfl rfl) ?_; clear hf a; intro a hf
        refine o_v hf hh (yv_move rfl) ?_; clear hf a; intro a hf
        refine o_v hf hh (yv_move rfl) ?_; clear hf a; intro a hf
        refine o_v hf hh (yv_bin rfl rfl rfl) ?_; clear hf a; intro a hf
        refine o_v hf hh (y_pf rfl rfl) ?_; clear hf a; intro a hf
        refine o_v hf hh (yv_move rfl) ?_; clear hf a; intro a hf
        refine o_v hf hh (yv_move rfl) ?_; clear hf a; intro a hf
        refine o_v hf hh (yv_move rfl) ?_; clear hf a; intro a hf
        refine o_v hf hh (yv_bin rfl rfl rfl) ?_; clear hf a; intro a hf
        refine o_v hf hh (y_pf rfl rfl) ?_; clear hf a; intro a hf
        refine o_end ?_
        refine c_f hf ?_
        refine sy_skip ?_
        refine then_n ?_
        refine sy_seq ?_
        refine sy_sq ?_
        refine o_v hf hh (yv_move rfl) ?_; clear hf a; intro a hf
        refine o_v hf hh (yv_bin rfl rfl rfl) ?_; clear hf a; intro a hf
        refine o_end ?_
        refine sy_cond hf rfl (fun hg62 => ?_) (fun hg62 => ?_)
        ·have hG62 := hg62; try simp only [gS] at hG62
         refine sy_exit ?_
         refine then_e ?_
         refine blk_e ?_
         refine then_n ?_
         refine sy_ops ?_
         refine o_v hf hh (y_add rfl rfl) ?_; clear hf a; intro a hf
         refine o_v hf hh (yv_move rfl) ?_; clear hf a; intro a hf
         refine ops_end ?_
         refine then_n ?_
         exact ⟨j + 1, ⟨⟨by omega, hh.less (.cons _ (.refl _))⟩, hf.head ⟨rfl, True.intro⟩ (Keep.cons rfl (Keep.cons rfl (Keep.cons rfl (Keep.cons rfl (Keep.cons rfl (Keep.cons rfl (Keep.cons rfl (Keep.cons rfl (Keep.cons rfl (Keep.cons rfl (Keep.cons rfl (Keep.cons rfl (Keep.cons rfl (Keep.cons rfl (Keep.cons rfl (Keep.cons rfl (Keep.cons rfl (Keep.cons rfl (Keep.cons rfl (Keep.cons rfl (Keep.cons rfl (Keep.cons rfl (Keep.cons rfl (Keep.cons rfl (Keep.cons rfl (Keep.cons rfl (Keep.cons rfl (Keep.cons rfl (Keep.cons rfl (Keep.cons rfl (Keep.cons rfl (Keep.cons rfl (Keep.cons rfl (Keep.cons rfl (Keep.cons rfl (Keep.cons rfl (Keep.cons rfl (Keep.cons rfl (Keep.cons rfl (Keep.cons rfl (Keep.cons rfl (Keep.cons rfl (Keep.app rfl (Keep.rm rfl Keep.base))))))))))))))))))))))))))))))))))))))))))))⟩, by omega⟩
        ·have hG62 := hg62; try simp only [gS] at hG62
         refine sy_skip ?_
         refine then_n ?_
         refine sy_seq ?_
         have hgd : gatE d p = 0 := by omega
         have hge := hM.gat hok hgd
         obtain ⟨hc1, hc2⟩ := hM.can hok hgd
         obtain ⟨hd1, hd2⟩ := hM.sure hok hgd
         obtain ⟨ht1, ht2, ht3, ht4⟩ := joinV_lt (p := q) hVe
         refine sy_ops ?_
         refine o_v hf hh (y_lds Try.ag_31 rfl) ?_; clear hf a; intro a hf
         refine o_call hf Try.en_20 rfl rfl rfl (p20 e q sa sb ca cb _ (hAe.ext hh.ext) (hBe.ext hh.ext)) ?_; clear hf a; intro v a w hR hf
         obtain ⟨rfl, hx⟩ := hR; replace hh := hh.more hx; clear hx
         refine o_v hf hh (yv_move rfl) ?_; clear hf a; intro a hf
         refine o_v hf hh (yv_extract rfl rfl) ?_; clear hf a; intro a hf
         refine o_v hf hh (yv_extract rfl rfl) ?_; clear hf a; intro a hf
         refine o_v hf hh (yv_extract rfl rfl) ?_; clear hf a; intro a hf
         refine o_v hf hh (yv_assign rfl) ?_; clear hf a; intro a hf
         refine o_v hf hh (yv_assign rfl) ?_; clear hf a; intro a hf
         refine o_v hf hh (yv_assign rfl) ?_; clear hf a; intro a hf
         refine o_end ?_
         refine sy_sq ?_
         refine o_v hf hh (y_lds Try.ag_31 rfl) ?_; clear hf a; intro a hf
         refine o_call hf Try.en_15 rfl rfl rfl (p15 e q sa sb ca cb _ (hAe.ext hh.ext) (hBe.ext hh.ext)) ?_; clear hf a; intro v a w hR hf
         obtain ⟨rfl, hx⟩ := hR; replace hh := hh.more hx; clear hx
         refine o_v hf hh (yv_move rfl) ?_; clear hf a; intro a hf
         refine o_v hf hh (yv_extract rfl rfl) ?_; clear hf a; intro a hf
         refine o_v hf hh (yv_extract rfl rfl) ?_; clear hf a; intro a hf
         refine o_v hf hh (yv_extract rfl rfl) ?_; clear hf a; intro a hf
         refine o_v hf hh (yv_assign rfl) ?_; clear hf a; intro a hf
         refine o_v hf hh (yv_assign rfl) ?_; clear hf a; intro a hf
         refine o_v hf hh (yv_assign rfl) ?_; clear hf a; intro a hf
         refine o_end ?_
         refine sy_sq ?_
         refine o_v hf hh (yv_move rfl) ?_; clear hf a; intro a hf
         refine o_v hf hh (yv_bin rfl rfl rfl) ?_; clear hf a; intro a hf
         refine o_v hf hh (yv_move rfl) ?_; clear hf a; intro a hf
         refine o_v hf hh (yv_move rfl) ?_; clear hf a; intro a hf
         refine o_v hf hh (yv_bin rfl rfl rfl) ?_; clear hf a; intro a hf
         refine o_v hf hh (y_pf rfl rfl) ?_; clear hf a; intro a hf
         refine o_v hf hh (yv_move rfl) ?_; clear hf a; intro a hf
         refine o_v hf hh (yv_move rfl) ?_; clear hf a; intro a hf
         refine o_v hf hh (yv_move rfl) ?_; clear hf a; intro a hf
         refine o_v hf hh (yv_cast (yv_andn (.inl rfl) rfl rfl (by omega) (by simp only [IntKind.top]; omega) (by omega) (by simp only [IntKind.top]; omega)) (intv (b := 0) (by rw [Int.toNat_natCast, Int.toNat_natCast, andn_none hc1]; rfl))) ?_; clear hf a; intro a hf
         refine o_v hf hh (yv_bin rfl rfl rfl) ?_; clear hf a; intro a hf
         refine o_v hf hh (y_pf rfl rfl) ?_; clear hf a; intro a hf
         refine o_v hf hh (yv_move rfl) ?_; clear hf a; intro a hf
         refine o_v hf hh (yv_move rfl) ?_; clear hf a; intro a hf
         refine o_v hf hh (yv_move rfl) ?_; clear hf a; intro a hf
         refine o_v hf hh (yv_cast (yv_andn (.inl rfl) rfl rfl (by omega) (by simp only [IntKind.top]; omega) (by omega) (by simp only [IntKind.top]; omega)) (intv (b := 0) (by rw [Int.toNat_natCast, Int.toNat_natCast, andn_none hc2]; rfl))) ?_; clear hf a; intro a hf
         refine o_v hf hh (yv_bin rfl rfl rfl) ?_; clear hf a; intro a hf
         refine o_v hf hh (y_pf rfl rfl) ?_; clear hf a; intro a hf
         refine o_v hf hh (yv_move rfl) ?_; clear hf a; intro a hf
         refine o_v hf hh (yv_move rfl) ?_; clear hf a; intro a hf
         refine o_v hf hh (yv_move rfl) ?_; clear hf a; intro a hf
         refine o_v hf hh (yv_cast (yv_andn (.inl rfl) rfl rfl (by omega) (by simp only [IntKind.top]; omega) (by omega) (by simp only [IntKind.top]; omega)) (intv (b := 0) (by rw [Int.toNat_natCast, Int.toNat_natCast, andn_none hd1]; rfl))) ?_; clear hf a; intro a hf
         refine o_v hf hh (yv_bin rfl rfl rfl) ?_; clear hf a; intro a hf
         refine o_v hf hh (y_pf rfl rfl) ?_; clear hf a; intro a hf
         refine o_v hf hh (yv_move rfl) ?_; clear hf a; intro a hf
         refine o_v hf hh (yv_move rfl) ?_; clear hf a; intro a hf
         refine o_v hf hh (yv_move rfl) ?_; clear hf a; intro a hf
         refine o_v hf hh (yv_cast (yv_andn (.inl rfl) rfl rfl (by omega) (by simp only [IntKind.top]; omega) (by omega) (by simp only [IntKind.top]; omega)) (intv (b := 0) (by rw [Int.toNat_natCast, Int.toNat_natCast, andn_none hd2]; rfl))) ?_; clear hf a; intro a hf
         refine o_v hf hh (yv_bin rfl rfl rfl) ?_; clear hf a; intro a hf
         refine o_v hf hh (y_pf rfl rfl) ?_; clear hf a; intro a hf
         refine o_end ?_
         refine c_f hf ?_
         refine sy_skip ?_
         refine blk_n ?_
         refine then_n ?_
         refine sy_ops ?_
         refine o_v hf hh (y_add rfl rfl) ?_; clear hf a; intro a hf
         refine o_v hf hh (yv_move rfl) ?_; clear hf a; intro a hf
         refine ops_end ?_
         refine then_n ?_
         exact ⟨j + 1, ⟨⟨by omega, hh.less (.cons _ (.refl _))⟩, hf.head ⟨rfl, True.intro⟩ (Keep.cons rfl (Keep.cons rfl (Keep.cons rfl (Keep.cons rfl (Keep.cons rfl (Keep.cons rfl (Keep.cons rfl (Keep.cons rfl (Keep.cons rfl (Keep.cons rfl (Keep.cons rfl (Keep.cons rfl (Keep.cons rfl (Keep.cons rfl (Keep.cons rfl (Keep.cons rfl (Keep.cons rfl (Keep.cons rfl (Keep.cons rfl (Keep.cons rfl (Keep.cons rfl (Keep.cons rfl (Keep.cons rfl (Keep.cons rfl (Keep.cons rfl (Keep.cons rfl (Keep.cons rfl (Keep.cons rfl (Keep.cons rfl (Keep.cons rfl (Keep.cons rfl (Keep.cons rfl (Keep.cons rfl (Keep.cons rfl (Keep.cons rfl (Keep.cons rfl (Keep.cons rfl (Keep.cons rfl (Keep.cons rfl (Keep.cons rfl (Keep.cons rfl (Keep.cons rfl (Keep.cons rfl (Keep.cons rfl (Keep.cons rfl (Keep.cons rfl (Keep.cons rfl (Keep.cons rfl (Keep.cons rfl (Keep.cons rfl (Keep.cons rfl (Keep.cons rfl (Keep.cons rfl (Keep.cons rfl (Keep.cons rfl (Keep.cons rfl (Keep.cons rfl (Keep.cons rfl (Keep.cons rfl (Keep.cons rfl (Keep.cons rfl (Keep.cons rfl (Keep.cons rfl (Keep.cons rfl (Keep.cons rfl (Keep.cons rfl (Keep.cons rfl (Keep.cons rfl (Keep.cons rfl (Keep.cons rfl (Keep.cons rfl (Keep.cons rfl (Keep.cons rfl (Keep.cons rfl (Keep.cons rfl (Keep.cons rfl (Keep.cons rfl (Keep.cons rfl (Keep.cons rfl (Keep.cons rfl (Keep.cons rfl (Keep.cons rfl (Keep.cons rfl (Keep.cons rfl (Keep.cons rfl (Keep.cons rfl (Keep.cons rfl (Keep.cons rfl (Keep.cons rfl (Keep.cons rfl (Keep.app rfl (Keep.rm rfl Keep.base))))))))))))))))))))))))))))))))))))))))))))))))))))))))))))))))))))))))))))))))))))))))))))⟩, by omega⟩
      ·have hG28 := hg28; try simp only [gS] at hG28
       refine sy_exit ?_
       refine then_e ?_
       refine then_e ?_
       refine blk_e ?_
       refine then_n ?_
       refine sy_seq ?_
       have hok0 : okCan d 0 = true := okCan_mk hV (by omega) (by omega)
       have hC00 := casesE_ok hok0
       have hcn := cases_none hV
       have hcE := countE_ok hV
       have hCl := casesC_ok hok0
       rw [hcn] at hCl
       have hle1 : casesC d 0 ≤ 1 := by rw [hCl]; split <;> simp
       have hEq : (decide (((casesC d 0 : Nat) : Int) = 1) == decide (0 < countV d)) = true := by
         rw [beq_iff_eq, decide_eq_decide, hCl]
         split <;> simp_all
       refine sy_ops ?_
       refine o_v hf hh (y_lds Try.ag_31 rfl) ?_; clear hf a; intro a hf
       refine o_call hf Try.en_12 rfl rfl rfl (p12 d 0 sa sb ca cb _ (hA.ext hh.ext) (hB.ext hh.ext)) ?_; clear hf a; intro v a w hR hf
       obtain ⟨rfl, hx⟩ := hR; replace hh := hh.more hx; clear hx
       refine o_v hf hh (yv_move rfl) ?_; clear hf a; intro a hf
       refine o_v hf hh (yv_extract rfl rfl) ?_; clear hf a; intro a hf
       refine o_v hf hh (yv_extract rfl rfl) ?_; clear hf a; intro a hf
       refine o_v hf hh (yv_assign rfl) ?_; clear hf a; intro a hf
       refine o_v hf hh (yv_assign rfl) ?_; clear hf a; intro a hf
       refine o_end ?_
       refine sy_sq ?_
       refine o_v hf hh (yv_fieldAddr Try.fo_31_0 rfl) ?_; clear hf a; intro a hf
       refine o_v hf hh (y_lds Try.ag_29 rfl) ?_; clear hf a; intro a hf
       refine o_call hf Try.en_31 rfl rfl rfl (c17 d sa sb ca cb _ (hA.ext hh.ext) (hB.ext hh.ext)) ?_; clear hf a; intro v a w hR hf
       obtain ⟨rfl, hx⟩ := hR; replace hh := hh.more hx; clear hx
       refine o_v hf hh (yv_move rfl) ?_; clear hf a; intro a hf
       refine o_v hf hh (yv_extract rfl rfl) ?_; clear hf a; intro a hf
       refine o_v hf hh (yv_extract rfl rfl) ?_; clear hf a; intro a hf
       refine o_v hf hh (yv_assign rfl) ?_; clear hf a; intro a hf
       refine o_v hf hh (yv_assign rfl) ?_; clear hf a; intro a hf
       refine o_end ?_
       refine sy_sq ?_
       refine o_v hf hh (yv_move rfl) ?_; clear hf a; intro a hf
       refine o_v hf hh (yv_bin rfl rfl rfl) ?_; clear hf a; intro a hf
       refine o_v hf hh (yv_move rfl) ?_; clear hf a; intro a hf
       refine o_v hf hh (yv_move rfl) ?_; clear hf a; intro a hf
       refine o_v hf hh (yv_bin rfl rfl rfl) ?_; clear hf a; intro a hf
       refine o_v hf hh (y_pt rfl rfl) ?_; clear hf a; intro a hf
       refine o_v hf hh (yv_move rfl) ?_; clear hf a; intro a hf
       refine o_v hf hh (yv_move rfl) ?_; clear hf a; intro a hf
       refine o_v hf hh (yv_bin rfl rfl rfl) ?_; clear hf a; intro a hf
       refine o_v hf hh (yv_move rfl) ?_; clear hf a; intro a hf
       refine o_v hf hh (yv_bin rfl rfl rfl) ?_; clear hf a; intro a hf
       refine o_v hf hh (yv_eqb Try.ub_4 rfl rfl) ?_; clear hf a; intro a hf
       refine o_v hf hh (y_pt rfl rfl) ?_; clear hf a; intro a hf
       refine o_v hf hh (yv_move rfl) ?_; clear hf a; intro a hf
       refine o_v hf hh (yv_move rfl) ?_; clear hf a; intro a hf
       refine o_v hf hh (yv_bin rfl rfl rfl) ?_; clear hf a; intro a hf
       refine o_v hf hh (y_pt rfl rfl) ?_; clear hf a; intro a hf
       refine o_v hf hh (yv_move rfl) ?_; clear hf a; intro a hf
       refine o_call hf Try.en_17 rfl rfl rfl (p17 _) ?_; clear hf a; intro v a w hR hf
       obtain ⟨rfl, hx⟩ := hR; replace hh := hh.more hx; clear hx
       refine o_v hf hh (y_pt rfl rfl) ?_; clear hf a; intro a hf
       refine o_v hf hh (yv_assign rfl) ?_; clear hf a; intro a hf
       refine o_end ?_
       refine sy_ret ?_
       refine ret_r hf rfl rfl ?_
       exact ⟨rfl, hh.ext⟩
end Go.Proofs.Ytidieepndphodaa
namespace Go.Proofs.Ytidieepndphodaa
open Go Go.Sy Go.MatM
set_option maxRecDepth 100000 in
set_option maxHeartbeats 4000000 in
theorem p21 (d : RowsD) (p : Int) (sa sb : Option Addr) (ca cb : Nat) (u : World) (hok : okCan d p = true) (l : List (Nat × Nat)) (hl : LiOk l) (x : Nat × Nat) (hask : askS d x.1 x.2 = true) (Bc Bm Bs Bo Bl Bb : Nat) (hA : MkN [Bm, Bs, Bo, Bl, Bb] u sa d.l) (hB : MkN [Bm, Bs, Bo, Bl, Bb] u sb d.r) (hc : u.heap[Bc]? = some (.cells (canV d p sa sb ca cb).cells 31 (0, 0))) (hne : Bc ∉ [Bm, Bs, Bo, Bl, Bb]) (hq : Hp u [Bm, Bs, Bo, Bl, Bb] (setB Bm Bs Bo Bl Bb l) u) :
    Calls Try.prog 21 #[.agg (ei2 x), ptr Bc 0, ptr Bm 0, ptr Bl 0, ptr Bb 0, ptr Bs 0, ptr Bo 0] u (Ret fun v w' => v = .bool true ∧ Hp u [Bm, Bs, Bo, Bl, Bb] (setB Bm Bs Bo Bl Bb (l ++ if isC d p x then [x] else [])) w') := by
  refine calls_of Try.func21 rfl rfl (fun a hf => ?_)
  have hh := hq
  obtain ⟨hV, hp0, hp3⟩ := okCan_valid hok
  have hbd := askS_bd hV hask
  have hE0 := fitsCE_0 hok hask
  have hfv : fitsCV d p x.1 x.2 = isC d p x := fitsCV_ok (x := x.1) (y := x.2) hE0
  have hx1 : x.1 < 65536 := by omega
  have hx2 : x.2 < 65536 := by omega
  have hln := hl.n
  have hse := sideS_le l
  have hjo := joinL_ok hl.lt
  have hfo := firstL_ok hl.lt
  have hjn := joinL_n l
  have q1 := pc_le x.1; have q2 := pc_le x.2
  refine sy_sq ?_
  refine o_box hf hh ?_; clear hf hh a; intro B7 a w hf hh
  refine o_v hf hh (yv_assign rfl) ?_; clear hf a; intro a hf
  refine o_end ?_
  refine sy_sq ?_
  refine o_v hf hh (y_lds Try.ag_31 rfl) ?_; clear hf a; intro a hf
  refine o_v hf hh (y_ia Try.ae_42 rfl rfl) ?_; clear hf a; intro a hf
  refine o_v hf hh (y_ld Try.sc_3 rfl) ?_; clear hf a; intro a hf
  refine o_v hf hh (y_ia Try.ae_42 rfl rfl) ?_; clear hf a; intro a hf
  refine o_v hf hh (y_ld Try.sc_3 rfl) ?_; clear hf a; intro a hf
  refine o_call hf Try.en_10 rfl rfl rfl (p10 d p sa sb ca cb _ (hA.at hh.ext fun _ h => .inl h) (hB.at hh.ext fun _ h => .inl h) x.1 x.2) ?_; clear hf a; intro v a w hR hf
  rw [hfv] at hR
  rw [hE0] at hR
  obtain ⟨rfl, hx⟩ := hR; replace hh := hh.more hx; clear hx
  refine o_v hf hh (yv_move rfl) ?_; clear hf a; intro a hf
  refine o_v hf hh (yv_extract rfl rfl) ?_; clear hf a; intro a hf
  refine o_v hf hh (yv_extract rfl rfl) ?_; clear hf a; intro a hf
  refine o_v hf hh (yv_assign rfl) ?_; clear hf a; intro a hf
  refine o_v hf hh (yv_assign rfl) ?_; clear hf a; intro a hf
  refine o_end ?_
  refine sy_seq ?_
  refine sy_sq ?_
  refine o_v hf hh (yv_move rfl) ?_; clear hf a; intro a hf
  refine o_v hf hh (yv_not rfl) ?_; clear hf a; intro a hf
  refine o_v hf hh (yv_move rfl) ?_; clear hf a; intro a hf
  refine guard_split hf (t := 25) rfl (fun hg4 => ?_) (fun hg4 => ?_)
  ·have hG4 := hg4; try simp only [gS] at hG4
   refine o_off hf ?_; clear hf a; intro a hf
   refine o_off hf ?_; clear hf a; intro a hf
   refine o_v hf hh (y_pt rfl rfl) ?_; clear hf a; intro a hf
   refine o_end ?_
   refine c_t hf ?_
   refine sy_sq ?_
   refine o_v hf hh (yv_move rfl) ?_; clear hf a; intro a hf
   refine o_v hf hh (yv_bin rfl rfl rfl) ?_; clear hf a; intro a hf
   refine o_v hf hh (yv_assign rfl) ?_; clear hf a; intro a hf
   refine o_end ?_
   refine sy_ret ?_
   refine then_r ?_
   refine ret_r hf rfl rfl ?_
   rw [if_neg (by simp_all), List.append_nil]
   exact ⟨rfl, hh.less (.cons _ (.refl _))⟩
  ·have hG4 := hg4; try simp only [gS] at hG4
   refine o_v hf hh (yv_move rfl) ?_; clear hf a; intro a hf
   refine o_v hf hh (yv_bin rfl rfl rfl) ?_; clear hf a; intro a hf
   refine o_v hf hh (y_pf rfl rfl) ?_; clear hf a; intro a hf
   refine o_end ?_
   refine c_f hf ?_
   refine sy_skip ?_
   refine then_n ?_
   refine sy_cut (σ := (Nat × Nat) × (Nat × Nat)) [31, 32, 33, 34] (fun q => []) (fun q => fun w' => q.1 = (if l.length = 0 then x else (joinL l).a) ∧ q.2 = (if l.length = 0 then x else (firstL l).b) ∧ Hp u [Bm, Bs, Bo, Bl, Bb] [(B7, .cells (ei2 x) 42), (Bm, .cells #[.int .i64 ((l.length : Nat) : Int)] 3), (Bs, .cells #[.int .i64 ((sideS l : Nat) : Int)] 3), (Bo, .cells (ei2 (joinL l).o) 42), (Bl, .cells (ei2 q.1) 42), (Bb, .cells (ei2 q.2) 42)] w') hf ?_ ?_
   ·refine sy_seq ?_
    replace hh : Hp u [Bm, Bs, Bo, Bl, Bb] [(B7, .cells (ei2 x) 42), (Bm, .cells #[.int .i64 ((l.length : Nat) : Int)] 3), (Bs, .cells #[.int .i64 ((sideS l : Nat) : Int)] 3), (Bo, .cells (ei2 (joinL l).o) 42), (Bl, .cells (ei2 (joinL l).a) 42), (Bb, .cells (ei2 (firstL l).b) 42)] w := hh
    refine sy_ops ?_
    refine o_v hf hh (y_ld Try.sc_3 rfl) ?_; clear hf a; intro a hf
    refine o_v hf hh (yv_bin rfl rfl rfl) ?_; clear hf a; intro a hf
    refine o_end ?_
    refine sy_cond hf rfl (fun hg8 => ?_) (fun hg8 => ?_)
    ·have hG8 := hg8; try simp only [gS] at hG8
     refine sy_treeC (.q 0 0 (.q 0 1 (.e1 2 (.e1 3 (.fin))))) [[]] [(AtE u [Bm, Bs, Bo, Bl, Bb] [(B7, .cells (ei2 x) 42)], [])] Try.follows (by kernel_rfl) rfl hh (fun w hh => ?_)
     refine mc_q rfl rfl (AtE.mk1 hh.ext (hh.at (i := 0) rfl)) hf (y_lds Try.ag_42 rfl) (.inl rfl) rfl rfl ?_; clear hf a; intro a hf
     refine mc_q rfl rfl (AtE.mk1 hh.ext (hh.at (i := 0) rfl)) hf (y_lds Try.ag_42 rfl) (.inl rfl) rfl rfl ?_; clear hf a; intro a hf
     refine mc_e rfl fun Q1 => ?_
     refine o_store hf hh Try.sz_42 fun w hh => ?_
     refine ops_end ?_
     refine then_n ⟨⟨fun _ _ => (AtE.mk1 hh.ext (hh.at (i := 0) rfl)), trivial⟩, ?_⟩
     refine mc_e rfl fun Q1 => ?_
     refine o_store hf hh Try.sz_42 fun w hh => ?_
     refine ops_end ?_
     refine then_n ⟨⟨fun _ _ => (AtE.mk1 hh.ext (hh.at (i := 0) rfl)), trivial⟩, ?_⟩
     refine mc_end ?_
     refine then_n ?_
     first
       | exact ⟨(x, x), ⟨(if_pos (by omega)).symm, (if_pos (by omega)).symm, hh⟩, hf.head True.intro (Keep.cons rfl (Keep.cons rfl (Keep.cons rfl (Keep.cons rfl (Keep.base)))))⟩
       | exact ⟨((joinL l).a, (firstL l).b), ⟨(if_neg (by omega)).symm, (if_neg (by omega)).symm, hh⟩, hf.head True.intro (Keep.cons rfl (Keep.cons rfl (Keep.cons rfl (Keep.cons rfl (Keep.base)))))⟩
    ·have hG8 := hg8; try simp only [gS] at hG8
     refine sy_skip ?_
     refine then_n ?_
     first
       | exact ⟨(x, x), ⟨(if_pos (by omega)).symm, (if_pos (by omega)).symm, hh⟩, hf.head True.intro (Keep.cons rfl (Keep.cons rfl (Keep.base)))⟩
       | exact ⟨((joinL l).a, (firstL l).b), ⟨(if_neg (by omega)).symm, (if_neg (by omega)).symm, hh⟩, hf.head True.intro (Keep.cons rfl (Keep.cons rfl (Keep.base)))⟩
   ·rintro q a w ⟨hqa, hqb, hh⟩ hf
    obtain ⟨aa, bb⟩ := q
    simp only at hqa hqb hh hf
    have his : isC d p x = true := by assumption
    have hone : oneB x = true := by
      unfold isC at his
      rw [Bool.and_eq_true] at his
      exact his.1
    rw [if_pos his, setB_snoc]
    have hbb : bb.1 < 65536 ∧ bb.2 < 65536 := by
      rw [hqb]; split
      · exact ⟨hx1, hx2⟩
      · exact hfo
    obtain ⟨hbb1, hbb2⟩ := hbb
    have q3 := pc_le bb.1; have q4 := pc_le bb.2
    obtain ⟨hyes, hno⟩ := add_b hl hone hx1 hx2 hqb
    refine sy_sq ?_
    refine o_v hf hh (y_ld Try.sc_3 rfl) ?_; clear hf a; intro a hf
    refine ops_v hf hh (yv_cast (yv_add rfl rfl (by omega) (by omega)) (intv (b := ((l.length + 1 : Nat) : Int)) (by omega))) (.inl rfl) rfl rfl rfl ?_; clear hf a; intro a hf
    refine o_store hf hh Try.sz_3 fun w hh => ?_
    refine o_end ?_
    refine sy_seq ?_
    refine sy_quiet (C := Hp _ _ _) Try.follows (by kernel_rfl) (hh.drawn _) ?_
    refine oq_v hf (y_ia Try.ae_42 rfl rfl) ?_; clear hf a; intro a hf
    refine oq_v hf (y_ld Try.sc_3 rfl) ?_; clear hf a; intro a hf
    refine oq_call hf Try.en_22 rfl rfl rfl (fun w hh => p22 bb.1 (by omega) _) ?_; clear hf a; intro a hf
    refine oq_v hf (y_ia Try.ae_42 rfl rfl) ?_; clear hf a; intro a hf
    refine oq_v hf (y_ld Try.sc_3 rfl) ?_; clear hf a; intro a hf
    refine oq_call hf Try.en_22 rfl rfl rfl (fun w hh => p22 bb.2 (by omega) _) ?_; clear hf a; intro a hf
    refine oq_v hf (y_add rfl rfl) ?_; clear hf a; intro a hf
    refine oq_v hf (y_ia Try.ae_42 rfl rfl) ?_; clear hf a; intro a hf
    refine oq_v hf (y_ld Try.sc_3 rfl) ?_; clear hf a; intro a hf
    refine oq_call hf Try.en_22 rfl rfl rfl (fun w hh => p22 x.1 (by omega) _) ?_; clear hf a; intro a hf
    refine oq_v hf (y_ia Try.ae_42 rfl rfl) ?_; clear hf a; intro a hf
    refine oq_v hf (y_ld Try.sc_3 rfl) ?_; clear hf a; intro a hf
    refine oq_call hf Try.en_22 rfl rfl rfl (fun w hh => p22 x.2 (by omega) _) ?_; clear hf a; intro a hf
    refine oq_v hf (y_add rfl rfl) ?_; clear hf a; intro a hf
    refine oq_v hf (yv_assign rfl) ?_; clear hf a; intro a hf
    refine oq_v hf (yv_assign rfl) ?_; clear hf a; intro a hf
    refine q_end fun w hh => ?_
    refine then_n ?_
    refine sy_cut (σ := Nat × Nat) [51, 52, 53, 54, 55, 56, 57, 58, 59, 60, 61, 62, 63, 64, 65, 66, 67, 68, 69, 70, 71, 72, 73, 74, 75, 76, 77, 78, 79, 80, 81, 82, 83, 84, 85, 86, 87, 88, 89, 90, 91, 92, 93, 94, 95, 96, 97, 98, 99, 100, 101, 102, 103] (fun bn => []) (fun bn => fun w' => bn = ((firstL l).add x).b ∧ Hp u [Bm, Bs, Bo, Bl, Bb] [(B7, .cells (ei2 x) 42), (Bm, .cells #[.int .i64 ((l.length + 1 : Nat) : Int)] 3), (Bs, .cells #[.int .i64 ((sideS l : Nat) : Int)] 3), (Bo, .cells (ei2 (joinL l).o) 42), (Bl, .cells (ei2 aa) 42), (Bb, .cells (ei2 bn) 42)] w') hf ?_ ?_
    ·refine sy_sq ?_
     refine o_v hf hh (yv_move rfl) ?_; clear hf a; intro a hf
     refine o_v hf hh (yv_move rfl) ?_; clear hf a; intro a hf
     refine o_v hf hh (yv_bin rfl rfl rfl) ?_; clear hf a; intro a hf
     refine o_v hf hh (yv_move rfl) ?_; clear hf a; intro a hf
     refine guard_split hf (t := 54) rfl (fun hg15 => ?_) (fun hg15 => ?_)
     ·have hG15 := hg15; try simp only [gS] at hG15
      refine o_off hf ?_; clear hf a; intro a hf
      refine o_off hf ?_; clear hf a; intro a hf
      refine o_off hf ?_; clear hf a; intro a hf
      refine o_off hf ?_; clear hf a; intro a hf
      refine o_off hf ?_; clear hf a; intro a hf
      refine o_off hf ?_; clear hf a; intro a hf
      refine o_off hf ?_; clear hf a; intro a hf
      refine o_off hf ?_; clear hf a; intro a hf
      refine o_off hf ?_; clear hf a; intro a hf
      refine o_off hf ?_; clear hf a; intro a hf
      refine o_off hf ?_; clear hf a; intro a hf
      refine o_off hf ?_; clear hf a; intro a hf
      refine o_off hf ?_; clear hf a; intro a hf
      refine o_off hf ?_; clear hf a; intro a hf
      refine o_off hf ?_; clear hf a; intro a hf
      refine o_off hf ?_; clear hf a; intro a hf
      refine o_off hf ?_; clear hf a; intro a hf
      refine o_off hf ?_; clear hf a; intro a hf
      refine o_off hf ?_; clear hf a; intro a hf
      refine o_off hf ?_; clear hf a; intro a hf
      refine o_off hf ?_; clear hf a; intro a hf
      refine o_off hf ?_; clear hf a; intro a hf
      refine o_off hf ?_; clear hf a; intro a hf
      refine o_off hf ?_; clear hf a; intro a hf
      refine o_off hf ?_; clear hf a; intro a hf
      refine o_off hf ?_; clear hf a; intro a hf
      refine o_off hf ?_; clear hf a; intro a hf
      refine o_off hf ?_; clear hf a; intro a hf
      refine o_off hf ?_; clear hf a; intro a hf
      refine o_off hf ?_; clear hf a; intro a hf
      refine o_off hf ?_; clear hf a; intro a hf
      refine o_off hf ?_; clear hf a; intro a hf
      refine o_off hf ?_; clear hf a; intro a hf
      refine o_off hf ?_; clear hf a; intro a hf
      refine o_off hf ?_; clear hf a; intro a hf
      refine o_off hf ?_; clear hf a; intro a hf
      refine o_off hf ?_; clear hf a; intro a hf
      refine o_off hf ?_; clear hf a; intro a hf
      refine o_off hf ?_; clear hf a; intro a hf
      refine o_off hf ?_; clear hf a; intro a hf
      refine o_off hf ?_; clear hf a; intro a hf
      refine o_off hf ?_; clear hf a; intro a hf
      refine o_off hf ?_; clear hf a; intro a hf
      refine o_off hf ?_; clear hf a; intro a hf
      refine o_off hf ?_; clear hf a; intro a hf
      refine o_off hf ?_; clear hf a; intro a hf
      refine o_off hf ?_; clear hf a; intro a hf
      refine o_v hf hh (y_pt rfl rfl) ?_; clear hf a; intro a hf
      refine o_end ?_
      refine c_t hf ?_
      refine sy_ops ?_
      refine o_v hf hh (y_lds Try.ag_42 rfl) ?_; clear hf a; intro a hf
      refine o_store hf hh Try.sz_42 fun w hh => ?_
      refine ops_end ?_
      refine then_n ?_
      first
        | (have hp9 : lawP x bb := by unfold lawP; omega
           exact ⟨x, ⟨hyes hp9, hh⟩, hf.head True.intro (Keep.cons rfl (Keep.cons rfl (Keep.cons rfl (Keep.cons rfl (Keep.cons rfl (Keep.cons rfl (Keep.cons rfl (Keep.cons rfl (Keep.cons rfl (Keep.cons rfl (Keep.cons rfl (Keep.cons rfl (Keep.cons rfl (Keep.cons rfl (Keep.cons rfl (Keep.cons rfl (Keep.cons rfl (Keep.cons rfl (Keep.cons rfl (Keep.cons rfl (Keep.cons rfl (Keep.cons rfl (Keep.cons rfl (Keep.cons rfl (Keep.cons rfl (Keep.cons rfl (Keep.cons rfl (Keep.cons rfl (Keep.cons rfl (Keep.cons rfl (Keep.cons rfl (Keep.cons rfl (Keep.cons rfl (Keep.cons rfl (Keep.cons rfl (Keep.cons rfl (Keep.cons rfl (Keep.cons rfl (Keep.cons rfl (Keep.cons rfl (Keep.cons rfl (Keep.cons rfl (Keep.cons rfl (Keep.cons rfl (Keep.cons rfl (Keep.cons rfl (Keep.cons rfl (Keep.cons rfl (Keep.cons rfl (Keep.cons rfl (Keep.cons rfl (Keep.cons rfl (Keep.cons rfl (Keep.base))))))))))))))))))))))))))))))))))))))))))))))))))))))⟩)
        | (have hp9 : ¬ lawP x bb := by unfold lawP; omega
           exact ⟨bb, ⟨hno hp9, hh⟩, hf.head True.intro (Keep.cons rfl (Keep.cons rfl (Keep.cons rfl (Keep.cons rfl (Keep.cons rfl (Keep.cons rfl (Keep.cons rfl (Keep.cons rfl (Keep.cons rfl (Keep.cons rfl (Keep.cons rfl (Keep.cons rfl (Keep.cons rfl (Keep.cons rfl (Keep.cons rfl (Keep.cons rfl (Keep.cons rfl (Keep.cons rfl (Keep.cons rfl (Keep.cons rfl (Keep.cons rfl (Keep.cons rfl (Keep.cons rfl (Keep.cons rfl (Keep.cons rfl (Keep.cons rfl (Keep.cons rfl (Keep.cons rfl (Keep.cons rfl (Keep.cons rfl (Keep.cons rfl (Keep.cons rfl (Keep.cons rfl (Keep.cons rfl (Keep.cons rfl (Keep.cons rfl (Keep.cons rfl (Keep.cons rfl (Keep.cons rfl (Keep.cons rfl (Keep.cons rfl (Keep.cons rfl (Keep.cons rfl (Keep.cons rfl (Keep.cons rfl (Keep.cons rfl (Keep.cons rfl (Keep.cons rfl (Keep.cons rfl (Keep.cons rfl (Keep.cons rfl (Keep.cons rfl (Keep.cons rfl (Keep.base))))))))))))))))))))))))))))))))))))))))))))))))))))))⟩)
     ·have hG15 := hg15; try simp only [gS] at hG15
      refine o_v hf hh (yv_move rfl) ?_; clear hf a; intro a hf
      refine o_v hf hh (yv_move rfl) ?_; clear hf a; intro a hf
      refine o_v hf hh (yv_bin rfl rfl rfl) ?_; clear hf a; intro a hf
      refine o_v hf hh (yv_move rfl) ?_; clear hf a; intro a hf
      refine guard_split hf (t := 58) rfl (fun hg17 => ?_) (fun hg17 => ?_)
      ·have hG17 := hg17; try simp only [gS] at hG17
       refine o_v hf hh (y_ia Try.ae_42 rfl rfl) ?_; clear hf a; intro a hf
       refine o_v hf hh (y_ld Try.sc_3 rfl) ?_; clear hf a; intro a hf
       refine o_v hf hh (yv_bin rfl rfl rfl) ?_; clear hf a; intro a hf
       refine o_v hf hh (yv_move rfl) ?_; clear hf a; intro a hf
       refine guard_split hf (t := 62) rfl (fun hg19 => ?_) (fun hg19 => ?_)
       ·have hG19 := hg19; try simp only [gS] at hG19
        refine o_v hf hh (y_ia Try.ae_42 rfl rfl) ?_; clear hf a; intro a hf
        refine o_v hf hh (y_ld Try.sc_3 rfl) ?_; clear hf a; intro a hf
        refine o_v hf hh (yv_bin rfl rfl rfl) ?_; clear hf a; intro a hf
        refine o_v hf hh (y_pt rfl rfl) ?_; clear hf a; intro a hf
        refine o_v hf hh (yv_move rfl) ?_; clear hf a; intro a hf
        refine guard_split hf (t := 67) rfl (fun hg21 => ?_) (fun hg21 => ?_)
        ·have hG21 := hg21; try simp only [gS] at hG21
         refine o_off hf ?_; clear hf a; intro a hf
         refine o_off hf ?_; clear hf a; intro a hf
         refine o_off hf ?_; clear hf a; intro a hf
         refine o_off hf ?_; clear hf a; intro a hf
         refine o_off hf ?_; clear hf a; intro a hf
         refine o_off hf ?_; clear hf a; intro a hf
         refine o_off hf ?_; clear hf a; intro a hf
         refine o_off hf ?_; clear hf a; intro a hf
         refine o_off hf ?_; clear hf a; intro a hf
         refine o_off hf ?_; clear hf a; intro a hf
         refine o_off hf ?_; clear hf a; intro a hf
         refine o_off hf ?_; clear hf a; intro a hf
         refine o_off hf ?_; clear hf a; intro a hf
         refine o_off hf ?_; clear hf a; intro a hf
         refine o_off hf ?_; clear hf a; intro a hf
         refine o_v hf hh (y_pt rfl rfl) ?_; clear hf a; intro a hf
         refine o_v hf hh (yv_move rfl) ?_; clear hf a; intro a hf
         refine o_off hf ?_; clear hf a; intro a hf
         refine o_off hf ?_; clear hf a; intro a hf
         refine o_off hf ?_; clear hf a; intro a hf
         refine o_off hf ?_; clear hf a; intro a hf
         refine o_off hf ?_; clear hf a; intro a hf
         refine o_off hf ?_; clear hf a; intro a hf
         refine o_off hf ?_; clear hf a; intro a hf
         refine o_off hf ?_; clear hf a; intro a hf
         refine o_off hf ?_; clear hf a; intro a hf
         refine o_off hf ?_; clear hf a; intro a hf
         refine o_off hf ?_; clear hf a; intro a hf
         refine o_off hf ?_; clear hf a; intro a hf
         refine o_off hf ?_; clear hf a; intro a hf
         refine o_off hf ?_; clear hf a; intro a hf
         refine o_off hf ?_; clear hf a; intro a hf
         refine o_v hf hh (y_pt rfl rfl) ?_; clear hf a; intro a hf
         refine o_v hf hh (y_pt rfl rfl) ?_; clear hf a; intro a hf
         refine o_v hf hh (y_pf rfl rfl) ?_; clear hf a; intro a hf
         refine o_end ?_
         refine c_t hf ?_
         refine sy_ops ?_
         refine o_v hf hh (y_lds Try.ag_42 rfl) ?_; clear hf a; intro a hf
         refine o_store hf hh Try.sz_42 fun w hh => ?_
         refine ops_end ?_
         refine then_n ?_
         first
           | (have hp9 : lawP x bb := by unfold lawP; omega
              exact ⟨x, ⟨hyes hp9, hh⟩, hf.head True.intro (Keep.cons rfl (Keep.cons rfl (Keep.cons rfl (Keep.cons rfl (Keep.cons rfl (Keep.cons rfl (Keep.cons rfl (Keep.cons rfl (Keep.cons rfl (Keep.cons rfl (Keep.cons rfl (Keep.cons rfl (Keep.cons rfl (Keep.cons rfl (Keep.cons rfl (Keep.cons rfl (Keep.cons rfl (Keep.cons rfl (Keep.cons rfl (Keep.cons rfl (Keep.cons rfl (Keep.cons rfl (Keep.cons rfl (Keep.cons rfl (Keep.cons rfl (Keep.cons rfl (Keep.cons rfl (Keep.cons rfl (Keep.cons rfl (Keep.cons rfl (Keep.cons rfl (Keep.cons rfl (Keep.cons rfl (Keep.cons rfl (Keep.cons rfl (Keep.cons rfl (Keep.cons rfl (Keep.cons rfl (Keep.cons rfl (Keep.cons rfl (Keep.cons rfl (Keep.cons rfl (Keep.cons rfl (Keep.cons rfl (Keep.cons rfl (Keep.cons rfl (Keep.cons rfl (Keep.cons rfl (Keep.cons rfl (Keep.cons rfl (Keep.cons rfl (Keep.cons rfl (Keep.cons rfl (Keep.base))))))))))))))))))))))))))))))))))))))))))))))))))))))⟩)
           | (have hp9 : ¬ lawP x bb := by unfold lawP; omega
              exact ⟨bb, ⟨hno hp9, hh⟩, hf.head True.intro (Keep.cons rfl (Keep.cons rfl (Keep.cons rfl (Keep.cons rfl (Keep.cons rfl (Keep.cons rfl (Keep.cons rfl (Keep.cons rfl (Keep.cons rfl (Keep.cons rfl (Keep.cons rfl (Keep.cons rfl (Keep.cons rfl (Keep.cons rfl (Keep.cons rfl (Keep.cons rfl (Keep.cons rfl (Keep.cons rfl (Keep.cons rfl (Keep.cons rfl (Keep.cons rfl (Keep.cons rfl (Keep.cons rfl (Keep.cons rfl (Keep.cons rfl (Keep.cons rfl (Keep.cons rfl (Keep.cons rfl (Keep.cons rfl (Keep.cons rfl (Keep.cons rfl (Keep.cons rfl (Keep.cons rfl (Keep.cons rfl (Keep.cons rfl (Keep.cons rfl (Keep.cons rfl (Keep.cons rfl (Keep.cons rfl (Keep.cons rfl (Keep.cons rfl (Keep.cons rfl (Keep.cons rfl (Keep.cons rfl (Keep.cons rfl (Keep.cons rfl (Keep.cons rfl (Keep.cons rfl (Keep.cons rfl (Keep.cons rfl (Keep.cons rfl (Keep.cons rfl (Keep.cons rfl (Keep.base))))))))))))))))))))))))))))))))))))))))))))))))))))))⟩)
        ·have hG21 := hg21; try simp only [gS] at hG21
         refine o_v hf hh (y_ia Try.ae_42 rfl rfl) ?_; clear hf a; intro a hf
         refine o_v hf hh (y_ld Try.sc_3 rfl) ?_; clear hf a; intro a hf
         refine o_v hf hh (yv_bin rfl rfl rfl) ?_; clear hf a; intro a hf
         refine o_v hf hh (yv_move rfl) ?_; clear hf a; intro a hf
         refine guard_split hf (t := 71) rfl (fun hg23 => ?_) (fun hg23 => ?_)
         ·have hG23 := hg23; try simp only [gS] at hG23
          refine o_v hf hh (y_ia Try.ae_42 rfl rfl) ?_; clear hf a; intro a hf
          refine o_v hf hh (y_ld Try.sc_3 rfl) ?_; clear hf a; intro a hf
          refine o_v hf hh (yv_bin rfl rfl rfl) ?_; clear hf a; intro a hf
          refine o_v hf hh (y_pt rfl rfl) ?_; clear hf a; intro a hf
          refine o_v hf hh (yv_move rfl) ?_; clear hf a; intro a hf
          refine guard_split hf (t := 76) rfl (fun hg25 => ?_) (fun hg25 => ?_)
          ·have hG25 := hg25; try simp only [gS] at hG25
           refine o_v hf hh (y_ia Try.ae_42 rfl rfl) ?_; clear hf a; intro a hf
           refine o_v hf hh (y_ld Try.sc_3 rfl) ?_; clear hf a; intro a hf
           refine o_v hf hh (y_ia Try.ae_42 rfl rfl) ?_; clear hf a; intro a hf
           refine o_v hf hh (y_ld Try.sc_3 rfl) ?_; clear hf a; intro a hf
           refine o_v hf hh (yv_bin rfl rfl rfl) ?_; clear hf a; intro a hf
           refine o_v hf hh (y_pt rfl rfl) ?_; clear hf a; intro a hf
           refine o_v hf hh (y_pf rfl rfl) ?_; clear hf a; intro a hf
           refine o_v hf hh (yv_move rfl) ?_; clear hf a; intro a hf
           refine guard_split hf (t := 84) rfl (fun hg27 => ?_) (fun hg27 => ?_)
           ·have hG27 := hg27; try simp only [gS] at hG27
            refine o_off hf ?_; clear hf a; intro a hf
            refine o_off hf ?_; clear hf a; intro a hf
            refine o_off hf ?_; clear hf a; intro a hf
            refine o_off hf ?_; clear hf a; intro a hf
            refine o_off hf ?_; clear hf a; intro a hf
            refine o_off hf ?_; clear hf a; intro a hf
            refine o_off hf ?_; clear hf a; intro a hf
            refine o_off hf ?_; clear hf a; intro a hf
            refine o_off hf ?_; clear hf a; intro a hf
            refine o_off hf ?_; clear hf a; intro a hf
            refine o_off hf ?_; clear hf a; intro a hf
            refine o_off hf ?_; clear hf a; intro a hf
            refine o_off hf ?_; clear hf a; intro a hf
            refine o_off hf ?_; clear hf a; intro a hf
            refine o_off hf ?_; clear hf a; intro a hf
            refine o_v hf hh (y_pt rfl rfl) ?_; clear hf a; intro a hf
            refine o_v hf hh (y_pt rfl rfl) ?_; clear hf a; intro a hf
            refine o_v hf hh (y_pf rfl rfl) ?_; clear hf a; intro a hf
            refine o_end ?_
            refine c_t hf ?_
            refine sy_ops ?_
            refine o_v hf hh (y_lds Try.ag_42 rfl) ?_; clear hf a; intro a hf
            refine o_store hf hh Try.sz_42 fun w hh => ?_
            refine ops_end ?_
            refine then_n ?_
            first
              | (have hp9 : lawP x bb := by unfold lawP; omega
                 exact ⟨x, ⟨hyes hp9, hh⟩, hf.head True.intro (Keep.cons rfl (Keep.cons rfl (Keep.cons rfl (Keep.cons rfl (Keep.cons rfl (Keep.cons rfl (Keep.cons rfl (Keep.cons rfl (Keep.cons rfl (Keep.cons rfl (Keep.cons rfl (Keep.cons rfl (Keep.cons rfl (Keep.cons rfl (Keep.cons rfl (Keep.cons rfl (Keep.cons rfl (Keep.cons rfl (Keep.cons rfl (Keep.cons rfl (Keep.cons rfl (Keep.cons rfl (Keep.cons rfl (Keep.cons rfl (Keep.cons rfl (Keep.cons rfl (Keep.cons rfl (Keep.cons rfl (Keep.cons rfl (Keep.cons rfl (Keep.cons rfl (Keep.cons rfl (Keep.cons rfl (Keep.cons rfl (Keep.cons rfl (Keep.cons rfl (Keep.cons rfl (Keep.cons rfl (Keep.cons rfl (Keep.cons rfl (Keep.cons rfl (Keep.cons rfl (Keep.cons rfl (Keep.cons rfl (Keep.cons rfl (Keep.cons rfl (Keep.cons rfl (Keep.cons rfl (Keep.cons rfl (Keep.cons rfl (Keep.cons rfl (Keep.cons rfl (Keep.cons rfl (Keep.base))))))))))))))))))))))))))))))))))))))))))))))))))))))⟩)
              | (have hp9 : ¬ lawP x bb := by unfold lawP; omega
                 exact ⟨bb, ⟨hno hp9, hh⟩, hf.head True.intro (Keep.cons rfl (Keep.cons rfl (Keep.cons rfl (Keep.cons rfl (Keep.cons rfl (Keep.cons rfl (Keep.cons rfl (Keep.cons rfl (Keep.cons rfl (Keep.cons rfl (Keep.cons rfl (Keep.cons rfl (Keep.cons rfl (Keep.cons rfl (Keep.cons rfl (Keep.cons rfl (Keep.cons rfl (Keep.cons rfl (Keep.cons rfl (Keep.cons rfl (Keep.cons rfl (Keep.cons rfl (Keep.cons rfl (Keep.cons rfl (Keep.cons rfl (Keep.cons rfl (Keep.cons rfl (Keep.cons rfl (Keep.cons rfl (Keep.cons rfl (Keep.cons rfl (Keep.cons rfl (Keep.cons rfl (Keep.cons rfl (Keep.cons rfl (Keep.cons rfl (Keep.cons rfl (Keep.cons rfl (Keep.cons rfl (Keep.cons rfl (Keep.cons rfl (Keep.cons rfl (Keep.cons rfl (Keep.cons rfl (Keep.cons rfl (Keep.cons rfl (Keep.cons rfl (Keep.cons rfl (Keep.cons rfl (Keep.cons rfl (Keep.cons rfl (Keep.cons rfl (Keep.cons rfl (Keep.base))))))))))))))))))))))))))))))))))))))))))))))))))))))⟩)
           ·have hG27 := hg27; try simp only [gS] at hG27
            refine o_v hf hh (y_ia Try.ae_42 rfl rfl) ?_; clear hf a; intro a hf
            refine o_v hf hh (y_ld Try.sc_3 rfl) ?_; clear hf a; intro a hf
            refine o_v hf hh (yv_bin rfl rfl rfl) ?_; clear hf a; intro a hf
            refine o_v hf hh (yv_move rfl) ?_; clear hf a; intro a hf
            refine guard_split hf (t := 88) rfl (fun hg29 => ?_) (fun hg29 => ?_)
            ·have hG29 := hg29; try simp only [gS] at hG29
             refine o_v hf hh (y_ia Try.ae_42 rfl rfl) ?_; clear hf a; intro a hf
             refine o_v hf hh (y_ld Try.sc_3 rfl) ?_; clear hf a; intro a hf
             refine o_v hf hh (yv_bin rfl rfl rfl) ?_; clear hf a; intro a hf
             refine o_v hf hh (y_pt rfl rfl) ?_; clear hf a; intro a hf
             refine o_v hf hh (yv_move rfl) ?_; clear hf a; intro a hf
             refine guard_split hf (t := 93) rfl (fun hg31 => ?_) (fun hg31 => ?_)
             ·have hG31 := hg31; try simp only [gS] at hG31
              refine o_v hf hh (y_ia Try.ae_42 rfl rfl) ?_; clear hf a; intro a hf
              refine o_v hf hh (y_ld Try.sc_3 rfl) ?_; clear hf a; intro a hf
              refine o_v hf hh (y_ia Try.ae_42 rfl rfl) ?_; clear hf a; intro a hf
              refine o_v hf hh (y_ld Try.sc_3 rfl) ?_; clear hf a; intro a hf
              refine o_v hf hh (yv_bin rfl rfl rfl) ?_; clear hf a; intro a hf
              refine o_v hf hh (y_pt rfl rfl) ?_; clear hf a; intro a hf
              refine o_v hf hh (y_pf rfl rfl) ?_; clear hf a; intro a hf
              refine o_v hf hh (y_pt rfl rfl) ?_; clear hf a; intro a hf
              refine o_v hf hh (y_pf rfl rfl) ?_; clear hf a; intro a hf
              refine o_end ?_
              refine sy_cond hf rfl (fun hg33 => ?_) (fun hg33 => ?_)
              ·have hG33 := hg33; try simp only [gS] at hG33
               refine sy_ops ?_
               refine o_v hf hh (y_lds Try.ag_42 rfl) ?_; clear hf a; intro a hf
               refine o_store hf hh Try.sz_42 fun w hh => ?_
               refine ops_end ?_
               refine then_n ?_
               first
                 | (have hp9 : lawP x bb := by unfold lawP; omega
                    exact ⟨x, ⟨hyes hp9, hh⟩, hf.head True.intro (Keep.cons rfl (Keep.cons rfl (Keep.cons rfl (Keep.cons rfl (Keep.cons rfl (Keep.cons rfl (Keep.cons rfl (Keep.cons rfl (Keep.cons rfl (Keep.cons rfl (Keep.cons rfl (Keep.cons rfl (Keep.cons rfl (Keep.cons rfl (Keep.cons rfl (Keep.cons rfl (Keep.cons rfl (Keep.cons rfl (Keep.cons rfl (Keep.cons rfl (Keep.cons rfl (Keep.cons rfl (Keep.cons rfl (Keep.cons rfl (Keep.cons rfl (Keep.cons rfl (Keep.cons rfl (Keep.cons rfl (Keep.cons rfl (Keep.cons rfl (Keep.cons rfl (Keep.cons rfl (Keep.cons rfl (Keep.cons rfl (Keep.cons rfl (Keep.cons rfl (Keep.cons rfl (Keep.cons rfl (Keep.cons rfl (Keep.cons rfl (Keep.cons rfl (Keep.cons rfl (Keep.cons rfl (Keep.cons rfl (Keep.cons rfl (Keep.cons rfl (Keep.cons rfl (Keep.cons rfl (Keep.cons rfl (Keep.cons rfl (Keep.cons rfl (Keep.cons rfl (Keep.cons rfl (Keep.base))))))))))))))))))))))))))))))))))))))))))))))))))))))⟩)
                 | (have hp9 : ¬ lawP x bb := by unfold lawP; omega
                    exact ⟨bb, ⟨hno hp9, hh⟩, hf.head True.intro (Keep.cons rfl (Keep.cons rfl (Keep.cons rfl (Keep.cons rfl (Keep.cons rfl (Keep.cons rfl (Keep.cons rfl (Keep.cons rfl (Keep.cons rfl (Keep.cons rfl (Keep.cons rfl (Keep.cons rfl (Keep.cons rfl (Keep.cons rfl (Keep.cons rfl (Keep.cons rfl (Keep.cons rfl (Keep.cons rfl (Keep.cons rfl (Keep.cons rfl (Keep.cons rfl (Keep.cons rfl (Keep.cons rfl (Keep.cons rfl (Keep.cons rfl (Keep.cons rfl (Keep.cons rfl (Keep.cons rfl (Keep.cons rfl (Keep.cons rfl (Keep.cons rfl (Keep.cons rfl (Keep.cons rfl (Keep.cons rfl (Keep.cons rfl (Keep.cons rfl (Keep.cons rfl (Keep.cons rfl (Keep.cons rfl (Keep.cons rfl (Keep.cons rfl (Keep.cons rfl (Keep.cons rfl (Keep.cons rfl (Keep.cons rfl (Keep.cons rfl (Keep.cons rfl (Keep.cons rfl (Keep.cons rfl (Keep.cons rfl (Keep.cons rfl (Keep.cons rfl (Keep.cons rfl (Keep.base))))))))))))))))))))))))))))))))))))))))))))))))))))))⟩)
              ·have hG33 := hg33; try simp only [gS] at hG33
               refine sy_skip ?_
               refine then_n ?_
               first
                 | (have hp9 : lawP x bb := by unfold lawP; omega
                    exact ⟨x, ⟨hyes hp9, hh⟩, hf.head True.intro (Keep.cons rfl (Keep.cons rfl (Keep.cons rfl (Keep.cons rfl (Keep.cons rfl (Keep.cons rfl (Keep.cons rfl (Keep.cons rfl (Keep.cons rfl (Keep.cons rfl (Keep.cons rfl (Keep.cons rfl (Keep.cons rfl (Keep.cons rfl (Keep.cons rfl (Keep.cons rfl (Keep.cons rfl (Keep.cons rfl (Keep.cons rfl (Keep.cons rfl (Keep.cons rfl (Keep.cons rfl (Keep.cons rfl (Keep.cons rfl (Keep.cons rfl (Keep.cons rfl (Keep.cons rfl (Keep.cons rfl (Keep.cons rfl (Keep.cons rfl (Keep.cons rfl (Keep.cons rfl (Keep.cons rfl (Keep.cons rfl (Keep.cons rfl (Keep.cons rfl (Keep.cons rfl (Keep.cons rfl (Keep.cons rfl (Keep.cons rfl (Keep.cons rfl (Keep.cons rfl (Keep.cons rfl (Keep.cons rfl (Keep.cons rfl (Keep.cons rfl (Keep.cons rfl (Keep.cons rfl (Keep.cons rfl (Keep.cons rfl (Keep.cons rfl (Keep.cons rfl (Keep.base)))))))))))))))))))))))))))))))))))))))))))))))))))))⟩)
                 | (have hp9 : ¬ lawP x bb := by unfold lawP; omega
                    exact ⟨bb, ⟨hno hp9, hh⟩, hf.head True.intro (Keep.cons rfl (Keep.cons rfl (Keep.cons rfl (Keep.cons rfl (Keep.cons rfl (Keep.cons rfl (Keep.cons rfl (Keep.cons rfl (Keep.cons rfl (Keep.cons rfl (Keep.cons rfl (Keep.cons rfl (Keep.cons rfl (Keep.cons rfl (Keep.cons rfl (Keep.cons rfl (Keep.cons rfl (Keep.cons rfl (Keep.cons rfl (Keep.cons rfl (Keep.cons rfl (Keep.cons rfl (Keep.cons rfl (Keep.cons rfl (Keep.cons rfl (Keep.cons rfl (Keep.cons rfl (Keep.cons rfl (Keep.cons rfl (Keep.cons rfl (Keep.cons rfl (Keep.cons rfl (Keep.cons rfl (Keep.cons rfl (Keep.cons rfl (Keep.cons rfl (Keep.cons rfl (Keep.cons rfl (Keep.cons rfl (Keep.cons rfl (Keep.cons rfl (Keep.cons rfl (Keep.cons rfl (Keep.cons rfl (Keep.cons rfl (Keep.cons rfl (Keep.cons rfl (Keep.cons rfl (Keep.cons rfl (Keep.cons rfl (Keep.cons rfl (Keep.cons rfl (Keep.base)))))))))))))))))))))))))))))))))))))))))))))))))))))⟩)
             ·have hG31 := hg31; try simp only [gS] at hG31
              refine o_off hf ?_; clear hf a; intro a hf
              refine o_off hf ?_; clear hf a; intro a hf
              refine o_off hf ?_; clear hf a; intro a hf
              refine o_off hf ?_; clear hf a; intro a hf
              refine o_off hf ?_; clear hf a; intro a hf
              refine o_v hf hh (y_pf rfl rfl) ?_; clear hf a; intro a hf
              refine o_v hf hh (y_pf rfl rfl) ?_; clear hf a; intro a hf
              refine o_v hf hh (y_pt rfl rfl) ?_; clear hf a; intro a hf
              refine o_v hf hh (y_pf rfl rfl) ?_; clear hf a; intro a hf
              refine o_end ?_
              refine c_f hf ?_
              refine sy_skip ?_
              refine then_n ?_
              first
                | (have hp9 : lawP x bb := by unfold lawP; omega
                   exact ⟨x, ⟨hyes hp9, hh⟩, hf.head True.intro (Keep.cons rfl (Keep.cons rfl (Keep.cons rfl (Keep.cons rfl (Keep.cons rfl (Keep.cons rfl (Keep.cons rfl (Keep.cons rfl (Keep.cons rfl (Keep.cons rfl (Keep.cons rfl (Keep.cons rfl (Keep.cons rfl (Keep.cons rfl (Keep.cons rfl (Keep.cons rfl (Keep.cons rfl (Keep.cons rfl (Keep.cons rfl (Keep.cons rfl (Keep.cons rfl (Keep.cons rfl (Keep.cons rfl (Keep.cons rfl (Keep.cons rfl (Keep.cons rfl (Keep.cons rfl (Keep.cons rfl (Keep.cons rfl (Keep.cons rfl (Keep.cons rfl (Keep.cons rfl (Keep.cons rfl (Keep.cons rfl (Keep.cons rfl (Keep.cons rfl (Keep.cons rfl (Keep.cons rfl (Keep.cons rfl (Keep.cons rfl (Keep.cons rfl (Keep.cons rfl (Keep.cons rfl (Keep.cons rfl (Keep.cons rfl (Keep.cons rfl (Keep.cons rfl (Keep.cons rfl (Keep.cons rfl (Keep.cons rfl (Keep.cons rfl (Keep.cons rfl (Keep.base)))))))))))))))))))))))))))))))))))))))))))))))))))))⟩)
                | (have hp9 : ¬ lawP x bb := by unfold lawP; omega
                   exact ⟨bb, ⟨hno hp9, hh⟩, hf.head True.intro (Keep.cons rfl (Keep.cons rfl (Keep.cons rfl (Keep.cons rfl (Keep.cons rfl (Keep.cons rfl (Keep.cons rfl (Keep.cons rfl (Keep.cons rfl (Keep.cons rfl (Keep.cons rfl (Keep.cons rfl (Keep.cons rfl (Keep.cons rfl (Keep.cons rfl (Keep.cons rfl (Keep.cons rfl (Keep.cons rfl (Keep.cons rfl (Keep.cons rfl (Keep.cons rfl (Keep.cons rfl (Keep.cons rfl (Keep.cons rfl (Keep.cons rfl (Keep.cons rfl (Keep.cons rfl (Keep.cons rfl (Keep.cons rfl (Keep.cons rfl (Keep.cons rfl (Keep.cons rfl (Keep.cons rfl (Keep.cons rfl (Keep.cons rfl (Keep.cons rfl (Keep.cons rfl (Keep.cons rfl (Keep.cons rfl (Keep.cons rfl (Keep.cons rfl (Keep.cons rfl (Keep.cons rfl (Keep.cons rfl (Keep.cons rfl (Keep.cons rfl (Keep.cons rfl (Keep.cons rfl (Keep.cons rfl (Keep.cons rfl (Keep.cons rfl (Keep.cons rfl (Keep.base)))))))))))))))))))))))))))))))))))))))))))))))))))))⟩)
            ·have hG29 := hg29; try simp only [gS] at hG29
             refine o_off hf ?_; clear hf a; intro a hf
             refine o_off hf ?_; clear hf a; intro a hf
             refine o_off hf ?_; clear hf a; intro a hf
             refine o_v hf hh (y_pf rfl rfl) ?_; clear hf a; intro a hf
             refine o_v hf hh (yv_move rfl) ?_; clear hf a; intro a hf
             refine o_off hf ?_; clear hf a; intro a hf
             refine o_off hf ?_; clear hf a; intro a hf
             refine o_off hf ?_; clear hf a; intro a hf
             refine o_off hf ?_; clear hf a; intro a hf
             refine o_off hf ?_; clear hf a; intro a hf
             refine o_v hf hh (y_pf rfl rfl) ?_; clear hf a; intro a hf
             refine o_v hf hh (y_pf rfl rfl) ?_; clear hf a; intro a hf
             refine o_v hf hh (y_pt rfl rfl) ?_; clear hf a; intro a hf
             refine o_v hf hh (y_pf rfl rfl) ?_; clear hf a; intro a hf
             refine o_end ?_
             refine c_f hf ?_
             refine sy_skip ?_
             refine then_n ?_
             first
               | (have hp9 : lawP x bb := by unfold lawP; omega
                  exact ⟨x, ⟨hyes hp9, hh⟩, hf.head True.intro (Keep.cons rfl (Keep.cons rfl (Keep.cons rfl (Keep.cons rfl (Keep.cons rfl (Keep.cons rfl (Keep.cons rfl (Keep.cons rfl (Keep.cons rfl (Keep.cons rfl (Keep.cons rfl (Keep.cons rfl (Keep.cons rfl (Keep.cons rfl (Keep.cons rfl (Keep.cons rfl (Keep.cons rfl (Keep.cons rfl (Keep.cons rfl (Keep.cons rfl (Keep.cons rfl (Keep.cons rfl (Keep.cons rfl (Keep.cons rfl (Keep.cons rfl (Keep.cons rfl (Keep.cons rfl (Keep.cons rfl (Keep.cons rfl (Keep.cons rfl (Keep.cons rfl (Keep.cons rfl (Keep.cons rfl (Keep.cons rfl (Keep.cons rfl (Keep.cons rfl (Keep.cons rfl (Keep.cons rfl (Keep.cons rfl (Keep.cons rfl (Keep.cons rfl (Keep.cons rfl (Keep.cons rfl (Keep.cons rfl (Keep.cons rfl (Keep.cons rfl (Keep.cons rfl (Keep.cons rfl (Keep.cons rfl (Keep.cons rfl (Keep.cons rfl (Keep.cons rfl (Keep.base)))))))))))))))))))))))))))))))))))))))))))))))))))))⟩)
               | (have hp9 : ¬ lawP x bb := by unfold lawP; omega
                  exact ⟨bb, ⟨hno hp9, hh⟩, hf.head True.intro (Keep.cons rfl (Keep.cons rfl (Keep.cons rfl (Keep.cons rfl (Keep.cons rfl (Keep.cons rfl (Keep.cons rfl (Keep.cons rfl (Keep.cons rfl (Keep.cons rfl (Keep.cons rfl (Keep.cons rfl (Keep.cons rfl (Keep.cons rfl (Keep.cons rfl (Keep.cons rfl (Keep.cons rfl (Keep.cons rfl (Keep.cons rfl (Keep.cons rfl (Keep.cons rfl (Keep.cons rfl (Keep.cons rfl (Keep.cons rfl (Keep.cons rfl (Keep.cons rfl (Keep.cons rfl (Keep.cons rfl (Keep.cons rfl (Keep.cons rfl (Keep.cons rfl (Keep.cons rfl (Keep.cons rfl (Keep.cons rfl (Keep.cons rfl (Keep.cons rfl (Keep.cons rfl (Keep.cons rfl (Keep.cons rfl (Keep.cons rfl (Keep.cons rfl (Keep.cons rfl (Keep.cons rfl (Keep.cons rfl (Keep.cons rfl (Keep.cons rfl (Keep.cons rfl (Keep.cons rfl (Keep.cons rfl (Keep.cons rfl (Keep.cons rfl (Keep.cons rfl (Keep.base)))))))))))))))))))))))))))))))))))))))))))))))))))))⟩)
          ·have hG25 := hg25; try simp only [gS] at hG25
           refine o_off hf ?_; clear hf a; intro a hf
           refine o_off hf ?_; clear hf a; intro a hf
           refine o_off hf ?_; clear hf a; intro a hf
           refine o_off hf ?_; clear hf a; intro a hf
           refine o_off hf ?_; clear hf a; intro a hf
           refine o_v hf hh (y_pf rfl rfl) ?_; clear hf a; intro a hf
           refine o_v hf hh (y_pf rfl rfl) ?_; clear hf a; intro a hf
           refine o_v hf hh (yv_move rfl) ?_; clear hf a; intro a hf
           refine o_v hf hh (y_ia Try.ae_42 rfl rfl) ?_; clear hf a; intro a hf
           refine o_v hf hh (y_ld Try.sc_3 rfl) ?_; clear hf a; intro a hf
           refine o_v hf hh (yv_bin rfl rfl rfl) ?_; clear hf a; intro a hf
           refine o_v hf hh (yv_move rfl) ?_; clear hf a; intro a hf
           refine guard_split hf (t := 88) rfl (fun hg35 => ?_) (fun hg35 => ?_)
           ·have hG35 := hg35; try simp only [gS] at hG35
            refine o_v hf hh (y_ia Try.ae_42 rfl rfl) ?_; clear hf a; intro a hf
            refine o_v hf hh (y_ld Try.sc_3 rfl) ?_; clear hf a; intro a hf
            refine o_v hf hh (yv_bin rfl rfl rfl) ?_; clear hf a; intro a hf
            refine o_v hf hh (y_pt rfl rfl) ?_; clear hf a; intro a hf
            refine o_v hf hh (yv_move rfl) ?_; clear hf a; intro a hf
            refine guard_split hf (t := 93) rfl (fun hg37 => ?_) (fun hg37 => ?_)
            ·have hG37 := hg37; try simp only [gS] at hG37
             refine o_v hf hh (y_ia Try.ae_42 rfl rfl) ?_; clear hf a; intro a hf
             refine o_v hf hh (y_ld Try.sc_3 rfl) ?_; clear hf a; intro a hf
             refine o_v hf hh (y_ia Try.ae_42 rfl rfl) ?_; clear hf a; intro a hf
             refine o_v hf hh (y_ld Try.sc_3 rfl) ?_; clear hf a; intro a hf
             refine o_v hf hh (yv_bin rfl rfl rfl) ?_; clear hf a; intro a hf
             refine o_v hf hh (y_pt rfl rfl) ?_; clear hf a; intro a hf
             refine o_v hf hh (y_pf rfl rfl) ?_; clear hf a; intro a hf
             refine o_v hf hh (y_pt rfl rfl) ?_; clear hf a; intro a hf
             refine o_v hf hh (y_pf rfl rfl) ?_; clear hf a; intro a hf
             refine o_end ?_
             refine sy_cond hf rfl (fun hg39 => ?_) (fun hg39 => ?_)
             ·have hG39 := hg39; try simp only [gS] at hG39
              refine sy_ops ?_
              refine o_v hf hh (y_lds Try.ag_42 rfl) ?_; clear hf a; intro a hf
              refine o_store hf hh Try.sz_42 fun w hh => ?_
              refine ops_end ?_
              refine then_n ?_
              first
                | (have hp9 : lawP x bb := by unfold lawP; omega
                   exact ⟨x, ⟨hyes hp9, hh⟩, hf.head True.intro (Keep.cons rfl (Keep.cons rfl (Keep.cons rfl (Keep.cons rfl (Keep.cons rfl (Keep.cons rfl (Keep.cons rfl (Keep.cons rfl (Keep.cons rfl (Keep.cons rfl (Keep.cons rfl (Keep.cons rfl (Keep.cons rfl (Keep.cons rfl (Keep.cons rfl (Keep.cons rfl (Keep.cons rfl (Keep.cons rfl (Keep.cons rfl (Keep.cons rfl (Keep.cons rfl (Keep.cons rfl (Keep.cons rfl (Keep.cons rfl (Keep.cons rfl (Keep.cons rfl (Keep.cons rfl (Keep.cons rfl (Keep.cons rfl (Keep.cons rfl (Keep.cons rfl (Keep.cons rfl (Keep.cons rfl (Keep.cons rfl (Keep.cons rfl (Keep.cons rfl (Keep.cons rfl (Keep.cons rfl (Keep.cons rfl (Keep.cons rfl (Keep.cons rfl (Keep.cons rfl (Keep.cons rfl (Keep.cons rfl (Keep.cons rfl (Keep.cons rfl (Keep.cons rfl (Keep.cons rfl (Keep.cons rfl (Keep.cons rfl (Keep.cons rfl (Keep.cons rfl (Keep.cons rfl (Keep.base))))))))))))))))))))))))))))))))))))))))))))))))))))))⟩)
                | (have hp9 : ¬ lawP x bb := by unfold lawP; omega
                   exact ⟨bb, ⟨hno hp9, hh⟩, hf.head True.intro (Keep.cons rfl (Keep.cons rfl (Keep.cons rfl (Keep.cons rfl (Keep.cons rfl (Keep.cons rfl (Keep.cons rfl (Keep.cons rfl (Keep.cons rfl (Keep.cons rfl (Keep.cons rfl (Keep.cons rfl (Keep.cons rfl (Keep.cons rfl (Keep.cons rfl (Keep.cons rfl (Keep.cons rfl (Keep.cons rfl (Keep.cons rfl (Keep.cons rfl (Keep.cons rfl (Keep.cons rfl (Keep.cons rfl (Keep.cons rfl (Keep.cons rfl (Keep.cons rfl (Keep.cons rfl (Keep.cons rfl (Keep.cons rfl (Keep.cons rfl (Keep.cons rfl (Keep.cons rfl (Keep.cons rfl (Keep.cons rfl (Keep.cons rfl (Keep.cons rfl (Keep.cons rfl (Keep.cons rfl (Keep.cons rfl (Keep.cons rfl (Keep.cons rfl (Keep.cons rfl (Keep.cons rfl (Keep.cons rfl (Keep.cons rfl (Keep.cons rfl (Keep.cons rfl (Keep.cons rfl (Keep.cons rfl (Keep.cons rfl (Keep.cons rfl (Keep.cons rfl (Keep.cons rfl (Keep.base))))))))))))))))))))))))))))))))))))))))))))))))))))))⟩)
             ·have hG39 := hg39; try simp only [gS] at hG39
              refine sy_skip ?_
              refine then_n ?_
              first
                | (have hp9 : lawP x bb := by unfold lawP; omega
                   exact ⟨x, ⟨hyes hp9, hh⟩, hf.head True.intro (Keep.cons rfl (Keep.cons rfl (Keep.cons rfl (Keep.cons rfl (Keep.cons rfl (Keep.cons rfl (Keep.cons rfl (Keep.cons rfl (Keep.cons rfl (Keep.cons rfl (Keep.cons rfl (Keep.cons rfl (Keep.cons rfl (Keep.cons rfl (Keep.cons rfl (Keep.cons rfl (Keep.cons rfl (Keep.cons rfl (Keep.cons rfl (Keep.cons rfl (Keep.cons rfl (Keep.cons rfl (Keep.cons rfl (Keep.cons rfl (Keep.cons rfl (Keep.cons rfl (Keep.cons rfl (Keep.cons rfl (Keep.cons rfl (Keep.cons rfl (Keep.cons rfl (Keep.cons rfl (Keep.cons rfl (Keep.cons rfl (Keep.cons rfl (Keep.cons rfl (Keep.cons rfl (Keep.cons rfl (Keep.cons rfl (Keep.cons rfl (Keep.cons rfl (Keep.cons rfl (Keep.cons rfl (Keep.cons rfl (Keep.cons rfl (Keep.cons rfl (Keep.cons rfl (Keep.cons rfl (Keep.cons rfl (Keep.cons rfl (Keep.cons rfl (Keep.cons rfl (Keep.base)))))))))))))))))))))))))))))))))))))))))))))))))))))⟩)
                | (have hp9 : ¬ lawP x bb := by unfold lawP; omega
                   exact ⟨bb, ⟨hno hp9, hh⟩, hf.head True.intro (Keep.cons rfl (Keep.cons rfl (Keep.cons rfl (Keep.cons rfl (Keep.cons rfl (Keep.cons rfl (Keep.cons rfl (Keep.cons rfl (Keep.cons rfl (Keep.cons rfl (Keep.cons rfl (Keep.cons rfl (Keep.cons rfl (Keep.cons rfl (Keep.cons rfl (Keep.cons rfl (Keep.cons rfl (Keep.cons rfl (Keep.cons rfl (Keep.cons rfl (Keep.cons rfl (Keep.cons rfl (Keep.cons rfl (Keep.cons rfl (Keep.cons rfl (Keep.cons rfl (Keep.cons rfl (Keep.cons rfl (Keep.cons rfl (Keep.cons rfl (Keep.cons rfl (Keep.cons rfl (Keep.cons rfl (Keep.cons rfl (Keep.cons rfl (Keep.cons rfl (Keep.cons rfl (Keep.cons rfl (Keep.cons rfl (Keep.cons rfl (Keep.cons rfl (Keep.cons rfl (Keep.cons rfl (Keep.cons rfl (Keep.cons rfl (Keep.cons rfl (Keep.cons rfl (Keep.cons rfl (Keep.cons rfl (Keep.cons rfl (Keep.cons rfl (Keep.cons rfl (Keep.base)))))))))))))))))))))))))))))))))))))))))))))))))))))⟩)
            ·have hG37 := hg37; try simp only [gS] at hG37
             refine o_off hf ?_; clear hf a; intro a hf
             refine o_off hf ?_; clear hf a; intro a hf
             refine o_off hf ?_; clear hf a; intro a hf
             refine o_off hf ?_; clear hf a; intro a hf
             refine o_off hf ?_; clear hf a; intro a hf
             refine o_v hf hh (y_pf rfl rfl) ?_; clear hf a; intro a hf
             refine o_v hf hh (y_pf rfl rfl) ?_; clear hf a; intro a hf
             refine o_v hf hh (y_pt rfl rfl) ?_; clear hf a; intro a hf
             refine o_v hf hh (y_pf rfl rfl) ?_; clear hf a; intro a hf
             refine o_end ?_
             refine c_f hf ?_
             refine sy_skip ?_
             refine then_n ?_
             first
               | (have hp9 : lawP x bb := by unfold lawP; omega
                  exact ⟨x, ⟨hyes hp9, hh⟩, hf.head True.intro (Keep.cons rfl (Keep.cons rfl (Keep.cons rfl (Keep.cons rfl (Keep.cons rfl (Keep.cons rfl (Keep.cons rfl (Keep.cons rfl (Keep.cons rfl (Keep.cons rfl (Keep.cons rfl (Keep.cons rfl (Keep.cons rfl (Keep.cons rfl (Keep.cons rfl (Keep.cons rfl (Keep.cons rfl (Keep.cons rfl (Keep.cons rfl (Keep.cons rfl (Keep.cons rfl (Keep.cons rfl (Keep.cons rfl (Keep.cons rfl (Keep.cons rfl (Keep.cons rfl (Keep.cons rfl (Keep.cons rfl (Keep.cons rfl (Keep.cons rfl (Keep.cons rfl (Keep.cons rfl (Keep.cons rfl (Keep.cons rfl (Keep.cons rfl (Keep.cons rfl (Keep.cons rfl (Keep.cons rfl (Keep.cons rfl (Keep.cons rfl (Keep.cons rfl (Keep.cons rfl (Keep.cons rfl (Keep.cons rfl (Keep.cons rfl (Keep.cons rfl (Keep.cons rfl (Keep.cons rfl (Keep.cons rfl (Keep.cons rfl (Keep.cons rfl (Keep.cons rfl (Keep.base)))))))))))))))))))))))))))))))))))))))))))))))))))))⟩)
               | (have hp9 : ¬ lawP x bb := by unfold lawP; omega
                  exact ⟨bb, ⟨hno hp9, hh⟩, hf.head True.intro (Keep.cons rfl (Keep.cons rfl (Keep.cons rfl (Keep.cons rfl (Keep.cons rfl (Keep.cons rfl (Keep.cons rfl (Keep.cons rfl (Keep.cons rfl (Keep.cons rfl (Keep.cons rfl (Keep.cons rfl (Keep.cons rfl (Keep.cons rfl (Keep.cons rfl (Keep.cons rfl (Keep.cons rfl (Keep.cons rfl (Keep.cons rfl (Keep.cons rfl (Keep.cons rfl (Keep.cons rfl (Keep.cons rfl (Keep.cons rfl (Keep.cons rfl (Keep.cons rfl (Keep.cons rfl (Keep.cons rfl (Keep.cons rfl (Keep.cons rfl (Keep.cons rfl (Keep.cons rfl (Keep.cons rfl (Keep.cons rfl (Keep.cons rfl (Keep.cons rfl (Keep.cons rfl (Keep.cons rfl (Keep.cons rfl (Keep.cons rfl (Keep.cons rfl (Keep.cons rfl (Keep.cons rfl (Keep.cons rfl (Keep.cons rfl (Keep.cons rfl (Keep.cons rfl (Keep.cons rfl (Keep.cons rfl (Keep.cons rfl (Keep.cons rfl (Keep.cons rfl (Keep.base)))))))))))))))))))))))))))))))))))))))))))))))))))))⟩)
           ·have hG35 := hg35; try simp only [gS] at hG35
            refine o_off hf ?_; clear hf a; intro a hf
            refine o_off hf ?_; clear hf a; intro a hf
            refine o_off hf ?_; clear hf a; intro a hf
            refine o_v hf hh (y_pf rfl rfl) ?_; clear hf a; intro a hf
            refine o_v hf hh (yv_move rfl) ?_; clear hf a; intro a hf
            refine o_off hf ?_; clear hf a; intro a hf
            refine o_off hf ?_; clear hf a; intro a hf
            refine o_off hf ?_; clear hf a; intro a hf
            refine o_off hf ?_; clear hf a; intro a hf
            refine o_off hf ?_; clear hf a; intro a hf
            refine o_v hf hh (y_pf rfl rfl) ?_; clear hf a; intro a hf
            refine o_v hf hh (y_pf rfl rfl) ?_; clear hf a; intro a hf
            refine o_v hf hh (y_pt rfl rfl) ?_; clear hf a; intro a hf
            refine o_v hf hh (y_pf rfl rfl) ?_; clear hf a; intro a hf
            refine o_end ?_
            refine c_f hf ?_
            refine sy_skip ?_
            refine then_n ?_
            first
              | (have hp9 : lawP x bb := by unfold lawP; omega
                 exact ⟨x, ⟨hyes hp9, hh⟩, hf.head True.intro (Keep.cons rfl (Keep.cons rfl (Keep.cons rfl (Keep.cons rfl (Keep.cons rfl (Keep.cons rfl (Keep.cons rfl (Keep.cons rfl (Keep.cons rfl (Keep.cons rfl (Keep.cons rfl (Keep.cons rfl (Keep.cons rfl (Keep.cons rfl (Keep.cons rfl (Keep.cons rfl (Keep.cons rfl (Keep.cons rfl (Keep.cons rfl (Keep.cons rfl (Keep.cons rfl (Keep.cons rfl (Keep.cons rfl (Keep.cons rfl (Keep.cons rfl (Keep.cons rfl (Keep.cons rfl (Keep.cons rfl (Keep.cons rfl (Keep.cons rfl (Keep.cons rfl (Keep.cons rfl (Keep.cons rfl (Keep.cons rfl (Keep.cons rfl (Keep.cons rfl (Keep.cons rfl (Keep.cons rfl (Keep.cons rfl (Keep.cons rfl (Keep.cons rfl (Keep.cons rfl (Keep.cons rfl (Keep.cons rfl (Keep.cons rfl (Keep.cons rfl (Keep.cons rfl (Keep.cons rfl (Keep.cons rfl (Keep.cons rfl (Keep.cons rfl (Keep.cons rfl (Keep.base)))))))))))))))))))))))))))))))))))))))))))))))))))))⟩)
              | (have hp9 : ¬ lawP x bb := by unfold lawP; omega
                 exact ⟨bb, ⟨hno hp9, hh⟩, hf.head True.intro (Keep.cons rfl (Keep.cons rfl (Keep.cons rfl (Keep.cons rfl (Keep.cons rfl (Keep.cons rfl (Keep.cons rfl (Keep.cons rfl (Keep.cons rfl (Keep.cons rfl (Keep.cons rfl (Keep.cons rfl (Keep.cons rfl (Keep.cons rfl (Keep.cons rfl (Keep.cons rfl (Keep.cons rfl (Keep.cons rfl (Keep.cons rfl (Keep.cons rfl (Keep.cons rfl (Keep.cons rfl (Keep.cons rfl (Keep.cons rfl (Keep.cons rfl (Keep.cons rfl (Keep.cons rfl (Keep.cons rfl (Keep.cons rfl (Keep.cons rfl (Keep.cons rfl (Keep.cons rfl (Keep.cons rfl (Keep.cons rfl (Keep.cons rfl (Keep.cons rfl (Keep.cons rfl (Keep.cons rfl (Keep.cons rfl (Keep.cons rfl (Keep.cons rfl (Keep.cons rfl (Keep.cons rfl (Keep.cons rfl (Keep.cons rfl (Keep.cons rfl (Keep.cons rfl (Keep.cons rfl (Keep.cons rfl (Keep.cons rfl (Keep.cons rfl (Keep.cons rfl (Keep.base)))))))))))))))))))))))))))))))))))))))))))))))))))))⟩)
         ·have hG23 := hg23; try simp only [gS] at hG23
          refine o_off hf ?_; clear hf a; intro a hf
          refine o_off hf ?_; clear hf a; intro a hf
          refine o_off hf ?_; clear hf a; intro a hf
          refine o_v hf hh (y_pf rfl rfl) ?_; clear hf a; intro a hf
          refine o_v hf hh (yv_move rfl) ?_; clear hf a; intro a hf
          refine o_off hf ?_; clear hf a; intro a hf
          refine o_off hf ?_; clear hf a; intro a hf
          refine o_off hf ?_; clear hf a; intro a hf
          refine o_off hf ?_; clear hf a; intro a hf
          refine o_off hf ?_; clear hf a; intro a hf
          refine o_v hf hh (y_pf rfl rfl) ?_; clear hf a; intro a hf
          refine o_v hf hh (y_pf rfl rfl) ?_; clear hf a; intro a hf
          refine o_v hf hh (yv_move rfl) ?_; clear hf a; intro a hf
          refine o_v hf hh (y_ia Try.ae_42 rfl rfl) ?_; clear hf a; intro a hf
          refine o_v hf hh (y_ld Try.sc_3 rfl) ?_; clear hf a; intro a hf
          refine o_v hf hh (yv_bin rfl rfl rfl) ?_; clear hf a; intro a hf
          refine o_v hf hh (yv_move rfl) ?_; clear hf a; intro a hf
          refine guard_split hf (t := 88) rfl (fun hg41 => ?_) (fun hg41 => ?_)
          ·have hG41 := hg41; try simp only [gS] at hG41
           refine o_v hf hh (y_ia Try.ae_42 rfl rfl) ?_; clear hf a; intro a hf
           refine o_v hf hh (y_ld Try.sc_3 rfl) ?_; clear hf a; intro a hf
           refine o_v hf hh (yv_bin rfl rfl rfl) ?_; clear hf a; intro a hf
           refine o_v hf hh (y_pt rfl rfl) ?_; clear hf a; intro a hf
           refine o_v hf hh (yv_move rfl) ?_; clear hf a; intro a hf
           refine guard_split hf (t := 93) rfl (fun hg43 => ?_) (fun hg43 => ?_)
           ·have hG43 := hg43; try simp only [gS] at hG43
            refine o_v hf hh (y_ia Try.ae_42 rfl rfl) ?_; clear hf a; intro a hf
            refine o_v hf hh (y_ld Try.sc_3 rfl) ?_; clear hf a; intro a hf
            refine o_v hf hh (y_ia Try.ae_42 rfl rfl) ?_; clear hf a; intro a hf
            refine o_v hf hh (y_ld Try.sc_3 rfl) ?_; clear hf a; intro a hf
            refine o_v hf hh (yv_bin rfl rfl rfl) ?_; clear hf a; intro a hf
            refine o_v hf hh (y_pt rfl rfl) ?_; clear hf a; intro a hf
            refine o_v hf hh (y_pf rfl rfl) ?_; clear hf a; intro a hf
            refine o_v hf hh (y_pt rfl rfl) ?_; clear hf a; intro a hf
            refine o_v hf hh (y_pf rfl rfl) ?_; clear hf a; intro a hf
            refine o_end ?_
            refine sy_cond hf rfl (fun hg45 => ?_) (fun hg45 => ?_)
            ·have hG45 := hg45; try simp only [gS] at hG45
             refine sy_ops ?_
             refine o_v hf hh (y_lds Try.ag_42 rfl) ?_; clear hf a; intro a hf
             refine o_store hf hh Try.sz_42 fun w hh => ?_
             refine ops_end ?_
             refine then_n ?_
             first
               | (have hp9 : lawP x bb := by unfold lawP; omega
                  exact ⟨x, ⟨hyes hp9, hh⟩, hf.head True.intro (Keep.cons rfl (Keep.cons rfl (Keep.cons rfl (Keep.cons rfl (Keep.cons rfl (Keep.cons rfl (Keep.cons rfl (Keep.cons rfl (Keep.cons rfl (Keep.cons rfl (Keep.cons rfl (Keep.cons rfl (Keep.cons rfl (Keep.cons rfl (Keep.cons rfl (Keep.cons rfl (Keep.cons rfl (Keep.cons rfl (Keep.cons rfl (Keep.cons rfl (Keep.cons rfl (Keep.cons rfl (Keep.cons rfl (Keep.cons rfl (Keep.cons rfl (Keep.cons rfl (Keep.cons rfl (Keep.cons rfl (Keep.cons rfl (Keep.cons rfl (Keep.cons rfl (Keep.cons rfl (Keep.cons rfl (Keep.cons rfl (Keep.cons rfl (Keep.cons rfl (Keep.cons rfl (Keep.cons rfl (Keep.cons rfl (Keep.cons rfl (Keep.cons rfl (Keep.cons rfl (Keep.cons rfl (Keep.cons rfl (Keep.cons rfl (Keep.cons rfl (Keep.cons rfl (Keep.cons rfl (Keep.cons rfl (Keep.cons rfl (Keep.cons rfl (Keep.cons rfl (Keep.cons rfl (Keep.base))))))))))))))))))))))))))))))))))))))))))))))))))))))⟩)
               | (have hp9 : ¬ lawP x bb := by unfold lawP; omega
                  exact ⟨bb, ⟨hno hp9, hh⟩, hf.head True.intro (Keep.cons rfl (Keep.cons rfl (Keep.cons rfl (Keep.cons rfl (Keep.cons rfl (Keep.cons rfl (Keep.cons rfl (Keep.cons rfl (Keep.cons rfl (Keep.cons rfl (Keep.cons rfl (Keep.cons rfl (Keep.cons rfl (Keep.cons rfl (Keep.cons rfl (Keep.cons rfl (Keep.cons rfl (Keep.cons rfl (Keep.cons rfl (Keep.cons rfl (Keep.cons rfl (Keep.cons rfl (Keep.cons rfl (Keep.cons rfl (Keep.cons rfl (Keep.cons rfl (Keep.cons rfl (Keep.cons rfl (Keep.cons rfl (Keep.cons rfl (Keep.cons rfl (Keep.cons rfl (Keep.cons rfl (Keep.cons rfl (Keep.cons rfl (Keep.cons rfl (Keep.cons rfl (Keep.cons rfl (Keep.cons rfl (Keep.cons rfl (Keep.cons rfl (Keep.cons rfl (Keep.cons rfl (Keep.cons rfl (Keep.cons rfl (Keep.cons rfl (Keep.cons rfl (Keep.cons rfl (Keep.cons rfl (Keep.cons rfl (Keep.cons rfl (Keep.cons rfl (Keep.cons rfl (Keep.base))))))))))))))))))))))))))))))))))))))))))))))))))))))⟩)
            ·have hG45 := hg45; try simp only [gS] at hG45
             refine sy_skip ?_
             refine then_n ?_
             first
               | (have hp9 : lawP x bb := by unfold lawP; omega
                  exact ⟨x, ⟨hyes hp9, hh⟩, hf.head True.intro (Keep.cons rfl (Keep.cons rfl (Keep.cons rfl (Keep.cons rfl (Keep.cons rfl (Keep.cons rfl (Keep.cons rfl (Keep.cons rfl (Keep.cons rfl (Keep.cons rfl (Keep.cons rfl (Keep.cons rfl (Keep.cons rfl (Keep.cons rfl (Keep.cons rfl (Keep.cons rfl (Keep.cons rfl (Keep.cons rfl (Keep.cons rfl (Keep.cons rfl (Keep.cons rfl (Keep.cons rfl (Keep.cons rfl (Keep.cons rfl (Keep.cons rfl (Keep.cons rfl (Keep.cons rfl (Keep.cons rfl (Keep.cons rfl (Keep.cons rfl (Keep.cons rfl (Keep.cons rfl (Keep.cons rfl (Keep.cons rfl (Keep.cons rfl (Keep.cons rfl (Keep.cons rfl (Keep.cons rfl (Keep.cons rfl (Keep.cons rfl (Keep.cons rfl (Keep.cons rfl (Keep.cons rfl (Keep.cons rfl (Keep.cons rfl (Keep.cons rfl (Keep.cons rfl (Keep.cons rfl (Keep.cons rfl (Keep.cons rfl (Keep.cons rfl (Keep.cons rfl (Keep.base)))))))))))))))))))))))))))))))))))))))))))))))))))))⟩)
               | (have hp9 : ¬ lawP x bb := by unfold lawP; omega
                  exact ⟨bb, ⟨hno hp9, hh⟩, hf.head True.intro (Keep.cons rfl (Keep.cons rfl (Keep.cons rfl (Keep.cons rfl (Keep.cons rfl (Keep.cons rfl (Keep.cons rfl (Keep.cons rfl (Keep.cons rfl (Keep.cons rfl (Keep.cons rfl (Keep.cons rfl (Keep.cons rfl (Keep.cons rfl (Keep.cons rfl (Keep.cons rfl (Keep.cons rfl (Keep.cons rfl (Keep.cons rfl (Keep.cons rfl (Keep.cons rfl (Keep.cons rfl (Keep.cons rfl (Keep.cons rfl (Keep.cons rfl (Keep.cons rfl (Keep.cons rfl (Keep.cons rfl (Keep.cons rfl (Keep.cons rfl (Keep.cons rfl (Keep.cons rfl (Keep.cons rfl (Keep.cons rfl (Keep.cons rfl (Keep.cons rfl (Keep.cons rfl (Keep.cons rfl (Keep.cons rfl (Keep.cons rfl (Keep.cons rfl (Keep.cons rfl (Keep.cons rfl (Keep.cons rfl (Keep.cons rfl (Keep.cons rfl (Keep.cons rfl (Keep.cons rfl (Keep.cons rfl (Keep.cons rfl (Keep.cons rfl (Keep.cons rfl (Keep.base)))))))))))))))))))))))))))))))))))))))))))))))))))))⟩)
           ·have hG43 := hg43; try simp only [gS] at hG43
            refine o_off hf ?_; clear hf a; intro a hf
            refine o_off hf ?_; clear hf a; intro a hf
            refine o_off hf ?_; clear hf a; intro a hf
            refine o_off hf ?_; clear hf a; intro a hf
            refine o_off hf ?_; clear hf a; intro a hf
            refine o_v hf hh (y_pf rfl rfl) ?_; clear hf a; intro a hf
            refine o_v hf hh (y_pf rfl rfl) ?_; clear hf a; intro a hf
            refine o_v hf hh (y_pt rfl rfl) ?_; clear hf a; intro a hf
            refine o_v hf hh (y_pf rfl rfl) ?_; clear hf a; intro a hf
            refine o_end ?_
            refine c_f hf ?_
            refine sy_skip ?_
            refine then_n ?_
            first
              | (have hp9 : lawP x bb := by unfold lawP; omega
                 exact ⟨x, ⟨hyes hp9, hh⟩, hf.head True.intro (Keep.cons rfl (Keep.cons rfl (Keep.cons rfl (Keep.cons rfl (Keep.cons rfl (Keep.cons rfl (Keep.cons rfl (Keep.cons rfl (Keep.cons rfl (Keep.cons rfl (Keep.cons rfl (Keep.cons rfl (Keep.cons rfl (Keep.cons rfl (Keep.cons rfl (Keep.cons rfl (Keep.cons rfl (Keep.cons rfl (Keep.cons rfl (Keep.cons rfl (Keep.cons rfl (Keep.cons rfl (Keep.cons rfl (Keep.cons rfl (Keep.cons rfl (Keep.cons rfl (Keep.cons rfl (Keep.cons rfl (Keep.cons rfl (Keep.cons rfl (Keep.cons rfl (Keep.cons rfl (Keep.cons rfl (Keep.cons rfl (Keep.cons rfl (Keep.cons rfl (Keep.cons rfl (Keep.cons rfl (Keep.cons rfl (Keep.cons rfl (Keep.cons rfl (Keep.cons rfl (Keep.cons rfl (Keep.cons rfl (Keep.cons rfl (Keep.cons rfl (Keep.cons rfl (Keep.cons rfl (Keep.cons rfl (Keep.cons rfl (Keep.cons rfl (Keep.cons rfl (Keep.base)))))))))))))))))))))))))))))))))))))))))))))))))))))⟩)
              | (have hp9 : ¬ lawP x bb := by unfold lawP; omega
                 exact ⟨bb, ⟨hno hp9, hh⟩, hf.head True.intro (Keep.cons rfl (Keep.cons rfl (Keep.cons rfl (Keep.cons rfl (Keep.cons rfl (Keep.cons rfl (Keep.cons rfl (Keep.cons rfl (Keep.cons rfl (Keep.cons rfl (Keep.cons rfl (Keep.cons rfl (Keep.cons rfl (Keep.cons rfl (Keep.cons rfl (Keep.cons rfl (Keep.cons rfl (Keep.cons rfl (Keep.cons rfl (Keep.cons rfl (Keep.cons rfl (Keep.cons rfl (Keep.cons rfl (Keep.cons rfl (Keep.cons rfl (Keep.cons rfl (Keep.cons rfl (Keep.cons rfl (Keep.cons rfl (Keep.cons rfl (Keep.cons rfl (Keep.cons rfl (Keep.cons rfl (Keep.cons rfl (Keep.cons rfl (Keep.cons rfl (Keep.cons rfl (Keep.cons rfl (Keep.cons rfl (Keep.cons rfl (Keep.cons rfl (Keep.cons rfl (Keep.cons rfl (Keep.cons rfl (Keep.cons rfl (Keep.cons rfl (Keep.cons rfl (Keep.cons rfl (Keep.cons rfl (Keep.cons rfl (Keep.cons rfl (Keep.cons rfl (Keep.base)))))))))))))))))))))))))))))))))))))))))))))))))))))⟩)
          ·have hG41 := hg41; try simp only [gS] at hG41
           refine o_off hf ?_; clear hf a; intro a hf
           refine o_off hf ?_; clear hf a; intro a hf
           refine o_off hf ?_; clear hf a; intro a hf
           refine o_v hf hh (y_pf rfl rfl) ?_; clear hf a; intro a hf
           refine o_v hf hh (yv_move rfl) ?_; clear hf a; intro a hf
           refine o_off hf ?_; clear hf a; intro a hf
           refine o_off hf ?_; clear hf a; intro a hf
           refine o_off hf ?_; clear hf a; intro a hf
           refine o_off hf ?_; clear hf a; intro a hf
           refine o_off hf ?_; clear hf a; intro a hf
           refine o_v hf hh (y_pf rfl rfl) ?_; clear hf a; intro a hf
           refine o_v hf hh (y_pf rfl rfl) ?_; clear hf a; intro a hf
           refine o_v hf hh (y_pt rfl rfl) ?_; clear hf a; intro a hf
           refine o_v hf hh (y_pf rfl rfl) ?_; clear hf a; intro a hf
           refine o_end ?_
           refine c_f hf ?_
           refine sy_skip ?_
           refine then_n ?_
           first
             | (have hp9 : lawP x bb := by unfold lawP; omega
                exact ⟨x, ⟨hyes hp9, hh⟩, hf.head True.intro (Keep.cons rfl (Keep.cons rfl (Keep.cons rfl (Keep.cons rfl (Keep.cons rfl (Keep.cons rfl (Keep.cons rfl (Keep.cons rfl (Keep.cons rfl (Keep.cons rfl (Keep.cons rfl (Keep.cons rfl (Keep.cons rfl (Keep.cons rfl (Keep.cons rfl (Keep.cons rfl (Keep.cons rfl (Keep.cons rfl (Keep.cons rfl (Keep.cons rfl (Keep.cons rfl (Keep.cons rfl (Keep.cons rfl (Keep.cons rfl (Keep.cons rfl (Keep.cons rfl (Keep.cons rfl (Keep.cons rfl (Keep.cons rfl (Keep.cons rfl (Keep.cons rfl (Keep.cons rfl (Keep.cons rfl (Keep.cons rfl (Keep.cons rfl (Keep.cons rfl (Keep.cons rfl (Keep.cons rfl (Keep.cons rfl (Keep.cons rfl (Keep.cons rfl (Keep.cons rfl (Keep.cons rfl (Keep.cons rfl (Keep.cons rfl (Keep.cons rfl (Keep.cons rfl (Keep.cons rfl (Keep.cons rfl (Keep.cons rfl (Keep.cons rfl (Keep.cons rfl (Keep.base)))))))))))))))))))))))))))))))))))))))))))))))))))))⟩)
             | (have hp9 : ¬ lawP x bb := by unfold lawP; omega
                exact ⟨bb, ⟨hno hp9, hh⟩, hf.head True.intro (Keep.cons rfl (Keep.cons rfl (Keep.cons rfl (Keep.cons rfl (Keep.cons rfl (Keep.cons rfl (Keep.cons rfl (Keep.cons rfl (Keep.cons rfl (Keep.cons rfl (Keep.cons rfl (Keep.cons rfl (Keep.cons rfl (Keep.cons rfl (Keep.cons rfl (Keep.cons rfl (Keep.cons rfl (Keep.cons rfl (Keep.cons rfl (Keep.cons rfl (Keep.cons rfl (Keep.cons rfl (Keep.cons rfl (Keep.cons rfl (Keep.cons rfl (Keep.cons rfl (Keep.cons rfl (Keep.cons rfl (Keep.cons rfl (Keep.cons rfl (Keep.cons rfl (Keep.cons rfl (Keep.cons rfl (Keep.cons rfl (Keep.cons rfl (Keep.cons rfl (Keep.cons rfl (Keep.cons rfl (Keep.cons rfl (Keep.cons rfl (Keep.cons rfl (Keep.cons rfl (Keep.cons rfl (Keep.cons rfl (Keep.cons rfl (Keep.cons rfl (Keep.cons rfl (Keep.cons rfl (Keep.cons rfl (Keep.cons rfl (Keep.cons rfl (Keep.cons rfl (Keep.base)))))))))))))))))))))))))))))))))))))))))))))))))))))⟩)
       ·have hG19 := hg19; try simp only [gS] at hG19
        refine o_off hf ?_; clear hf a; intro a hf
        refine o_off hf ?_; clear hf a; intro a hf
        refine o_off hf ?_; clear hf a; intro a hf
        refine o_v hf hh (y_pf rfl rfl) ?_; clear hf a; intro a hf
        refine o_v hf hh (yv_move rfl) ?_; clear hf a; intro a hf
        refine o_v hf hh (y_ia Try.ae_42 rfl rfl) ?_; clear hf a; intro a hf
        refine o_v hf hh (y_ld Try.sc_3 rfl) ?_; clear hf a; intro a hf
        refine o_v hf hh (yv_bin rfl rfl rfl) ?_; clear hf a; intro a hf
        refine o_v hf hh (yv_move rfl) ?_; clear hf a; intro a hf
        refine guard_split hf (t := 71) rfl (fun hg47 => ?_) (fun hg47 => ?_)
        ·have hG47 := hg47; try simp only [gS] at hG47
         refine o_v hf hh (y_ia Try.ae_42 rfl rfl) ?_; clear hf a; intro a hf
         refine o_v hf hh (y_ld Try.sc_3 rfl) ?_; clear hf a; intro a hf
         refine o_v hf hh (yv_bin rfl rfl rfl) ?_; clear hf a; intro a hf
         refine o_v hf hh (y_pt rfl rfl) ?_; clear hf a; intro a hf
         refine o_v hf hh (yv_move rfl) ?_; clear hf a; intro a hf
         refine guard_split hf (t := 76) rfl (fun hg49 => ?_) (fun hg49 => ?_)
         ·have hG49 := hg49; try simp only [gS] at hG49
          refine o_v hf hh (y_ia Try.ae_42 rfl rfl) ?_; clear hf a; intro a hf
          refine o_v hf hh (y_ld Try.sc_3 rfl) ?_; clear hf a; intro a hf
          refine o_v hf hh (y_ia Try.ae_42 rfl rfl) ?_; clear hf a; intro a hf
          refine o_v hf hh (y_ld Try.sc_3 rfl) ?_; clear hf a; intro a hf
          refine o_v hf hh (yv_bin rfl rfl rfl) ?_; clear hf a; intro a hf
          refine o_v hf hh (y_pt rfl rfl) ?_; clear hf a; intro a hf
          refine o_v hf hh (y_pf rfl rfl) ?_; clear hf a; intro a hf
          refine o_v hf hh (yv_move rfl) ?_; clear hf a; intro a hf
          refine guard_split hf (t := 84) rfl (fun hg51 => ?_) (fun hg51 => ?_)
          ·have hG51 := hg51; try simp only [gS] at hG51
           refine o_off hf ?_; clear hf a; intro a hf
           refine o_off hf ?_; clear hf a; intro a hf
           refine o_off hf ?_; clear hf a; intro a hf
           refine o_off hf ?_; clear hf a; intro a hf
           refine o_off hf ?_; clear hf a; intro a hf
           refine o_off hf ?_; clear hf a; intro a hf
           refine o_off hf ?_; clear hf a; intro a hf
           refine o_off hf ?_; clear hf a; intro a hf
           refine o_off hf ?_; clear hf a; intro a hf
           refine o_off hf ?_; clear hf a; intro a hf
           refine o_off hf ?_; clear hf a; intro a hf
           refine o_off hf ?_; clear hf a; intro a hf
           refine o_off hf ?_; clear hf a; intro a hf
           refine o_off hf ?_; clear hf a; intro a hf
           refine o_off hf ?_; clear hf a; intro a hf
           refine o_v hf hh (y_pt rfl rfl) ?_; clear hf a; intro a hf
           refine o_v hf hh (y_pt rfl rfl) ?_; clear hf a; intro a hf
           refine o_v hf hh (y_pf rfl rfl) ?_; clear hf a; intro a hf
           refine o_end ?_
           refine c_t hf ?_
           refine sy_ops ?_
           refine o_v hf hh (y_lds Try.ag_42 rfl) ?_; clear hf a; intro a hf
           refine o_store hf hh Try.sz_42 fun w hh => ?_
           refine ops_end ?_
           refine then_n ?_
           first
             | (have hp9 : lawP x bb := by unfold lawP; omega
                exact ⟨x, ⟨hyes hp9, hh⟩, hf.head True.intro (Keep.cons rfl (Keep.cons rfl (Keep.cons rfl (Keep.cons rfl (Keep.cons rfl (Keep.cons rfl (Keep.cons rfl (Keep.cons rfl (Keep.cons rfl (Keep.cons rfl (Keep.cons rfl (Keep.cons rfl (Keep.cons rfl (Keep.cons rfl (Keep.cons rfl (Keep.cons rfl (Keep.cons rfl (Keep.cons rfl (Keep.cons rfl (Keep.cons rfl (Keep.cons rfl (Keep.cons rfl (Keep.cons rfl (Keep.cons rfl (Keep.cons rfl (Keep.cons rfl (Keep.cons rfl (Keep.cons rfl (Keep.cons rfl (Keep.cons rfl (Keep.cons rfl (Keep.cons rfl (Keep.cons rfl (Keep.cons rfl (Keep.cons rfl (Keep.cons rfl (Keep.cons rfl (Keep.cons rfl (Keep.cons rfl (Keep.cons rfl (Keep.cons rfl (Keep.cons rfl (Keep.cons rfl (Keep.cons rfl (Keep.cons rfl (Keep.cons rfl (Keep.cons rfl (Keep.cons rfl (Keep.cons rfl (Keep.cons rfl (Keep.cons rfl (Keep.cons rfl (Keep.cons rfl (Keep.base))))))))))))))))))))))))))))))))))))))))))))))))))))))⟩)
             | (have hp9 : ¬ lawP x bb := by unfold lawP; omega
                exact ⟨bb, ⟨hno hp9, hh⟩, hf.head True.intro (Keep.cons rfl (Keep.cons rfl (Keep.cons rfl (Keep.cons rfl (Keep.cons rfl (Keep.cons rfl (Keep.cons rfl (Keep.cons rfl (Keep.cons rfl (Keep.cons rfl (Keep.cons rfl (Keep.cons rfl (Keep.cons rfl (Keep.cons rfl (Keep.cons rfl (Keep.cons rfl (Keep.cons rfl (Keep.cons rfl (Keep.cons rfl (Keep.cons rfl (Keep.cons rfl (Keep.cons rfl (Keep.cons rfl (Keep.cons rfl (Keep.cons rfl (Keep.cons rfl (Keep.cons rfl (Keep.cons rfl (Keep.cons rfl (Keep.cons rfl (Keep.cons rfl (Keep.cons rfl (Keep.cons rfl (Keep.cons rfl (Keep.cons rfl (Keep.cons rfl (Keep.cons rfl (Keep.cons rfl (Keep.cons rfl (Keep.cons rfl (Keep.cons rfl (Keep.cons rfl (Keep.cons rfl (Keep.cons rfl (Keep.cons rfl (Keep.cons rfl (Keep.cons rfl (Keep.cons rfl (Keep.cons rfl (Keep.cons rfl (Keep.cons rfl (Keep.cons rfl (Keep.cons rfl (Keep.base))))))))))))))))))))))))))))))))))))))))))))))))))))))⟩)
          ·have hG51 := hg51; try simp only [gS] at hG51
           refine o_v hf hh (y_ia Try.ae_42 rfl rfl) ?_; clear hf a; intro a hf
           refine o_v hf hh (y_ld Try.sc_3 rfl) ?_; clear hf a; intro a hf
           refine o_v hf hh (yv_bin rfl rfl rfl) ?_; clear hf a; intro a hf
           refine o_v hf hh (yv_move rfl) ?_; clear hf a; intro a hf
           refine guard_split hf (t := 88) rfl (fun hg53 => ?_) (fun hg53 => ?_)
           ·have hG53 := hg53; try simp only [gS] at hG53
            refine o_v hf hh (y_ia Try.ae_42 rfl rfl) ?_; clear hf a; intro a hf
            refine o_v hf hh (y_ld Try.sc_3 rfl) ?_; clear hf a; intro a hf
            refine o_v hf hh (yv_bin rfl rfl rfl) ?_; clear hf a; intro a hf
            refine o_v hf hh (y_pt rfl rfl) ?_; clear hf a; intro a hf
            refine o_v hf hh (yv_move rfl) ?_; clear hf a; intro a hf
            refine guard_split hf (t := 93) rfl (fun hg55 => ?_) (fun hg55 => ?_)
            ·have hG55 := hg55; try simp only [gS] at hG55
             refine o_v hf hh (y_ia Try.ae_42 rfl rfl) ?_; clear hf a; intro a hf
             refine o_v hf hh (y_ld Try.sc_3 rfl) ?_; clear hf a; intro a hf
             refine o_v hf hh (y_ia Try.ae_42 rfl rfl) ?_; clear hf a; intro a hf
             refine o_v hf hh (y_ld Try.sc_3 rfl) ?_; clear hf a; intro a hf
             refine o_v hf hh (yv_bin rfl rfl rfl) ?_; clear hf a; intro a hf
             refine o_v hf hh (y_pt rfl rfl) ?_; clear hf a; intro a hf
             refine o_v hf hh (y_pf rfl rfl) ?_; clear hf a; intro a hf
             refine o_v hf hh (y_pt rfl rfl) ?_; clear hf a; intro a hf
             refine o_v hf hh (y_pf rfl rfl) ?_; clear hf a; intro a hf
             refine o_end ?_
             refine sy_cond hf rfl (fun hg57 => ?_) (fun hg57 => ?_)
             ·have hG57 := hg57; try simp only [gS] at hG57
              refine sy_ops ?_
              refine o_v hf hh (y_lds Try.ag_42 rfl) ?_; clear hf a; intro a hf
              refine o_store hf hh Try.sz_42 fun w hh => ?_
              refine ops_end ?_
              refine then_n ?_
              first
                | (have hp9 : lawP x bb := by unfold lawP; omega
                   exact ⟨x, ⟨hyes hp9, hh⟩, hf.head True.intro (Keep.cons rfl (Keep.cons rfl (Keep.cons rfl (Keep.cons rfl (Keep.cons rfl (Keep.cons rfl (Keep.cons rfl (Keep.cons rfl (Keep.cons rfl (Keep.cons rfl (Keep.cons rfl (Keep.cons rfl (Keep.cons rfl (Keep.cons rfl (Keep.cons rfl (Keep.cons rfl (Keep.cons rfl (Keep.cons rfl (Keep.cons rfl (Keep.cons rfl (Keep.cons rfl (Keep.cons rfl (Keep.cons rfl (Keep.cons rfl (Keep.cons rfl (Keep.cons rfl (Keep.cons rfl (Keep.cons rfl (Keep.cons rfl (Keep.cons rfl (Keep.cons rfl (Keep.cons rfl (Keep.cons rfl (Keep.cons rfl (Keep.cons rfl (Keep.cons rfl (Keep.cons rfl (Keep.cons rfl (Keep.cons rfl (Keep.cons rfl (Keep.cons rfl (Keep.cons rfl (Keep.cons rfl (Keep.cons rfl (Keep.cons rfl (Keep.cons rfl (Keep.cons rfl (Keep.cons rfl (Keep.cons rfl (Keep.cons rfl (Keep.cons rfl (Keep.cons rfl (Keep.cons rfl (Keep.base))))))))))))))))))))))))))))))))))))))))))))))))))))))⟩)
                | (have hp9 : ¬ lawP x bb := by unfold lawP; omega
                   exact ⟨bb, ⟨hno hp9, hh⟩, hf.head True.intro (Keep.cons rfl (Keep.cons rfl (Keep.cons rfl (Keep.cons rfl (Keep.cons rfl (Keep.cons rfl (Keep.cons rfl (Keep.cons rfl (Keep.cons rfl (Keep.cons rfl (Keep.cons rfl (Keep.cons rfl (Keep.cons rfl (Keep.cons rfl (Keep.cons rfl (Keep.cons rfl (Keep.cons rfl (Keep.cons rfl (Keep.cons rfl (Keep.cons rfl (Keep.cons rfl (Keep.cons rfl (Keep.cons rfl (Keep.cons rfl (Keep.cons rfl (Keep.cons rfl (Keep.cons rfl (Keep.cons rfl (Keep.cons rfl (Keep.cons rfl (Keep.cons rfl (Keep.cons rfl (Keep.cons rfl (Keep.cons rfl (Keep.cons rfl (Keep.cons rfl (Keep.cons rfl (Keep.cons rfl (Keep.cons rfl (Keep.cons rfl (Keep.cons rfl (Keep.cons rfl (Keep.cons rfl (Keep.cons rfl (Keep.cons rfl (Keep.cons rfl (Keep.cons rfl (Keep.cons rfl (Keep.cons rfl (Keep.cons rfl (Keep.cons rfl (Keep.cons rfl (Keep.cons rfl (Keep.base))))))))))))))))))))))))))))))))))))))))))))))))))))))⟩)
             ·have hG57 := hg57; try simp only [gS] at hG57
              refine sy_skip ?_
              refine then_n ?_
              first
                | (have hp9 : lawP x bb := by unfold lawP; omega
                   exact ⟨x, ⟨hyes hp9, hh⟩, hf.head True.intro (Keep.cons rfl (Keep.cons rfl (Keep.cons rfl (Keep.cons rfl (Keep.cons rfl (Keep.cons rfl (Keep.cons rfl (Keep.cons rfl (Keep.cons rfl (Keep.cons rfl (Keep.cons rfl (Keep.cons rfl (Keep.cons rfl (Keep.cons rfl (Keep.cons rfl (Keep.cons rfl (Keep.cons rfl (Keep.cons rfl (Keep.cons rfl (Keep.cons rfl (Keep.cons rfl (Keep.cons rfl (Keep.cons rfl (Keep.cons rfl (Keep.cons rfl (Keep.cons rfl (Keep.cons rfl (Keep.cons rfl (Keep.cons rfl (Keep.cons rfl (Keep.cons rfl (Keep.cons rfl (Keep.cons rfl (Keep.cons rfl (Keep.cons rfl (Keep.cons rfl (Keep.cons rfl (Keep.cons rfl (Keep.cons rfl (Keep.cons rfl (Keep.cons rfl (Keep.cons rfl (Keep.cons rfl (Keep.cons rfl (Keep.cons rfl (Keep.cons rfl (Keep.cons rfl (Keep.cons rfl (Keep.cons rfl (Keep.cons rfl (Keep.cons rfl (Keep.cons rfl (Keep.base)))))))))))))))))))))))))))))))))))))))))))))))))))))⟩)
                | (have hp9 : ¬ lawP x bb := by unfold lawP; omega
                   exact ⟨bb, ⟨hno hp9, hh⟩, hf.head True.intro (Keep.cons rfl (Keep.cons rfl (Keep.cons rfl (Keep.cons rfl (Keep.cons rfl (Keep.cons rfl (Keep.cons rfl (Keep.cons rfl (Keep.cons rfl (Keep.cons rfl (Keep.cons rfl (Keep.cons rfl (Keep.cons rfl (Keep.cons rfl (Keep.cons rfl (Keep.cons rfl (Keep.cons rfl (Keep.cons rfl (Keep.cons rfl (Keep.cons rfl (Keep.cons rfl (Keep.cons rfl (Keep.cons rfl (Keep.cons rfl (Keep.cons rfl (Keep.cons rfl (Keep.cons rfl (Keep.cons rfl (Keep.cons rfl (Keep.cons rfl (Keep.cons rfl (Keep.cons rfl (Keep.cons rfl (Keep.cons rfl (Keep.cons rfl (Keep.cons rfl (Keep.cons rfl (Keep.cons rfl (Keep.cons rfl (Keep.cons rfl (Keep.cons rfl (Keep.cons rfl (Keep.cons rfl (Keep.cons rfl (Keep.cons rfl (Keep.cons rfl (Keep.cons rfl (Keep.cons rfl (Keep.cons rfl (Keep.cons rfl (Keep.cons rfl (Keep.cons rfl (Keep.base)))))))))))))))))))))))))))))))))))))))))))))))))))))⟩)
            ·have hG55 := hg55; try simp only [gS] at hG55
             refine o_off hf ?_; clear hf a; intro a hf
             refine o_off hf ?_; clear hf a; intro a hf
             refine o_off hf ?_; clear hf a; intro a hf
             refine o_off hf ?_; clear hf a; intro a hf
             refine o_off hf ?_; clear hf a; intro a hf
             refine o_v hf hh (y_pf rfl rfl) ?_; clear hf a; intro a hf
             refine o_v hf hh (y_pf rfl rfl) ?_; clear hf a; intro a hf
             refine o_v hf hh (y_pt rfl rfl) ?_; clear hf a; intro a hf
             refine o_v hf hh (y_pf rfl rfl) ?_; clear hf a; intro a hf
             refine o_end ?_
             refine c_f hf ?_
             refine sy_skip ?_
             refine then_n ?_
             first
               | (have hp9 : lawP x bb := by unfold lawP; omega
                  exact ⟨x, ⟨hyes hp9, hh⟩, hf.head True.intro (Keep.cons rfl (Keep.cons rfl (Keep.cons rfl (Keep.cons rfl (Keep.cons rfl (Keep.cons rfl (Keep.cons rfl (Keep.cons rfl (Keep.cons rfl (Keep.cons rfl (Keep.cons rfl (Keep.cons rfl (Keep.cons rfl (Keep.cons rfl (Keep.cons rfl (Keep.cons rfl (Keep.cons rfl (Keep.cons rfl (Keep.cons rfl (Keep.cons rfl (Keep.cons rfl (Keep.cons rfl (Keep.cons rfl (Keep.cons rfl (Keep.cons rfl (Keep.cons rfl (Keep.cons rfl (Keep.cons rfl (Keep.cons rfl (Keep.cons rfl (Keep.cons rfl (Keep.cons rfl (Keep.cons rfl (Keep.cons rfl (Keep.cons rfl (Keep.cons rfl (Keep.cons rfl (Keep.cons rfl (Keep.cons rfl (Keep.cons rfl (Keep.cons rfl (Keep.cons rfl (Keep.cons rfl (Keep.cons rfl (Keep.cons rfl (Keep.cons rfl (Keep.cons rfl (Keep.cons rfl (Keep.cons rfl (Keep.cons rfl (Keep.cons rfl (Keep.cons rfl (Keep.base)))))))))))))))))))))))))))))))))))))))))))))))))))))⟩)
               | (have hp9 : ¬ lawP x bb := by unfold lawP; omega
                  exact ⟨bb, ⟨hno hp9, hh⟩, hf.head True.intro (Keep.cons rfl (Keep.cons rfl (Keep.cons rfl (Keep.cons rfl (Keep.cons rfl (Keep.cons rfl (Keep.cons rfl (Keep.cons rfl (Keep.cons rfl (Keep.cons rfl (Keep.cons rfl (Keep.cons rfl (Keep.cons rfl (Keep.cons rfl (Keep.cons rfl (Keep.cons rfl (Keep.cons rfl (Keep.cons rfl (Keep.cons rfl (Keep.cons rfl (Keep.cons rfl (Keep.cons rfl (Keep.cons rfl (Keep.cons rfl (Keep.cons rfl (Keep.cons rfl (Keep.cons rfl (Keep.cons rfl (Keep.cons rfl (Keep.cons rfl (Keep.cons rfl (Keep.cons rfl (Keep.cons rfl (Keep.cons rfl (Keep.cons rfl (Keep.cons rfl (Keep.cons rfl (Keep.cons rfl (Keep.cons rfl (Keep.cons rfl (Keep.cons rfl (Keep.cons rfl (Keep.cons rfl (Keep.cons rfl (Keep.cons rfl (Keep.cons rfl (Keep.cons rfl (Keep.cons rfl (Keep.cons rfl (Keep.cons rfl (Keep.cons rfl (Keep.cons rfl (Keep.base)))))))))))))))))))))))))))))))))))))))))))))))))))))⟩)
           ·have hG53 := hg53; try simp only [gS] at hG53
            refine o_off hf ?_; clear hf a; intro a hf
            refine o_off hf ?_; clear hf a; intro a hf
            refine o_off hf ?_; clear hf a; intro a hf
            refine o_v hf hh (y_pf rfl rfl) ?_; clear hf a; intro a hf
            refine o_v hf hh (yv_move rfl) ?_; clear hf a; intro a hf
            refine o_off hf ?_; clear hf a; intro a hf
            refine o_off hf ?_; clear hf a; intro a hf
            refine o_off hf ?_; clear hf a; intro a hf
            refine o_off hf ?_; clear hf a; intro a hf
            refine o_off hf ?_; clear hf a; intro a hf
            refine o_v hf hh (y_pf rfl rfl) ?_; clear hf a; intro a hf
            refine o_v hf hh (y_pf rfl rfl) ?_; clear hf a; intro a hf
            refine o_v hf hh (y_pt rfl rfl) ?_; clear hf a; intro a hf
            refine o_v hf hh (y_pf rfl rfl) ?_; clear hf a; intro a hf
            refine o_end ?_
            refine c_f hf ?_
            refine sy_skip ?_
            refine then_n ?_
            first
              | (have hp9 : lawP x bb := by unfold lawP; omega
                 exact ⟨x, ⟨hyes hp9, hh⟩, hf.head True.intro (Keep.cons rfl (Keep.cons rfl (Keep.cons rfl (Keep.cons rfl (Keep.cons rfl (Keep.cons rfl (Keep.cons rfl (Keep.cons rfl (Keep.cons rfl (Keep.cons rfl (Keep.cons rfl (Keep.cons rfl (Keep.cons rfl (Keep.cons rfl (Keep.cons rfl (Keep.cons rfl (Keep.cons rfl (Keep.cons rfl (Keep.cons rfl (Keep.cons rfl (Keep.cons rfl (Keep.cons rfl (Keep.cons rfl (Keep.cons rfl (Keep.cons rfl (Keep.cons rfl (Keep.cons rfl (Keep.cons rfl (Keep.cons rfl (Keep.cons rfl (Keep.cons rfl (Keep.cons rfl (Keep.cons rfl (Keep.cons rfl (Keep.cons rfl (Keep.cons rfl (Keep.cons rfl (Keep.cons rfl (Keep.cons rfl (Keep.cons rfl (Keep.cons rfl (Keep.cons rfl (Keep.cons rfl (Keep.cons rfl (Keep.cons rfl (Keep.cons rfl (Keep.cons rfl (Keep.cons rfl (Keep.cons rfl (Keep.cons rfl (Keep.cons rfl (Keep.cons rfl (Keep.base)))))))))))))))))))))))))))))))))))))))))))))))))))))⟩)
              | (have hp9 : ¬ lawP x bb := by unfold lawP; omega
                 exact ⟨bb, ⟨hno hp9, hh⟩, hf.head True.intro (Keep.cons rfl (Keep.cons rfl (Keep.cons rfl (Keep.cons rfl (Keep.cons rfl (Keep.cons rfl (Keep.cons rfl (Keep.cons rfl (Keep.cons rfl (Keep.cons rfl (Keep.cons rfl (Keep.cons rfl (Keep.cons rfl (Keep.cons rfl (Keep.cons rfl (Keep.cons rfl (Keep.cons rfl (Keep.cons rfl (Keep.cons rfl (Keep.cons rfl (Keep.cons rfl (Keep.cons rfl (Keep.cons rfl (Keep.cons rfl (Keep.cons rfl (Keep.cons rfl (Keep.cons rfl (Keep.cons rfl (Keep.cons rfl (Keep.cons rfl (Keep.cons rfl (Keep.cons rfl (Keep.cons rfl (Keep.cons rfl (Keep.cons rfl (Keep.cons rfl (Keep.cons rfl (Keep.cons rfl (Keep.cons rfl (Keep.cons rfl (Keep.cons rfl (Keep.cons rfl (Keep.cons rfl (Keep.cons rfl (Keep.cons rfl (Keep.cons rfl (Keep.cons rfl (Keep.cons rfl (Keep.cons rfl (Keep.cons rfl (Keep.cons rfl (Keep.cons rfl (Keep.base)))))))))))))))))))))))))))))))))))))))))))))))))))))⟩)
         ·have hG49 := hg49; try simp only [gS] at hG49
          refine o_off hf ?_; clear hf a; intro a hf
          refine o_off hf ?_; clear hf a; intro a hf
          refine o_off hf ?_; clear hf a; intro a hf
          refine o_off hf ?_; clear hf a; intro a hf
          refine o_off hf ?_; clear hf a; intro a hf
          refine o_v hf hh (y_pf rfl rfl) ?_; clear hf a; intro a hf
          refine o_v hf hh (y_pf rfl rfl) ?_; clear hf a; intro a hf
          refine o_v hf hh (yv_move rfl) ?_; clear hf a; intro a hf
          refine o_v hf hh (y_ia Try.ae_42 rfl rfl) ?_; clear hf a; intro a hf
          refine o_v hf hh (y_ld Try.sc_3 rfl) ?_; clear hf a; intro a hf
          refine o_v hf hh (yv_bin rfl rfl rfl) ?_; clear hf a; intro a hf
          refine o_v hf hh (yv_move rfl) ?_; clear hf a; intro a hf
          refine guard_split hf (t := 88) rfl (fun hg59 => ?_) (fun hg59 => ?_)
          ·have hG59 := hg59; try simp only [gS] at hG59
           refine o_v hf hh (y_ia Try.ae_42 rfl rfl) ?_; clear hf a; intro a hf
           refine o_v hf hh (y_ld Try.sc_3 rfl) ?_; clear hf a; intro a hf
           refine o_v hf hh (yv_bin rfl rfl rfl) ?_; clear hf a; intro a hf
           refine o_v hf hh (y_pt rfl rfl) ?_; clear hf a; intro a hf
           refine o_v hf hh (yv_move rfl) ?_; clear hf a; intro a hf
           refine guard_split hf (t := 93) rfl (fun hg61 => ?_) (fun hg61 => ?_)
           ·have hG61 := hg61; try simp only [gS] at hG61
            refine o_v hf hh (y_ia Try.ae_42 rfl rfl) ?_; clear hf a; intro a hf
            refine o_v hf hh (y_ld Try.sc_3 rfl) ?_; clear hf a; intro a hf
            refine o_v hf hh (y_ia Try.ae_42 rfl rfl) ?_; clear hf a; intro a hf
            refine o_v hf hh (y_ld Try.sc_3 rfl) ?_; clear hf a; intro a hf
            refine o_v hf hh (yv_bin rfl rfl rfl) ?_; clear hf a; intro a hf
            refine o_v hf hh (y_pt rfl rfl) ?_; clear hf a; intro a hf
            refine o_v hf hh (y_pf rfl rfl) ?_; clear hf a; intro a hf
            refine o_v hf hh (y_pt rfl rfl) ?_; clear hf a; intro a hf
            refine o_v hf hh (y_pf rfl rfl) ?_; clear hf a; intro a hf
            refine o_end ?_
            refine sy_cond hf rfl (fun hg63 => ?_) (fun hg63 => ?_)
            ·have hG63 := hg63; try simp only [gS] at hG63
             refine sy_ops ?_
             refine o_v hf hh (y_lds Try.ag_42 rfl) ?_; clear hf a; intro a hf
             refine o_store hf hh Try.sz_42 fun w hh => ?_
             refine ops_end ?_
             refine then_n ?_
             first
               | (have hp9 : lawP x bb := by unfold lawP; omega
                  exact ⟨x, ⟨hyes hp9, hh⟩, hf.head True.intro (Keep.cons rfl (Keep.cons rfl (Keep.cons rfl (Keep.cons rfl (Keep.cons rfl (Keep.cons rfl (Keep.cons rfl (Keep.cons rfl (Keep.cons rfl (Keep.cons rfl (Keep.cons rfl (Keep.cons rfl (Keep.cons rfl (Keep.cons rfl (Keep.cons rfl (Keep.cons rfl (Keep.cons rfl (Keep.cons rfl (Keep.cons rfl (Keep.cons rfl (Keep.cons rfl (Keep.cons rfl (Keep.cons rfl (Keep.cons rfl (Keep.cons rfl (Keep.cons rfl (Keep.cons rfl (Keep.cons rfl (Keep.cons rfl (Keep.cons rfl (Keep.cons rfl (Keep.cons rfl (Keep.cons rfl (Keep.cons rfl (Keep.cons rfl (Keep.cons rfl (Keep.cons rfl (Keep.cons rfl (Keep.cons rfl (Keep.cons rfl (Keep.cons rfl (Keep.cons rfl (Keep.cons rfl (Keep.cons rfl (Keep.cons rfl (Keep.cons rfl (Keep.cons rfl (Keep.cons rfl (Keep.cons rfl (Keep.cons rfl (Keep.cons rfl (Keep.cons rfl (Keep.cons rfl (Keep.base))))))))))))))))))))))))))))))))))))))))))))))))))))))⟩)
               | (have hp9 : ¬ lawP x bb := by unfold lawP; omega
                  exact ⟨bb, ⟨hno hp9, hh⟩, hf.head True.intro (Keep.cons rfl (Keep.cons rfl (Keep.cons rfl (Keep.cons rfl (Keep.cons rfl (Keep.cons rfl (Keep.cons rfl (Keep.cons rfl (Keep.cons rfl (Keep.cons rfl (Keep.cons rfl (Keep.cons rfl (Keep.cons rfl (Keep.cons rfl (Keep.cons rfl (Keep.cons rfl (Keep.cons rfl (Keep.cons rfl (Keep.cons rfl (Keep.cons rfl (Keep.cons rfl (Keep.cons rfl (Keep.cons rfl (Keep.cons rfl (Keep.cons rfl (Keep.cons rfl (Keep.cons rfl (Keep.cons rfl (Keep.cons rfl (Keep.cons rfl (Keep.cons rfl (Keep.cons rfl (Keep.cons rfl (Keep.cons rfl (Keep.cons rfl (Keep.cons rfl (Keep.cons rfl (Keep.cons rfl (Keep.cons rfl (Keep.cons rfl (Keep.cons rfl (Keep.cons rfl (Keep.cons rfl (Keep.cons rfl (Keep.cons rfl (Keep.cons rfl (Keep.cons rfl (Keep.cons rfl (Keep.cons rfl (Keep.cons rfl (Keep.cons rfl (Keep.cons rfl (Keep.cons rfl (Keep.base))))))))))))))))))))))))))))))))))))))))))))))))))))))⟩)
            ·have hG63 := hg63; try simp only [gS] at hG63
             refine sy_skip ?_
             refine then_n ?_
             first
               | (have hp9 : lawP x bb := by unfold lawP; omega
                  exact ⟨x, ⟨hyes hp9, hh⟩, hf.head True.intro (Keep.cons rfl (Keep.cons rfl (Keep.cons rfl (Keep.cons rfl (Keep.cons rfl (Keep.cons rfl (Keep.cons rfl (Keep.cons rfl (Keep.cons rfl (Keep.cons rfl (Keep.cons rfl (Keep.cons rfl (Keep.cons rfl (Keep.cons rfl (Keep.cons rfl (Keep.cons rfl (Keep.cons rfl (Keep.cons rfl (Keep.cons rfl (Keep.cons rfl (Keep.cons rfl (Keep.cons rfl (Keep.cons rfl (Keep.cons rfl (Keep.cons rfl (Keep.cons rfl (Keep.cons rfl (Keep.cons rfl (Keep.cons rfl (Keep.cons rfl (Keep.cons rfl (Keep.cons rfl (Keep.cons rfl (Keep.cons rfl (Keep.cons rfl (Keep.cons rfl (Keep.cons rfl (Keep.cons rfl (Keep.cons rfl (Keep.cons rfl (Keep.cons rfl (Keep.cons rfl (Keep.cons rfl (Keep.cons rfl (Keep.cons rfl (Keep.cons rfl (Keep.cons rfl (Keep.cons rfl (Keep.cons rfl (Keep.cons rfl (Keep.cons rfl (Keep.cons rfl (Keep.base)))))))))))))))))))))))))))))))))))))))))))))))))))))⟩)
               | (have hp9 : ¬ lawP x bb := by unfold lawP; omega
                  exact ⟨bb, ⟨hno hp9, hh⟩, hf.head True.intro (Keep.cons rfl (Keep.cons rfl (Keep.cons rfl (Keep.cons rfl (Keep.cons rfl (Keep.cons rfl (Keep.cons rfl (Keep.cons rfl (Keep.cons rfl (Keep.cons rfl (Keep.cons rfl (Keep.cons rfl (Keep.cons rfl (Keep.cons rfl (Keep.cons rfl (Keep.cons rfl (Keep.cons rfl (Keep.cons rfl (Keep.cons rfl (Keep.cons rfl (Keep.cons rfl (Keep.cons rfl (Keep.cons rfl (Keep.cons rfl (Keep.cons rfl (Keep.cons rfl (Keep.cons rfl (Keep.cons rfl (Keep.cons rfl (Keep.cons rfl (Keep.cons rfl (Keep.cons rfl (Keep.cons rfl (Keep.cons rfl (Keep.cons rfl (Keep.cons rfl (Keep.cons rfl (Keep.cons rfl (Keep.cons rfl (Keep.cons rfl (Keep.cons rfl (Keep.cons rfl (Keep.cons rfl (Keep.cons rfl (Keep.cons rfl (Keep.cons rfl (Keep.cons rfl (Keep.cons rfl (Keep.cons rfl (Keep.cons rfl (Keep.cons rfl (Keep.cons rfl (Keep.base)))))))))))))))))))))))))))))))))))))))))))))))))))))⟩)
           ·have hG61 := hg61; try simp only [gS] at hG61
            refine o_off hf ?_; clear hf a; intro a hf
            refine o_off hf ?_; clear hf a; intro a hf
            refine o_off hf ?_; clear hf a; intro a hf
            refine o_off hf ?_; clear hf a; intro a hf
            refine o_off hf ?_; clear hf a; intro a hf
            refine o_v hf hh (y_pf rfl rfl) ?_; clear hf a; intro a hf
            refine o_v hf hh (y_pf rfl rfl) ?_; clear hf a; intro a hf
            refine o_v hf hh (y_pt rfl rfl) ?_; clear hf a; intro a hf
            refine o_v hf hh (y_pf rfl rfl) ?_; clear hf a; intro a hf
            refine o_end ?_
            refine c_f hf ?_
            refine sy_skip ?_
            refine then_n ?_
            first
              | (have hp9 : lawP x bb := by unfold lawP; omega
                 exact ⟨x, ⟨hyes hp9, hh⟩, hf.head True.intro (Keep.cons rfl (Keep.cons rfl (Keep.cons rfl (Keep.cons rfl (Keep.cons rfl (Keep.cons rfl (Keep.cons rfl (Keep.cons rfl (Keep.cons rfl (Keep.cons rfl (Keep.cons rfl (Keep.cons rfl (Keep.cons rfl (Keep.cons rfl (Keep.cons rfl (Keep.cons rfl (Keep.cons rfl (Keep.cons rfl (Keep.cons rfl (Keep.cons rfl (Keep.cons rfl (Keep.cons rfl (Keep.cons rfl (Keep.cons rfl (Keep.cons rfl (Keep.cons rfl (Keep.cons rfl (Keep.cons rfl (Keep.cons rfl (Keep.cons rfl (Keep.cons rfl (Keep.cons rfl (Keep.cons rfl (Keep.cons rfl (Keep.cons rfl (Keep.cons rfl (Keep.cons rfl (Keep.cons rfl (Keep.cons rfl (Keep.cons rfl (Keep.cons rfl (Keep.cons rfl (Keep.cons rfl (Keep.cons rfl (Keep.cons rfl (Keep.cons rfl (Keep.cons rfl (Keep.cons rfl (Keep.cons rfl (Keep.cons rfl (Keep.cons rfl (Keep.cons rfl (Keep.base)))))))))))))))))))))))))))))))))))))))))))))))))))))⟩)
              | (have hp9 : ¬ lawP x bb := by unfold lawP; omega
                 exact ⟨bb, ⟨hno hp9, hh⟩, hf.head True.intro (Keep.cons rfl (Keep.cons rfl (Keep.cons rfl (Keep.cons rfl (Keep.cons rfl (Keep.cons rfl (Keep.cons rfl (Keep.cons rfl (Keep.cons rfl (Keep.cons rfl (Keep.cons rfl (Keep.cons rfl (Keep.cons rfl (Keep.cons rfl (Keep.cons rfl (Keep.cons rfl (Keep.cons rfl (Keep.cons rfl (Keep.cons rfl (Keep.cons rfl (Keep.cons rfl (Keep.cons rfl (Keep.cons rfl (Keep.cons rfl (Keep.cons rfl (Keep.cons rfl (Keep.cons rfl (Keep.cons rfl (Keep.cons rfl (Keep.cons rfl (Keep.cons rfl (Keep.cons rfl (Keep.cons rfl (Keep.cons rfl (Keep.cons rfl (Keep.cons rfl (Keep.cons rfl (Keep.cons rfl (Keep.cons rfl (Keep.cons rfl (Keep.cons rfl (Keep.cons rfl (Keep.cons rfl (Keep.cons rfl (Keep.cons rfl (Keep.cons rfl (Keep.cons rfl (Keep.cons rfl (Keep.cons rfl (Keep.cons rfl (Keep.cons rfl (Keep.cons rfl (Keep.base)))))))))))))))))))))))))))))))))))))))))))))))))))))⟩)
          ·have hG59 := hg59; try simp only [gS] at hG59
           refine o_off hf ?_; clear hf a; intro a hf
           refine o_off hf ?_; clear hf a; intro a hf
           refine o_off hf ?_; clear hf a; intro a hf
           refine o_v hf hh (y_pf rfl rfl) ?_; clear hf a; intro a hf
           refine o_v hf hh (yv_move rfl) ?_; clear hf a; intro a hf
           refine o_off hf ?_; clear hf a; intro a hf
           refine o_off hf ?_; clear hf a; intro a hf
           refine o_off hf ?_; clear hf a; intro a hf
           refine o_off hf ?_; clear hf a; intro a hf
           refine o_off hf ?_; clear hf a; intro a hf
           refine o_v hf hh (y_pf rfl rfl) ?_; clear hf a; intro a hf
           refine o_v hf hh (y_pf rfl rfl) ?_; clear hf a; intro a hf
           refine o_v hf hh (y_pt rfl rfl) ?_; clear hf a; intro a hf
           refine o_v hf hh (y_pf rfl rfl) ?_; clear hf a; intro a hf
           refine o_end ?_
           refine c_f hf ?_
           refine sy_skip ?_
           refine then_n ?_
           first
             | (have hp9 : lawP x bb := by unfold lawP; omega
                exact ⟨x, ⟨hyes hp9, hh⟩, hf.head True.intro (Keep.cons rfl (Keep.cons rfl (Keep.cons rfl (Keep.cons rfl (Keep.cons rfl (Keep.cons rfl (Keep.cons rfl (Keep.cons rfl (Keep.cons rfl (Keep.cons rfl (Keep.cons rfl (Keep.cons rfl (Keep.cons rfl (Keep.cons rfl (Keep.cons rfl (Keep.cons rfl (Keep.cons rfl (Keep.cons rfl (Keep.cons rfl (Keep.cons rfl (Keep.cons rfl (Keep.cons rfl (Keep.cons rfl (Keep.cons rfl (Keep.cons rfl (Keep.cons rfl (Keep.cons rfl (Keep.cons rfl (Keep.cons rfl (Keep.cons rfl (Keep.cons rfl (Keep.cons rfl (Keep.cons rfl (Keep.cons rfl (Keep.cons rfl (Keep.cons rfl (Keep.cons rfl (Keep.cons rfl (Keep.cons rfl (Keep.cons rfl (Keep.cons rfl (Keep.cons rfl (Keep.cons rfl (Keep.cons rfl (Keep.cons rfl (Keep.cons rfl (Keep.cons rfl (Keep.cons rfl (Keep.cons rfl (Keep.cons rfl (Keep.cons rfl (Keep.cons rfl (Keep.base)))))))))))))))))))))))))))))))))))))))))))))))))))))⟩)
             | (have hp9 : ¬ lawP x bb := by unfold lawP; omega
                exact ⟨bb, ⟨hno hp9, hh⟩, hf.head True.intro (Keep.cons rfl (Keep.cons rfl (Keep.cons rfl (Keep.cons rfl (Keep.cons rfl (Keep.cons rfl (Keep.cons rfl (Keep.cons rfl (Keep.cons rfl (Keep.cons rfl (Keep.cons rfl (Keep.cons rfl (Keep.cons rfl (Keep.cons rfl (Keep.cons rfl (Keep.cons rfl (Keep.cons rfl (Keep.cons rfl (Keep.cons rfl (Keep.cons rfl (Keep.cons rfl (Keep.cons rfl (Keep.cons rfl (Keep.cons rfl (Keep.cons rfl (Keep.cons rfl (Keep.cons rfl (Keep.cons rfl (Keep.cons rfl (Keep.cons rfl (Keep.cons rfl (Keep.cons rfl (Keep.cons rfl (Keep.cons rfl (Keep.cons rfl (Keep.cons rfl (Keep.cons rfl (Keep.cons rfl (Keep.cons rfl (Keep.cons rfl (Keep.cons rfl (Keep.cons rfl (Keep.cons rfl (Keep.cons rfl (Keep.cons rfl (Keep.cons rfl (Keep.cons rfl (Keep.cons rfl (Keep.cons rfl (Keep.cons rfl (Keep.cons rfl (Keep.cons rfl (Keep.base)))))))))))))))))))))))))))))))))))))))))))))))))))))⟩)
        ·have hG47 := hg47; try simp only [gS] at hG47
         refine o_off hf ?_; clear hf a; intro a hf
         refine o_off hf ?_; clear hf a; intro a hf
         refine o_off hf ?_; clear hf a; intro a hf
         refine o_v hf hh (y_pf rfl rfl) ?_; clear hf a; intro a hf
         refine o_v hf hh (yv_move rfl) ?_; clear hf a; intro a hf
         refine o_off hf ?_; clear hf a; intro a hf
         refine o_off hf ?_; clear hf a; intro a hf
         refine o_off hf ?_; clear hf a; intro a hf
         refine o_off hf ?_; clear hf a; intro a hf
         refine o_off hf ?_; clear hf a; intro a hf
         refine o_v hf hh (y_pf rfl rfl) ?_; clear hf a; intro a hf
         refine o_v hf hh (y_pf rfl rfl) ?_; clear hf a; intro a hf
         refine o_v hf hh (yv_move rfl) ?_; clear hf a; intro a hf
         refine o_v hf hh (y_ia Try.ae_42 rfl rfl) ?_; clear hf a; intro a hf
         refine o_v hf hh (y_ld Try.sc_3 rfl) ?_; clear hf a; intro a hf
         refine o_v hf hh (yv_bin rfl rfl rfl) ?_; clear hf a; intro a hf
         refine o_v hf hh (yv_move rfl) ?_; clear hf a; intro a hf
         refine guard_split hf (t := 88) rfl (fun hg65 => ?_) (fun hg65 => ?_)
         ·have hG65 := hg65; try simp only [gS] at hG65
          refine o_v hf hh (y_ia Try.ae_42 rfl rfl) ?_; clear hf a; intro a hf
          refine o_v hf hh (y_ld Try.sc_3 rfl) ?_; clear hf a; intro a hf
          refine o_v hf hh (yv_bin rfl rfl rfl) ?_; clear hf a; intro a hf
          refine o_v hf hh (y_pt rfl rfl) ?_; clear hf a; intro a hf
          refine o_v hf hh (yv_move rfl) ?_; clear hf a; intro a hf
          refine guard_split hf (t := 93) rfl (fun hg67 => ?_) (fun hg67 => ?_)
          ·have hG67 := hg67; try simp only [gS] at hG67
           refine o_v hf hh (y_ia Try.ae_42 rfl rfl) ?_; clear hf a; intro a hf
           refine o_v hf hh (y_ld Try.sc_3 rfl) ?_; clear hf a; intro a hf
           refine o_v hf hh (y_ia Try.ae_42 rfl rfl) ?_; clear hf a; intro a hf
           refine o_v hf hh (y_ld Try.sc_3 rfl) ?_; clear hf a; intro a hf
           refine o_v hf hh (yv_bin rfl rfl rfl) ?_; clear hf a; intro a hf
           refine o_v hf hh (y_pt rfl rfl) ?_; clear hf a; intro a hf
           refine o_v hf hh (y_pf rfl rfl) ?_; clear hf a; intro a hf
           refine o_v hf hh (y_pt rfl rfl) ?_; clear hf a; intro a hf
           refine o_v hf hh (y_pf rfl rfl) ?_; clear hf a; intro a hf
           refine o_end ?_
           refine sy_cond hf rfl (fun hg69 => ?_) (fun hg69 => ?_)
           ·have hG69 := hg69; try simp only [gS] at hG69
            refine sy_ops ?_
            refine o_v hf hh (y_lds Try.ag_42 rfl) ?_; clear hf a; intro a hf
            refine o_store hf hh Try.sz_42 fun w hh => ?_
            refine ops_end ?_
            refine then_n ?_
            first
              | (have hp9 : lawP x bb := by unfold lawP; omega
                 exact ⟨x, ⟨hyes hp9, hh⟩, hf.head True.intro (Keep.cons rfl (Keep.cons rfl (Keep.cons rfl (Keep.cons rfl (Keep.cons rfl (Keep.cons rfl (Keep.cons rfl (Keep.cons rfl (Keep.cons rfl (Keep.cons rfl (Keep.cons rfl (Keep.cons rfl (Keep.cons rfl (Keep.cons rfl (Keep.cons rfl (Keep.cons rfl (Keep.cons rfl (Keep.cons rfl (Keep.cons rfl (Keep.cons rfl (Keep.cons rfl (Keep.cons rfl (Keep.cons rfl (Keep.cons rfl (Keep.cons rfl (Keep.cons rfl (Keep.cons rfl (Keep.cons rfl (Keep.cons rfl (Keep.cons rfl (Keep.cons rfl (Keep.cons rfl (Keep.cons rfl (Keep.cons rfl (Keep.cons rfl (Keep.cons rfl (Keep.cons rfl (Keep.cons rfl (Keep.cons rfl (Keep.cons rfl (Keep.cons rfl (Keep.cons rfl (Keep.cons rfl (Keep.cons rfl (Keep.cons rfl (Keep.cons rfl (Keep.cons rfl (Keep.cons rfl (Keep.cons rfl (Keep.cons rfl (Keep.cons rfl (Keep.cons rfl (Keep.cons rfl (Keep.base))))))))))))))))))))))))))))))))))))))))))))))))))))))⟩)
              | (have hp9 : ¬ lawP x bb := by unfold lawP; omega
                 exact ⟨bb, ⟨hno hp9, hh⟩, hf.head True.intro (Keep.cons rfl (Keep.cons rfl (Keep.cons rfl (Keep.cons rfl (Keep.cons rfl (Keep.cons rfl (Keep.cons rfl (Keep.cons rfl (Keep.cons rfl (Keep.cons rfl (Keep.cons rfl (Keep.cons rfl (Keep.cons rfl (Keep.cons rfl (Keep.cons rfl (Keep.cons rfl (Keep.cons rfl (Keep.cons rfl (Keep.cons rfl (Keep.cons rfl (Keep.cons rfl (Keep.cons rfl (Keep.cons rfl (Keep.cons rfl (Keep.cons rfl (Keep.cons rfl (Keep.cons rfl (Keep.cons rfl (Keep.cons rfl (Keep.cons rfl (Keep.cons rfl (Keep.cons rfl (Keep.cons rfl (Keep.cons rfl (Keep.cons rfl (Keep.cons rfl (Keep.cons rfl (Keep.cons rfl (Keep.cons rfl (Keep.cons rfl (Keep.cons rfl (Keep.cons rfl (Keep.cons rfl (Keep.cons rfl (Keep.cons rfl (Keep.cons rfl (Keep.cons rfl (Keep.cons rfl (Keep.cons rfl (Keep.cons rfl (Keep.cons rfl (Keep.cons rfl (Keep.cons rfl (Keep.base))))))))))))))))))))))))))))))))))))))))))))))))))))))⟩)
           ·have hG69 := hg69; try simp only [gS] at hG69
            refine sy_skip ?_
            refine then_n ?_
            first
              | (have hp9 : lawP x bb := by unfold lawP; omega
                 exact ⟨x, ⟨hyes hp9, hh⟩, hf.head True.intro (Keep.cons rfl (Keep.cons rfl (Keep.cons rfl (Keep.cons rfl (Keep.cons rfl (Keep.cons rfl (Keep.cons rfl (Keep.cons rfl (Keep.cons rfl (Keep.cons rfl (Keep.cons rfl (Keep.cons rfl (Keep.cons rfl (Keep.cons rfl (Keep.cons rfl (Keep.cons rfl (Keep.cons rfl (Keep.cons rfl (Keep.cons rfl (Keep.cons rfl (Keep.cons rfl (Keep.cons rfl (Keep.cons rfl (Keep.cons rfl (Keep.cons rfl (Keep.cons rfl (Keep.cons rfl (Keep.cons rfl (Keep.cons rfl (Keep.cons rfl (Keep.cons rfl (Keep.cons rfl (Keep.cons rfl (Keep.cons rfl (Keep.cons rfl (Keep.cons rfl (Keep.cons rfl (Keep.cons rfl (Keep.cons rfl (Keep.cons rfl (Keep.cons rfl (Keep.cons rfl (Keep.cons rfl (Keep.cons rfl (Keep.cons rfl (Keep.cons rfl (Keep.cons rfl (Keep.cons rfl (Keep.cons rfl (Keep.cons rfl (Keep.cons rfl (Keep.cons rfl (Keep.base)))))))))))))))))))))))))))))))))))))))))))))))))))))⟩)
              | (have hp9 : ¬ lawP x bb := by unfold lawP; omega
                 exact ⟨bb, ⟨hno hp9, hh⟩, hf.head True.intro (Keep.cons rfl (Keep.cons rfl (Keep.cons rfl (Keep.cons rfl (Keep.cons rfl (Keep.cons rfl (Keep.cons rfl (Keep.cons rfl (Keep.cons rfl (Keep.cons rfl (Keep.cons rfl (Keep.cons rfl (Keep.cons rfl (Keep.cons rfl (Keep.cons rfl (Keep.cons rfl (Keep.cons rfl (Keep.cons rfl (Keep.cons rfl (Keep.cons rfl (Keep.cons rfl (Keep.cons rfl (Keep.cons rfl (Keep.cons rfl (Keep.cons rfl (Keep.cons rfl (Keep.cons rfl (Keep.cons rfl (Keep.cons rfl (Keep.cons rfl (Keep.cons rfl (Keep.cons rfl (Keep.cons rfl (Keep.cons rfl (Keep.cons rfl (Keep.cons rfl (Keep.cons rfl (Keep.cons rfl (Keep.cons rfl (Keep.cons rfl (Keep.cons rfl (Keep.cons rfl (Keep.cons rfl (Keep.cons rfl (Keep.cons rfl (Keep.cons rfl (Keep.cons rfl (Keep.cons rfl (Keep.cons rfl (Keep.cons rfl (Keep.cons rfl (Keep.cons rfl (Keep.base)))))))))))))))))))))))))))))))))))))))))))))))))))))⟩)
          ·have hG67 := hg67; try simp only [gS] at hG67
           refine o_off hf ?_; clear hf a; intro a hf
           refine o_off hf ?_; clear hf a; intro a hf
           refine o_off hf ?_; clear hf a; intro a hf
           refine o_off hf ?_; clear hf a; intro a hf
           refine o_off hf ?_; clear hf a; intro a hf
           refine o_v hf hh (y_pf rfl rfl) ?_; clear hf a; intro a hf
           refine o_v hf hh (y_pf rfl rfl) ?_; clear hf a; intro a hf
           refine o_v hf hh (y_pt rfl rfl) ?_; clear hf a; intro a hf
           refine o_v hf hh (y_pf rfl rfl) ?_; clear hf a; intro a hf
           refine o_end ?_
           refine c_f hf ?_
           refine sy_skip ?_
           refine then_n ?_
           first
             | (have hp9 : lawP x bb := by unfold lawP; omega
                exact ⟨x, ⟨hyes hp9, hh⟩, hf.head True.intro (Keep.cons rfl (Keep.cons rfl (Keep.cons rfl (Keep.cons rfl (Keep.cons rfl (Keep.cons rfl (Keep.cons rfl (Keep.cons rfl (Keep.cons rfl (Keep.cons rfl (Keep.cons rfl (Keep.cons rfl (Keep.cons rfl (Keep.cons rfl (Keep.cons rfl (Keep.cons rfl (Keep.cons rfl (Keep.cons rfl (Keep.cons rfl (Keep.cons rfl (Keep.cons rfl (Keep.cons rfl (Keep.cons rfl (Keep.cons rfl (Keep.cons rfl (Keep.cons rfl (Keep.cons rfl (Keep.cons rfl (Keep.cons rfl (Keep.cons rfl (Keep.cons rfl (Keep.cons rfl (Keep.cons rfl (Keep.cons rfl (Keep.cons rfl (Keep.cons rfl (Keep.cons rfl (Keep.cons rfl (Keep.cons rfl (Keep.cons rfl (Keep.cons rfl (Keep.cons rfl (Keep.cons rfl (Keep.cons rfl (Keep.cons rfl (Keep.cons rfl (Keep.cons rfl (Keep.cons rfl (Keep.cons rfl (Keep.cons rfl (Keep.cons rfl (Keep.cons rfl (Keep.base)))))))))))))))))))))))))))))))))))))))))))))))))))))⟩)
             | (have hp9 : ¬ lawP x bb := by unfold lawP; omega
                exact ⟨bb, ⟨hno hp9, hh⟩, hf.head True.intro (Keep.cons rfl (Keep.cons rfl (Keep.cons rfl (Keep.cons rfl (Keep.cons rfl (Keep.cons rfl (Keep.cons rfl (Keep.cons rfl (Keep.cons rfl (Keep.cons rfl (Keep.cons rfl (Keep.cons rfl (Keep.cons rfl (Keep.cons rfl (Keep.cons rfl (Keep.cons rfl (Keep.cons rfl (Keep.cons rfl (Keep.cons rfl (Keep.cons rfl (Keep.cons rfl (Keep.cons rfl (Keep.cons rfl (Keep.cons rfl (Keep.cons rfl (Keep.cons rfl (Keep.cons rfl (Keep.cons rfl (Keep.cons rfl (Keep.cons rfl (Keep.cons rfl (Keep.cons rfl (Keep.cons rfl (Keep.cons rfl (Keep.cons rfl (Keep.cons rfl (Keep.cons rfl (Keep.cons rfl (Keep.cons rfl (Keep.cons rfl (Keep.cons rfl (Keep.cons rfl (Keep.cons rfl (Keep.cons rfl (Keep.cons rfl (Keep.cons rfl (Keep.cons rfl (Keep.cons rfl (Keep.cons rfl (Keep.cons rfl (Keep.cons rfl (Keep.cons rfl (Keep.base)))))))))))))))))))))))))))))))))))))))))))))))))))))⟩)
         ·have hG65 := hg65; try simp only [gS] at hG65
          refine o_off hf ?_; clear hf a; intro a hf
          refine o_off hf ?_; clear hf a; intro a hf
          refine o_off hf ?_; clear hf a; intro a hf
          refine o_v hf hh (y_pf rfl rfl) ?_; clear hf a; intro a hf
          refine o_v hf hh (yv_move rfl) ?_; clear hf a; intro a hf
          refine o_off hf ?_; clear hf a; intro a hf
          refine o_off hf ?_; clear hf a; intro a hf
          refine o_off hf ?_; clear hf a; intro a hf
          refine o_off hf ?_; clear hf a; intro a hf
          refine o_off hf ?_; clear hf a; intro a hf
          refine o_v hf hh (y_pf rfl rfl) ?_; clear hf a; intro a hf
          refine o_v hf hh (y_pf rfl rfl) ?_; clear hf a; intro a hf
          refine o_v hf hh (y_pt rfl rfl) ?_; clear hf a; intro a hf
          refine o_v hf hh (y_pf rfl rfl) ?_; clear hf a; intro a hf
          refine o_end ?_
          refine c_f hf ?_
          refine sy_skip ?_
          refine then_n ?_
          first
            | (have hp9 : lawP x bb := by unfold lawP; omega
               exact ⟨x, ⟨hyes hp9, hh⟩, hf.head True.intro (Keep.cons rfl (Keep.cons rfl (Keep.cons rfl (Keep.cons rfl (Keep.cons rfl (Keep.cons rfl (Keep.cons rfl (Keep.cons rfl (Keep.cons rfl (Keep.cons rfl (Keep.cons rfl (Keep.cons rfl (Keep.cons rfl (Keep.cons rfl (Keep.cons rfl (Keep.cons rfl (Keep.cons rfl (Keep.cons rfl (Keep.cons rfl (Keep.cons rfl (Keep.cons rfl (Keep.cons rfl (Keep.cons rfl (Keep.cons rfl (Keep.cons rfl (Keep.cons rfl (Keep.cons rfl (Keep.cons rfl (Keep.cons rfl (Keep.cons rfl (Keep.cons rfl (Keep.cons rfl (Keep.cons rfl (Keep.cons rfl (Keep.cons rfl (Keep.cons rfl (Keep.cons rfl (Keep.cons rfl (Keep.cons rfl (Keep.cons rfl (Keep.cons rfl (Keep.cons rfl (Keep.cons rfl (Keep.cons rfl (Keep.cons rfl (Keep.cons rfl (Keep.cons rfl (Keep.cons rfl (Keep.cons rfl (Keep.cons rfl (Keep.cons rfl (Keep.cons rfl (Keep.base)))))))))))))))))))))))))))))))))))))))))))))))))))))⟩)
            | (have hp9 : ¬ lawP x bb := by unfold lawP; omega
               exact ⟨bb, ⟨hno hp9, hh⟩, hf.head True.intro (Keep.cons rfl (Keep.cons rfl (Keep.cons rfl (Keep.cons rfl (Keep.cons rfl (Keep.cons rfl (Keep.cons rfl (Keep.cons rfl (Keep.cons rfl (Keep.cons rfl (Keep.cons rfl (Keep.cons rfl (Keep.cons rfl (Keep.cons rfl (Keep.cons rfl (Keep.cons rfl (Keep.cons rfl (Keep.cons rfl (Keep.cons rfl (Keep.cons rfl (Keep.cons rfl (Keep.cons rfl (Keep.cons rfl (Keep.cons rfl (Keep.cons rfl (Keep.cons rfl (Keep.cons rfl (Keep.cons rfl (Keep.cons rfl (Keep.cons rfl (Keep.cons rfl (Keep.cons rfl (Keep.cons rfl (Keep.cons rfl (Keep.cons rfl (Keep.cons rfl (Keep.cons rfl (Keep.cons rfl (Keep.cons rfl (Keep.cons rfl (Keep.cons rfl (Keep.cons rfl (Keep.cons rfl (Keep.cons rfl (Keep.cons rfl (Keep.cons rfl (Keep.cons rfl (Keep.cons rfl (Keep.cons rfl (Keep.cons rfl (Keep.cons rfl (Keep.cons rfl (Keep.base)))))))))))))))))))))))))))))))))))))))))))))))))))))⟩)
      ·have hG17 := hg17; try simp only [gS] at hG17
       refine o_off hf ?_; clear hf a; intro a hf
       refine o_off hf ?_; clear hf a; intro a hf
       refine o_off hf ?_; clear hf a; intro a hf
       refine o_off hf ?_; clear hf a; intro a hf
       refine o_off hf ?_; clear hf a; intro a hf
       refine o_off hf ?_; clear hf a; intro a hf
       refine o_off hf ?_; clear hf a; intro a hf
       refine o_off hf ?_; clear hf a; intro a hf
       refine o_off hf ?_; clear hf a; intro a hf
       refine o_off hf ?_; clear hf a; intro a hf
       refine o_off hf ?_; clear hf a; intro a hf
       refine o_off hf ?_; clear hf a; intro a hf
       refine o_off hf ?_; clear hf a; intro a hf
       refine o_off hf ?_; clear hf a; intro a hf
       refine o_off hf ?_; clear hf a; intro a hf
       refine o_off hf ?_; clear hf a; intro a hf
       refine o_off hf ?_; clear hf a; intro a hf
       refine o_off hf ?_; clear hf a; intro a hf
       refine o_off hf ?_; clear hf a; intro a hf
       refine o_off hf ?_; clear hf a; intro a hf
       refine o_off hf ?_; clear hf a; intro a hf
       refine o_off hf ?_; clear hf a; intro a hf
       refine o_off hf ?_; clear hf a; intro a hf
       refine o_off hf ?_; clear hf a; intro a hf
       refine o_off hf ?_; clear hf a; intro a hf
       refine o_off hf ?_; clear hf a; intro a hf
       refine o_off hf ?_; clear hf a; intro a hf
       refine o_off hf ?_; clear hf a; intro a hf
       refine o_off hf ?_; clear hf a; intro a hf
       refine o_off hf ?_; clear hf a; intro a hf
       refine o_off hf ?_; clear hf a; intro a hf
       refine o_off hf ?_; clear hf a; intro a hf
       refine o_off hf ?_; clear hf a; intro a hf
       refine o_off hf ?_; clear hf a; intro a hf
       refine o_off hf ?_; clear hf a; intro a hf
       refine o_off hf ?_; clear hf a; intro a hf
       refine o_off hf ?_; clear hf a; intro a hf
       refine o_off hf ?_; clear hf a; intro a hf
       refine o_off hf ?_; clear hf a; intro a hf
       refine o_off hf ?_; clear hf a; intro a hf
       refine o_off hf ?_; clear hf a; intro a hf
       refine o_off hf ?_; clear hf a; intro a hf
       refine o_v hf hh (y_pf rfl rfl) ?_; clear hf a; intro a hf
       refine o_v hf hh (y_pf rfl rfl) ?_; clear hf a; intro a hf
       refine o_end ?_
       refine c_f hf ?_
       refine sy_skip ?_
       refine then_n ?_
       first
         | (have hp9 : lawP x bb := by unfold lawP; omega
            exact ⟨x, ⟨hyes hp9, hh⟩, hf.head True.intro (Keep.cons rfl (Keep.cons rfl (Keep.cons rfl (Keep.cons rfl (Keep.cons rfl (Keep.cons rfl (Keep.cons rfl (Keep.cons rfl (Keep.cons rfl (Keep.cons rfl (Keep.cons rfl (Keep.cons rfl (Keep.cons rfl (Keep.cons rfl (Keep.cons rfl (Keep.cons rfl (Keep.cons rfl (Keep.cons rfl (Keep.cons rfl (Keep.cons rfl (Keep.cons rfl (Keep.cons rfl (Keep.cons rfl (Keep.cons rfl (Keep.cons rfl (Keep.cons rfl (Keep.cons rfl (Keep.cons rfl (Keep.cons rfl (Keep.cons rfl (Keep.cons rfl (Keep.cons rfl (Keep.cons rfl (Keep.cons rfl (Keep.cons rfl (Keep.cons rfl (Keep.cons rfl (Keep.cons rfl (Keep.cons rfl (Keep.cons rfl (Keep.cons rfl (Keep.cons rfl (Keep.cons rfl (Keep.cons rfl (Keep.cons rfl (Keep.cons rfl (Keep.cons rfl (Keep.cons rfl (Keep.cons rfl (Keep.cons rfl (Keep.cons rfl (Keep.cons rfl (Keep.base)))))))))))))))))))))))))))))))))))))))))))))))))))))⟩)
         | (have hp9 : ¬ lawP x bb := by unfold lawP; omega
            exact ⟨bb, ⟨hno hp9, hh⟩, hf.head True.intro (Keep.cons rfl (Keep.cons rfl (Keep.cons rfl (Keep.cons rfl (Keep.cons rfl (Keep.cons rfl (Keep.cons rfl (Keep.cons rfl (Keep.cons rfl (Keep.cons rfl (Keep.cons rfl (Keep.cons rfl (Keep.cons rfl (Keep.cons rfl (Keep.cons rfl (Keep.cons rfl (Keep.cons rfl (Keep.cons rfl (Keep.cons rfl (Keep.cons rfl (Keep.cons rfl (Keep.cons rfl (Keep.cons rfl (Keep.cons rfl (Keep.cons rfl (Keep.cons rfl (Keep.cons rfl (Keep.cons rfl (Keep.cons rfl (Keep.cons rfl (Keep.cons rfl (Keep.cons rfl (Keep.cons rfl (Keep.cons rfl (Keep.cons rfl (Keep.cons rfl (Keep.cons rfl (Keep.cons rfl (Keep.cons rfl (Keep.cons rfl (Keep.cons rfl (Keep.cons rfl (Keep.cons rfl (Keep.cons rfl (Keep.cons rfl (Keep.cons rfl (Keep.cons rfl (Keep.cons rfl (Keep.cons rfl (Keep.cons rfl (Keep.cons rfl (Keep.cons rfl (Keep.base)))))))))))))))))))))))))))))))))))))))))))))))))))))⟩)
    ·rintro bn a w ⟨hbn, hh⟩ hf
     refine sy_cut (σ := Unit) [104, 105, 106, 107, 108, 109, 110, 111, 112, 113, 114, 115, 116, 117] (fun z => []) (fun z => fun w' => Hp u [Bm, Bs, Bo, Bl, Bb] [(B7, .cells (ei2 x) 42), (Bm, .cells #[.int .i64 ((l.length + 1 : Nat) : Int)] 3), (Bs, .cells #[.int .i64 ((sideS l ||| sideB x : Nat) : Int)] 3), (Bo, .cells (ei2 (joinL l).o) 42), (Bl, .cells (ei2 aa) 42), (Bb, .cells (ei2 bn) 42)] w') hf ?_ ?_
     ·refine sy_block ?_
      refine sy_sq ?_
      refine o_v hf hh (y_ia Try.ae_42 rfl rfl) ?_; clear hf a; intro a hf
      refine o_v hf hh (y_ld Try.sc_3 rfl) ?_; clear hf a; intro a hf
      refine o_v hf hh (yv_bin rfl rfl rfl) ?_; clear hf a; intro a hf
      refine o_v hf hh (yv_assign rfl) ?_; clear hf a; intro a hf
      refine o_end ?_
      refine sy_cond hf rfl (fun hg71 => ?_) (fun hg71 => ?_)
      ·have hG71 := hg71; try simp only [gS] at hG71
       have hsb : sideB x = 2 := by unfold sideB; rw [if_neg (by omega)]
       refine sy_ops ?_
       refine o_v hf hh (y_ld Try.sc_3 rfl) ?_; clear hf a; intro a hf
       refine o_v hf hh (yv_cast (yv_or (.inl rfl) rfl rfl (by omega) (by simp only [IntKind.top]; omega) (by omega) (by simp only [IntKind.top]; omega)) (intv (b := ((sideS l ||| sideB x : Nat) : Int)) (by rw [show sideB x = 2 from hsb]; exact or_cast _ 2))) ?_; clear hf a; intro a hf
       refine o_store hf hh Try.sz_3 fun w hh => ?_
       refine ops_end ?_
       refine blk_n ?_
       refine then_n ?_
       exact ⟨(), hh, hf.head True.intro (Keep.cons rfl (Keep.cons rfl (Keep.cons rfl (Keep.cons rfl (Keep.cons rfl (Keep.cons rfl (Keep.base)))))))⟩
      ·have hG71 := hg71; try simp only [gS] at hG71
       refine sy_sq ?_
       refine o_v hf hh (y_ia Try.ae_42 rfl rfl) ?_; clear hf a; intro a hf
       refine o_v hf hh (y_ld Try.sc_3 rfl) ?_; clear hf a; intro a hf
       refine o_v hf hh (yv_bin rfl rfl rfl) ?_; clear hf a; intro a hf
       refine o_v hf hh (yv_assign rfl) ?_; clear hf a; intro a hf
       refine o_end ?_
       refine sy_cond hf rfl (fun hg74 => ?_) (fun hg74 => ?_)
       ·have hG74 := hg74; try simp only [gS] at hG74
        have hsb : sideB x = 4 := by unfold sideB; rw [if_pos (by omega), if_neg (by omega)]
        refine sy_ops ?_
        refine o_v hf hh (y_ld Try.sc_3 rfl) ?_; clear hf a; intro a hf
        refine o_v hf hh (yv_cast (yv_or (.inl rfl) rfl rfl (by omega) (by simp only [IntKind.top]; omega) (by omega) (by simp only [IntKind.top]; omega)) (intv (b := ((sideS l ||| sideB x : Nat) : Int)) (by rw [show sideB x = 4 from hsb]; exact or_cast _ 4))) ?_; clear hf a; intro a hf
        refine o_store hf hh Try.sz_3 fun w hh => ?_
        refine ops_end ?_
        refine blk_n ?_
        refine then_n ?_
        exact ⟨(), hh, hf.head True.intro (Keep.cons rfl (Keep.cons rfl (Keep.cons rfl (Keep.cons rfl (Keep.cons rfl (Keep.cons rfl (Keep.cons rfl (Keep.cons rfl (Keep.cons rfl (Keep.cons rfl (Keep.base)))))))))))⟩
       ·have hG74 := hg74; try simp only [gS] at hG74
        have hsb : sideB x = 1 := by unfold sideB; rw [if_pos (by omega), if_pos (by omega)]
        refine sy_ops ?_
        refine o_v hf hh (y_ld Try.sc_3 rfl) ?_; clear hf a; intro a hf
        refine o_v hf hh (yv_cast (yv_or (.inl rfl) rfl rfl (by omega) (by simp only [IntKind.top]; omega) (by omega) (by simp only [IntKind.top]; omega)) (intv (b := ((sideS l ||| sideB x : Nat) : Int)) (by rw [show sideB x = 1 from hsb]; exact or_cast _ 1))) ?_; clear hf a; intro a hf
        refine o_store hf hh Try.sz_3 fun w hh => ?_
        refine ops_end ?_
        refine blk_n ?_
        refine then_n ?_
        exact ⟨(), hh, hf.head True.intro (Keep.cons rfl (Keep.cons rfl (Keep.cons rfl (Keep.cons rfl (Keep.cons rfl (Keep.cons rfl (Keep.cons rfl (Keep.cons rfl (Keep.cons rfl (Keep.cons rfl (Keep.base)))))))))))⟩
     ·rintro z a w hh hf
      have hma : aa = ((joinL l).mid x 0).a := by rw [hqa, ← hjn]; rfl
      rw [hma] at hh
      refine sy_seq ?_
      refine sy_sq ?_
      refine o_v hf hh (yv_move rfl) ?_; clear hf a; intro a hf
      refine o_end ?_
      refine sy_block ?_
      refine sy_loopH (σ := Nat) [13, 118, 119, 120, 121, 122, 123, 124, 125, 126, 127, 128, 129, 130, 131, 132, 133, 134, 135, 136, 137, 138, 139] (fun i => [(118, .int .i64 (i : Nat))]) (fun i => fun w' => i ≤ 2 ∧ Hp u [Bm, Bs, Bo, Bl, Bb] [(B7, .cells (ei2 x) 42), (Bm, .cells #[.int .i64 ((l.length + 1 : Nat) : Int)] 3), (Bs, .cells #[.int .i64 ((sideS l ||| sideB x : Nat) : Int)] 3), (Bo, .cells (ei2 ((joinL l).mid x i).o) 42), (Bl, .cells (ei2 ((joinL l).mid x i).a) 42), (Bb, .cells (ei2 bn) 42)] w') (fun i => 2 - i) (0) hf ?_ ?_ ?_
      · repeat' (first | exact True.intro | refine And.intro rfl ?_)
      · exact ⟨Nat.zero_le _, hh⟩
      ·rintro i a w ⟨hi, hh⟩ hf
       refine sy_sq ?_
       refine o_v hf hh (yv_bin rfl rfl rfl) ?_; clear hf a; intro a hf
       refine o_end ?_
       refine sy_seq ?_
       refine sy_cond hf rfl (fun hg78 => ?_) (fun hg78 => ?_)
       ·have hG78 := hg78; try simp only [gS] at hG78
        refine sy_skip ?_
        refine then_n ?_
        refine sy_seq ?_
        refine sy_block ?_
        refine sy_sq ?_
        refine o_v hf hh (yv_move rfl) ?_; clear hf a; intro a hf
        refine o_v hf hh (yv_assign rfl) ?_; clear hf a; intro a hf
        refine o_end ?_
        have go := ei_o (j := joinL l) (x := x) (show i < 2 by omega)
        have ga := ei_a (j := joinL l) (x := x) (show i < 2 by omega)
        have gx := ei_x (x := x) (show i < 2 by omega)
        have bo : oAt (joinL l) i < 65536 := by unfold oAt; split; exact hjo.o1; exact hjo.o2
        have bx : xAt x i < 65536 := by unfold xAt; split; exact hx1; exact hx2
        have ba : aAt ⟨0, (0, 0), if (joinL l).n = 0 then x else (joinL l).a⟩ i < 65536 := by unfold aAt; dsimp only; split <;> split; exact hx1; exact hjo.a1; exact hx2; exact hjo.a2
        refine sy_treeC (.p 0 (.p 1 (.p 2 (.p 3 (.q 0 4 (.p 5 (.p 6 (.q 1 7 (.p 8 (.p 9 (.p 10 (.q 1 11 (.p 12 (.p 13 (.q 1 14 (.p 15 (.p 16 (.e1 17 (.p 18 (.e1 19 (.fin))))))))))))))))))))) [[17, 19], [19]] [(AtE u [Bm, Bs, Bo, Bl, Bb] [(Bo, .cells (ei2 ((joinL l).mid x i).o) 42)], [17, 19]), (AtE u [Bm, Bs, Bo, Bl, Bb] [(B7, .cells (ei2 x) 42), (Bl, .cells (ei2 ((joinL l).mid x i).a) 42)], [19])] Try.follows (by kernel_rfl) rfl hh (fun w hh => ?_)
        refine mc_p rfl   hf (yv_move rfl) (.inl rfl) rfl rfl ?_; clear hf a; intro a hf
        refine mc_p rfl   hf (yv_move rfl) (.inl rfl) rfl rfl ?_; clear hf a; intro a hf
        refine mc_p rfl   hf (yv_move rfl) (.inl rfl) rfl rfl ?_; clear hf a; intro a hf
        refine mc_p rfl   hf (y_ia Try.ae_42 rfl rfl) (.inl rfl) rfl rfl ?_; clear hf a; intro a hf
        refine mc_q rfl rfl (AtE.mk1 hh.ext (hh.at (i := 3) rfl)) hf (y_ld Try.sc_3 rfl) (.inl rfl) rfl rfl ?_; clear hf a; intro a hf
        refine mc_p rfl   hf (yv_move rfl) (.inl rfl) rfl rfl ?_; clear hf a; intro a hf
        refine mc_p rfl   hf (y_ia Try.ae_42 rfl rfl) (.inl rfl) rfl rfl ?_; clear hf a; intro a hf
        refine mc_q rfl rfl (AtE.mk2 hh.ext (hh.at (i := 0) rfl) (hh.at (i := 4) rfl)) hf (y_ld Try.sc_3 rfl) (.inl rfl) rfl rfl ?_; clear hf a; intro a hf
        refine mc_p rfl   hf (yv_cast (yv_or (.inl rfl) rfl rfl (by omega) (by simp only [IntKind.top]; omega) (by omega) (by simp only [IntKind.top]; omega)) (intv (b := ((oAt (joinL l) i ||| xAt x i : Nat) : Int)) (by rw [Int.toNat_natCast, Int.toNat_natCast]))) (.inl rfl) rfl rfl ?_; clear hf a; intro a hf
        refine mc_p rfl   hf (yv_move rfl) (.inl rfl) rfl rfl ?_; clear hf a; intro a hf
        refine mc_p rfl   hf (y_ia Try.ae_42 rfl rfl) (.inl rfl) rfl rfl ?_; clear hf a; intro a hf
        refine mc_q rfl rfl (AtE.mk2 hh.ext (hh.at (i := 0) rfl) (hh.at (i := 4) rfl)) hf (y_ld Try.sc_3 rfl) (.inl rfl) rfl rfl ?_; clear hf a; intro a hf
        refine mc_p rfl   hf (yv_move rfl) (.inl rfl) rfl rfl ?_; clear hf a; intro a hf
        refine mc_p rfl   hf (y_ia Try.ae_42 rfl rfl) (.inl rfl) rfl rfl ?_; clear hf a; intro a hf
        refine mc_q rfl rfl (AtE.mk2 hh.ext (hh.at (i := 0) rfl) (hh.at (i := 4) rfl)) hf (y_ld Try.sc_3 rfl) (.inl rfl) rfl rfl ?_; clear hf a; intro a hf
        refine mc_p rfl   hf (yv_cast (yv_and (.inl rfl) rfl rfl (by omega) (by simp only [IntKind.top]; omega) (by omega) (by simp only [IntKind.top]; omega)) (intv (b := ((aAt ⟨0, (0, 0), if (joinL l).n = 0 then x else (joinL l).a⟩ i &&& xAt x i : Nat) : Int)) (by rw [Int.toNat_natCast, Int.toNat_natCast]))) (.inl rfl) rfl rfl ?_; clear hf a; intro a hf
        refine mc_p rfl   hf (y_ia Try.ae_42 rfl rfl) (.inl rfl) rfl rfl ?_; clear hf a; intro a hf
        refine mc_e rfl fun Q1 => ?_
        refine o_store (i := 3) hf hh Try.sz_3 (hx := rfl) (hi := atI (i := 3) rfl) (hy := rfl) (hl := Nat.ble_eq_true_of_le (by rw [Int.toNat_natCast]; show _ ≤ 2; omega)) fun w hh => ?_
        replace hh : Hp u [Bm, Bs, Bo, Bl, Bb] [(B7, .cells (ei2 x) 42), (Bm, .cells #[.int .i64 ((l.length + 1 : Nat) : Int)] 3), (Bs, .cells #[.int .i64 ((sideS l ||| sideB x : Nat) : Int)] 3), (Bo, .cells (ei2 ((joinL l).mid x (i + 1)).o) 42), (Bl, .cells (ei2 ((joinL l).mid x i).a) 42), (Bb, .cells (ei2 bn) 42)] w := ei_os (j := joinL l) (x := x) (show i < 2 by omega) ▸ hh
        refine ops_end ?_
        refine then_n ⟨⟨fun h => Bool.noConfusion (show true = false from h), fun _ _ => (AtE.mk2 hh.ext (hh.at (i := 0) rfl) (hh.at (i := 4) rfl)), trivial⟩, ?_⟩
        refine mc_p rfl   hf (y_ia Try.ae_42 rfl rfl) (.inl rfl) rfl rfl ?_; clear hf a; intro a hf
        refine mc_e rfl fun Q1 => ?_
        refine o_store (i := 4) hf hh Try.sz_3 (hx := rfl) (hi := atI (i := 4) rfl) (hy := rfl) (hl := Nat.ble_eq_true_of_le (by rw [Int.toNat_natCast]; show _ ≤ 2; omega)) fun w hh => ?_
        replace hh : Hp u [Bm, Bs, Bo, Bl, Bb] [(B7, .cells (ei2 x) 42), (Bm, .cells #[.int .i64 ((l.length + 1 : Nat) : Int)] 3), (Bs, .cells #[.int .i64 ((sideS l ||| sideB x : Nat) : Int)] 3), (Bo, .cells (ei2 ((joinL l).mid x (i + 1)).o) 42), (Bl, .cells (ei2 ((joinL l).mid x (i + 1)).a) 42), (Bb, .cells (ei2 bn) 42)] w := ei_as (j := joinL l) (x := x) (show i < 2 by omega) ▸ hh
        refine ops_end ?_
        refine then_n ⟨⟨fun h => Bool.noConfusion (show true = false from h), fun h => Bool.noConfusion (show true = false from h), trivial⟩, ?_⟩
        refine mc_end ?_
        refine blk_n ?_
        refine then_n ?_
        refine sy_ops ?_
        refine o_v hf hh (y_add rfl rfl) ?_; clear hf a; intro a hf
        refine o_v hf hh (yv_move rfl) ?_; clear hf a; intro a hf
        refine ops_end ?_
        refine then_n ?_
        exact ⟨i + 1, ⟨⟨by omega, hh⟩, (hf.head (by repeat' (first | exact True.intro | refine And.intro rfl ?_)) (Keep.cons rfl (Keep.cons rfl (Keep.cons rfl (Keep.cons rfl (Keep.cons rfl (Keep.cons rfl (Keep.cons rfl (Keep.cons rfl (Keep.cons rfl (Keep.cons rfl (Keep.cons rfl (Keep.cons rfl (Keep.cons rfl (Keep.cons rfl (Keep.cons rfl (Keep.cons rfl (Keep.cons rfl (Keep.cons rfl (Keep.cons rfl (Keep.cons rfl (Keep.cons rfl (Keep.cons rfl (Keep.cons rfl (Keep.app rfl (Keep.rm rfl Keep.base))))))))))))))))))))))))))⟩, by omega⟩
       ·have hG78 := hg78; try simp only [gS] at hG78
        refine sy_exit ?_
        refine then_e ?_
        refine then_e ?_
        refine blk_e ?_
        refine then_n ?_
        refine sy_sq ?_
        refine o_v hf hh (yv_assign rfl) ?_; clear hf a; intro a hf
        refine o_end ?_
        refine sy_ret ?_
        refine ret_r hf rfl rfl ?_
        obtain rfl : i = 2 := by omega
        rw [hbn] at hh
        exact ⟨rfl, hh.less (.cons _ (.refl _))⟩
end Go.Proofs.Ytidieepndphodaa
namespace Go.MatM
open Go Go.Sy Go.Proofs Go.RowKit
theorem hp_off {u w : World} {M : List Nat} {X Z : List (Nat × Obj)} (h : Hp u M (X ++ Z) w) {b : Nat} {o : Obj} (hb : (b, o) ∈ Z) : b ∉ X.map Prod.fst := fun hx => by
  have hn := h.nodup
  rw [List.map_append, List.nodup_append] at hn
  exact hn.2.2 b hx b (List.mem_map.2 ⟨(b, o), hb, rfl⟩) rfl
theorem hp_new {u w : World} {X Z : List (Nat × Obj)} (h : Hp u [] (X ++ Z) w) : ∀ x ∈ X.map Prod.fst, u.heap.size ≤ x := fun x hx => by
  obtain ⟨q, hq, rfl⟩ := List.mem_map.1 hx
  rcases h.mine q (List.mem_append_left _ hq) with h1 | h1
  · exact h1
  · cases h1
section
variable {d : RowsD} {p : Int}
theorem rowP_len (row s : Nat) : (rowP d p row s).length ≤ s := by
  unfold rowP
  refine Nat.le_trans (List.length_filter_le _ _) ?_
  rw [List.length_map, List.length_range']; omega
theorem lenR_le (hV : Valid d) (row : Nat) : lenR d row ≤ 10 := by unfold lenR; split; exact hV.nl; exact hV.nr
theorem accL_len (hV : Valid d) : ∀ row, (accL d p row).length ≤ 1 + row * 1024
  | 0 => by
    have : ([((0 : Nat), (0 : Nat))].filter (isC d p)).length ≤ 1 := List.length_filter_le _ _
    show ([((0 : Nat), (0 : Nat))].filter (isC d p)).length ≤ _
    omega
  | row + 1 => by
    have ih := accL_len hV row
    have h1 := rowP_len (d := d) (p := p) row (2 ^ lenR d row)
    have h2 := pow_le_10 (lenR_le hV row)
    rw [accL, List.length_append]; omega
theorem accP_ok (hV : Valid d) {row s : Nat} (hr : row < 2) (hs : s ≤ 2 ^ lenR d row) : LiOk (accP d p row s) := by
  have h0 := accL_len (p := p) hV row
  have h1 := rowP_len (d := d) (p := p) row s
  have h2 := pow_le_10 (lenR_le hV row)
  refine ⟨by unfold accP; rw [List.length_append]; omega, fun x hx => casesL_lt hV (accP_lt hV hr hs hx), fun x hx => ?_⟩
  have := accP_is hx
  unfold isC at this
  rw [Bool.and_eq_true] at this
  exact this.1
theorem setX_ask (hV : Valid d) {row s : Nat} (hr : row < 2) (hs : s < 2 ^ lenR d row) : askS d (setX row s).1 (setX row s).2 = true := by
  have h1 := Nat.two_pow_pos d.l.length
  have h2 := Nat.two_pow_pos d.r.length
  unfold askS inS
  rw [Bool.and_eq_true, Bool.and_eq_true, Bool.and_eq_true]
  simp only [decide_eq_true_eq]
  rcases (show row = 0 ∨ row = 1 by omega) with rfl | rfl
  · have hs : s < 2 ^ d.l.length := hs
    rw [show setX 0 s = (s, 0) from rfl]
    simp only
    obtain ⟨q1, hq1⟩ : ∃ q : Nat, q = 2 ^ d.l.length := ⟨_, rfl⟩
    obtain ⟨q2, hq2⟩ : ∃ q : Nat, q = 2 ^ d.r.length := ⟨_, rfl⟩
    rw [← hq1] at hs h1 ⊢; rw [← hq2] at h2 ⊢; omega
  · have hs : s < 2 ^ d.r.length := hs
    rw [show setX 1 s = (0, s) from rfl]
    simp only
    obtain ⟨q1, hq1⟩ : ∃ q : Nat, q = 2 ^ d.l.length := ⟨_, rfl⟩
    obtain ⟨q2, hq2⟩ : ∃ q : Nat, q = 2 ^ d.r.length := ⟨_, rfl⟩
    rw [← hq1] at h1 ⊢; rw [← hq2] at hs h2 ⊢; omega
theorem none_ask : askS d ((0, 0) : Nat × Nat).1 ((0, 0) : Nat × Nat).2 = true := by
  have h1 := Nat.two_pow_pos d.l.length
  have h2 := Nat.two_pow_pos d.r.length
  unfold askS inS
  rw [Bool.and_eq_true, Bool.and_eq_true, Bool.and_eq_true]
  simp only [decide_eq_true_eq]
  omega
theorem setX_few {row s : Nat} (hr : row < 2) (h : p < ((pc s : Nat) : Int)) : isC d p (setX row s) = false := by
  apply isC_big
  have h4 : pc 0 = 0 := pc_zero
  rcases (show row = 0 ∨ row = 1 by omega) with rfl | rfl
  · show p < ((pc s : Nat) : Int) + (pc 0 : Nat); omega
  · show p < ((pc 0 : Nat) : Int) + (pc s : Nat); omega
theorem vals_no (h : okCan d p = true) (hn : (casesL d p).length = 0) : gatE d p = 4 ∧ sidesV d p = 0 ∧ firstV d p = (0, 0) ∧ joinV d p = Jn.zero := by
  have hg := gatE_4 (casesE_ok h) hn
  refine ⟨hg, ?_, ?_, ?_⟩
  · unfold sidesV; rw [if_neg (by omega)]
  · unfold firstV; rw [if_neg (by omega)]
  · unfold joinV; rw [if_neg (by omega)]
theorem vals_ok (h : okCan d p = true) (hn : (casesL d p).length ≠ 0) : gatE d p = 0 ∧ sidesV d p = sideS (casesL d p) ∧ firstV d p = (firstL (casesL d p)).b ∧ joinV d p = joinL (casesL d p) := by
  have hg := gatE_ok (casesE_ok h) (by omega)
  refine ⟨hg, ?_, ?_, ?_⟩
  · unfold sidesV; rw [if_pos hg]
  · unfold firstV; rw [if_pos hg]
  · unfold joinV; rw [if_pos hg]
end
end Go.MatM
namespace Go.Proofs.Ytidieepndphodaa
open Go Go.Sy Go.MatM
set_option maxRecDepth 100000 in
set_option maxHeartbeats 4000000 in
theorem p4 (d : RowsD) (p : Int) (sa sb : Option Addr) (ca cb : Nat) (u : World) (hA : MkAt u sa d.l) (hB : MkAt u sb d.r) : Calls Try.prog 4 #[canV d p sa sb ca cb] u (Ret fun v w' => v = .bool true ∧ Ext [] u w') := by
  refine calls_of Try.func4 rfl rfl (fun a hf => ?_)
  have hh := Hp.init u []
  refine sy_sq ?_
  refine o_box hf hh ?_; clear hf hh a; intro B1 a w hf hh
  refine o_v hf hh (yv_assign rfl) ?_; clear hf a; intro a hf
  refine o_end ?_
  refine sy_seq ?_
  refine sy_sq ?_
  refine o_v hf hh (y_lds Try.ag_31 rfl) ?_; clear hf a; intro a hf
  refine o_call hf Try.en_18 rfl rfl rfl (p18 d p sa sb ca cb _ (hA.ext hh.ext) (hB.ext hh.ext) 7) ?_; clear hf a; intro v a w hR hf
  obtain ⟨rfl, hx⟩ := hR; replace hh := hh.more hx; clear hx
  refine o_v hf hh (yv_move rfl) ?_; clear hf a; intro a hf
  refine guard_split hf (t := 28) rfl (fun hg2 => ?_) (fun hg2 => ?_)
  ·have hG2 := hg2; try simp only [gS] at hG2
   refine o_off hf ?_; clear hf a; intro a hf
   refine o_off hf ?_; clear hf a; intro a hf
   refine o_off hf ?_; clear hf a; intro a hf
   refine o_v hf hh (y_pt rfl rfl) ?_; clear hf a; intro a hf
   refine o_end ?_
   refine c_t hf ?_
   refine sy_sq ?_
   refine o_call hf Try.en_17 rfl rfl rfl (p17 _) ?_; clear hf a; intro v a w hR hf
   obtain ⟨rfl, hx⟩ := hR; replace hh := hh.more hx; clear hx
   refine o_v hf hh (yv_assign rfl) ?_; clear hf a; intro a hf
   refine o_end ?_
   refine sy_ret ?_
   refine then_r ?_
   refine ret_r hf rfl rfl ?_
   first
     | exact ⟨rfl, hh.ext⟩
     | omega
  ·have hG2 := hg2; try simp only [gS] at hG2
   refine o_v hf hh (y_lds Try.ag_31 rfl) ?_; clear hf a; intro a hf
   have hg9 : (decide (24 < d.l.length ∨ 24 < d.r.length) || (decide ((7 : Int) < d.l.length ∨ (7 : Int) < d.r.length) && okCan d p)) = false := by assumption
   have hlen : d.l.length ≤ 24 ∧ d.r.length ≤ 24 := by
     rw [Bool.or_eq_false_iff, decide_eq_false_iff_not] at hg9
     omega
   refine o_call hf Try.en_19 rfl rfl rfl (p19 d p sa sb ca cb _ (hA.ext hh.ext) (hB.ext hh.ext) (by omega) (by omega)) ?_; clear hf a; intro v a w hR hf
   obtain ⟨rfl, hx⟩ := hR; replace hh := hh.more hx; clear hx
   refine o_v hf hh (yv_not rfl) ?_; clear hf a; intro a hf
   refine o_v hf hh (y_pf rfl rfl) ?_; clear hf a; intro a hf
   refine o_end ?_
   refine sy_cond hf rfl (fun hg5 => ?_) (fun hg5 => ?_)
   ·have hG5 := hg5; try simp only [gS] at hG5
    refine sy_sq ?_
    refine o_call hf Try.en_17 rfl rfl rfl (p17 _) ?_; clear hf a; intro v a w hR hf
    obtain ⟨rfl, hx⟩ := hR; replace hh := hh.more hx; clear hx
    refine o_v hf hh (yv_assign rfl) ?_; clear hf a; intro a hf
    refine o_end ?_
    refine sy_ret ?_
    refine then_r ?_
    refine ret_r hf rfl rfl ?_
    first
      | exact ⟨rfl, hh.ext⟩
      | omega
   ·have hG5 := hg5; try simp only [gS] at hG5
    refine sy_skip ?_
    refine then_n ?_
    refine sy_seq ?_
    have hok : okCan d p = true := by assumption
    obtain ⟨hV, hp0, hp3⟩ := okCan_valid hok
    have hnl := hV.nl; have hnr := hV.nr; have hh1 := hV.h1; have hh2 := hV.h2
    have hCl := casesC_ok hok
    have hC0 := casesE_ok hok
    have hlen := casesL_len (p := p) hV
    refine sy_ops ?_
    refine o_v hf hh (y_lds Try.ag_31 rfl) ?_; clear hf a; intro a hf
    refine o_call hf Try.en_12 rfl rfl rfl (p12 d p sa sb ca cb _ (hA.ext hh.ext) (hB.ext hh.ext)) ?_; clear hf a; intro v a w hR hf
    rw [hCl] at hR
    rw [hC0] at hR
    obtain ⟨rfl, hx⟩ := hR; replace hh := hh.more hx; clear hx
    refine o_v hf hh (yv_move rfl) ?_; clear hf a; intro a hf
    refine o_v hf hh (yv_extract rfl rfl) ?_; clear hf a; intro a hf
    refine o_v hf hh (yv_extract rfl rfl) ?_; clear hf a; intro a hf
    refine o_v hf hh (yv_assign rfl) ?_; clear hf a; intro a hf
    refine o_v hf hh (yv_assign rfl) ?_; clear hf a; intro a hf
    refine o_end ?_
    refine sy_sq ?_
    refine o_v hf hh (y_lds Try.ag_31 rfl) ?_; clear hf a; intro a hf
    refine o_call hf Try.en_13 rfl rfl rfl (p13 d p sa sb ca cb _ (hA.ext hh.ext) (hB.ext hh.ext)) ?_; clear hf a; intro v a w hR hf
    obtain ⟨rfl, hx⟩ := hR; replace hh := hh.more hx; clear hx
    refine o_v hf hh (yv_move rfl) ?_; clear hf a; intro a hf
    refine o_v hf hh (yv_extract rfl rfl) ?_; clear hf a; intro a hf
    refine o_v hf hh (yv_extract rfl rfl) ?_; clear hf a; intro a hf
    refine o_v hf hh (yv_assign rfl) ?_; clear hf a; intro a hf
    refine o_v hf hh (yv_assign rfl) ?_; clear hf a; intro a hf
    refine o_end ?_
    refine sy_sq ?_
    refine o_v hf hh (y_lds Try.ag_31 rfl) ?_; clear hf a; intro a hf
    refine o_call hf Try.en_14 rfl rfl rfl (p14 d p sa sb ca cb _ (hA.ext hh.ext) (hB.ext hh.ext)) ?_; clear hf a; intro v a w hR hf
    obtain ⟨rfl, hx⟩ := hR; replace hh := hh.more hx; clear hx
    refine o_v hf hh (yv_move rfl) ?_; clear hf a; intro a hf
    refine o_v hf hh (yv_extract rfl rfl) ?_; clear hf a; intro a hf
    refine o_v hf hh (yv_extract rfl rfl) ?_; clear hf a; intro a hf
    refine o_v hf hh (yv_extract rfl rfl) ?_; clear hf a; intro a hf
    refine o_v hf hh (yv_assign rfl) ?_; clear hf a; intro a hf
    refine o_v hf hh (yv_assign rfl) ?_; clear hf a; intro a hf
    refine o_v hf hh (yv_assign rfl) ?_; clear hf a; intro a hf
    refine o_end ?_
    refine sy_sq ?_
    refine o_v hf hh (y_lds Try.ag_31 rfl) ?_; clear hf a; intro a hf
    refine o_call hf Try.en_20 rfl rfl rfl (p20 d p sa sb ca cb _ (hA.ext hh.ext) (hB.ext hh.ext)) ?_; clear hf a; intro v a w hR hf
    obtain ⟨rfl, hx⟩ := hR; replace hh := hh.more hx; clear hx
    refine o_v hf hh (yv_move rfl) ?_; clear hf a; intro a hf
    refine o_v hf hh (yv_extract rfl rfl) ?_; clear hf a; intro a hf
    refine o_v hf hh (yv_extract rfl rfl) ?_; clear hf a; intro a hf
    refine o_v hf hh (yv_extract rfl rfl) ?_; clear hf a; intro a hf
    refine o_v hf hh (yv_assign rfl) ?_; clear hf a; intro a hf
    refine o_v hf hh (yv_assign rfl) ?_; clear hf a; intro a hf
    refine o_v hf hh (yv_assign rfl) ?_; clear hf a; intro a hf
    refine o_end ?_
    refine sy_sq ?_
    refine o_v hf hh (y_lds Try.ag_31 rfl) ?_; clear hf a; intro a hf
    refine o_call hf Try.en_15 rfl rfl rfl (p15 d p sa sb ca cb _ (hA.ext hh.ext) (hB.ext hh.ext)) ?_; clear hf a; intro v a w hR hf
    obtain ⟨rfl, hx⟩ := hR; replace hh := hh.more hx; clear hx
    refine o_v hf hh (yv_move rfl) ?_; clear hf a; intro a hf
    refine o_v hf hh (yv_extract rfl rfl) ?_; clear hf a; intro a hf
    refine o_v hf hh (yv_extract rfl rfl) ?_; clear hf a; intro a hf
    refine o_v hf hh (yv_extract rfl rfl) ?_; clear hf a; intro a hf
    refine o_v hf hh (yv_assign rfl) ?_; clear hf a; intro a hf
    refine o_v hf hh (yv_assign rfl) ?_; clear hf a; intro a hf
    refine o_v hf hh (yv_assign rfl) ?_; clear hf a; intro a hf
    refine o_end ?_
    refine sy_sq ?_
    refine o_v hf hh (yv_fieldAddr Try.fo_31_0 rfl) ?_; clear hf a; intro a hf
    refine o_v hf hh (yv_fieldAddr Try.fo_29_0 rfl) ?_; clear hf a; intro a hf
    refine o_v hf hh (y_ld Try.sc_25 rfl) ?_; clear hf a; intro a hf
    refine o_v hf hh (yv_len Try.se_25 rfl) ?_; clear hf a; intro a hf
    refine o_v hf hh (yv_fieldAddr Try.fo_31_0 rfl) ?_; clear hf a; intro a hf
    refine o_v hf hh (yv_fieldAddr Try.fo_29_1 rfl) ?_; clear hf a; intro a hf
    refine o_v hf hh (y_ld Try.sc_25 rfl) ?_; clear hf a; intro a hf
    refine o_v hf hh (yv_len Try.se_25 rfl) ?_; clear hf a; intro a hf
    refine o_v hf hh (yv_buildA Try.ba_42 rfl rfl) ?_; clear hf a; intro a hf
    refine o_alloc hf hh Try.ze_42 ?_; clear hf hh a; intro B16 a w hf hh
    refine o_store hf hh Try.sz_42 fun w hh => ?_
    refine o_end ?_
    refine sy_sq ?_
    refine o_alloc hf hh Try.ze_3 ?_; clear hf hh a; intro B17 a w hf hh
    refine o_alloc hf hh Try.ze_3 ?_; clear hf hh a; intro B18 a w hf hh
    refine o_store hf hh Try.sz_3 fun w hh => ?_
    refine o_store hf hh Try.sz_3 fun w hh => ?_
    refine o_end ?_
    refine sy_sq ?_
    refine o_alloc hf hh Try.ze_42 ?_; clear hf hh a; intro B19 a w hf hh
    refine o_alloc hf hh Try.ze_42 ?_; clear hf hh a; intro B20 a w hf hh
    refine o_alloc hf hh Try.ze_42 ?_; clear hf hh a; intro B21 a w hf hh
    refine o_end ?_
    refine sy_sq ?_
    refine o_v hf hh (yv_makeFunc rfl rfl) ?_; clear hf a; intro a hf
    refine o_v hf hh (yv_assign rfl) ?_; clear hf a; intro a hf
    refine o_end ?_
    refine sy_seq ?_
    refine sy_seq ?_
    have h9 : Hp u [] ((setB B17 B18 B19 B20 B21 ([])).reverse ++ [(B16, .cells #[.int .i64 (d.l.length : Nat), .int .i64 (d.r.length : Nat)] 42), (B1, .cells (canV d p sa sb ca cb).cells 31)]) w := hh
    replace hh : Hp u [] (setB B17 B18 B19 B20 B21 ([]) ++ [(B16, .cells #[.int .i64 (d.l.length : Nat), .int .i64 (d.r.length : Nat)] 42), (B1, .cells (canV d p sa sb ca cb).cells 31)])  w := h9.perm ((List.reverse_perm (setB B17 B18 B19 B20 B21 ([]))).append_right [(B16, .cells #[.int .i64 (d.l.length : Nat), .int .i64 (d.r.length : Nat)] 42), (B1, .cells (canV d p sa sb ca cb).cells 31)])
    clear h9
    refine sy_ops ?_
    refine o_v hf hh (yv_move rfl) ?_; clear hf a; intro a hf
    refine o_v hf hh (yv_buildA Try.ba_42 rfl rfl) ?_; clear hf a; intro a hf
    have hq9 := (hh.less (List.sublist_append_left _ _)).own
    have hN9 := hp_new hh
    refine o_call hf Try.en_21 rfl rfl rfl (p21 d p sa sb ca cb _ hok ([]) ⟨Nat.zero_le _, fun x hx => absurd hx List.not_mem_nil, fun x hx => absurd hx List.not_mem_nil⟩ (0, 0) none_ask B1 B17 B18 B19 B20 B21 (MkN.new hA hh.ext hN9) (MkN.new hB hh.ext hN9) (hh.get (B1, .cells (canV d p sa sb ca cb).cells 31) (by simp)) (hp_off (X := setB B17 B18 B19 B20 B21 ([])) hh (b := B1) (o := .cells (canV d p sa sb ca cb).cells 31) (by simp)) hq9) ?_; clear hf a; intro v a w hR hf
    obtain ⟨rfl, hx⟩ := hR
    replace hh := hh.swap' (X := setB B17 B18 B19 B20 B21 ([])) (Z := [(B16, .cells #[.int .i64 (d.l.length : Nat), .int .i64 (d.r.length : Nat)] 42), (B1, .cells (canV d p sa sb ca cb).cells 31)]) (.refl _) hx; clear hx hq9 hN9
    refine o_v hf hh (yv_not rfl) ?_; clear hf a; intro a hf
    refine o_end ?_
    refine c_f hf ?_
    refine sy_skip ?_
    refine then_n ?_
    refine sy_seq ?_
    refine sy_seq ?_
    have hacc : accL d p 0 = [] ++ if isC d p (0, 0) = true then [(0, 0)] else [] := by
      show [((0 : Nat), (0 : Nat))].filter _ = _
      rw [List.filter_cons]; split <;> rfl
    rw [← hacc] at hh
    refine sy_ops ?_
    refine o_v hf hh (yv_move rfl) ?_; clear hf a; intro a hf
    refine o_end ?_
    refine sy_block ?_
    refine sy_loopH (σ := Nat) [2, 23, 24, 25, 76, 77, 78, 79, 80, 81, 82, 83, 84, 85, 86, 87, 88, 89, 90, 91, 92, 93, 94, 95, 96, 97, 98, 99, 100, 101] (fun row => [(76, .int .i64 (row : Nat))]) (fun row => fun w' => row ≤ 2 ∧ Hp u [] (setB B17 B18 B19 B20 B21 (accL d p row) ++ [(B16, .cells #[.int .i64 (d.l.length : Nat), .int .i64 (d.r.length : Nat)] 42), (B1, .cells (canV d p sa sb ca cb).cells 31)])  w') (fun row => 2 - row) (0) hf ?_ ?_ ?_
    · repeat' (first | exact True.intro | refine And.intro rfl ?_)
    · exact ⟨Nat.zero_le _, hh⟩
    ·rintro row a w ⟨hi, hh⟩ hf
     refine sy_sq ?_
     refine o_v hf hh (yv_bin rfl rfl rfl) ?_; clear hf a; intro a hf
     refine o_end ?_
     refine sy_seq ?_
     refine sy_cond hf rfl (fun hg26 => ?_) (fun hg26 => ?_)
     ·have hG26 := hg26; try simp only [gS] at hG26
      refine sy_skip ?_
      refine then_n ?_
      refine sy_seq ?_
      refine sy_block ?_
      refine sy_sq ?_
      refine o_v hf hh (yv_move rfl) ?_; clear hf a; intro a hf
      refine o_v hf hh (yv_assign rfl) ?_; clear hf a; intro a hf
      refine o_end ?_
      refine sy_sq ?_
      refine o_v hf hh (yv_assign rfl) ?_; clear hf a; intro a hf
      refine o_end ?_
      refine sy_block ?_
      refine sy_loopH (σ := Nat) [2, 24, 25, 79, 80, 81, 82, 83, 84, 85, 86, 87, 88, 89, 90, 91, 92, 93, 94, 95, 96, 97, 98, 99, 100] (fun s => [(24, .int .i64 (s : Nat))]) (fun s => fun w' => 1 ≤ s ∧ s ≤ 2 ^ lenR d row ∧ Hp u [] (setB B17 B18 B19 B20 B21 (accP d p row s) ++ [(B16, .cells #[.int .i64 (d.l.length : Nat), .int .i64 (d.r.length : Nat)] 42), (B1, .cells (canV d p sa sb ca cb).cells 31)])  w') (fun s => 2 ^ lenR d row - s) (1) hf ?_ ?_ ?_
      · repeat' (first | exact True.intro | refine And.intro rfl ?_)
      · exact ⟨Nat.le_refl _, Nat.two_pow_pos _, by rw [accP_one]; exact hh⟩
      ·rintro s a w ⟨hs1, hs2, hh⟩ hf
       have hw1 := pow_le_10 (lenR_le hV row)
       have hstep := accP_step (d := d) (p := p) row hs1
       obtain ⟨q1, hq1⟩ : ∃ q : Nat, q = 2 ^ lenR d row := ⟨_, rfl⟩
       rw [← hq1] at hw1 hs2
       refine sy_seq ?_
       refine sy_seq ?_
       have hcx : #[Value.int .i64 ((d.l.length : Nat) : Int), .int .i64 ((d.r.length : Nat) : Int)][0 + ((row : Nat) : Int).toNat * 1]? = some (.int .i64 ((lenR d row : Nat) : Int)) := by
         rcases (show row = 0 ∨ row = 1 by omega) with rfl | rfl <;> rfl
       have hrl := lenR_le hV row
       refine sy_ops ?_
       refine o_v hf hh (yv_move rfl) ?_; clear hf a; intro a hf
       refine o_v hf hh (yv_move rfl) ?_; clear hf a; intro a hf
       refine o_v hf hh (y_ia Try.ae_42 rfl rfl) ?_; clear hf a; intro a hf
       refine o_v hf hh (y_ld Try.sc_3 rfl (hb := fun _ h => h.get (B16, .cells #[.int .i64 (d.l.length : Nat), .int .i64 (d.r.length : Nat)] 42) (by simp))) ?_; clear hf a; intro a hf
       refine o_v hf hh (yv_cast (yv_shl1 (.inl rfl) rfl rfl (by omega) (by omega)) (intv (b := ((q1 : Nat) : Int)) (by rw [hq1]; exact shl_one))) ?_; clear hf a; intro a hf
       refine o_v hf hh (yv_bin rfl rfl rfl) ?_; clear hf a; intro a hf
       refine o_end ?_
       refine sy_cond hf rfl (fun hg31 => ?_) (fun hg31 => ?_)
       ·have hG31 := hg31; try simp only [gS] at hG31
        refine sy_skip ?_
        refine then_n ?_
        refine sy_seq ?_
        refine sy_block ?_
        refine sy_sq ?_
        refine o_alloc hf hh Try.ze_42 ?_; clear hf hh a; intro B25 a w hf hh
        refine o_end ?_
        refine sy_sq ?_
        refine o_v hf hh (yv_move rfl) ?_; clear hf a; intro a hf
        refine o_v hf hh (yv_move rfl) ?_; clear hf a; intro a hf
        refine o_v hf hh (y_ia Try.ae_42 rfl rfl) ?_; clear hf a; intro a hf
        refine o_store (i := 0) hf hh Try.sz_3 (hx := rfl) (hi := atI (i := 0) rfl) (hy := rfl) (hl := Nat.ble_eq_true_of_le (by rw [Int.toNat_natCast]; show _ ≤ 2; omega)) fun w hh => ?_
        replace hh := Hp.headEq hh (ei_set (row := row) (s := s) (by omega))
        replace hh : Hp u [] (setB B17 B18 B19 B20 B21 (accP d p row s) ++ ((B25, .cells (ei2 (setX row s)) 42) :: [(B16, .cells #[.int .i64 (d.l.length : Nat), .int .i64 (d.r.length : Nat)] 42), (B1, .cells (canV d p sa sb ca cb).cells 31)]))  w := hh.perm List.perm_middle.symm
        refine o_end ?_
        refine sy_seq ?_
        refine sy_tail (C := Hp _ _ _) 8 Try.follows (by kernel_rfl) rfl rfl (hh.drawn _) ?_
        refine oq_v hf (yv_move rfl) ?_; clear hf a; intro a hf
        refine oq_call hf Try.en_22 rfl rfl rfl (fun w hh => p22 s (by omega) _) ?_; clear hf a; intro a hf
        refine oq_v hf (yv_fieldAddr Try.fo_31_1 rfl) ?_; clear hf a; intro a hf
        refine oq_v hf (y_ld Try.sc_3 rfl (hb := fun _ h => h.get (B1, .cells (canV d p sa sb ca cb).cells 31) (by simp)) (hv := rfl)) ?_; clear hf a; intro a hf
        refine oq_v hf (yv_bin rfl rfl rfl) ?_; clear hf a; intro a hf
        refine oq_v hf (yv_move rfl) ?_; clear hf a; intro a hf
        refine guard_splitq hf (t := 95) rfl (fun hg35 => ?_) (fun hg35 => ?_)
        ·have hG35 := hg35; try simp only [gS] at hG35
         refine oq_v hf (yv_move rfl) ?_; clear hf a; intro a hf
         refine oq_v hf (y_lds Try.ag_42 rfl (hb := fun _ h => h.get (B25, .cells (ei2 (setX row s)) 42) (by simp)) (hv := rfl)) ?_; clear hf a; intro a hf
         refine q_end fun w hh => ?_
         have hq9 := (hh.less (List.sublist_append_left _ _)).own
         have hN9 := hp_new hh
         refine o_call hf Try.en_21 rfl rfl rfl (p21 d p sa sb ca cb _ hok (accP d p row s) (accP_ok hV (by omega) (by omega)) (setX row s) (setX_ask hV (by omega) (by omega)) B1 B17 B18 B19 B20 B21 (MkN.new hA hh.ext hN9) (MkN.new hB hh.ext hN9) (hh.get (B1, .cells (canV d p sa sb ca cb).cells 31) (by simp)) (hp_off (X := setB B17 B18 B19 B20 B21 (accP d p row s)) hh (b := B1) (o := .cells (canV d p sa sb ca cb).cells 31) (by simp)) hq9) ?_; clear hf a; intro v a w hR hf
         obtain ⟨rfl, hx⟩ := hR
         replace hh := hh.swap' (X := setB B17 B18 B19 B20 B21 (accP d p row s)) (Z := ((B25, .cells (ei2 (setX row s)) 42) :: [(B16, .cells #[.int .i64 (d.l.length : Nat), .int .i64 (d.r.length : Nat)] 42), (B1, .cells (canV d p sa sb ca cb).cells 31)])) (.refl _) hx; clear hx hq9 hN9
         refine o_v hf hh (yv_not rfl) ?_; clear hf a; intro a hf
         refine o_v hf hh (y_pt rfl rfl) ?_; clear hf a; intro a hf
         refine o_end ?_
         refine c_f hf ?_
         refine sy_skip ?_
         refine blk_n ?_
         refine then_n ?_
         refine sy_ops ?_
         refine o_v hf hh (yv_move rfl) ?_; clear hf a; intro a hf
         refine o_v hf hh (y_add rfl rfl) ?_; clear hf a; intro a hf
         refine o_v hf hh (yv_assign rfl) ?_; clear hf a; intro a hf
         refine ops_end ?_
         refine then_n ?_
         first
           | (rw [← hstep] at hh
              exact ⟨s + 1, ⟨⟨by omega, by omega, (hh.perm List.perm_middle).less (.cons _ (.refl _))⟩, hf.head ⟨rfl, True.intro⟩ (Keep.cons rfl (Keep.cons rfl (Keep.cons rfl (Keep.cons rfl (Keep.cons rfl (Keep.cons rfl (Keep.cons rfl (Keep.cons rfl (Keep.cons rfl (Keep.cons rfl (Keep.cons rfl (Keep.cons rfl (Keep.cons rfl (Keep.cons rfl (Keep.cons rfl (Keep.cons rfl (Keep.cons rfl (Keep.cons rfl (Keep.cons rfl (Keep.cons rfl (Keep.cons rfl (Keep.cons rfl (Keep.cons rfl (Keep.cons rfl (Keep.app rfl (Keep.rm rfl Keep.base))))))))))))))))))))))))))⟩, by omega⟩)
           | (rw [if_neg (by rw [setX_few (by omega) (by omega)]; decide), List.append_nil] at hstep
              rw [← hstep] at hh
              exact ⟨s + 1, ⟨⟨by omega, by omega, (hh.perm List.perm_middle).less (.cons _ (.refl _))⟩, hf.head ⟨rfl, True.intro⟩ (Keep.cons rfl (Keep.cons rfl (Keep.cons rfl (Keep.cons rfl (Keep.cons rfl (Keep.cons rfl (Keep.cons rfl (Keep.cons rfl (Keep.cons rfl (Keep.cons rfl (Keep.cons rfl (Keep.cons rfl (Keep.cons rfl (Keep.cons rfl (Keep.cons rfl (Keep.cons rfl (Keep.cons rfl (Keep.cons rfl (Keep.cons rfl (Keep.cons rfl (Keep.cons rfl (Keep.cons rfl (Keep.cons rfl (Keep.cons rfl (Keep.app rfl (Keep.rm rfl Keep.base))))))))))))))))))))))))))⟩, by omega⟩)
           | omega
        ·have hG35 := hg35; try simp only [gS] at hG35
         refine oq_off hf ?_; clear hf a; intro a hf
         refine oq_off hf ?_; clear hf a; intro a hf
         refine q_end fun w hh => ?_
         refine o_off hf ?_; clear hf a; intro a hf
         refine o_off hf ?_; clear hf a; intro a hf
         refine o_v hf hh (y_pf rfl rfl) ?_; clear hf a; intro a hf
         refine o_end ?_
         refine c_f hf ?_
         refine sy_skip ?_
         refine blk_n ?_
         refine then_n ?_
         refine sy_ops ?_
         refine o_v hf hh (yv_move rfl) ?_; clear hf a; intro a hf
         refine o_v hf hh (y_add rfl rfl) ?_; clear hf a; intro a hf
         refine o_v hf hh (yv_assign rfl) ?_; clear hf a; intro a hf
         refine ops_end ?_
         refine then_n ?_
         first
           | (rw [← hstep] at hh
              exact ⟨s + 1, ⟨⟨by omega, by omega, (hh.perm List.perm_middle).less (.cons _ (.refl _))⟩, hf.head ⟨rfl, True.intro⟩ (Keep.cons rfl (Keep.cons rfl (Keep.cons rfl (Keep.cons rfl (Keep.cons rfl (Keep.cons rfl (Keep.cons rfl (Keep.cons rfl (Keep.cons rfl (Keep.cons rfl (Keep.cons rfl (Keep.cons rfl (Keep.cons rfl (Keep.cons rfl (Keep.cons rfl (Keep.cons rfl (Keep.cons rfl (Keep.cons rfl (Keep.cons rfl (Keep.cons rfl (Keep.cons rfl (Keep.cons rfl (Keep.cons rfl (Keep.cons rfl (Keep.app rfl (Keep.rm rfl Keep.base))))))))))))))))))))))))))⟩, by omega⟩)
           | (rw [if_neg (by rw [setX_few (by omega) (by omega)]; decide), List.append_nil] at hstep
              rw [← hstep] at hh
              exact ⟨s + 1, ⟨⟨by omega, by omega, (hh.perm List.perm_middle).less (.cons _ (.refl _))⟩, hf.head ⟨rfl, True.intro⟩ (Keep.cons rfl (Keep.cons rfl (Keep.cons rfl (Keep.cons rfl (Keep.cons rfl (Keep.cons rfl (Keep.cons rfl (Keep.cons rfl (Keep.cons rfl (Keep.cons rfl (Keep.cons rfl (Keep.cons rfl (Keep.cons rfl (Keep.cons rfl (Keep.cons rfl (Keep.cons rfl (Keep.cons rfl (Keep.cons rfl (Keep.cons rfl (Keep.cons rfl (Keep.cons rfl (Keep.cons rfl (Keep.cons rfl (Keep.cons rfl (Keep.app rfl (Keep.rm rfl Keep.base))))))))))))))))))))))))))⟩, by omega⟩)
           | omega
       ·have hG31 := hg31; try simp only [gS] at hG31
        refine sy_exit ?_
        refine then_e ?_
        refine then_e ?_
        refine blk_e ?_
        refine blk_n ?_
        refine then_n ?_
        refine sy_ops ?_
        refine o_v hf hh (y_add rfl rfl) ?_; clear hf a; intro a hf
        refine o_v hf hh (yv_move rfl) ?_; clear hf a; intro a hf
        refine ops_end ?_
        refine then_n ?_
        exact ⟨row + 1, ⟨⟨by omega, by rw [show s = 2 ^ lenR d row by omega, accP_end] at hh; exact hh⟩, hf.head ⟨rfl, True.intro⟩ (Keep.cons rfl (Keep.cons rfl (Keep.cons rfl (Keep.cons rfl (Keep.cons rfl (Keep.cons rfl (Keep.cons rfl (Keep.cons rfl (Keep.app rfl (Keep.rm rfl (Keep.cons rfl (Keep.cons rfl (Keep.cons rfl (Keep.cons rfl (Keep.app rfl (Keep.rm rfl Keep.base))))))))))))))))⟩, by omega⟩
     ·have hG26 := hg26; try simp only [gS] at hG26
      refine sy_exit ?_
      refine then_e ?_
      refine then_e ?_
      refine blk_e ?_
      refine then_n ?_
      refine sy_seq ?_
      refine sy_seq ?_
      obtain rfl : row = 2 := by omega
      rw [accL_all] at hh
      replace hh : Hp u [] ((B17, .cells #[.int .i64 (((casesL d p).length : Nat) : Int)] 3) :: (B18, .cells #[.int .i64 ((sideS (casesL d p) : Nat) : Int)] 3) :: (B19, .cells (ei2 (joinL (casesL d p)).o) 42) :: (B20, .cells (ei2 (joinL (casesL d p)).a) 42) :: (B21, .cells (ei2 (firstL (casesL d p)).b) 42) :: [(B16, .cells #[.int .i64 (d.l.length : Nat), .int .i64 (d.r.length : Nat)] 42), (B1, .cells (canV d p sa sb ca cb).cells 31)]) w := hh
      refine sy_ops ?_
      refine o_v hf hh (yv_move rfl) ?_; clear hf a; intro a hf
      refine o_v hf hh (y_ld Try.sc_3 rfl) ?_; clear hf a; intro a hf
      refine o_v hf hh (yv_bin rfl rfl rfl) ?_; clear hf a; intro a hf
      refine o_v hf hh (yv_move rfl) ?_; clear hf a; intro a hf
      refine o_v hf hh (yv_move rfl) ?_; clear hf a; intro a hf
      refine o_v hf hh (yv_bin rfl rfl rfl) ?_; clear hf a; intro a hf
      refine o_v hf hh (y_pf rfl rfl) ?_; clear hf a; intro a hf
      refine o_end ?_
      refine c_f hf ?_
      refine sy_skip ?_
      refine then_n ?_
      refine sy_seq ?_
      refine sy_sq ?_
      refine o_v hf hh (y_ld Try.sc_3 rfl) ?_; clear hf a; intro a hf
      refine o_v hf hh (yv_bin rfl rfl rfl) ?_; clear hf a; intro a hf
      refine o_end ?_
      refine sy_cond hf rfl (fun hg40 => ?_) (fun hg40 => ?_)
      ·have hG40 := hg40; try simp only [gS] at hG40
       refine sy_seq ?_
       obtain ⟨hg4, hv1, hv2, hv3⟩ := vals_no hok (by omega)
       rw [hg4, hv1, hv2, hv3] at hf
       refine sy_ops ?_
       refine o_v hf hh (yv_move rfl) ?_; clear hf a; intro a hf
       refine o_v hf hh (yv_bin rfl rfl rfl) ?_; clear hf a; intro a hf
       refine o_v hf hh (yv_move rfl) ?_; clear hf a; intro a hf
       refine o_v hf hh (yv_move rfl) ?_; clear hf a; intro a hf
       refine o_v hf hh (yv_move rfl) ?_; clear hf a; intro a hf
       refine o_v hf hh (yv_bin rfl rfl rfl) ?_; clear hf a; intro a hf
       refine o_v hf hh (y_pt rfl rfl) ?_; clear hf a; intro a hf
       refine o_v hf hh (yv_move rfl) ?_; clear hf a; intro a hf
       refine o_v hf hh (yv_move rfl) ?_; clear hf a; intro a hf
       refine o_v hf hh (yv_move rfl) ?_; clear hf a; intro a hf
       refine o_v hf hh (yv_bin rfl rfl rfl) ?_; clear hf a; intro a hf
       refine o_v hf hh (y_pt rfl rfl) ?_; clear hf a; intro a hf
       refine o_v hf hh (yv_move rfl) ?_; clear hf a; intro a hf
       refine o_v hf hh (yv_move rfl) ?_; clear hf a; intro a hf
       refine o_v hf hh (yv_move rfl) ?_; clear hf a; intro a hf
       refine o_v hf hh (yv_bin rfl rfl rfl) ?_; clear hf a; intro a hf
       refine o_v hf hh (y_pt rfl rfl) ?_; clear hf a; intro a hf
       refine o_v hf hh (yv_move rfl) ?_; clear hf a; intro a hf
       refine o_v hf hh (yv_move rfl) ?_; clear hf a; intro a hf
       refine o_v hf hh (yv_bin rfl rfl rfl) ?_; clear hf a; intro a hf
       refine o_v hf hh (y_pt rfl rfl) ?_; clear hf a; intro a hf
       refine o_v hf hh (yv_move rfl) ?_; clear hf a; intro a hf
       refine o_v hf hh (yv_move rfl) ?_; clear hf a; intro a hf
       refine o_v hf hh (yv_bin rfl rfl rfl) ?_; clear hf a; intro a hf
       refine o_v hf hh (y_pt rfl rfl) ?_; clear hf a; intro a hf
       refine o_v hf hh (yv_move rfl) ?_; clear hf a; intro a hf
       refine o_v hf hh (yv_move rfl) ?_; clear hf a; intro a hf
       refine o_v hf hh (yv_bin rfl rfl rfl) ?_; clear hf a; intro a hf
       refine o_v hf hh (y_pt rfl rfl) ?_; clear hf a; intro a hf
       refine o_v hf hh (yv_move rfl) ?_; clear hf a; intro a hf
       refine o_v hf hh (yv_move rfl) ?_; clear hf a; intro a hf
       refine o_v hf hh (yv_bin rfl rfl rfl) ?_; clear hf a; intro a hf
       refine o_v hf hh (y_pt rfl rfl) ?_; clear hf a; intro a hf
       refine o_v hf hh (yv_move rfl) ?_; clear hf a; intro a hf
       refine o_v hf hh (yv_move rfl) ?_; clear hf a; intro a hf
       refine o_v hf hh (yv_bin rfl rfl rfl) ?_; clear hf a; intro a hf
       refine o_v hf hh (y_pt rfl rfl) ?_; clear hf a; intro a hf
       refine o_v hf hh (yv_move rfl) ?_; clear hf a; intro a hf
       refine o_v hf hh (yv_move rfl) ?_; clear hf a; intro a hf
       refine o_v hf hh (yv_bin rfl rfl rfl) ?_; clear hf a; intro a hf
       refine o_v hf hh (y_pt rfl rfl) ?_; clear hf a; intro a hf
       refine o_v hf hh (yv_move rfl) ?_; clear hf a; intro a hf
       refine o_v hf hh (yv_move rfl) ?_; clear hf a; intro a hf
       refine o_v hf hh (yv_bin rfl rfl rfl) ?_; clear hf a; intro a hf
       refine o_v hf hh (y_pt rfl rfl) ?_; clear hf a; intro a hf
       refine o_v hf hh (yv_move rfl) ?_; clear hf a; intro a hf
       refine o_call hf Try.en_17 rfl rfl rfl (p17 _) ?_; clear hf a; intro v a w hR hf
       obtain ⟨rfl, hx⟩ := hR; replace hh := hh.more hx; clear hx
       refine o_v hf hh (y_pt rfl rfl) ?_; clear hf a; intro a hf
       refine o_v hf hh (yv_assign rfl) ?_; clear hf a; intro a hf
       refine o_end ?_
       refine sy_ret ?_
       refine then_r ?_
       refine ret_r hf rfl rfl ?_
       first
         | exact ⟨rfl, hh.ext⟩
         | omega
      ·have hG40 := hg40; try simp only [gS] at hG40
       refine sy_skip ?_
       refine then_n ?_
       refine sy_seq ?_
       obtain ⟨hg0, hv1, hv2, hv3⟩ := vals_ok hok (by omega)
       rw [hg0, hv1, hv2, hv3] at hf
       refine sy_ops ?_
       refine o_v hf hh (yv_move rfl) ?_; clear hf a; intro a hf
       refine o_v hf hh (yv_bin rfl rfl rfl) ?_; clear hf a; intro a hf
       refine o_v hf hh (yv_move rfl) ?_; clear hf a; intro a hf
       refine o_v hf hh (yv_move rfl) ?_; clear hf a; intro a hf
       refine o_v hf hh (yv_bin rfl rfl rfl) ?_; clear hf a; intro a hf
       refine o_v hf hh (y_pt rfl rfl) ?_; clear hf a; intro a hf
       refine o_v hf hh (yv_move rfl) ?_; clear hf a; intro a hf
       refine o_v hf hh (yv_move rfl) ?_; clear hf a; intro a hf
       refine o_v hf hh (yv_bin rfl rfl rfl) ?_; clear hf a; intro a hf
       refine o_v hf hh (y_pt rfl rfl) ?_; clear hf a; intro a hf
       refine o_v hf hh (yv_move rfl) ?_; clear hf a; intro a hf
       refine o_v hf hh (yv_move rfl) ?_; clear hf a; intro a hf
       refine o_v hf hh (yv_bin rfl rfl rfl) ?_; clear hf a; intro a hf
       refine o_v hf hh (y_pt rfl rfl) ?_; clear hf a; intro a hf
       refine o_v hf hh (yv_move rfl) ?_; clear hf a; intro a hf
       refine o_v hf hh (yv_move rfl) ?_; clear hf a; intro a hf
       refine o_v hf hh (y_ld Try.sc_3 rfl) ?_; clear hf a; intro a hf
       refine o_v hf hh (yv_bin rfl rfl rfl) ?_; clear hf a; intro a hf
       refine o_v hf hh (y_pt rfl rfl) ?_; clear hf a; intro a hf
       refine o_v hf hh (yv_move rfl) ?_; clear hf a; intro a hf
       refine o_v hf hh (yv_move rfl) ?_; clear hf a; intro a hf
       refine o_v hf hh (y_ia Try.ae_42 rfl rfl) ?_; clear hf a; intro a hf
       refine o_v hf hh (y_ld Try.sc_3 rfl) ?_; clear hf a; intro a hf
       refine o_v hf hh (yv_bin rfl rfl rfl) ?_; clear hf a; intro a hf
       refine o_v hf hh (y_pt rfl rfl) ?_; clear hf a; intro a hf
       refine o_v hf hh (yv_move rfl) ?_; clear hf a; intro a hf
       refine o_v hf hh (yv_move rfl) ?_; clear hf a; intro a hf
       refine o_v hf hh (y_ia Try.ae_42 rfl rfl) ?_; clear hf a; intro a hf
       refine o_v hf hh (y_ld Try.sc_3 rfl) ?_; clear hf a; intro a hf
       refine o_v hf hh (yv_bin rfl rfl rfl) ?_; clear hf a; intro a hf
       refine o_v hf hh (y_pt rfl rfl) ?_; clear hf a; intro a hf
       refine o_v hf hh (yv_move rfl) ?_; clear hf a; intro a hf
       refine o_v hf hh (yv_move rfl) ?_; clear hf a; intro a hf
       refine o_v hf hh (y_ia Try.ae_42 rfl rfl) ?_; clear hf a; intro a hf
       refine o_v hf hh (y_ld Try.sc_3 rfl) ?_; clear hf a; intro a hf
       refine o_v hf hh (yv_bin rfl rfl rfl) ?_; clear hf a; intro a hf
       refine o_v hf hh (y_pt rfl rfl) ?_; clear hf a; intro a hf
       refine o_v hf hh (yv_move rfl) ?_; clear hf a; intro a hf
       refine o_v hf hh (yv_move rfl) ?_; clear hf a; intro a hf
       refine o_v hf hh (y_ia Try.ae_42 rfl rfl) ?_; clear hf a; intro a hf
       refine o_v hf hh (y_ld Try.sc_3 rfl) ?_; clear hf a; intro a hf
       refine o_v hf hh (yv_bin rfl rfl rfl) ?_; clear hf a; intro a hf
       refine o_v hf hh (y_pt rfl rfl) ?_; clear hf a; intro a hf
       refine o_v hf hh (yv_move rfl) ?_; clear hf a; intro a hf
       refine o_v hf hh (yv_move rfl) ?_; clear hf a; intro a hf
       refine o_v hf hh (y_ia Try.ae_42 rfl rfl) ?_; clear hf a; intro a hf
       refine o_v hf hh (y_ld Try.sc_3 rfl) ?_; clear hf a; intro a hf
       refine o_v hf hh (yv_bin rfl rfl rfl) ?_; clear hf a; intro a hf
       refine o_v hf hh (y_pt rfl rfl) ?_; clear hf a; intro a hf
       refine o_v hf hh (yv_move rfl) ?_; clear hf a; intro a hf
       refine o_v hf hh (yv_move rfl) ?_; clear hf a; intro a hf
       refine o_v hf hh (y_ia Try.ae_42 rfl rfl) ?_; clear hf a; intro a hf
       refine o_v hf hh (y_ld Try.sc_3 rfl) ?_; clear hf a; intro a hf
       refine o_v hf hh (yv_bin rfl rfl rfl) ?_; clear hf a; intro a hf
       refine o_v hf hh (y_pt rfl rfl) ?_; clear hf a; intro a hf
       refine o_v hf hh (yv_move rfl) ?_; clear hf a; intro a hf
       refine o_call hf Try.en_17 rfl rfl rfl (p17 _) ?_; clear hf a; intro v a w hR hf
       obtain ⟨rfl, hx⟩ := hR; replace hh := hh.more hx; clear hx
       refine o_v hf hh (y_pt rfl rfl) ?_; clear hf a; intro a hf
       refine o_v hf hh (yv_assign rfl) ?_; clear hf a; intro a hf
       refine o_end ?_
       refine sy_ret ?_
       refine ret_r hf rfl rfl ?_
       first
         | exact ⟨rfl, hh.ext⟩
         | omega
end Go.Proofs.Ytidieepndphodaa
namespace Go.Proofs.Ytidieepndphodaa
open Go Go.Sy Go.MatM Go.ChangeShapes Go.WideShapes Go.Deep Go.RowKit
theorem hs31 : Try.prog.underlying 31 = some (.struct (Try.prog.fieldsOf 31)) := by kernel_rfl
theorem fs31 : (Try.prog.fieldsOf 31).map (fun f => (f.offset, f.type)) = #[(0, 29), (5, 3)] := by kernel_rfl
theorem hs29 : Try.prog.underlying 29 = some (.struct (Try.prog.fieldsOf 29)) := by kernel_rfl
theorem fs29 : (Try.prog.fieldsOf 29).map (fun f => (f.offset, f.type)) = #[(0, 25), (1, 25), (2, 27), (4, 3)] := by kernel_rfl
theorem co31 : Try.prog.cellsOf 31 = 6 := by kernel_rfl
theorem co29 : Try.prog.cellsOf 29 = 5 := by kernel_rfl
theorem co25 : Try.prog.cellsOf 25 = 1 := by kernel_rfl
theorem co27 : Try.prog.cellsOf 27 = 2 := by kernel_rfl
theorem co3 : Try.prog.cellsOf 3 = 1 := by kernel_rfl
theorem un25 : Try.prog.underlying 25 = some (.slice 54) := by kernel_rfl
theorem fk54 : flK Try.prog .i64 9 54 = some 4 := by kernel_rfl
theorem fk27 : flK Try.prog .i64 9 27 = some 2 := by kernel_rfl
theorem fk3 : flK Try.prog .i64 9 3 = some 1 := by kernel_rfl
theorem un4 : Try.prog.underlying 4 = some .bool := by kernel_rfl
theorem own : ownKnob Try.prog.godebug = none := by kernel_rfl
def toMk (p : List Int) : Mk := match p with
  | [x, y, z, t] => ⟨x, y, z, t⟩
  | _ => ⟨0, 0, 0, 0⟩
theorem mkAt_flat {W : World} {sa : Option Addr} {l : List (List Int)} (hl : ∀ p ∈ l, p.length = 4) (h : FlatAt W .i64 sa 4 l) : MkAt W sa (l.map toMk) := fun i s hi => by
  rw [List.getElem?_map] at hi
  cases hp : l[i]? with
  | none => rw [hp] at hi; cases hi
  | some p =>
    rw [hp] at hi
    cases hi
    obtain ⟨blk, off, c, T, fr, h1, h2, h3⟩ := h i p hp
    refine ⟨blk, off, c, T, fr, h1, h2, ?_⟩
    rw [h3]
    match p, hl p (List.mem_of_getElem? hp) with
    | [x, y, z, t], _ => rfl
theorem len6 {l : List Value} (h : l.length = 6) : ∃ a b c d e f, l = [a, b, c, d, e, f] := by
  match l, h with
  | [a, b, c, d, e, f], _ => exact ⟨a, b, c, d, e, f, rfl⟩
section
variable {H : Type} {enc : TypeId × Value → H} {W : World} {base : Nat} {spare : Nat → Bool} {held : Bool}
set_option maxRecDepth 100000 in
theorem openCan {r : Reach} {b0 : Nat} {v : Value} {d : DataW H} {p : List MemPlace} (hv : Value.okWide Try.prog W r b0 31 v) (h : DataW.Trod enc Try.prog W base spare held 31 v d p) : ∃ (d : RowsD) (p : Int) (sa sb : Option Addr) (ca cb : Nat), v = canV d p sa sb ca cb ∧ MkAt W sa d.l ∧ MkAt W sb d.r ∧ (-9223372036854775808 ≤ d.hid ∧ d.hid ≤ 9223372036854775807) ∧ (-9223372036854775808 ≤ p ∧ p ≤ 9223372036854775807) ∧ d.l.length ≤ ca ∧ d.r.length ≤ cb := by
  obtain ⟨cs, rfl, hsz⟩ := okWide_struct hs31 hv
  obtain ⟨fuel, h⟩ := h
  obtain ⟨_, hf0⟩ := trod_field hs31 h
  rw [fs31] at hf0
  rw [co31] at hsz
  obtain ⟨l, rfl⟩ : ∃ l : List Value, cs = l.toArray := ⟨cs.toList, by simp⟩
  obtain ⟨c0, c1, c2, c3, c4, c5, rfl⟩ := len6 (by simpa using hsz)
  replace hf0 : ∀ (i o : Nat) (u : TypeId) (c : Nat), (#[(0, 29), (5, 3)] : Array (Nat × TypeId))[i]? = some (o, u) → Try.prog.cellsOf u = c → ∃ n y, DataW.trod enc Try.prog W base spare held n u (([c0, c1, c2, c3, c4, c5].drop o).take c) = some y := hf0
  obtain ⟨_, _, k0⟩ := hf0 0 0 29 5 rfl co29
  obtain ⟨_, _, k1⟩ := hf0 1 5 3 1 rfl co3
  obtain ⟨p3, q3, e4, w4⟩ := trod_fl fk3 k1
  obtain ⟨_, hf⟩ := trod_field hs29 k0
  rw [fs29] at hf
  replace hf : ∀ (i o : Nat) (u : TypeId) (c : Nat), (#[(0, 25), (1, 25), (2, 27), (4, 3)] : Array (Nat × TypeId))[i]? = some (o, u) → Try.prog.cellsOf u = c → ∃ n y, DataW.trod enc Try.prog W base spare held n u (([c0, c1, c2, c3, c4].drop o).take c) = some y := hf
  obtain ⟨_, _, g0⟩ := hf 0 0 25 1 rfl co25
  obtain ⟨_, _, g1⟩ := hf 1 1 25 1 rfl co25
  obtain ⟨_, _, g2⟩ := hf 2 2 27 2 rfl co27
  obtain ⟨_, _, g3⟩ := hf 3 4 3 1 rfl co3
  obtain ⟨l0, sa, ca, e0, _, b0', f0⟩ := trod_slices un25 fk54 (by omega) g0
  have hc0 := trod_cap un25 e0 g0
  obtain ⟨l1, sb, cb, e1, _, b1, f1⟩ := trod_slices un25 fk54 (by omega) g1
  have hc1 := trod_cap un25 e1 g1
  obtain ⟨p2, q2, e2, _⟩ := trod_fl fk27 g2
  obtain ⟨p5, q5, e3, w3⟩ := trod_fl fk3 g3
  obtain ⟨lo, hi, rfl⟩ : ∃ x y, p2 = [x, y] := by
    match p2, q2 with
    | [x, y], _ => exact ⟨x, y, rfl⟩
  obtain ⟨hid, rfl⟩ : ∃ x, p5 = [x] := by
    match p5, q5 with
    | [x], _ => exact ⟨x, rfl⟩
  obtain ⟨pp, rfl⟩ : ∃ x, p3 = [x] := by
    match p3, q3 with
    | [x], _ => exact ⟨x, rfl⟩
  simp at e0 e1 e2 e3 e4
  obtain ⟨rfl, rfl⟩ := e2
  subst e0; subst e1; subst e3; subst e4
  exact ⟨⟨l0.map toMk, l1.map toMk, lo, hi, hid⟩, pp, sa, sb, ca, cb, by simp, mkAt_flat (fun p hp => (b0' p hp).1) f0, mkAt_flat (fun p hp => (b1 p hp).1) f1, wf64 (w3 hid (by simp)), wf64 (w4 pp (by simp)), by simpa using hc0, by simpa using hc1⟩
end
end Go.Proofs.Ytidieepndphodaa
