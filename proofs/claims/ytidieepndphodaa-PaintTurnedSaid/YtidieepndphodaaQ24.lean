/- Lemmas, in order: PaintMore: the law's code returns true. PaintTurned: the law's code returns true. What a law is handed, opened: canvases.. -/
import Derived.Test.YtidieepndphodaaQ23
import Derived.Test.YtidieepndphodaaRows
import Derived.Test.YtidieepndphodaaChecked
import Derived.JoinedOf
import Derived.LaidLaws
import Derived.RowKit
import Derived.RowKitTokens
import Derived.LaidHandle
import Derived.Stop.Joined
import Derived.Lay
import Derived.SizedLaws
import Derived.SevenTiedAt
namespace Go.Proofs.Ytidieepndphodaa
open Go Go.Sy Go.MatM
set_option maxRecDepth 100000 in
set_option maxHeartbeats 4000000 in
theorem p9 (d : RowsD) (p : Int) (sa sb : Option Addr) (ca cb : Nat) (u : World) (hA : MkAt u sa d.l) (hB : MkAt u sb d.r) (l r : Int) : Calls Try.prog 9 #[canV d p sa sb ca cb, .int .i64 l, .int .i64 r] u (Ret fun v w' => v = .bool true ∧ Ext [] u w') := by
  refine calls_of Try.func9 rfl rfl (fun a hf => ?_)
  have hh := Hp.init u []
  refine sy_sq ?_
  refine o_box hf hh ?_; clear hf hh a; intro B3 a w hf hh
  refine o_v hf hh (yv_assign rfl) ?_; clear hf a; intro a hf
  refine o_end ?_
  refine sy_seq ?_
  refine sy_sq ?_
  refine o_v hf hh (y_lds Try.ag_31 rfl) ?_; clear hf a; intro a hf
  refine o_call hf Try.en_18 rfl rfl rfl (p18 d p sa sb ca cb _ (hA.ext hh.ext) (hB.ext hh.ext) 8) ?_; clear hf a; intro v a w hR hf
  obtain ⟨rfl, hx⟩ := hR; replace hh := hh.more hx; clear hx
  refine o_v hf hh (yv_move rfl) ?_; clear hf a; intro a hf
  refine guard_split hf (t := 38) rfl (fun hg2 => ?_) (fun hg2 => ?_)
  ·have hG2 := hg2; try simp only [gS] at hG2
   refine o_off hf ?_; clear hf a; intro a hf
   refine o_off hf ?_; clear hf a; intro a hf
   refine o_off hf ?_; clear hf a; intro a hf
   refine o_v hf hh (y_pt rfl rfl) ?_; clear hf a; intro a hf
   refine o_end ?_
   refine c_t hf ?_
   refine sy_sq ?_
   refine o_call hf Try.en_17 rfl rfl rfl (p17 _) ?_; clear hf a; intro v a w hR hf
   obtain ⟨rfl, hx⟩ := hR; replace hh := hh.more hx; clear hx
   refine o_v hf hh (yv_assign rfl) ?_; clear hf a; intro a hf
   refine o_end ?_
   refine sy_ret ?_
   refine then_r ?_
   refine ret_r hf rfl rfl ?_
   exact ⟨rfl, hh.ext⟩
  ·have hG2 := hg2; try simp only [gS] at hG2
   refine o_v hf hh (y_lds Try.ag_31 rfl) ?_; clear hf a; intro a hf
   have hg9 : (decide (24 < d.l.length ∨ 24 < d.r.length) || (decide ((8 : Int) < d.l.length ∨ (8 : Int) < d.r.length) && okCan d p)) = false := by assumption
   have hlen : d.l.length ≤ 24 ∧ d.r.length ≤ 24 := by
     rw [Bool.or_eq_false_iff, decide_eq_false_iff_not] at hg9
     omega
   refine o_call hf Try.en_19 rfl rfl rfl (p19 d p sa sb ca cb _ (hA.ext hh.ext) (hB.ext hh.ext) (by omega) (by omega)) ?_; clear hf a; intro v a w hR hf
   obtain ⟨rfl, hx⟩ := hR; replace hh := hh.more hx; clear hx
   refine o_v hf hh (yv_not rfl) ?_; clear hf a; intro a hf
   refine o_v hf hh (y_pf rfl rfl) ?_; clear hf a; intro a hf
   refine o_end ?_
   refine sy_cond hf rfl (fun hg5 => ?_) (fun hg5 => ?_)
   ·have hG5 := hg5; try simp only [gS] at hG5
    refine sy_sq ?_
    refine o_call hf Try.en_17 rfl rfl rfl (p17 _) ?_; clear hf a; intro v a w hR hf
    obtain ⟨rfl, hx⟩ := hR; replace hh := hh.more hx; clear hx
    refine o_v hf hh (yv_assign rfl) ?_; clear hf a; intro a hf
    refine o_end ?_
    refine sy_ret ?_
    refine then_r ?_
    refine ret_r hf rfl rfl ?_
    exact ⟨rfl, hh.ext⟩
   ·have hG5 := hg5; try simp only [gS] at hG5
    refine sy_skip ?_
    refine then_n ?_
    refine sy_cut (σ := Nat × Nat × Nat) [7, 8, 9, 44, 45, 46] (fun q => [(7, ptr q.1 0), (8, ptr q.2.1 0), (9, ptr q.2.2 0)]) (fun q => fun w' => Hp u [] [(q.2.2, .cells (canV d p sa sb ca cb).cells 31), (q.2.1, .cells (canV d p sa sb ca cb).cells 31), (q.1, .cells (canV d p sa sb ca cb).cells 31), (B3, .cells (canV d p sa sb ca cb).cells 31)] w') hf ?_ ?_
    ·refine sy_tree1 (.q 0 0 (.q 0 1 (.q 0 2 (.e3 3 (.e2 4 (.e1 5 (.e1 6 (.e1 7 (.e1 8 (.fin))))) 5 (.e1 4 (.e1 6 (.e1 7 (.e1 8 (.fin)))))) 4 (.e2 3 (.e1 5 (.e1 6 (.e1 7 (.e1 8 (.fin))))) 5 (.e1 3 (.e1 6 (.e1 7 (.e1 8 (.fin)))))) 5 (.e2 3 (.e1 4 (.e1 6 (.e1 7 (.e1 8 (.fin))))) 4 (.e1 3 (.e1 6 (.e1 7 (.e1 8 (.fin)))))))))) [] Try.follows (by kernel_rfl) hh (fun w hh => ?_)
     refine mc_q rfl rfl hh hf (y_lds Try.ag_31 rfl) (.inl rfl) rfl rfl ?_; clear hf a; intro a hf
     refine mc_q rfl rfl hh hf (y_lds Try.ag_31 rfl) (.inl rfl) rfl rfl ?_; clear hf a; intro a hf
     refine mc_q rfl rfl hh hf (y_lds Try.ag_31 rfl) (.inl rfl) rfl rfl ?_; clear hf a; intro a hf
     refine ⟨?_, ?_, ?_⟩
     ·refine mc_e rfl fun Q1 => ?_
      refine o_alloc hf hh Try.ze_31 ?_; clear hf hh a; intro B7 a w hf hh
      refine ops_end ?_
      refine then_n ⟨⟨fun _ _ => (hh.less (.cons _ (List.Sublist.refl _))), trivial⟩, ?_⟩
      refine ⟨?_, ?_⟩
      ·refine mc_e rfl fun Q1 => ?_
       refine o_alloc hf hh Try.ze_31 ?_; clear hf hh a; intro B8 a w hf hh
       refine ops_end ?_
       refine then_n ⟨⟨fun _ _ => (hh.less (.cons _ (.cons _ (List.Sublist.refl _)))), trivial⟩, ?_⟩
       refine mc_e rfl fun Q1 => ?_
       refine o_alloc hf hh Try.ze_31 ?_; clear hf hh a; intro B9 a w hf hh
       refine ops_end ?_
       refine then_n ⟨⟨fun _ _ => (hh.less (.cons _ (.cons _ (.cons _ (List.Sublist.refl _))))), trivial⟩, ?_⟩
       refine mc_e rfl fun Q1 => ?_
       refine o_store hf hh Try.sz_31 fun w hh => ?_
       refine ops_end ?_
       refine then_n ⟨⟨fun _ _ => (hh.less (.cons _ (.cons _ (.cons _ (List.Sublist.refl _))))), trivial⟩, ?_⟩
       refine mc_e rfl fun Q1 => ?_
       refine o_store hf hh Try.sz_31 fun w hh => ?_
       refine ops_end ?_
       refine then_n ⟨⟨fun _ _ => (hh.less (.cons _ (.cons _ (.cons _ (List.Sublist.refl _))))), trivial⟩, ?_⟩
       refine mc_e rfl fun Q1 => ?_
       refine o_store hf hh Try.sz_31 fun w hh => ?_
       refine ops_end ?_
       refine then_n ⟨⟨fun _ _ => (hh.less (.cons _ (.cons _ (.cons _ (List.Sublist.refl _))))), trivial⟩, ?_⟩
       refine mc_end ?_
       refine then_n ?_
       exact ⟨(B7, B8, B9), (by first | exact hh | exact hh.perm (.swap _ _ _) | exact hh.perm (.cons _ (.swap _ _ _)) | exact hh.perm ((List.Perm.swap _ _ _).trans (.cons _ (.swap _ _ _))) | exact hh.perm ((List.Perm.cons _ (.swap _ _ _)).trans (.swap _ _ _)) | exact hh.perm ((List.Perm.swap _ _ _).trans ((List.Perm.cons _ (.swap _ _ _)).trans (.swap _ _ _)))), hf.head ⟨rfl, rfl, rfl, True.intro⟩ (Keep.cons rfl (Keep.cons rfl (Keep.cons rfl (Keep.cons rfl (Keep.cons rfl (Keep.cons rfl (Keep.base)))))))⟩
      ·refine mc_e rfl fun Q1 => ?_
       refine o_alloc hf hh Try.ze_31 ?_; clear hf hh a; intro B9 a w hf hh
       refine ops_end ?_
       refine then_n ⟨⟨fun _ _ => (hh.less (.cons _ (.cons _ (List.Sublist.refl _)))), trivial⟩, ?_⟩
       refine mc_e rfl fun Q1 => ?_
       refine o_alloc hf hh Try.ze_31 ?_; clear hf hh a; intro B8 a w hf hh
       refine ops_end ?_
       refine then_n ⟨⟨fun _ _ => (hh.less (.cons _ (.cons _ (.cons _ (List.Sublist.refl _))))), trivial⟩, ?_⟩
       refine mc_e rfl fun Q1 => ?_
       refine o_store hf hh Try.sz_31 fun w hh => ?_
       refine ops_end ?_
       refine then_n ⟨⟨fun _ _ => (hh.less (.cons _ (.cons _ (.cons _ (List.Sublist.refl _))))), trivial⟩, ?_⟩
       refine mc_e rfl fun Q1 => ?_
       refine o_store hf hh Try.sz_31 fun w hh => ?_
       refine ops_end ?_
       refine then_n ⟨⟨fun _ _ => (hh.less (.cons _ (.cons _ (.cons _ (List.Sublist.refl _))))), trivial⟩, ?_⟩
       refine mc_e rfl fun Q1 => ?_
       refine o_store hf hh Try.sz_31 fun w hh => ?_
       refine ops_end ?_
       refine then_n ⟨⟨fun _ _ => (hh.less (.cons _ (.cons _ (.cons _ (List.Sublist.refl _))))), trivial⟩, ?_⟩
       refine mc_end ?_
       refine then_n ?_
       exact ⟨(B7, B8, B9), (by first | exact hh | exact hh.perm (.swap _ _ _) | exact hh.perm (.cons _ (.swap _ _ _)) | exact hh.perm ((List.Perm.swap _ _ _).trans (.cons _ (.swap _ _ _))) | exact hh.perm ((List.Perm.cons _ (.swap _ _ _)).trans (.swap _ _ _)) | exact hh.perm ((List.Perm.swap _ _ _).trans ((List.Perm.cons _ (.swap _ _ _)).trans (.swap _ _ _)))), hf.head ⟨rfl, rfl, rfl, True.intro⟩ (Keep.cons rfl (Keep.cons rfl (Keep.cons rfl (Keep.cons rfl (Keep.cons rfl (Keep.cons rfl (Keep.base)))))))⟩
     ·refine mc_e rfl fun Q1 => ?_
      refine o_alloc hf hh Try.ze_31 ?_; clear hf hh a; intro B8 a w hf hh
      refine ops_end ?_
      refine then_n ⟨⟨fun _ _ => (hh.less (.cons _ (List.Sublist.refl _))), trivial⟩, ?_⟩
      refine ⟨?_, ?_⟩
      ·refine mc_e rfl fun Q1 => ?_
       refine o_alloc hf hh Try.ze_31 ?_; clear hf hh a; intro B7 a w hf hh
       refine ops_end ?_
       refine then_n ⟨⟨fun _ _ => (hh.less (.cons _ (.cons _ (List.Sublist.refl _)))), trivial⟩, ?_⟩
       refine mc_e rfl fun Q1 => ?_
       refine o_alloc hf hh Try.ze_31 ?_; clear hf hh a; intro B9 a w hf hh
       refine ops_end ?_
       refine then_n ⟨⟨fun _ _ => (hh.less (.cons _ (.cons _ (.cons _ (List.Sublist.refl _))))), trivial⟩, ?_⟩
       refine mc_e rfl fun Q1 => ?_
       refine o_store hf hh Try.sz_31 fun w hh => ?_
       refine ops_end ?_
       refine then_n ⟨⟨fun _ _ => (hh.less (.cons _ (.cons _ (.cons _ (List.Sublist.refl _))))), trivial⟩, ?_⟩
       refine mc_e rfl fun Q1 => ?_
       refine o_store hf hh Try.sz_31 fun w hh => ?_
       refine ops_end ?_
       refine then_n ⟨⟨fun _ _ => (hh.less (.cons _ (.cons _ (.cons _ (List.Sublist.refl _))))), trivial⟩, ?_⟩
       refine mc_e rfl fun Q1 => ?_
       refine o_store hf hh Try.sz_31 fun w hh => ?_
       refine ops_end ?_
       refine then_n ⟨⟨fun _ _ => (hh.less (.cons _ (.cons _ (.cons _ (List.Sublist.refl _))))), trivial⟩, ?_⟩
       refine mc_end ?_
       refine then_n ?_
       exact ⟨(B7, B8, B9), (by first | exact hh | exact hh.perm (.swap _ _ _) | exact hh.perm (.cons _ (.swap _ _ _)) | exact hh.perm ((List.Perm.swap _ _ _).trans (.cons _ (.swap _ _ _))) | exact hh.perm ((List.Perm.cons _ (.swap _ _ _)).trans (.swap _ _ _)) | exact hh.perm ((List.Perm.swap _ _ _).trans ((List.Perm.cons _ (.swap _ _ _)).trans (.swap _ _ _)))), hf.head ⟨rfl, rfl, rfl, True.intro⟩ (Keep.cons rfl (Keep.cons rfl (Keep.cons rfl (Keep.cons rfl (Keep.cons rfl (Keep.cons rfl (Keep.base)))))))⟩
      ·refine mc_e rfl fun Q1 => ?_
       refine o_alloc hf hh Try.ze_31 ?_; clear hf hh a; intro B9 a w hf hh
       refine ops_end ?_
       refine then_n ⟨⟨fun _ _ => (hh.less (.cons _ (.cons _ (List.Sublist.refl _)))), trivial⟩, ?_⟩
       refine mc_e rfl fun Q1 => ?_
       refine o_alloc hf hh Try.ze_31 ?_; clear hf hh a; intro B7 a w hf hh
       refine ops_end ?_
       refine then_n ⟨⟨fun _ _ => (hh.less (.cons _ (.cons _ (.cons _ (List.Sublist.refl _))))), trivial⟩, ?_⟩
       refine mc_e rfl fun Q1 => ?_
       refine o_store hf hh Try.sz_31 fun w hh => ?_
       refine ops_end ?_
       refine then_n ⟨⟨fun _ _ => (hh.less (.cons _ (.cons _ (.cons _ (List.Sublist.refl _))))), trivial⟩, ?_⟩
       refine mc_e rfl fun Q1 => ?_
       refine o_store hf hh Try.sz_31 fun w hh => ?_
       refine ops_end ?_
       refine then_n ⟨⟨fun _ _ => (hh.less (.cons _ (.cons _ (.cons _ (List.Sublist.refl _))))), trivial⟩, ?_⟩
       refine mc_e rfl fun Q1 => ?_
       refine o_store hf hh Try.sz_31 fun w hh => ?_
       refine ops_end ?_
       refine then_n ⟨⟨fun _ _ => (hh.less (.cons _ (.cons _ (.cons _ (List.Sublist.refl _))))), trivial⟩, ?_⟩
       refine mc_end ?_
       refine then_n ?_
       exact ⟨(B7, B8, B9), (by first | exact hh | exact hh.perm (.swap _ _ _) | exact hh.perm (.cons _ (.swap _ _ _)) | exact hh.perm ((List.Perm.swap _ _ _).trans (.cons _ (.swap _ _ _))) | exact hh.perm ((List.Perm.cons _ (.swap _ _ _)).trans (.swap _ _ _)) | exact hh.perm ((List.Perm.swap _ _ _).trans ((List.Perm.cons _ (.swap _ _ _)).trans (.swap _ _ _)))), hf.head ⟨rfl, rfl, rfl, True.intro⟩ (Keep.cons rfl (Keep.cons rfl (Keep.cons rfl (Keep.cons rfl (Keep.cons rfl (Keep.cons rfl (Keep.base)))))))⟩
     ·refine mc_e rfl fun Q1 => ?_
      refine o_alloc hf hh Try.ze_31 ?_; clear hf hh a; intro B9 a w hf hh
      refine ops_end ?_
      refine then_n ⟨⟨fun _ _ => (hh.less (.cons _ (List.Sublist.refl _))), trivial⟩, ?_⟩
      refine ⟨?_, ?_⟩
      ·refine mc_e rfl fun Q1 => ?_
       refine o_alloc hf hh Try.ze_31 ?_; clear hf hh a; intro B7 a w hf hh
       refine ops_end ?_
       refine then_n ⟨⟨fun _ _ => (hh.less (.cons _ (.cons _ (List.Sublist.refl _)))), trivial⟩, ?_⟩
       refine mc_e rfl fun Q1 => ?_
       refine o_alloc hf hh Try.ze_31 ?_; clear hf hh a; intro B8 a w hf hh
       refine ops_end ?_
       refine then_n ⟨⟨fun _ _ => (hh.less (.cons _ (.cons _ (.cons _ (List.Sublist.refl _))))), trivial⟩, ?_⟩
       refine mc_e rfl fun Q1 => ?_
       refine o_store hf hh Try.sz_31 fun w hh => ?_
       refine ops_end ?_
       refine then_n ⟨⟨fun _ _ => (hh.less (.cons _ (.cons _ (.cons _ (List.Sublist.refl _))))), trivial⟩, ?_⟩
       refine mc_e rfl fun Q1 => ?_
       refine o_store hf hh Try.sz_31 fun w hh => ?_
       refine ops_end ?_
       refine then_n ⟨⟨fun _ _ => (hh.less (.cons _ (.cons _ (.cons _ (List.Sublist.refl _))))), trivial⟩, ?_⟩
       refine mc_e rfl fun Q1 => ?_
       refine o_store hf hh Try.sz_31 fun w hh => ?_
       refine ops_end ?_
       refine then_n ⟨⟨fun _ _ => (hh.less (.cons _ (.cons _ (.cons _ (List.Sublist.refl _))))), trivial⟩, ?_⟩
       refine mc_end ?_
       refine then_n ?_
       exact ⟨(B7, B8, B9), (by first | exact hh | exact hh.perm (.swap _ _ _) | exact hh.perm (.cons _ (.swap _ _ _)) | exact hh.perm ((List.Perm.swap _ _ _).trans (.cons _ (.swap _ _ _))) | exact hh.perm ((List.Perm.cons _ (.swap _ _ _)).trans (.swap _ _ _)) | exact hh.perm ((List.Perm.swap _ _ _).trans ((List.Perm.cons _ (.swap _ _ _)).trans (.swap _ _ _)))), hf.head ⟨rfl, rfl, rfl, True.intro⟩ (Keep.cons rfl (Keep.cons rfl (Keep.cons rfl (Keep.cons rfl (Keep.cons rfl (Keep.cons rfl (Keep.base)))))))⟩
      ·refine mc_e rfl fun Q1 => ?_
       refine o_alloc hf hh Try.ze_31 ?_; clear hf hh a; intro B8 a w hf hh
       refine ops_end ?_
       refine then_n ⟨⟨fun _ _ => (hh.less (.cons _ (.cons _ (List.Sublist.refl _)))), trivial⟩, ?_⟩
       refine mc_e rfl fun Q1 => ?_
       refine o_alloc hf hh Try.ze_31 ?_; clear hf hh a; intro B7 a w hf hh
       refine ops_end ?_
       refine then_n ⟨⟨fun _ _ => (hh.less (.cons _ (.cons _ (.cons _ (List.Sublist.refl _))))), trivial⟩, ?_⟩
       refine mc_e rfl fun Q1 => ?_
       refine o_store hf hh Try.sz_31 fun w hh => ?_
       refine ops_end ?_
       refine then_n ⟨⟨fun _ _ => (hh.less (.cons _ (.cons _ (.cons _ (List.Sublist.refl _))))), trivial⟩, ?_⟩
       refine mc_e rfl fun Q1 => ?_
       refine o_store hf hh Try.sz_31 fun w hh => ?_
       refine ops_end ?_
       refine then_n ⟨⟨fun _ _ => (hh.less (.cons _ (.cons _ (.cons _ (List.Sublist.refl _))))), trivial⟩, ?_⟩
       refine mc_e rfl fun Q1 => ?_
       refine o_store hf hh Try.sz_31 fun w hh => ?_
       refine ops_end ?_
       refine then_n ⟨⟨fun _ _ => (hh.less (.cons _ (.cons _ (.cons _ (List.Sublist.refl _))))), trivial⟩, ?_⟩
       refine mc_end ?_
       refine then_n ?_
       exact ⟨(B7, B8, B9), (by first | exact hh | exact hh.perm (.swap _ _ _) | exact hh.perm (.cons _ (.swap _ _ _)) | exact hh.perm ((List.Perm.swap _ _ _).trans (.cons _ (.swap _ _ _))) | exact hh.perm ((List.Perm.cons _ (.swap _ _ _)).trans (.swap _ _ _)) | exact hh.perm ((List.Perm.swap _ _ _).trans ((List.Perm.cons _ (.swap _ _ _)).trans (.swap _ _ _)))), hf.head ⟨rfl, rfl, rfl, True.intro⟩ (Keep.cons rfl (Keep.cons rfl (Keep.cons rfl (Keep.cons rfl (Keep.cons rfl (Keep.cons rfl (Keep.base)))))))⟩
    ·rintro q a w hh hf
     have hok : okCan d p = true := by assumption
     obtain ⟨hV, hp0, hp3⟩ := okCan_valid hok
     have hnl := hV.nl; have hnr := hV.nr; have hh1 := hV.h1; have hh2 := hV.h2
     obtain ⟨B7, B8, B9⟩ := q
     simp only at hh hf
     have hM1 := more_p hok
     have hM2 := more_h hok
     obtain ⟨p1, hp1⟩ : ∃ z, z = min 3 (p + 1) := ⟨_, rfl⟩
     obtain ⟨dH, hdH⟩ : ∃ y, y = setH d (min 20 (d.hid + 1)) := ⟨_, rfl⟩
     rw [← hp1] at hM1; rw [← hdH] at hM2
     refine sy_sq ?_
     refine o_v hf hh (yv_fieldAddr Try.fo_31_1 rfl) ?_; clear hf a; intro a hf
     refine o_v hf hh (y_ld Try.sc_3 rfl) ?_; clear hf a; intro a hf
     refine o_v hf hh (y_add rfl rfl) ?_; clear hf a; intro a hf
     refine o_v hf hh (yv_min rfl rfl) ?_; clear hf a; intro a hf
     refine o_v hf hh (yv_fieldAddr Try.fo_31_1 rfl) ?_; clear hf a; intro a hf
     refine o_store hf hh Try.sz_3 fun w hh => ?_
     refine o_v hf hh (yv_fieldAddr Try.fo_31_1 rfl) ?_; clear hf a; intro a hf
     refine o_store hf hh Try.sz_3 fun w hh => ?_
     refine o_end ?_
     refine sy_sq ?_
     refine o_v hf hh (yv_fieldAddr Try.fo_31_0 rfl) ?_; clear hf a; intro a hf
     refine o_v hf hh (yv_fieldAddr Try.fo_29_3 rfl) ?_; clear hf a; intro a hf
     refine o_v hf hh (y_ld Try.sc_3 rfl) ?_; clear hf a; intro a hf
     refine o_v hf hh (y_add rfl rfl) ?_; clear hf a; intro a hf
     refine o_v hf hh (yv_min rfl rfl) ?_; clear hf a; intro a hf
     refine o_v hf hh (yv_fieldAddr Try.fo_31_0 rfl) ?_; clear hf a; intro a hf
     refine o_v hf hh (yv_fieldAddr Try.fo_29_3 rfl) ?_; clear hf a; intro a hf
     refine o_store hf hh Try.sz_3 fun w hh => ?_
     refine o_end ?_
     refine sy_seq ?_
     replace hh : Hp u [] [(B9, .cells (canV d 0 sa sb ca cb).cells 31), (B8, .cells (canV dH p sa sb ca cb).cells 31), (B7, .cells (canV d p1 sa sb ca cb).cells 31), (B3, .cells (canV d p sa sb ca cb).cells 31)] w := by rw [hdH, hp1]; exact hh
     have hw1 := pow_le_10 hnl
     have hw2 := pow_le_10 hnr
     obtain ⟨q1, hq1⟩ : ∃ q : Nat, q = 2 ^ d.l.length := ⟨_, rfl⟩
     obtain ⟨q2, hq2⟩ : ∃ q : Nat, q = 2 ^ d.r.length := ⟨_, rfl⟩
     have hr1 : 0 < q1 := hq1 ▸ Nat.two_pow_pos _
     have hr2 : 0 < q2 := hq2 ▸ Nat.two_pow_pos _
     rw [← hq1] at hw1; rw [← hq2] at hw2
     refine sy_quiet (C := Hp _ _ _) Try.follows (by kernel_rfl) (hh.drawn _) ?_
     refine oq_v hf (yv_move rfl) ?_; clear hf a; intro a hf
     refine oq_v hf (yv_fieldAddr Try.fo_31_0 rfl) ?_; clear hf a; intro a hf
     refine oq_v hf (yv_fieldAddr Try.fo_29_0 rfl) ?_; clear hf a; intro a hf
     refine oq_v hf (y_ld Try.sc_25 rfl) ?_; clear hf a; intro a hf
     refine oq_v hf (yv_len Try.se_25 rfl) ?_; clear hf a; intro a hf
     refine oq_v hf (yv_cast (yv_shl1 (.inl rfl) rfl rfl (by omega) (by omega)) (intv (b := ((q1 : Nat) : Int)) (by rw [hq1]; exact shl_one))) ?_; clear hf a; intro a hf
     refine oq_v hf (y_sub rfl rfl) ?_; clear hf a; intro a hf
     refine oq_v hf (yv_andm rfl rfl (by omega) (by simp only [IntKind.top]; omega)) ?_; clear hf a; intro a hf
     refine oq_v hf (yv_move rfl) ?_; clear hf a; intro a hf
     refine oq_v hf (yv_fieldAddr Try.fo_31_0 rfl) ?_; clear hf a; intro a hf
     refine oq_v hf (yv_fieldAddr Try.fo_29_1 rfl) ?_; clear hf a; intro a hf
     refine oq_v hf (y_ld Try.sc_25 rfl) ?_; clear hf a; intro a hf
     refine oq_v hf (yv_len Try.se_25 rfl) ?_; clear hf a; intro a hf
     refine oq_v hf (yv_cast (yv_shl1 (.inl rfl) rfl rfl (by omega) (by omega)) (intv (b := ((q2 : Nat) : Int)) (by rw [hq2]; exact shl_one))) ?_; clear hf a; intro a hf
     refine oq_v hf (y_sub rfl rfl) ?_; clear hf a; intro a hf
     refine oq_v hf (yv_andm rfl rfl (by omega) (by simp only [IntKind.top]; omega)) ?_; clear hf a; intro a hf
     refine oq_v hf (yv_assign rfl) ?_; clear hf a; intro a hf
     refine oq_v hf (yv_assign rfl) ?_; clear hf a; intro a hf
     refine q_end fun w hh => ?_
     refine then_n ?_
     refine sy_seq ?_
     have hx1 := andm_le l ((q1 : Int) - 1) (by omega)
     have hy1 := andm_le r ((q2 : Int) - 1) (by omega)
     obtain ⟨x, hxd⟩ : ∃ z, z = andm l ((q1 : Int) - 1) := ⟨_, rfl⟩
     obtain ⟨y, hyd⟩ : ∃ z, z = andm r ((q2 : Int) - 1) := ⟨_, rfl⟩
     rw [← hxd] at hf hx1; rw [← hyd] at hf hy1
     have hask : askS d x y = true := by
       unfold askS inS
       rw [← hq1, ← hq2, decide_eq_true hx1, decide_eq_true hy1, decide_eq_true (Int.natCast_nonneg x), decide_eq_true (Int.natCast_nonneg y)]
       rfl
     have hE0 := fitsCE_0 hok hask
     have hC0 := casesE_ok hok
     refine sy_ops ?_
     refine o_v hf hh (y_lds Try.ag_31 rfl) ?_; clear hf a; intro a hf
     refine o_v hf hh (yv_move rfl) ?_; clear hf a; intro a hf
     refine o_v hf hh (yv_move rfl) ?_; clear hf a; intro a hf
     refine o_call hf Try.en_10 rfl rfl rfl (p10 d p sa sb ca cb _ (hA.ext hh.ext) (hB.ext hh.ext) x y) ?_; clear hf a; intro v a w hR hf
     obtain ⟨rfl, hx⟩ := hR; replace hh := hh.more hx; clear hx
     refine o_v hf hh (yv_move rfl) ?_; clear hf a; intro a hf
     refine o_v hf hh (yv_extract rfl rfl) ?_; clear hf a; intro a hf
     refine o_v hf hh (yv_extract rfl rfl) ?_; clear hf a; intro a hf
     refine o_v hf hh (yv_assign rfl) ?_; clear hf a; intro a hf
     refine o_v hf hh (yv_assign rfl) ?_; clear hf a; intro a hf
     refine o_end ?_
     refine sy_sq ?_
     refine o_v hf hh (y_lds Try.ag_31 rfl) ?_; clear hf a; intro a hf
     refine o_call hf Try.en_12 rfl rfl rfl (p12 d p sa sb ca cb _ (hA.ext hh.ext) (hB.ext hh.ext)) ?_; clear hf a; intro v a w hR hf
     obtain ⟨rfl, hx⟩ := hR; replace hh := hh.more hx; clear hx
     refine o_v hf hh (yv_move rfl) ?_; clear hf a; intro a hf
     refine o_v hf hh (yv_extract rfl rfl) ?_; clear hf a; intro a hf
     refine o_v hf hh (yv_extract rfl rfl) ?_; clear hf a; intro a hf
     refine o_v hf hh (yv_assign rfl) ?_; clear hf a; intro a hf
     refine o_v hf hh (yv_assign rfl) ?_; clear hf a; intro a hf
     refine o_end ?_
     refine sy_sq ?_
     refine o_v hf hh (y_lds Try.ag_31 rfl) ?_; clear hf a; intro a hf
     refine o_call hf Try.en_20 rfl rfl rfl (p20 d p sa sb ca cb _ (hA.ext hh.ext) (hB.ext hh.ext)) ?_; clear hf a; intro v a w hR hf
     obtain ⟨rfl, hx⟩ := hR; replace hh := hh.more hx; clear hx
     refine o_v hf hh (yv_move rfl) ?_; clear hf a; intro a hf
     refine o_v hf hh (yv_extract rfl rfl) ?_; clear hf a; intro a hf
     refine o_v hf hh (yv_extract rfl rfl) ?_; clear hf a; intro a hf
     refine o_v hf hh (yv_extract rfl rfl) ?_; clear hf a; intro a hf
     refine o_v hf hh (yv_assign rfl) ?_; clear hf a; intro a hf
     refine o_v hf hh (yv_assign rfl) ?_; clear hf a; intro a hf
     refine o_v hf hh (yv_assign rfl) ?_; clear hf a; intro a hf
     refine o_end ?_
     refine sy_sq ?_
     refine o_v hf hh (y_lds Try.ag_31 rfl) ?_; clear hf a; intro a hf
     refine o_call hf Try.en_15 rfl rfl rfl (p15 d p sa sb ca cb _ (hA.ext hh.ext) (hB.ext hh.ext)) ?_; clear hf a; intro v a w hR hf
     obtain ⟨rfl, hx⟩ := hR; replace hh := hh.more hx; clear hx
     refine o_v hf hh (yv_move rfl) ?_; clear hf a; intro a hf
     refine o_v hf hh (yv_extract rfl rfl) ?_; clear hf a; intro a hf
     refine o_v hf hh (yv_extract rfl rfl) ?_; clear hf a; intro a hf
     refine o_v hf hh (yv_extract rfl rfl) ?_; clear hf a; intro a hf
     refine o_v hf hh (yv_assign rfl) ?_; clear hf a; intro a hf
     refine o_v hf hh (yv_assign rfl) ?_; clear hf a; intro a hf
     refine o_v hf hh (yv_assign rfl) ?_; clear hf a; intro a hf
     refine o_end ?_
     refine sy_seq ?_
     refine sy_sq ?_
     refine o_v hf hh (yv_move rfl) ?_; clear hf a; intro a hf
     refine o_v hf hh (yv_bin rfl rfl rfl) ?_; clear hf a; intro a hf
     refine o_v hf hh (yv_move rfl) ?_; clear hf a; intro a hf
     refine o_v hf hh (yv_move rfl) ?_; clear hf a; intro a hf
     refine o_v hf hh (yv_bin rfl rfl rfl) ?_; clear hf a; intro a hf
     refine o_v hf hh (y_pf rfl rfl) ?_; clear hf a; intro a hf
     refine o_end ?_
     refine c_f hf ?_
     refine sy_skip ?_
     refine then_n ?_
     refine sy_seq ?_
     refine sy_seq ?_
     obtain ⟨hs1, hs2, hs3, hs4⟩ := joinV_lt (p := p) hV
     have hpick := fun j hj => pickC2 (sa := sa) (sb := sb) (ca := ca) (cb := cb) hM1 hM2 j hj
     refine sy_ops ?_
     refine o_v hf hh (y_lds Try.ag_31 rfl) ?_; clear hf a; intro a hf
     refine o_v hf hh (y_lds Try.ag_31 rfl) ?_; clear hf a; intro a hf
     refine ops_buildSl hf hh Try.bl_63_2 rfl rfl (.inl rfl) rfl ?_; clear hf hh; clear a; intro B108 a w hf hh
     refine o_v hf hh (yv_len Try.se_63 rfl) ?_; clear hf a; intro a hf
     refine o_v hf hh (yv_move rfl) ?_; clear hf a; intro a hf
     refine o_end ?_
     refine sy_block ?_
     refine sy_loopH (σ := Nat) [6, 21, 22, 23, 24, 25, 26, 27, 28, 29, 30, 31, 110, 111, 112, 113, 114, 115, 116, 117, 118, 119, 120, 121, 122, 123, 124, 125, 126, 127, 128, 129, 130, 131, 132, 133, 134, 135, 136, 137, 138, 139, 140, 141, 142, 143, 144, 145, 146, 147, 148, 149, 150, 151, 152, 153, 154, 155, 156, 157, 158, 159, 160, 161, 162, 163, 164, 165, 166, 167, 168, 169, 170, 171, 172, 173, 174, 175, 176, 177, 178, 179, 180, 181, 182, 183, 184, 185, 186, 187, 188] (fun j => [(110, .int .i64 j)]) (fun j => fun w' => j ≤ 2 ∧ Hp u [] [(B108, .cells #[.slice sa d.l.length ca, .slice sb d.r.length cb, .int .i64 d.lo, .int .i64 d.hi, .int .i64 d.hid, .int .i64 p1, .slice sa dH.l.length ca, .slice sb dH.r.length cb, .int .i64 dH.lo, .int .i64 dH.hi, .int .i64 dH.hid, .int .i64 p] 31), (B9, .cells (canV d 0 sa sb ca cb).cells 31), (B8, .cells (canV dH p sa sb ca cb).cells 31), (B7, .cells (canV d p1 sa sb ca cb).cells 31), (B3, .cells (canV d p sa sb ca cb).cells 31)] w') (fun j => 2 - j) (0) hf ?_ ?_ ?_
     · repeat' (first | exact True.intro | refine And.intro rfl ?_)
     · exact ⟨Nat.zero_le _, hh⟩
     ·rintro j a w ⟨hj, hh⟩ hf
      refine sy_sq ?_
      refine o_v hf hh (yv_bin rfl rfl rfl) ?_; clear hf a; intro a hf
      refine o_end ?_
      refine sy_seq ?_
      refine sy_cond hf rfl (fun hg28 => ?_) (fun hg28 => ?_)
      ·have hG28 := hg28; try simp only [gS] at hG28
       refine sy_skip ?_
       refine then_n ?_
       refine sy_seq ?_
       refine sy_block ?_
       refine sy_seq ?_
       obtain ⟨e, q, hcx, hM⟩ := hpick j (by omega)
       have hAe : MkAt u sa e.l := hM.l ▸ hA
       have hBe : MkAt u sb e.r := hM.r ▸ hB
       obtain ⟨hFE, hfits⟩ := hM.fits hE0
       have hCE := casesE_ok hM.ok
       have hCn := hM.cases hok
       obtain ⟨hVe, hq0, hq3⟩ := okCan_valid hM.ok
       refine sy_ops ?_
       refine o_v hf hh (y_ix Try.se_63 rfl rfl) ?_; clear hf a; intro a hf
       refine o_v hf hh (y_lds Try.ag_31 rfl) ?_; clear hf a; intro a hf
       refine o_alloc hf hh Try.ze_31 ?_; clear hf hh a; intro B21 a w hf hh
       refine o_store hf hh Try.sz_31 fun w hh => ?_
       refine o_end ?_
       refine sy_seq ?_
       replace hh : Hp u [] [(B21, .cells (canV e q sa sb ca cb).cells 31), (B108, .cells #[.slice sa d.l.length ca, .slice sb d.r.length cb, .int .i64 d.lo, .int .i64 d.hi, .int .i64 d.hid, .int .i64 p1, .slice sa dH.l.length ca, .slice sb dH.r.length cb, .int .i64 dH.lo, .int .i64 dH.hi, .int .i64 dH.hid, .int .i64 p] 31), (B9, .cells (canV d 0 sa sb ca cb).cells 31), (B8, .cells (canV dH p sa sb ca cb).cells 31), (B7, .cells (canV d p1 sa sb ca cb).cells 31), (B3, .cells (canV d p sa sb ca cb).cells 31)] w := hh
       refine sy_ops ?_
       refine o_v hf hh (y_lds Try.ag_31 rfl) ?_; clear hf a; intro a hf
       refine o_v hf hh (yv_move rfl) ?_; clear hf a; intro a hf
       refine o_v hf hh (yv_move rfl) ?_; clear hf a; intro a hf
       refine o_call hf Try.en_10 rfl rfl rfl (p10 e q sa sb ca cb _ (hAe.ext hh.ext) (hBe.ext hh.ext) x y) ?_; clear hf a; intro v a w hR hf
       obtain ⟨rfl, hx⟩ := hR; replace hh := hh.more hx; clear hx
       refine o_v hf hh (yv_move rfl) ?_; clear hf a; intro a hf
       refine o_v hf hh (yv_extract rfl rfl) ?_; clear hf a; intro a hf
       refine o_v hf hh (yv_extract rfl rfl) ?_; clear hf a; intro a hf
       refine o_v hf hh (yv_assign rfl) ?_; clear hf a; intro a hf
       refine o_v hf hh (yv_assign rfl) ?_; clear hf a; intro a hf
       refine o_end ?_
       refine sy_sq ?_
       refine o_v hf hh (y_lds Try.ag_31 rfl) ?_; clear hf a; intro a hf
       refine o_call hf Try.en_12 rfl rfl rfl (p12 e q sa sb ca cb _ (hAe.ext hh.ext) (hBe.ext hh.ext)) ?_; clear hf a; intro v a w hR hf
       obtain ⟨rfl, hx⟩ := hR; replace hh := hh.more hx; clear hx
       refine o_v hf hh (yv_move rfl) ?_; clear hf a; intro a hf
       refine o_v hf hh (yv_extract rfl rfl) ?_; clear hf a; intro a hf
       refine o_v hf hh (yv_extract rfl rfl) ?_; clear hf a; intro a hf
       refine o_v hf hh (yv_assign rfl) ?_; clear hf a; intro a hf
       refine o_v hf hh (yv_assign rfl) ?_; clear hf a; intro a hf
       refine o_end ?_
       refine sy_seq ?_
       refine sy_sq ?_
       refine o_v hf hh (yv_move rfl) ?_; clear hf a; intro a hf
       refine o_v hf hh (yv_bin rfl rfl rfl) ?_; clear hf a; intro a hf
       refine o_v hf hh (yv_move rfl) ?_; clear hf a; intro a hf
       refine o_v hf hh (yv_move rfl) ?_; clear hf a; intro a hf
       refine o_v hf hh (yv_move rfl) ?_; clear hf a; intro a hf
       refine guard_split hf (t := 130) rfl (fun hg36 => ?_) (fun hg36 => ?_)
       ·have hG36 := hg36; try simp only [gS] at hG36
        have hf9 := hfits (by assumption)
        refine o_v hf hh (yv_move rfl) ?_; clear hf a; intro a hf
        refine o_v hf hh (yv_not rfl) ?_; clear hf a; intro a hf
        refine o_v hf hh (y_pt rfl rfl) ?_; clear hf a; intro a hf
        refine o_v hf hh (y_pf rfl rfl) ?_; clear hf a; intro a hf
        refine o_v hf hh (yv_move rfl) ?_; clear hf a; intro a hf
        refine o_v hf hh (yv_move rfl) ?_; clear hf a; intro a hf
        refine o_v hf hh (yv_bin rfl rfl rfl) ?_; clear hf a; intro a hf
        refine o_v hf hh (y_pf rfl rfl) ?_; clear hf a; intro a hf
        refine o_v hf hh (yv_move rfl) ?_; clear hf a; intro a hf
        refine o_v hf hh (yv_move rfl) ?_; clear hf a; intro a hf
        refine o_v hf hh (yv_move rfl) ?_; clear hf a; intro a hf
        refine o_v hf hh (yv_bin rfl rfl rfl) ?_; clear hf a; intro a hf
        refine o_v hf hh (y_pf rfl rfl) ?_; clear hf a; intro a hf
        refine o_end ?_
        refine c_f hf ?_
        refine sy_skip ?_
        refine then_n ?_
        refine sy_seq ?_
        refine sy_sq ?_
        refine o_v hf hh (yv_move rfl) ?_; clear hf a; intro a hf
        refine o_v hf hh (yv_bin rfl rfl rfl) ?_; clear hf a; intro a hf
        refine o_end ?_
        refine sy_cond hf rfl (fun hg40 => ?_) (fun hg40 => ?_)
        ·have hG40 := hg40; try simp only [gS] at hG40
         refine sy_exit ?_
         refine then_e ?_
         refine blk_e ?_
         refine then_n ?_
         refine sy_ops ?_
         refine o_v hf hh (y_add rfl rfl) ?_; clear hf a; intro a hf
         refine o_v hf hh (yv_move rfl) ?_; clear hf a; intro a hf
         refine ops_end ?_
         refine then_n ?_
         exact ⟨j + 1, ⟨⟨by omega, hh.less (.cons _ (.refl _))⟩, hf.head ⟨rfl, True.intro⟩ (Keep.cons rfl (Keep.cons rfl (Keep.cons rfl (Keep.cons rfl (Keep.cons rfl (Keep.cons rfl (Keep.cons rfl (Keep.cons rfl (Keep.cons rfl (Keep.cons rfl (Keep.cons rfl (Keep.cons rfl (Keep.cons rfl (Keep.cons rfl (Keep.cons rfl (Keep.cons rfl (Keep.cons rfl (Keep.cons rfl (Keep.cons rfl (Keep.cons rfl (Keep.cons rfl (Keep.cons rfl (Keep.cons rfl (Keep.cons rfl (Keep.cons rfl (Keep.cons rfl (Keep.cons rfl (Keep.cons rfl (Keep.cons rfl (Keep.cons rfl (Keep.cons rfl (Keep.cons rfl (Keep.cons rfl (Keep.cons rfl (Keep.cons rfl (Keep.cons rfl (Keep.cons rfl (Keep.cons rfl (Keep.cons rfl (Keep.cons rfl (Keep.cons rfl (Keep.cons rfl (Keep.app rfl (Keep.rm rfl Keep.base))))))))))))))))))))))))))))))))))))))))))))⟩, by omega⟩
        ·have hG40 := hg40; try simp only [gS] at hG40
         refine sy_skip ?_
         refine then_n ?_
         refine sy_seq ?_
         have hgd : gatE d p = 0 := by omega
         have hge := hM.gat hok hgd
         obtain ⟨hc1, hc2⟩ := hM.can hok hgd
         obtain ⟨hd1, hd2⟩ := hM.sure hok hgd
         obtain ⟨ht1, ht2, ht3, ht4⟩ := joinV_lt (p := q) hVe
         refine sy_ops ?_
         refine o_v hf hh (y_lds Try.ag_31 rfl) ?_; clear hf a; intro a hf
         refine o_call hf Try.en_20 rfl rfl rfl (p20 e q sa sb ca cb _ (hAe.ext hh.ext) (hBe.ext hh.ext)) ?_; clear hf a; intro v a w hR hf
         obtain ⟨rfl, hx⟩ := hR; replace hh := hh.more hx; clear hx
         refine o_v hf hh (yv_move rfl) ?_; clear hf a; intro a hf
         refine o_v hf hh (yv_extract rfl rfl) ?_; clear hf a; intro a hf
         refine o_v hf hh (yv_extract rfl rfl) ?_; clear hf a; intro a hf
         refine o_v hf hh (yv_extract rfl rfl) ?_; clear hf a; intro a hf
         refine o_v hf hh (yv_assign rfl) ?_; clear hf a; intro a hf
         refine o_v hf hh (yv_assign rfl) ?_; clear hf a; intro a hf
         refine o_v hf hh (yv_assign rfl) ?_; clear hf a; intro a hf
         refine o_end ?_
         refine sy_sq ?_
         refine o_v hf hh (y_lds Try.ag_31 rfl) ?_; clear hf a; intro a hf
         refine o_call hf Try.en_15 rfl rfl rfl (p15 e q sa sb ca cb _ (hAe.ext hh.ext) (hBe.ext hh.ext)) ?_; clear hf a; intro v a w hR hf
         obtain ⟨rfl, hx⟩ := hR; replace hh := hh.more hx; clear hx
         refine o_v hf hh (yv_move rfl) ?_; clear hf a; intro a hf
         refine o_v hf hh (yv_extract rfl rfl) ?_; clear hf a; intro a hf
         refine o_v hf hh (yv_extract rfl rfl) ?_; clear hf a; intro a hf
         refine o_v hf hh (yv_extract rfl rfl) ?_; clear hf a; intro a hf
         refine o_v hf hh (yv_assign rfl) ?_; clear hf a; intro a hf
         refine o_v hf hh (yv_assign rfl) ?_; clear hf a; intro a hf
         refine o_v hf hh (yv_assign rfl) ?_; clear hf a; intro a hf
         refine o_end ?_
         refine sy_sq ?_
         refine o_v hf hh (yv_move rfl) ?_; clear hf a; intro a hf
         refine o_v hf hh (yv_bin rfl rfl rfl) ?_; clear hf a; intro a hf
         refine o_v hf hh (yv_move rfl) ?_; clear hf a; intro a hf
         refine o_v hf hh (yv_move rfl) ?_; clear hf a; intro a hf
         refine o_v hf hh (yv_bin rfl rfl rfl) ?_; clear hf a; intro a hf
         refine o_v hf hh (y_pf rfl rfl) ?_; clear hf a; intro a hf
         refine o_v hf hh (yv_move rfl) ?_; clear hf a; intro a hf
         refine o_v hf hh (yv_move rfl) ?_; clear hf a; intro a hf
         refine o_v hf hh (yv_move rfl) ?_; clear hf a; intro a hf
         refine o_v hf hh (yv_cast (yv_andn (.inl rfl) rfl rfl (by omega) (by simp only [IntKind.top]; omega) (by omega) (by simp only [IntKind.top]; omega)) (intv (b := 0) (by rw [Int.toNat_natCast, Int.toNat_natCast, andn_none hc1]; rfl))) ?_; clear hf a; intro a hf
         refine o_v hf hh (yv_bin rfl rfl rfl) ?_; clear hf a; intro a hf
         refine o_v hf hh (y_pf rfl rfl) ?_; clear hf a; intro a hf
         refine o_v hf hh (yv_move rfl) ?_; clear hf a; intro a hf
         refine o_v hf hh (yv_move rfl) ?_; clear hf a; intro a hf
         refine o_v hf hh (yv_move rfl) ?_; clear hf a; intro a hf
         refine o_v hf hh (yv_cast (yv_andn (.inl rfl) rfl rfl (by omega) (by simp only [IntKind.top]; omega) (by omega) (by simp only [IntKind.top]; omega)) (intv (b := 0) (by rw [Int.toNat_natCast, Int.toNat_natCast, andn_none hc2]; rfl))) ?_; clear hf a; intro a hf
         refine o_v hf hh (yv_bin rfl rfl rfl) ?_; clear hf a; intro a hf
         refine o_v hf hh (y_pf rfl rfl) ?_; clear hf a; intro a hf
         refine o_v hf hh (yv_move rfl) ?_; clear hf a; intro a hf
         refine o_v hf hh (yv_move rfl) ?_; clear hf a; intro a hf
         refine o_v hf hh (yv_move rfl) ?_; clear hf a; intro a hf
         refine o_v hf hh (yv_cast (yv_andn (.inl rfl) rfl rfl (by omega) (by simp only [IntKind.top]; omega) (by omega) (by simp only [IntKind.top]; omega)) (intv (b := 0) (by rw [Int.toNat_natCast, Int.toNat_natCast, andn_none hd1]; rfl))) ?_; clear hf a; intro a hf
         refine o_v hf hh (yv_bin rfl rfl rfl) ?_; clear hf a; intro a hf
         refine o_v hf hh (y_pf rfl rfl) ?_; clear hf a; intro a hf
         refine o_v hf hh (yv_move rfl) ?_; clear hf a; intro a hf
         refine o_v hf hh (yv_move rfl) ?_; clear hf a; intro a hf
         refine o_v hf hh (yv_move rfl) ?_; clear hf a; intro a hf
         refine o_v hf hh (yv_cast (yv_andn (.inl rfl) rfl rfl (by omega) (by simp only [IntKind.top]; omega) (by omega) (by simp only [IntKind.top]; omega)) (intv (b := 0) (by rw [Int.toNat_natCast, Int.toNat_natCast, andn_none hd2]; rfl))) ?_; clear hf a; intro a hf
         refine o_v hf hh (yv_bin rfl rfl rfl) ?_; clear hf a; intro a hf
         refine o_v hf hh (y_pf rfl rfl) ?_; clear hf a; intro a hf
         refine o_end ?_
         refine c_f hf ?_
         refine sy_skip ?_
         refine blk_n ?_
         refine then_n ?_
         refine sy_ops ?_
         refine o_v hf hh (y_add rfl rfl) ?_; clear hf a; intro a hf
         refine o_v hf hh (yv_move rfl) ?_; clear hf a; intro a hf
         refine ops_end ?_
         refine then_n ?_
         exact ⟨j + 1, ⟨⟨by omega, hh.less (.cons _ (.refl _))⟩, hf.head ⟨rfl, True.intro⟩ (Keep.cons rfl (Keep.cons rfl (Keep.cons rfl (Keep.cons rfl (Keep.cons rfl (Keep.cons rfl (Keep.cons rfl (Keep.cons rfl (Keep.cons rfl (Keep.cons rfl (Keep.cons rfl (Keep.cons rfl (Keep.cons rfl (Keep.cons rfl (Keep.cons rfl (Keep.cons rfl (Keep.cons rfl (Keep.cons rfl (Keep.cons rfl (Keep.cons rfl (Keep.cons rfl (Keep.cons rfl (Keep.cons rfl (Keep.cons rfl (Keep.cons rfl (Keep.cons rfl (Keep.cons rfl (Keep.cons rfl (Keep.cons rfl (Keep.cons rfl (Keep.cons rfl (Keep.cons rfl (Keep.cons rfl (Keep.cons rfl (Keep.cons rfl (Keep.cons rfl (Keep.cons rfl (Keep.cons rfl (Keep.cons rfl (Keep.cons rfl (Keep.cons rfl (Keep.cons rfl (Keep.cons rfl (Keep.cons rfl (Keep.cons rfl (Keep.cons rfl (Keep.cons rfl (Keep.cons rfl (Keep.cons rfl (Keep.cons rfl (Keep.cons rfl (Keep.cons rfl (Keep.cons rfl (Keep.cons rfl (Keep.cons rfl (Keep.cons rfl (Keep.cons rfl (Keep.cons rfl (Keep.cons rfl (Keep.cons rfl (Keep.cons rfl (Keep.cons rfl (Keep.cons rfl (Keep.cons rfl (Keep.cons rfl (Keep.cons rfl (Keep.cons rfl (Keep.cons rfl (Keep.cons rfl (Keep.cons rfl (Keep.cons rfl (Keep.cons rfl (Keep.cons rfl (Keep.cons rfl (Keep.cons rfl (Keep.cons rfl (Keep.cons rfl (Keep.cons rfl (Keep.cons rfl (Keep.cons rfl (Keep.cons rfl (Keep.cons rfl (Keep.cons rfl (Keep.cons rfl (Keep.cons rfl (Keep.cons rfl (Keep.cons rfl (Keep.cons rfl (Keep.cons rfl (Keep.cons rfl (Keep.app rfl (Keep.rm rfl Keep.base))))))))))))))))))))))))))))))))))))))))))))))))))))))))))))))))))))))))))))))))))))))))))))⟩, by omega⟩
       ·have hG36 := hg36; try simp only [gS] at hG36
        refine o_off hf ?_; clear hf a; intro a hf
        refine o_off hf ?_; clear hf a; intro a hf
        refine o_v hf hh (y_pf rfl rfl) ?_; clear hf a; intro a hf
        refine o_v hf hh (y_pf rfl rfl) ?_; clear hf a; intro a hf
        refine o_v hf hh (yv_move rfl) ?_; clear hf a; intro a hf
        refine o_v hf hh (yv_move rfl) ?_; clear hf a; intro a hf
        refine o_v hf hh (yv_bin rfl rfl rfl) ?_; clear hf a; intro a hf
        refine o_v hf hh (y_pf rfl rfl) ?_; clear hf a; intro a hf
        refine o_v hf hh (yv_move rfl) ?_; clear hf a; intro a hf
        refine o_v hf hh (yv_move rfl) ?_; clear hf a; intro a hf
        refine o_v hf hh (yv_move rfl) ?_; clear hf a; intro a hf
        refine o_v hf hh (yv_bin rfl rfl rfl) ?_; clear hf a; intro a hf
        refine o_v hf hh (y_pf rfl rfl) ?_; clear hf a; intro a hf
        refine o_end ?_
        refine c_f hf ?_
        refine sy_skip ?_
        refine then_n ?_
        refine sy_seq ?_
        refine sy_sq ?_
        refine o_v hf hh (yv_move rfl) ?_; clear hf a; intro a hf
        refine o_v hf hh (yv_bin rfl rfl rfl) ?_; clear hf a; intro a hf
        refine o_end ?_
        refine sy_cond hf rfl (fun hg62 => ?_) (fun hg62 => ?_)
        ·have hG62 := hg62; try simp only [gS] at hG62
         refine sy_exit ?_
         refine then_e ?_
         refine blk_e ?_
         refine then_n ?_
         refine sy_ops ?_
         refine o_v hf hh (y_add rfl rfl) ?_; clear hf a; intro a hf
         refine o_v hf hh (yv_move rfl) ?_; clear hf a; intro a hf
         refine ops_end ?_
         refine then_n ?_
         exact ⟨j + 1, ⟨⟨by omega, hh.less (.cons _ (.refl _))⟩, hf.head ⟨rfl, True.intro⟩ (Keep.cons rfl (Keep.cons rfl (Keep.cons rfl (Keep.cons rfl (Keep.cons rfl (Keep.cons rfl (Keep.cons rfl (Keep.cons rfl (Keep.cons rfl (Keep.cons rfl (Keep.cons rfl (Keep.cons rfl (Keep.cons rfl (Keep.cons rfl (Keep.cons rfl (Keep.cons rfl (Keep.cons rfl (Keep.cons rfl (Keep.cons rfl (Keep.cons rfl (Keep.cons rfl (Keep.cons rfl (Keep.cons rfl (Keep.cons rfl (Keep.cons rfl (Keep.cons rfl (Keep.cons rfl (Keep.cons rfl (Keep.cons rfl (Keep.cons rfl (Keep.cons rfl (Keep.cons rfl (Keep.cons rfl (Keep.cons rfl (Keep.cons rfl (Keep.cons rfl (Keep.cons rfl (Keep.cons rfl (Keep.cons rfl (Keep.cons rfl (Keep.cons rfl (Keep.cons rfl (Keep.app rfl (Keep.rm rfl Keep.base))))))))))))))))))))))))))))))))))))))))))))⟩, by omega⟩
        ·have hG62 := hg62; try simp only [gS] at hG62
         refine sy_skip ?_
         refine then_n ?_
         refine sy_seq ?_
         have hgd : gatE d p = 0 := by omega
         have hge := hM.gat hok hgd
         obtain ⟨hc1, hc2⟩ := hM.can hok hgd
         obtain ⟨hd1, hd2⟩ := hM.sure hok hgd
         obtain ⟨ht1, ht2, ht3, ht4⟩ := joinV_lt (p := q) hVe
         refine sy_ops ?_
         refine o_v hf hh (y_lds Try.ag_31 rfl) ?_; clear hf a; intro a hf
         refine o_call hf Try.en_20 rfl rfl rfl (p20 e q sa sb ca cb _ (hAe.ext hh.ext) (hBe.ext hh.ext)) ?_; clear hf a; intro v a w hR hf
         obtain ⟨rfl, hx⟩ := hR; replace hh := hh.more hx; clear hx
         refine o_v hf hh (yv_move rfl) ?_; clear hf a; intro a hf
         refine o_v hf hh (yv_extract rfl rfl) ?_; clear hf a; intro a hf
         refine o_v hf hh (yv_extract rfl rfl) ?_; clear hf a; intro a hf
         refine o_v hf hh (yv_extract rfl rfl) ?_; clear hf a; intro a hf
         refine o_v hf hh (yv_assign rfl) ?_; clear hf a; intro a hf
         refine o_v hf hh (yv_assign rfl) ?_; clear hf a; intro a hf
         refine o_v hf hh (yv_assign rfl) ?_; clear hf a; intro a hf
         refine o_end ?_
         refine sy_sq ?_
         refine o_v hf hh (y_lds Try.ag_31 rfl) ?_; clear hf a; intro a hf
         refine o_call hf Try.en_15 rfl rfl rfl (p15 e q sa sb ca cb _ (hAe.ext hh.ext) (hBe.ext hh.ext)) ?_; clear hf a; intro v a w hR hf
         obtain ⟨rfl, hx⟩ := hR; replace hh := hh.more hx; clear hx
         refine o_v hf hh (yv_move rfl) ?_; clear hf a; intro a hf
         refine o_v hf hh (yv_extract rfl rfl) ?_; clear hf a; intro a hf
         refine o_v hf hh (yv_extract rfl rfl) ?_; clear hf a; intro a hf
         refine o_v hf hh (yv_extract rfl rfl) ?_; clear hf a; intro a hf
         refine o_v hf hh (yv_assign rfl) ?_; clear hf a; intro a hf
         refine o_v hf hh (yv_assign rfl) ?_; clear hf a; intro a hf
         refine o_v hf hh (yv_assign rfl) ?_; clear hf a; intro a hf
         refine o_end ?_
         refine sy_sq ?_
         refine o_v hf hh (yv_move rfl) ?_; clear hf a; intro a hf
         refine o_v hf hh (yv_bin rfl rfl rfl) ?_; clear hf a; intro a hf
         refine o_v hf hh (yv_move rfl) ?_; clear hf a; intro a hf
         refine o_v hf hh (yv_move rfl) ?_; clear hf a; intro a hf
         refine o_v hf hh (yv_bin rfl rfl rfl) ?_; clear hf a; intro a hf
         refine o_v hf hh (y_pf rfl rfl) ?_; clear hf a; intro a hf
         refine o_v hf hh (yv_move rfl) ?_; clear hf a; intro a hf
         refine o_v hf hh (yv_move rfl) ?_; clear hf a; intro a hf
         refine o_v hf hh (yv_move rfl) ?_; clear hf a; intro a hf
         refine o_v hf hh (yv_cast (yv_andn (.inl rfl) rfl rfl (by omega) (by simp only [IntKind.top]; omega) (by omega) (by simp only [IntKind.top]; omega)) (intv (b := 0) (by rw [Int.toNat_natCast, Int.toNat_natCast, andn_none hc1]; rfl))) ?_; clear hf a; intro a hf
         refine o_v hf hh (yv_bin rfl rfl rfl) ?_; clear hf a; intro a hf
         refine o_v hf hh (y_pf rfl rfl) ?_; clear hf a; intro a hf
         refine o_v hf hh (yv_move rfl) ?_; clear hf a; intro a hf
         refine o_v hf hh (yv_move rfl) ?_; clear hf a; intro a hf
         refine o_v hf hh (yv_move rfl) ?_; clear hf a; intro a hf
         refine o_v hf hh (yv_cast (yv_andn (.inl rfl) rfl rfl (by omega) (by simp only [IntKind.top]; omega) (by omega) (by simp only [IntKind.top]; omega)) (intv (b := 0) (by rw [Int.toNat_natCast, Int.toNat_natCast, andn_none hc2]; rfl))) ?_; clear hf a; intro a hf
         refine o_v hf hh (yv_bin rfl rfl rfl) ?_; clear hf a; intro a hf
         refine o_v hf hh (y_pf rfl rfl) ?_; clear hf a; intro a hf
         refine o_v hf hh (yv_move rfl) ?_; clear hf a; intro a hf
         refine o_v hf hh (yv_move rfl) ?_; clear hf a; intro a hf
         refine o_v hf hh (yv_move rfl) ?_; clear hf a; intro a hf
         refine o_v hf hh (yv_cast (yv_andn (.inl rfl) rfl rfl (by omega) (by simp only [IntKind.top]; omega) (by omega) (by simp only [IntKind.top]; omega)) (intv (b := 0) (by rw [Int.toNat_natCast, Int.toNat_natCast, andn_none hd1]; rfl))) ?_; clear hf a; intro a hf
         refine o_v hf hh (yv_bin rfl rfl rfl) ?_; clear hf a; intro a hf
         refine o_v hf hh (y_pf rfl rfl) ?_; clear hf a; intro a hf
         refine o_v hf hh (yv_move rfl) ?_; clear hf a; intro a hf
         refine o_v hf hh (yv_move rfl) ?_; clear hf a; intro a hf
         refine o_v hf hh (yv_move rfl) ?_; clear hf a; intro a hf
         refine o_v hf hh (yv_cast (yv_andn (.inl rfl) rfl rfl (by omega) (by simp only [IntKind.top]; omega) (by omega) (by simp only [IntKind.top]; omega)) (intv (b := 0) (by rw [Int.toNat_natCast, Int.toNat_natCast, andn_none hd2]; rfl))) ?_; clear hf a; intro a hf
         refine o_v hf hh (yv_bin rfl rfl rfl) ?_; clear hf a; intro a hf
         refine o_v hf hh (y_pf rfl rfl) ?_; clear hf a; intro a hf
         refine o_end ?_
         refine c_f hf ?_
         refine sy_skip ?_
         refine blk_n ?_
         refine then_n ?_
         refine sy_ops ?_
         refine o_v hf hh (y_add rfl rfl) ?_; clear hf a; intro a hf
         refine o_v hf hh (yv_move rfl) ?_; clear hf a; intro a hf
         refine ops_end ?_
         refine then_n ?_
         exact ⟨j + 1, ⟨⟨by omega, hh.less (.cons _ (.refl _))⟩, hf.head ⟨rfl, True.intro⟩ (Keep.cons rfl (Keep.cons rfl (Keep.cons rfl (Keep.cons rfl (Keep.cons rfl (Keep.cons rfl (Keep.cons rfl (Keep.cons rfl (Keep.cons rfl (Keep.cons rfl (Keep.cons rfl (Keep.cons rfl (Keep.cons rfl (Keep.cons rfl (Keep.cons rfl (Keep.cons rfl (Keep.cons rfl (Keep.cons rfl (Keep.cons rfl (Keep.cons rfl (Keep.cons rfl (Keep.cons rfl (Keep.cons rfl (Keep.cons rfl (Keep.cons rfl (Keep.cons rfl (Keep.cons rfl (Keep.cons rfl (Keep.cons rfl (Keep.cons rfl (Keep.cons rfl (Keep.cons rfl (Keep.cons rfl (Keep.cons rfl (Keep.cons rfl (Keep.cons rfl (Keep.cons rfl (Keep.cons rfl (Keep.cons rfl (Keep.cons rfl (Keep.cons rfl (Keep.cons rfl (Keep.cons rfl (Keep.cons rfl (Keep.cons rfl (Keep.cons rfl (Keep.cons rfl (Keep.cons rfl (Keep.cons rfl (Keep.cons rfl (Keep.cons rfl (Keep.cons rfl (Keep.cons rfl (Keep.cons rfl (Keep.cons rfl (Keep.cons rfl (Keep.cons rfl (Keep.cons rfl (Keep.cons rfl (Keep.cons rfl (Keep.cons rfl (Keep.cons rfl (Keep.cons rfl (Keep.cons rfl (Keep.cons rfl (Keep.cons rfl (Keep.cons rfl (Keep.cons rfl (Keep.cons rfl (Keep.cons rfl (Keep.cons rfl (Keep.cons rfl (Keep.cons rfl (Keep.cons rfl (Keep.cons rfl (Keep.cons rfl (Keep.cons rfl (Keep.cons rfl (Keep.cons rfl (Keep.cons rfl (Keep.cons rfl (Keep.cons rfl (Keep.cons rfl (Keep.cons rfl (Keep.cons rfl (Keep.cons rfl (Keep.cons rfl (Keep.cons rfl (Keep.cons rfl (Keep.cons rfl (Keep.app rfl (Keep.rm rfl Keep.base))))))))))))))))))))))))))))))))))))))))))))))))))))))))))))))))))))))))))))))))))))))))))))⟩, by omega⟩
      ·have hG28 := hg28; try simp only [gS] at hG28
       refine sy_exit ?_
       refine then_e ?_
       refine then_e ?_
       refine blk_e ?_
       refine then_n ?_
       refine sy_seq ?_
       have hok0 : okCan d 0 = true := okCan_mk hV (by omega) (by omega)
       have hC00 := casesE_ok hok0
       have hcn := cases_none hV
       have hcE := countE_ok hV
       have hCl := casesC_ok hok0
       rw [hcn] at hCl
       have hle1 : casesC d 0 ≤ 1 := by rw [hCl]; split <;> simp
       have hEq : (decide (((casesC d 0 : Nat) : Int) = 1) == decide (0 < countV d)) = true := by
         rw [beq_iff_eq, decide_eq_decide, hCl]
         split <;> simp_all
       refine sy_ops ?_
       refine o_v hf hh (y_lds Try.ag_31 rfl) ?_; clear hf a; intro a hf
       refine o_call hf Try.en_12 rfl rfl rfl (p12 d 0 sa sb ca cb _ (hA.ext hh.ext) (hB.ext hh.ext)) ?_; clear hf a; intro v a w hR hf
       obtain ⟨rfl, hx⟩ := hR; replace hh := hh.more hx; clear hx
       refine o_v hf hh (yv_move rfl) ?_; clear hf a; intro a hf
       refine o_v hf hh (yv_extract rfl rfl) ?_; clear hf a; intro a hf
       refine o_v hf hh (yv_extract rfl rfl) ?_; clear hf a; intro a hf
       refine o_v hf hh (yv_assign rfl) ?_; clear hf a; intro a hf
       refine o_v hf hh (yv_assign rfl) ?_; clear hf a; intro a hf
       refine o_end ?_
       refine sy_sq ?_
       refine o_v hf hh (yv_fieldAddr Try.fo_31_0 rfl) ?_; clear hf a; intro a hf
       refine o_v hf hh (y_lds Try.ag_29 rfl) ?_; clear hf a; intro a hf
       refine o_call hf Try.en_31 rfl rfl rfl (c17 d sa sb ca cb _ (hA.ext hh.ext) (hB.ext hh.ext)) ?_; clear hf a; intro v a w hR hf
       obtain ⟨rfl, hx⟩ := hR; replace hh := hh.more hx; clear hx
       refine o_v hf hh (yv_move rfl) ?_; clear hf a; intro a hf
       refine o_v hf hh (yv_extract rfl rfl) ?_; clear hf a; intro a hf
       refine o_v hf hh (yv_extract rfl rfl) ?_; clear hf a; intro a hf
       refine o_v hf hh (yv_assign rfl) ?_; clear hf a; intro a hf
       refine o_v hf hh (yv_assign rfl) ?_; clear hf a; intro a hf
       refine o_end ?_
       refine sy_sq ?_
       refine o_v hf hh (yv_move rfl) ?_; clear hf a; intro a hf
       refine o_v hf hh (yv_bin rfl rfl rfl) ?_; clear hf a; intro a hf
       refine o_v hf hh (yv_move rfl) ?_; clear hf a; intro a hf
       refine o_v hf hh (yv_move rfl) ?_; clear hf a; intro a hf
       refine o_v hf hh (yv_bin rfl rfl rfl) ?_; clear hf a; intro a hf
       refine o_v hf hh (y_pt rfl rfl) ?_; clear hf a; intro a hf
       refine o_v hf hh (yv_move rfl) ?_; clear hf a; intro a hf
       refine o_v hf hh (yv_move rfl) ?_; clear hf a; intro a hf
       refine o_v hf hh (yv_bin rfl rfl rfl) ?_; clear hf a; intro a hf
       refine o_v hf hh (yv_move rfl) ?_; clear hf a; intro a hf
       refine o_v hf hh (yv_bin rfl rfl rfl) ?_; clear hf a; intro a hf
       refine o_v hf hh (yv_eqb Try.ub_4 rfl rfl) ?_; clear hf a; intro a hf
       refine o_v hf hh (y_pt rfl rfl) ?_; clear hf a; intro a hf
       refine o_v hf hh (yv_move rfl) ?_; clear hf a; intro a hf
       refine o_v hf hh (yv_move rfl) ?_; clear hf a; intro a hf
       refine o_v hf hh (yv_bin rfl rfl rfl) ?_; clear hf a; intro a hf
       refine o_v hf hh (y_pt rfl rfl) ?_; clear hf a; intro a hf
       refine o_v hf hh (yv_move rfl) ?_; clear hf a; intro a hf
       refine o_call hf Try.en_17 rfl rfl rfl (p17 _) ?_; clear hf a; intro v a w hR hf
       obtain ⟨rfl, hx⟩ := hR; replace hh := hh.more hx; clear hx
       refine o_v hf hh (y_pt rfl rfl) ?_; clear hf a; intro a hf
       refine o_v hf hh (yv_assign rfl) ?_; clear hf a; intro a hf
       refine o_end ?_
       refine sy_ret ?_
       refine ret_r hf rfl rfl ?_
       exact ⟨rfl, hh.ext⟩
end Go.Proofs.Ytidieepndphodaa
namespace Go.Proofs.Ytidieepndphodaa
open Go Go.Sy Go.MatM
theorem spl_size {c : Array Value} {off : Nat} {vs : List Value} (h : off + vs.length ≤ c.size) : (spl c off vs).size = c.size := by
  unfold spl
  simp only [List.size_toArray, List.length_append, List.length_take, List.length_drop, Array.length_toList]
  omega
theorem ownSl_spl {e size m cap off B : Nat} {cur : Array Value} {vs : List Value} (h1 : m ≤ cap) (h2 : cap ≤ maxLen) (h3 : cur.size = cap * size) (h4 : off + vs.length ≤ cur.size) : OwnSl e size (.slice (some ⟨B, 0, none⟩) m cap) m ((spl cur off vs).toList.take (m * size)) [(B, .cells (spl cur off vs) e (0, 0))] := by
  have hs := spl_size h4
  have hm : m * size ≤ cap * size := Nat.mul_le_mul_right _ h1
  exact ⟨by rw [List.length_take, Array.length_toList, hs, h3]; omega, .inr ⟨B, cap, _, rfl, rfl, h1, h2, by rw [hs, h3], rfl⟩⟩
theorem ownSl_in {e size m cap : Nat} {oa : Option Addr} {xs : List Value} {X : List (Nat × Obj)} {i : Nat} (h : OwnSl e size (.slice oa m cap) m xs X) (hi : i < m) : ∃ B cur, oa = some ⟨B, 0, none⟩ ∧ X = [(B, .cells cur e (0, 0))] ∧ m ≤ cap ∧ cap ≤ maxLen ∧ cur.size = cap * size := by
  rcases h.2 with ⟨_, h0, _⟩ | ⟨B, cp, cur, h1, h2, h3, h4, h5, _⟩
  · omega
  · cases h1; exact ⟨B, cur, rfl, h2, h3, h4, h5⟩
theorem perm_erase {α : Type} : ∀ (l : List α) (i : Nat) (q : α), l[i]? = some q → l.Perm (q :: l.eraseIdx i)
  | [], i, q, h => by simp at h
  | x :: l, 0, q, h => by simp at h; subst h; exact .refl _
  | x :: l, i + 1, q, h => by
    have ih := perm_erase l i q (by simpa using h)
    exact (List.Perm.cons x ih).trans (.swap _ _ _)
end Go.Proofs.Ytidieepndphodaa
namespace Go.Sy
open Go Go.Proofs.Ytidieepndphodaa
theorem Hp.front {w0 w : World} {M : List Nat} {H : List (Nat × Obj)} (h : Hp w0 M H w) {q : Nat × Obj} {i : Nat} (hi : H[i]? = some q) : Hp w0 M (q :: H.eraseIdx i) w := h.perm (perm_erase H i q hi)
end Go.Sy
namespace Go.Proofs.Ytidieepndphodaa
open Go Go.Sy Go.MatM
set_option maxRecDepth 100000 in
set_option maxHeartbeats 4000000 in
theorem p6 (d : RowsD) (p : Int) (sa sb : Option Addr) (ca cb : Nat) (u : World) (hA : MkAt u sa d.l) (hB : MkAt u sb d.r) : Calls Try.prog 6 #[canV d p sa sb ca cb] u (Ret fun v w' => v = .bool true ∧ Ext [] u w') := by
  refine calls_of Try.func6 rfl rfl (fun a hf => ?_)
  have hh := Hp.init u []
  refine sy_sq ?_
  refine o_box hf hh ?_; clear hf hh a; intro B1 a w hf hh
  refine o_v hf hh (yv_assign rfl) ?_; clear hf a; intro a hf
  refine o_end ?_
  refine sy_seq ?_
  refine sy_sq ?_
  refine o_v hf hh (y_lds Try.ag_31 rfl) ?_; clear hf a; intro a hf
  refine o_call hf Try.en_18 rfl rfl rfl (p18 d p sa sb ca cb _ (hA.ext hh.ext) (hB.ext hh.ext) 8) ?_; clear hf a; intro v a w hR hf
  obtain ⟨rfl, hx⟩ := hR; replace hh := hh.more hx; clear hx
  refine o_v hf hh (yv_move rfl) ?_; clear hf a; intro a hf
  refine guard_split hf (t := 35) rfl (fun hg2 => ?_) (fun hg2 => ?_)
  ·have hG2 := hg2; try simp only [gS] at hG2
   refine o_off hf ?_; clear hf a; intro a hf
   refine o_off hf ?_; clear hf a; intro a hf
   refine o_off hf ?_; clear hf a; intro a hf
   refine o_v hf hh (y_pt rfl rfl) ?_; clear hf a; intro a hf
   refine o_end ?_
   refine c_t hf ?_
   refine sy_sq ?_
   refine o_call hf Try.en_17 rfl rfl rfl (p17 _) ?_; clear hf a; intro v a w hR hf
   obtain ⟨rfl, hx⟩ := hR; replace hh := hh.more hx; clear hx
   refine o_v hf hh (yv_assign rfl) ?_; clear hf a; intro a hf
   refine o_end ?_
   refine sy_ret ?_
   refine then_r ?_
   refine ret_r hf rfl rfl ?_
   first
     | exact ⟨rfl, hh.ext⟩
     | exact ⟨rfl, he1.trans hh.ext⟩
  ·have hG2 := hg2; try simp only [gS] at hG2
   refine o_v hf hh (y_lds Try.ag_31 rfl) ?_; clear hf a; intro a hf
   have hg9 : (decide (24 < d.l.length ∨ 24 < d.r.length) || (decide ((8 : Int) < d.l.length ∨ (8 : Int) < d.r.length) && okCan d p)) = false := by assumption
   have hlen : d.l.length ≤ 24 ∧ d.r.length ≤ 24 := by
     rw [Bool.or_eq_false_iff, decide_eq_false_iff_not] at hg9
     omega
   refine o_call hf Try.en_19 rfl rfl rfl (p19 d p sa sb ca cb _ (hA.ext hh.ext) (hB.ext hh.ext) (by omega) (by omega)) ?_; clear hf a; intro v a w hR hf
   obtain ⟨rfl, hx⟩ := hR; replace hh := hh.more hx; clear hx
   refine o_v hf hh (yv_not rfl) ?_; clear hf a; intro a hf
   refine o_v hf hh (y_pf rfl rfl) ?_; clear hf a; intro a hf
   refine o_end ?_
   refine sy_cond hf rfl (fun hg5 => ?_) (fun hg5 => ?_)
   ·have hG5 := hg5; try simp only [gS] at hG5
    refine sy_sq ?_
    refine o_call hf Try.en_17 rfl rfl rfl (p17 _) ?_; clear hf a; intro v a w hR hf
    obtain ⟨rfl, hx⟩ := hR; replace hh := hh.more hx; clear hx
    refine o_v hf hh (yv_assign rfl) ?_; clear hf a; intro a hf
    refine o_end ?_
    refine sy_ret ?_
    refine then_r ?_
    refine ret_r hf rfl rfl ?_
    first
      | exact ⟨rfl, hh.ext⟩
      | exact ⟨rfl, he1.trans hh.ext⟩
   ·have hG5 := hg5; try simp only [gS] at hG5
    refine sy_skip ?_
    refine then_n ?_
    refine sy_seq ?_
    have hok : okCan d p = true := by assumption
    obtain ⟨hV, hp0, hp3⟩ := okCan_valid hok
    have hnl := hV.nl; have hnr := hV.nr; have hh1 := hV.h1; have hh2 := hV.h2
    have hs1 := hV.s1; have hs2 := hV.s2; have hs3 := hV.s3
    refine sy_ops ?_
    refine o_v hf hh (y_lds Try.ag_31 rfl) ?_; clear hf a; intro a hf
    refine o_alloc hf hh Try.ze_31 ?_; clear hf hh a; intro B3 a w hf hh
    refine o_store hf hh Try.sz_31 fun w hh => ?_
    refine o_end ?_
    refine sy_seq ?_
    refine sy_treeC (.p 0 (.p 1 (.q 0 2 (.p 3 (.p 4 (.q 0 5 (.p 6 (.p 7 (.p 8 (.q 0 9 (.p 10 (.p 11 (.p 12 (.p 13 (.q 0 14 (.p 15 (.p 17 (.p 18 (.e1 16 (.e1 19 (.p 20 (.p 21 (.e1 22 (.p 23 (.p 24 (.e1 25 (.fin))))))))))))))))))))))))))) [[]] [(AtE u [] [(B1, .cells (canV d p sa sb ca cb).cells 31)], [])] Try.follows (by kernel_rfl) rfl hh (fun w hh => ?_)
    refine mc_p rfl   hf (yv_fieldAddr Try.fo_31_0 rfl) (.inl rfl) rfl rfl ?_; clear hf a; intro a hf
    refine mc_p rfl   hf (yv_fieldAddr Try.fo_29_1 rfl) (.inl rfl) rfl rfl ?_; clear hf a; intro a hf
    refine mc_q rfl rfl (AtE.mk1 hh.ext (hh.get (B1, .cells (canV d p sa sb ca cb).cells 31) (by simp))) hf (y_ld Try.sc_25 rfl) (.inl rfl) rfl rfl ?_; clear hf a; intro a hf
    refine mc_p rfl   hf (yv_fieldAddr Try.fo_31_0 rfl) (.inl rfl) rfl rfl ?_; clear hf a; intro a hf
    refine mc_p rfl   hf (yv_fieldAddr Try.fo_29_0 rfl) (.inl rfl) rfl rfl ?_; clear hf a; intro a hf
    refine mc_q rfl rfl (AtE.mk1 hh.ext (hh.get (B1, .cells (canV d p sa sb ca cb).cells 31) (by simp))) hf (y_ld Try.sc_25 rfl) (.inl rfl) rfl rfl ?_; clear hf a; intro a hf
    refine mc_p rfl   hf (yv_fieldAddr Try.fo_31_0 rfl) (.inl rfl) rfl rfl ?_; clear hf a; intro a hf
    refine mc_p rfl   hf (yv_fieldAddr Try.fo_29_2 rfl) (.inl rfl) rfl rfl ?_; clear hf a; intro a hf
    refine mc_p rfl   hf (yv_fieldAddr Try.fo_27_1 rfl) (.inl rfl) rfl rfl ?_; clear hf a; intro a hf
    refine mc_q rfl rfl (AtE.mk1 hh.ext (hh.get (B1, .cells (canV d p sa sb ca cb).cells 31) (by simp))) hf (y_ld Try.sc_3 rfl) (.inl rfl) rfl rfl ?_; clear hf a; intro a hf
    refine mc_p rfl   hf (yv_neg rfl (by omega) (by omega)) (.inl rfl) rfl rfl ?_; clear hf a; intro a hf
    refine mc_p rfl   hf (yv_fieldAddr Try.fo_31_0 rfl) (.inl rfl) rfl rfl ?_; clear hf a; intro a hf
    refine mc_p rfl   hf (yv_fieldAddr Try.fo_29_2 rfl) (.inl rfl) rfl rfl ?_; clear hf a; intro a hf
    refine mc_p rfl   hf (yv_fieldAddr Try.fo_27_0 rfl) (.inl rfl) rfl rfl ?_; clear hf a; intro a hf
    refine mc_q rfl rfl (AtE.mk1 hh.ext (hh.get (B1, .cells (canV d p sa sb ca cb).cells 31) (by simp))) hf (y_ld Try.sc_3 rfl) (.inl rfl) rfl rfl ?_; clear hf a; intro a hf
    refine mc_p rfl   hf (yv_neg rfl (by omega) (by omega)) (.inl rfl) rfl rfl ?_; clear hf a; intro a hf
    refine mc_p rfl   hf (yv_fieldAddr Try.fo_31_0 rfl) (.inl rfl) rfl rfl ?_; clear hf a; intro a hf
    refine mc_p rfl   hf (yv_fieldAddr Try.fo_29_0 rfl) (.inl rfl) rfl rfl ?_; clear hf a; intro a hf
    refine mc_e rfl fun Q1 => ?_
    refine o_call hf Try.en_27 rfl rfl rfl (p27 _ _ _) ?_; clear hf a; intro v a w hR hf
    obtain ⟨rfl, hx⟩ := hR; replace hh := hh.more hx; clear hx
    refine ops_end ?_
    refine then_n ⟨⟨fun _ _ => (AtE.mk1 hh.ext (hh.get (B1, .cells (canV d p sa sb ca cb).cells 31) (by simp))), trivial⟩, ?_⟩
    refine mc_e rfl fun Q1 => ?_
    refine o_store hf hh Try.sz_25 fun w hh => ?_
    refine ops_end ?_
    refine then_n ⟨⟨fun _ _ => (AtE.mk1 hh.ext (hh.get (B1, .cells (canV d p sa sb ca cb).cells 31) (by simp))), trivial⟩, ?_⟩
    refine mc_p rfl   hf (yv_fieldAddr Try.fo_31_0 rfl) (.inl rfl) rfl rfl ?_; clear hf a; intro a hf
    refine mc_p rfl   hf (yv_fieldAddr Try.fo_29_1 rfl) (.inl rfl) rfl rfl ?_; clear hf a; intro a hf
    refine mc_e rfl fun Q1 => ?_
    refine o_store hf hh Try.sz_25 fun w hh => ?_
    refine ops_end ?_
    refine then_n ⟨⟨fun _ _ => (AtE.mk1 hh.ext (hh.get (B1, .cells (canV d p sa sb ca cb).cells 31) (by simp))), trivial⟩, ?_⟩
    refine mc_p rfl   hf (yv_fieldAddr Try.fo_31_0 rfl) (.inl rfl) rfl rfl ?_; clear hf a; intro a hf
    refine mc_p rfl   hf (yv_fieldAddr Try.fo_29_2 rfl) (.inl rfl) rfl rfl ?_; clear hf a; intro a hf
    refine mc_e rfl fun Q1 => ?_
    refine o_store hf hh Try.sz_27 fun w hh => ?_
    refine ops_end ?_
    refine then_n ⟨⟨fun _ _ => (AtE.mk1 hh.ext (hh.get (B1, .cells (canV d p sa sb ca cb).cells 31) (by simp))), trivial⟩, ?_⟩
    refine mc_end ?_
    refine then_n ?_
    refine sy_cut (σ := Nat × Option Addr × Option Addr × Nat × Nat) [4, 65, 66, 67, 68, 69, 70, 71, 72, 73, 74, 75, 76, 77, 78, 79, 80, 81] (fun q => [(4, ptr q.1 0)]) (fun q => fun w' => Ext [] u w' ∧ w'.heap[B1]? = some (.cells (canV d p sa sb ca cb).cells 31 (0, 0)) ∧ w'.heap[B3]? = some (.cells (canV (tX d) p sb sa cb ca).cells 31 (0, 0)) ∧ w'.heap[q.1]? = some (.cells (rowsV d q.2.1 q.2.2.1 q.2.2.2.1 q.2.2.2.2).cells 29 (0, 0)) ∧ MkAt w' q.2.1 d.l ∧ MkAt w' q.2.2.1 d.r) hf ?_ ?_
    ·replace hh : Hp u [] [(B3, .cells (canV (tX d) p sb sa cb ca).cells 31), (B1, .cells (canV d p sa sb ca cb).cells 31)] w := hh
     refine sy_treeC (.p 1 (.p 2 (.q 0 3 (.p 6 (.p 7 (.q 0 8 (.p 10 (.p 11 (.q 0 12 (.p 13 (.p 14 (.q 0 15 (.e3 0 (.e3 4 (.e2 5 (.e2 9 (.p 16 (.e1 17 (.e1 18 (.fin)))) 17 (.e1 9 (.p 16 (.e1 18 (.fin))))) 17 (.e1 5 (.e1 9 (.p 16 (.e1 18 (.fin)))))) 5 (.e2 4 (.e2 9 (.p 16 (.e1 17 (.e1 18 (.fin)))) 17 (.e1 9 (.p 16 (.e1 18 (.fin))))) 17 (.e1 4 (.e1 9 (.p 16 (.e1 18 (.fin)))))) 17 (.e2 4 (.e1 5 (.e1 9 (.p 16 (.e1 18 (.fin))))) 5 (.e1 4 (.e1 9 (.p 16 (.e1 18 (.fin))))))) 5 (.e2 0 (.e2 4 (.e2 9 (.p 16 (.e1 17 (.e1 18 (.fin)))) 17 (.e1 9 (.p 16 (.e1 18 (.fin))))) 17 (.e1 4 (.e1 9 (.p 16 (.e1 18 (.fin)))))) 17 (.e1 0 (.e1 4 (.e1 9 (.p 16 (.e1 18 (.fin))))))) 17 (.e2 0 (.e2 4 (.e1 5 (.e1 9 (.p 16 (.e1 18 (.fin))))) 5 (.e1 4 (.e1 9 (.p 16 (.e1 18 (.fin)))))) 5 (.e1 0 (.e1 4 (.e1 9 (.p 16 (.e1 18 (.fin)))))))))))))))))))) [[]] [(AtE u [] [(B1, .cells (canV d p sa sb ca cb).cells 31)], [])] Try.follows (by kernel_rfl) rfl hh (fun w hh => ?_)
     refine mc_p rfl   hf (yv_fieldAddr Try.fo_31_0 rfl) (.inl rfl) rfl rfl ?_; clear hf a; intro a hf
     refine mc_p rfl   hf (yv_fieldAddr Try.fo_29_0 rfl) (.inl rfl) rfl rfl ?_; clear hf a; intro a hf
     refine mc_q rfl rfl (AtE.mk1 hh.ext (hh.get (B1, .cells (canV d p sa sb ca cb).cells 31) (by simp))) hf (y_ld Try.sc_25 rfl) (.inl rfl) rfl rfl ?_; clear hf a; intro a hf
     refine mc_p rfl   hf (yv_fieldAddr Try.fo_31_0 rfl) (.inl rfl) rfl rfl ?_; clear hf a; intro a hf
     refine mc_p rfl   hf (yv_fieldAddr Try.fo_29_1 rfl) (.inl rfl) rfl rfl ?_; clear hf a; intro a hf
     refine mc_q rfl rfl (AtE.mk1 hh.ext (hh.get (B1, .cells (canV d p sa sb ca cb).cells 31) (by simp))) hf (y_ld Try.sc_25 rfl) (.inl rfl) rfl rfl ?_; clear hf a; intro a hf
     refine mc_p rfl   hf (yv_fieldAddr Try.fo_31_0 rfl) (.inl rfl) rfl rfl ?_; clear hf a; intro a hf
     refine mc_p rfl   hf (yv_fieldAddr Try.fo_29_2 rfl) (.inl rfl) rfl rfl ?_; clear hf a; intro a hf
     refine mc_q rfl rfl (AtE.mk1 hh.ext (hh.get (B1, .cells (canV d p sa sb ca cb).cells 31) (by simp))) hf (y_lds Try.ag_27 rfl) (.inl rfl) rfl rfl ?_; clear hf a; intro a hf
     refine mc_p rfl   hf (yv_fieldAddr Try.fo_31_0 rfl) (.inl rfl) rfl rfl ?_; clear hf a; intro a hf
     refine mc_p rfl   hf (yv_fieldAddr Try.fo_29_3 rfl) (.inl rfl) rfl rfl ?_; clear hf a; intro a hf
     refine mc_q rfl rfl (AtE.mk1 hh.ext (hh.get (B1, .cells (canV d p sa sb ca cb).cells 31) (by simp))) hf (y_ld Try.sc_3 rfl) (.inl rfl) rfl rfl ?_; clear hf a; intro a hf
     refine ⟨?_, ?_, ?_⟩
     ·refine mc_e rfl fun Q1 => ?_
      refine ops_buildSl hf hh Try.bl_25_0 rfl rfl (.inl rfl) rfl ?_; clear hf hh; clear a; intro B65 a w hf hh
      refine ops_end ?_
      refine then_n ⟨⟨fun _ _ => (AtE.mk1 hh.ext (hh.get (B1, .cells (canV d p sa sb ca cb).cells 31) (by simp))), trivial⟩, ?_⟩
      refine ⟨?_, ?_, ?_⟩
      ·refine mc_e rfl fun Q1 => ?_
       first | (refine ops_appendM (A := []) (B := d.l) (X := [(B65, .cells #[] 54)]) (m := 0) hf hh Try.eb_25 rfl rfl ⟨rfl, .inr ⟨B65, 0, #[], rfl, rfl, Nat.le_refl _, Nat.zero_le _, rfl, rfl⟩⟩ (hA.ext hh.ext) (by simp only [maxLen]; omega) (by omega) (.inl rfl) rfl ?_) | (refine ops_appendM (A := []) (B := d.l) (X := [(B65, .cells #[] 54)]) (m := 0) hf (hh.front (i := 1) rfl) Try.eb_25 rfl rfl ⟨rfl, .inr ⟨B65, 0, #[], rfl, rfl, Nat.le_refl _, Nat.zero_le _, rfl, rfl⟩⟩ (hA.ext hh.ext) (by simp only [maxLen]; omega) (by omega) (.inl rfl) rfl ?_) | (refine ops_appendM (A := []) (B := d.l) (X := [(B65, .cells #[] 54)]) (m := 0) hf (hh.front (i := 2) rfl) Try.eb_25 rfl rfl ⟨rfl, .inr ⟨B65, 0, #[], rfl, rfl, Nat.le_refl _, Nat.zero_le _, rfl, rfl⟩⟩ (hA.ext hh.ext) (by simp only [maxLen]; omega) (by omega) (.inl rfl) rfl ?_)
       clear hf hh; clear a
       intro v6 X6 a w hO6 hf hh
       rw [Nat.zero_add, List.nil_append] at hO6
       obtain ⟨oa6, cp6, rfl⟩ := OwnSl_val hO6
       replace hh := hh.perm List.perm_append_comm
       refine ops_end ?_
       refine then_n ⟨⟨fun _ _ => (AtE.mk1 hh.ext (hh.get (B1, .cells (canV d p sa sb ca cb).cells 31) (by simp))), trivial⟩, ?_⟩
       refine ⟨?_, ?_⟩
       ·refine mc_e rfl fun Q1 => ?_
        refine ops_buildSl hf hh Try.bl_25_0 rfl rfl (.inl rfl) rfl ?_; clear hf hh; clear a; intro B70 a w hf hh
        refine ops_end ?_
        refine then_n ⟨⟨fun _ _ => (AtE.mk1 hh.ext (hh.get (B1, .cells (canV d p sa sb ca cb).cells 31) (by simp))), trivial⟩, ?_⟩
        refine ⟨?_, ?_⟩
        ·refine mc_e rfl fun Q1 => ?_
         first | (refine ops_appendM (A := []) (B := d.r) (X := [(B70, .cells #[] 54)]) (m := 0) hf hh Try.eb_25 rfl rfl ⟨rfl, .inr ⟨B70, 0, #[], rfl, rfl, Nat.le_refl _, Nat.zero_le _, rfl, rfl⟩⟩ (hB.ext hh.ext) (by simp only [maxLen]; omega) (by omega) (.inl rfl) rfl ?_) | (refine ops_appendM (A := []) (B := d.r) (X := [(B70, .cells #[] 54)]) (m := 0) hf (hh.front (i := 1) rfl) Try.eb_25 rfl rfl ⟨rfl, .inr ⟨B70, 0, #[], rfl, rfl, Nat.le_refl _, Nat.zero_le _, rfl, rfl⟩⟩ (hB.ext hh.ext) (by simp only [maxLen]; omega) (by omega) (.inl rfl) rfl ?_) | (refine ops_appendM (A := []) (B := d.r) (X := [(B70, .cells #[] 54)]) (m := 0) hf (hh.front (i := 2) rfl) Try.eb_25 rfl rfl ⟨rfl, .inr ⟨B70, 0, #[], rfl, rfl, Nat.le_refl _, Nat.zero_le _, rfl, rfl⟩⟩ (hB.ext hh.ext) (by simp only [maxLen]; omega) (by omega) (.inl rfl) rfl ?_)
         clear hf hh; clear a
         intro v7 X7 a w hO7 hf hh
         rw [Nat.zero_add, List.nil_append] at hO7
         obtain ⟨oa7, cp7, rfl⟩ := OwnSl_val hO7
         replace hh := hh.perm List.perm_append_comm
         refine ops_end ?_
         refine then_n ⟨⟨fun _ _ => (AtE.mk1 hh.ext (hh.get (B1, .cells (canV d p sa sb ca cb).cells 31) (by simp))), trivial⟩, ?_⟩
         refine mc_p rfl   hf (yv_buildS Try.bs_29 rfl rfl) (.inl rfl) rfl rfl ?_; clear hf a; intro a hf
         refine mc_e rfl fun Q1 => ?_
         refine o_alloc hf hh Try.ze_29 ?_; clear hf hh a; intro B4 a w hf hh
         refine ops_end ?_
         refine then_n ⟨⟨fun _ _ => (AtE.mk1 hh.ext (hh.get (B1, .cells (canV d p sa sb ca cb).cells 31) (by simp))), trivial⟩, ?_⟩
         refine mc_e rfl fun Q1 => ?_
         refine o_store hf hh Try.sz_29 fun w hh => ?_
         refine ops_end ?_
         refine then_n ⟨⟨fun _ _ => (AtE.mk1 hh.ext (hh.get (B1, .cells (canV d p sa sb ca cb).cells 31) (by simp))), trivial⟩, ?_⟩
         refine mc_end ?_
         refine then_n ?_
         exact ⟨(B4, oa6, oa7, cp6, cp7), ⟨hh.ext, hh.at (i := 2) rfl, hh.at (i := 1) rfl, hh.at (i := 0) rfl, mkAt_of hO6 fun x hx => hh.get x (by simp [hx]), mkAt_of hO7 fun x hx => hh.get x (by simp [hx])⟩, hf.head ⟨rfl, True.intro⟩ (Keep.cons rfl (Keep.cons rfl (Keep.cons rfl (Keep.cons rfl (Keep.cons rfl (Keep.cons rfl (Keep.cons rfl (Keep.cons rfl (Keep.cons rfl (Keep.cons rfl (Keep.cons rfl (Keep.cons rfl (Keep.cons rfl (Keep.cons rfl (Keep.cons rfl (Keep.cons rfl (Keep.cons rfl (Keep.cons rfl (Keep.base)))))))))))))))))))⟩
        ·refine mc_e rfl fun Q1 => ?_
         refine o_alloc hf hh Try.ze_29 ?_; clear hf hh a; intro B4 a w hf hh
         refine ops_end ?_
         refine then_n ⟨⟨fun _ _ => (AtE.mk1 hh.ext (hh.get (B1, .cells (canV d p sa sb ca cb).cells 31) (by simp))), trivial⟩, ?_⟩
         refine mc_e rfl fun Q1 => ?_
         first | (refine ops_appendM (A := []) (B := d.r) (X := [(B70, .cells #[] 54)]) (m := 0) hf hh Try.eb_25 rfl rfl ⟨rfl, .inr ⟨B70, 0, #[], rfl, rfl, Nat.le_refl _, Nat.zero_le _, rfl, rfl⟩⟩ (hB.ext hh.ext) (by simp only [maxLen]; omega) (by omega) (.inl rfl) rfl ?_) | (refine ops_appendM (A := []) (B := d.r) (X := [(B70, .cells #[] 54)]) (m := 0) hf (hh.front (i := 1) rfl) Try.eb_25 rfl rfl ⟨rfl, .inr ⟨B70, 0, #[], rfl, rfl, Nat.le_refl _, Nat.zero_le _, rfl, rfl⟩⟩ (hB.ext hh.ext) (by simp only [maxLen]; omega) (by omega) (.inl rfl) rfl ?_) | (refine ops_appendM (A := []) (B := d.r) (X := [(B70, .cells #[] 54)]) (m := 0) hf (hh.front (i := 2) rfl) Try.eb_25 rfl rfl ⟨rfl, .inr ⟨B70, 0, #[], rfl, rfl, Nat.le_refl _, Nat.zero_le _, rfl, rfl⟩⟩ (hB.ext hh.ext) (by simp only [maxLen]; omega) (by omega) (.inl rfl) rfl ?_)
         clear hf hh; clear a
         intro v7 X7 a w hO7 hf hh
         rw [Nat.zero_add, List.nil_append] at hO7
         obtain ⟨oa7, cp7, rfl⟩ := OwnSl_val hO7
         replace hh := hh.perm List.perm_append_comm
         refine ops_end ?_
         refine then_n ⟨⟨fun _ _ => (AtE.mk1 hh.ext (hh.get (B1, .cells (canV d p sa sb ca cb).cells 31) (by simp))), trivial⟩, ?_⟩
         refine mc_p rfl   hf (yv_buildS Try.bs_29 rfl rfl) (.inl rfl) rfl rfl ?_; clear hf a; intro a hf
         refine mc_e rfl fun Q1 => ?_
         refine o_store hf hh Try.sz_29 fun w hh => ?_
         refine ops_end ?_
         refine then_n ⟨⟨fun _ _ => (AtE.mk1 hh.ext (hh.get (B1, .cells (canV d p sa sb ca cb).cells 31) (by simp))), trivial⟩, ?_⟩
         refine mc_end ?_
         refine then_n ?_
         exact ⟨(B4, oa6, oa7, cp6, cp7), ⟨hh.ext, hh.at (i := 2) rfl, hh.at (i := 1) rfl, hh.at (i := 0) rfl, mkAt_of hO6 fun x hx => hh.get x (by simp [hx]), mkAt_of hO7 fun x hx => hh.get x (by simp [hx])⟩, hf.head ⟨rfl, True.intro⟩ (Keep.cons rfl (Keep.cons rfl (Keep.cons rfl (Keep.cons rfl (Keep.cons rfl (Keep.cons rfl (Keep.cons rfl (Keep.cons rfl (Keep.cons rfl (Keep.cons rfl (Keep.cons rfl (Keep.cons rfl (Keep.cons rfl (Keep.cons rfl (Keep.cons rfl (Keep.cons rfl (Keep.cons rfl (Keep.cons rfl (Keep.base)))))))))))))))))))⟩
       ·refine mc_e rfl fun Q1 => ?_
        refine o_alloc hf hh Try.ze_29 ?_; clear hf hh a; intro B4 a w hf hh
        refine ops_end ?_
        refine then_n ⟨⟨fun _ _ => (AtE.mk1 hh.ext (hh.get (B1, .cells (canV d p sa sb ca cb).cells 31) (by simp))), trivial⟩, ?_⟩
        refine mc_e rfl fun Q1 => ?_
        refine ops_buildSl hf hh Try.bl_25_0 rfl rfl (.inl rfl) rfl ?_; clear hf hh; clear a; intro B70 a w hf hh
        refine ops_end ?_
        refine then_n ⟨⟨fun _ _ => (AtE.mk1 hh.ext (hh.get (B1, .cells (canV d p sa sb ca cb).cells 31) (by simp))), trivial⟩, ?_⟩
        refine mc_e rfl fun Q1 => ?_
        first | (refine ops_appendM (A := []) (B := d.r) (X := [(B70, .cells #[] 54)]) (m := 0) hf hh Try.eb_25 rfl rfl ⟨rfl, .inr ⟨B70, 0, #[], rfl, rfl, Nat.le_refl _, Nat.zero_le _, rfl, rfl⟩⟩ (hB.ext hh.ext) (by simp only [maxLen]; omega) (by omega) (.inl rfl) rfl ?_) | (refine ops_appendM (A := []) (B := d.r) (X := [(B70, .cells #[] 54)]) (m := 0) hf (hh.front (i := 1) rfl) Try.eb_25 rfl rfl ⟨rfl, .inr ⟨B70, 0, #[], rfl, rfl, Nat.le_refl _, Nat.zero_le _, rfl, rfl⟩⟩ (hB.ext hh.ext) (by simp only [maxLen]; omega) (by omega) (.inl rfl) rfl ?_) | (refine ops_appendM (A := []) (B := d.r) (X := [(B70, .cells #[] 54)]) (m := 0) hf (hh.front (i := 2) rfl) Try.eb_25 rfl rfl ⟨rfl, .inr ⟨B70, 0, #[], rfl, rfl, Nat.le_refl _, Nat.zero_le _, rfl, rfl⟩⟩ (hB.ext hh.ext) (by simp only [maxLen]; omega) (by omega) (.inl rfl) rfl ?_)
        clear hf hh; clear a
        intro v7 X7 a w hO7 hf hh
        rw [Nat.zero_add, List.nil_append] at hO7
        obtain ⟨oa7, cp7, rfl⟩ := OwnSl_val hO7
        replace hh := hh.perm List.perm_append_comm
        refine ops_end ?_
        refine then_n ⟨⟨fun _ _ => (AtE.mk1 hh.ext (hh.get (B1, .cells (canV d p sa sb ca cb).cells 31) (by simp))), trivial⟩, ?_⟩
        refine mc_p rfl   hf (yv_buildS Try.bs_29 rfl rfl) (.inl rfl) rfl rfl ?_; clear hf a; intro a hf
        refine mc_e rfl fun Q1 => ?_
        refine o_store hf hh Try.sz_29 fun w hh => ?_
        refine ops_end ?_
        refine then_n ⟨⟨fun _ _ => (AtE.mk1 hh.ext (hh.get (B1, .cells (canV d p sa sb ca cb).cells 31) (by simp))), trivial⟩, ?_⟩
        refine mc_end ?_
        refine then_n ?_
        exact ⟨(B4, oa6, oa7, cp6, cp7), ⟨hh.ext, hh.at (i := 2) rfl, hh.at (i := 1) rfl, hh.at (i := 0) rfl, mkAt_of hO6 fun x hx => hh.get x (by simp [hx]), mkAt_of hO7 fun x hx => hh.get x (by simp [hx])⟩, hf.head ⟨rfl, True.intro⟩ (Keep.cons rfl (Keep.cons rfl (Keep.cons rfl (Keep.cons rfl (Keep.cons rfl (Keep.cons rfl (Keep.cons rfl (Keep.cons rfl (Keep.cons rfl (Keep.cons rfl (Keep.cons rfl (Keep.cons rfl (Keep.cons rfl (Keep.cons rfl (Keep.cons rfl (Keep.cons rfl (Keep.cons rfl (Keep.cons rfl (Keep.base)))))))))))))))))))⟩
      ·refine mc_e rfl fun Q1 => ?_
       refine ops_buildSl hf hh Try.bl_25_0 rfl rfl (.inl rfl) rfl ?_; clear hf hh; clear a; intro B70 a w hf hh
       refine ops_end ?_
       refine then_n ⟨⟨fun _ _ => (AtE.mk1 hh.ext (hh.get (B1, .cells (canV d p sa sb ca cb).cells 31) (by simp))), trivial⟩, ?_⟩
       refine ⟨?_, ?_⟩
       ·refine mc_e rfl fun Q1 => ?_
        first | (refine ops_appendM (A := []) (B := d.l) (X := [(B65, .cells #[] 54)]) (m := 0) hf hh Try.eb_25 rfl rfl ⟨rfl, .inr ⟨B65, 0, #[], rfl, rfl, Nat.le_refl _, Nat.zero_le _, rfl, rfl⟩⟩ (hA.ext hh.ext) (by simp only [maxLen]; omega) (by omega) (.inl rfl) rfl ?_) | (refine ops_appendM (A := []) (B := d.l) (X := [(B65, .cells #[] 54)]) (m := 0) hf (hh.front (i := 1) rfl) Try.eb_25 rfl rfl ⟨rfl, .inr ⟨B65, 0, #[], rfl, rfl, Nat.le_refl _, Nat.zero_le _, rfl, rfl⟩⟩ (hA.ext hh.ext) (by simp only [maxLen]; omega) (by omega) (.inl rfl) rfl ?_) | (refine ops_appendM (A := []) (B := d.l) (X := [(B65, .cells #[] 54)]) (m := 0) hf (hh.front (i := 2) rfl) Try.eb_25 rfl rfl ⟨rfl, .inr ⟨B65, 0, #[], rfl, rfl, Nat.le_refl _, Nat.zero_le _, rfl, rfl⟩⟩ (hA.ext hh.ext) (by simp only [maxLen]; omega) (by omega) (.inl rfl) rfl ?_)
        clear hf hh; clear a
        intro v6 X6 a w hO6 hf hh
        rw [Nat.zero_add, List.nil_append] at hO6
        obtain ⟨oa6, cp6, rfl⟩ := OwnSl_val hO6
        replace hh := hh.perm List.perm_append_comm
        refine ops_end ?_
        refine then_n ⟨⟨fun _ _ => (AtE.mk1 hh.ext (hh.get (B1, .cells (canV d p sa sb ca cb).cells 31) (by simp))), trivial⟩, ?_⟩
        refine ⟨?_, ?_⟩
        ·refine mc_e rfl fun Q1 => ?_
         first | (refine ops_appendM (A := []) (B := d.r) (X := [(B70, .cells #[] 54)]) (m := 0) hf hh Try.eb_25 rfl rfl ⟨rfl, .inr ⟨B70, 0, #[], rfl, rfl, Nat.le_refl _, Nat.zero_le _, rfl, rfl⟩⟩ (hB.ext hh.ext) (by simp only [maxLen]; omega) (by omega) (.inl rfl) rfl ?_) | (refine ops_appendM (A := []) (B := d.r) (X := [(B70, .cells #[] 54)]) (m := 0) hf (hh.front (i := 1) rfl) Try.eb_25 rfl rfl ⟨rfl, .inr ⟨B70, 0, #[], rfl, rfl, Nat.le_refl _, Nat.zero_le _, rfl, rfl⟩⟩ (hB.ext hh.ext) (by simp only [maxLen]; omega) (by omega) (.inl rfl) rfl ?_) | (refine ops_appendM (A := []) (B := d.r) (X := [(B70, .cells #[] 54)]) (m := 0) hf (hh.front (i := 2) rfl) Try.eb_25 rfl rfl ⟨rfl, .inr ⟨B70, 0, #[], rfl, rfl, Nat.le_refl _, Nat.zero_le _, rfl, rfl⟩⟩ (hB.ext hh.ext) (by simp only [maxLen]; omega) (by omega) (.inl rfl) rfl ?_)
         clear hf hh; clear a
         intro v7 X7 a w hO7 hf hh
         rw [Nat.zero_add, List.nil_append] at hO7
         obtain ⟨oa7, cp7, rfl⟩ := OwnSl_val hO7
         replace hh := hh.perm List.perm_append_comm
         refine ops_end ?_
         refine then_n ⟨⟨fun _ _ => (AtE.mk1 hh.ext (hh.get (B1, .cells (canV d p sa sb ca cb).cells 31) (by simp))), trivial⟩, ?_⟩
         refine mc_p rfl   hf (yv_buildS Try.bs_29 rfl rfl) (.inl rfl) rfl rfl ?_; clear hf a; intro a hf
         refine mc_e rfl fun Q1 => ?_
         refine o_alloc hf hh Try.ze_29 ?_; clear hf hh a; intro B4 a w hf hh
         refine ops_end ?_
         refine then_n ⟨⟨fun _ _ => (AtE.mk1 hh.ext (hh.get (B1, .cells (canV d p sa sb ca cb).cells 31) (by simp))), trivial⟩, ?_⟩
         refine mc_e rfl fun Q1 => ?_
         refine o_store hf hh Try.sz_29 fun w hh => ?_
         refine ops_end ?_
         refine then_n ⟨⟨fun _ _ => (AtE.mk1 hh.ext (hh.get (B1, .cells (canV d p sa sb ca cb).cells 31) (by simp))), trivial⟩, ?_⟩
         refine mc_end ?_
         refine then_n ?_
         exact ⟨(B4, oa6, oa7, cp6, cp7), ⟨hh.ext, hh.at (i := 2) rfl, hh.at (i := 1) rfl, hh.at (i := 0) rfl, mkAt_of hO6 fun x hx => hh.get x (by simp [hx]), mkAt_of hO7 fun x hx => hh.get x (by simp [hx])⟩, hf.head ⟨rfl, True.intro⟩ (Keep.cons rfl (Keep.cons rfl (Keep.cons rfl (Keep.cons rfl (Keep.cons rfl (Keep.cons rfl (Keep.cons rfl (Keep.cons rfl (Keep.cons rfl (Keep.cons rfl (Keep.cons rfl (Keep.cons rfl (Keep.cons rfl (Keep.cons rfl (Keep.cons rfl (Keep.cons rfl (Keep.cons rfl (Keep.cons rfl (Keep.base)))))))))))))))))))⟩
        ·refine mc_e rfl fun Q1 => ?_
         refine o_alloc hf hh Try.ze_29 ?_; clear hf hh a; intro B4 a w hf hh
         refine ops_end ?_
         refine then_n ⟨⟨fun _ _ => (AtE.mk1 hh.ext (hh.get (B1, .cells (canV d p sa sb ca cb).cells 31) (by simp))), trivial⟩, ?_⟩
         refine mc_e rfl fun Q1 => ?_
         first | (refine ops_appendM (A := []) (B := d.r) (X := [(B70, .cells #[] 54)]) (m := 0) hf hh Try.eb_25 rfl rfl ⟨rfl, .inr ⟨B70, 0, #[], rfl, rfl, Nat.le_refl _, Nat.zero_le _, rfl, rfl⟩⟩ (hB.ext hh.ext) (by simp only [maxLen]; omega) (by omega) (.inl rfl) rfl ?_) | (refine ops_appendM (A := []) (B := d.r) (X := [(B70, .cells #[] 54)]) (m := 0) hf (hh.front (i := 1) rfl) Try.eb_25 rfl rfl ⟨rfl, .inr ⟨B70, 0, #[], rfl, rfl, Nat.le_refl _, Nat.zero_le _, rfl, rfl⟩⟩ (hB.ext hh.ext) (by simp only [maxLen]; omega) (by omega) (.inl rfl) rfl ?_) | (refine ops_appendM (A := []) (B := d.r) (X := [(B70, .cells #[] 54)]) (m := 0) hf (hh.front (i := 2) rfl) Try.eb_25 rfl rfl ⟨rfl, .inr ⟨B70, 0, #[], rfl, rfl, Nat.le_refl _, Nat.zero_le _, rfl, rfl⟩⟩ (hB.ext hh.ext) (by simp only [maxLen]; omega) (by omega) (.inl rfl) rfl ?_)
         clear hf hh; clear a
         intro v7 X7 a w hO7 hf hh
         rw [Nat.zero_add, List.nil_append] at hO7
         obtain ⟨oa7, cp7, rfl⟩ := OwnSl_val hO7
         replace hh := hh.perm List.perm_append_comm
         refine ops_end ?_
         refine then_n ⟨⟨fun _ _ => (AtE.mk1 hh.ext (hh.get (B1, .cells (canV d p sa sb ca cb).cells 31) (by simp))), trivial⟩, ?_⟩
         refine mc_p rfl   hf (yv_buildS Try.bs_29 rfl rfl) (.inl rfl) rfl rfl ?_; clear hf a; intro a hf
         refine mc_e rfl fun Q1 => ?_
         refine o_store hf hh Try.sz_29 fun w hh => ?_
         refine ops_end ?_
         refine then_n ⟨⟨fun _ _ => (AtE.mk1 hh.ext (hh.get (B1, .cells (canV d p sa sb ca cb).cells 31) (by simp))), trivial⟩, ?_⟩
         refine mc_end ?_
         refine then_n ?_
         exact ⟨(B4, oa6, oa7, cp6, cp7), ⟨hh.ext, hh.at (i := 2) rfl, hh.at (i := 1) rfl, hh.at (i := 0) rfl, mkAt_of hO6 fun x hx => hh.get x (by simp [hx]), mkAt_of hO7 fun x hx => hh.get x (by simp [hx])⟩, hf.head ⟨rfl, True.intro⟩ (Keep.cons rfl (Keep.cons rfl (Keep.cons rfl (Keep.cons rfl (Keep.cons rfl (Keep.cons rfl (Keep.cons rfl (Keep.cons rfl (Keep.cons rfl (Keep.cons rfl (Keep.cons rfl (Keep.cons rfl (Keep.cons rfl (Keep.cons rfl (Keep.cons rfl (Keep.cons rfl (Keep.cons rfl (Keep.cons rfl (Keep.base)))))))))))))))))))⟩
       ·refine mc_e rfl fun Q1 => ?_
        refine o_alloc hf hh Try.ze_29 ?_; clear hf hh a; intro B4 a w hf hh
        refine ops_end ?_
        refine then_n ⟨⟨fun _ _ => (AtE.mk1 hh.ext (hh.get (B1, .cells (canV d p sa sb ca cb).cells 31) (by simp))), trivial⟩, ?_⟩
        refine mc_e rfl fun Q1 => ?_
        first | (refine ops_appendM (A := []) (B := d.l) (X := [(B65, .cells #[] 54)]) (m := 0) hf hh Try.eb_25 rfl rfl ⟨rfl, .inr ⟨B65, 0, #[], rfl, rfl, Nat.le_refl _, Nat.zero_le _, rfl, rfl⟩⟩ (hA.ext hh.ext) (by simp only [maxLen]; omega) (by omega) (.inl rfl) rfl ?_) | (refine ops_appendM (A := []) (B := d.l) (X := [(B65, .cells #[] 54)]) (m := 0) hf (hh.front (i := 1) rfl) Try.eb_25 rfl rfl ⟨rfl, .inr ⟨B65, 0, #[], rfl, rfl, Nat.le_refl _, Nat.zero_le _, rfl, rfl⟩⟩ (hA.ext hh.ext) (by simp only [maxLen]; omega) (by omega) (.inl rfl) rfl ?_) | (refine ops_appendM (A := []) (B := d.l) (X := [(B65, .cells #[] 54)]) (m := 0) hf (hh.front (i := 2) rfl) Try.eb_25 rfl rfl ⟨rfl, .inr ⟨B65, 0, #[], rfl, rfl, Nat.le_refl _, Nat.zero_le _, rfl, rfl⟩⟩ (hA.ext hh.ext) (by simp only [maxLen]; omega) (by omega) (.inl rfl) rfl ?_)
        clear hf hh; clear a
        intro v6 X6 a w hO6 hf hh
        rw [Nat.zero_add, List.nil_append] at hO6
        obtain ⟨oa6, cp6, rfl⟩ := OwnSl_val hO6
        replace hh := hh.perm List.perm_append_comm
        refine ops_end ?_
        refine then_n ⟨⟨fun _ _ => (AtE.mk1 hh.ext (hh.get (B1, .cells (canV d p sa sb ca cb).cells 31) (by simp))), trivial⟩, ?_⟩
        refine mc_e rfl fun Q1 => ?_
        first | (refine ops_appendM (A := []) (B := d.r) (X := [(B70, .cells #[] 54)]) (m := 0) hf hh Try.eb_25 rfl rfl ⟨rfl, .inr ⟨B70, 0, #[], rfl, rfl, Nat.le_refl _, Nat.zero_le _, rfl, rfl⟩⟩ (hB.ext hh.ext) (by simp only [maxLen]; omega) (by omega) (.inl rfl) rfl ?_) | (refine ops_appendM (A := []) (B := d.r) (X := [(B70, .cells #[] 54)]) (m := 0) hf (hh.front (i := 1) rfl) Try.eb_25 rfl rfl ⟨rfl, .inr ⟨B70, 0, #[], rfl, rfl, Nat.le_refl _, Nat.zero_le _, rfl, rfl⟩⟩ (hB.ext hh.ext) (by simp only [maxLen]; omega) (by omega) (.inl rfl) rfl ?_) | (refine ops_appendM (A := []) (B := d.r) (X := [(B70, .cells #[] 54)]) (m := 0) hf (hh.front (i := 2) rfl) Try.eb_25 rfl rfl ⟨rfl, .inr ⟨B70, 0, #[], rfl, rfl, Nat.le_refl _, Nat.zero_le _, rfl, rfl⟩⟩ (hB.ext hh.ext) (by simp only [maxLen]; omega) (by omega) (.inl rfl) rfl ?_)
        clear hf hh; clear a
        intro v7 X7 a w hO7 hf hh
        rw [Nat.zero_add, List.nil_append] at hO7
        obtain ⟨oa7, cp7, rfl⟩ := OwnSl_val hO7
        replace hh := hh.perm List.perm_append_comm
        refine ops_end ?_
        refine then_n ⟨⟨fun _ _ => (AtE.mk1 hh.ext (hh.get (B1, .cells (canV d p sa sb ca cb).cells 31) (by simp))), trivial⟩, ?_⟩
        refine mc_p rfl   hf (yv_buildS Try.bs_29 rfl rfl) (.inl rfl) rfl rfl ?_; clear hf a; intro a hf
        refine mc_e rfl fun Q1 => ?_
        refine o_store hf hh Try.sz_29 fun w hh => ?_
        refine ops_end ?_
        refine then_n ⟨⟨fun _ _ => (AtE.mk1 hh.ext (hh.get (B1, .cells (canV d p sa sb ca cb).cells 31) (by simp))), trivial⟩, ?_⟩
        refine mc_end ?_
        refine then_n ?_
        exact ⟨(B4, oa6, oa7, cp6, cp7), ⟨hh.ext, hh.at (i := 2) rfl, hh.at (i := 1) rfl, hh.at (i := 0) rfl, mkAt_of hO6 fun x hx => hh.get x (by simp [hx]), mkAt_of hO7 fun x hx => hh.get x (by simp [hx])⟩, hf.head ⟨rfl, True.intro⟩ (Keep.cons rfl (Keep.cons rfl (Keep.cons rfl (Keep.cons rfl (Keep.cons rfl (Keep.cons rfl (Keep.cons rfl (Keep.cons rfl (Keep.cons rfl (Keep.cons rfl (Keep.cons rfl (Keep.cons rfl (Keep.cons rfl (Keep.cons rfl (Keep.cons rfl (Keep.cons rfl (Keep.cons rfl (Keep.cons rfl (Keep.base)))))))))))))))))))⟩
      ·refine mc_e rfl fun Q1 => ?_
       refine o_alloc hf hh Try.ze_29 ?_; clear hf hh a; intro B4 a w hf hh
       refine ops_end ?_
       refine then_n ⟨⟨fun _ _ => (AtE.mk1 hh.ext (hh.get (B1, .cells (canV d p sa sb ca cb).cells 31) (by simp))), trivial⟩, ?_⟩
       refine ⟨?_, ?_⟩
       ·refine mc_e rfl fun Q1 => ?_
        first | (refine ops_appendM (A := []) (B := d.l) (X := [(B65, .cells #[] 54)]) (m := 0) hf hh Try.eb_25 rfl rfl ⟨rfl, .inr ⟨B65, 0, #[], rfl, rfl, Nat.le_refl _, Nat.zero_le _, rfl, rfl⟩⟩ (hA.ext hh.ext) (by simp only [maxLen]; omega) (by omega) (.inl rfl) rfl ?_) | (refine ops_appendM (A := []) (B := d.l) (X := [(B65, .cells #[] 54)]) (m := 0) hf (hh.front (i := 1) rfl) Try.eb_25 rfl rfl ⟨rfl, .inr ⟨B65, 0, #[], rfl, rfl, Nat.le_refl _, Nat.zero_le _, rfl, rfl⟩⟩ (hA.ext hh.ext) (by simp only [maxLen]; omega) (by omega) (.inl rfl) rfl ?_) | (refine ops_appendM (A := []) (B := d.l) (X := [(B65, .cells #[] 54)]) (m := 0) hf (hh.front (i := 2) rfl) Try.eb_25 rfl rfl ⟨rfl, .inr ⟨B65, 0, #[], rfl, rfl, Nat.le_refl _, Nat.zero_le _, rfl, rfl⟩⟩ (hA.ext hh.ext) (by simp only [maxLen]; omega) (by omega) (.inl rfl) rfl ?_)
        clear hf hh; clear a
        intro v6 X6 a w hO6 hf hh
        rw [Nat.zero_add, List.nil_append] at hO6
        obtain ⟨oa6, cp6, rfl⟩ := OwnSl_val hO6
        replace hh := hh.perm List.perm_append_comm
        refine ops_end ?_
        refine then_n ⟨⟨fun _ _ => (AtE.mk1 hh.ext (hh.get (B1, .cells (canV d p sa sb ca cb).cells 31) (by simp))), trivial⟩, ?_⟩
        refine mc_e rfl fun Q1 => ?_
        refine ops_buildSl hf hh Try.bl_25_0 rfl rfl (.inl rfl) rfl ?_; clear hf hh; clear a; intro B70 a w hf hh
        refine ops_end ?_
        refine then_n ⟨⟨fun _ _ => (AtE.mk1 hh.ext (hh.get (B1, .cells (canV d p sa sb ca cb).cells 31) (by simp))), trivial⟩, ?_⟩
        refine mc_e rfl fun Q1 => ?_
        first | (refine ops_appendM (A := []) (B := d.r) (X := [(B70, .cells #[] 54)]) (m := 0) hf hh Try.eb_25 rfl rfl ⟨rfl, .inr ⟨B70, 0, #[], rfl, rfl, Nat.le_refl _, Nat.zero_le _, rfl, rfl⟩⟩ (hB.ext hh.ext) (by simp only [maxLen]; omega) (by omega) (.inl rfl) rfl ?_) | (refine ops_appendM (A := []) (B := d.r) (X := [(B70, .cells #[] 54)]) (m := 0) hf (hh.front (i := 1) rfl) Try.eb_25 rfl rfl ⟨rfl, .inr ⟨B70, 0, #[], rfl, rfl, Nat.le_refl _, Nat.zero_le _, rfl, rfl⟩⟩ (hB.ext hh.ext) (by simp only [maxLen]; omega) (by omega) (.inl rfl) rfl ?_) | (refine ops_appendM (A := []) (B := d.r) (X := [(B70, .cells #[] 54)]) (m := 0) hf (hh.front (i := 2) rfl) Try.eb_25 rfl rfl ⟨rfl, .inr ⟨B70, 0, #[], rfl, rfl, Nat.le_refl _, Nat.zero_le _, rfl, rfl⟩⟩ (hB.ext hh.ext) (by simp only [maxLen]; omega) (by omega) (.inl rfl) rfl ?_)
        clear hf hh; clear a
        intro v7 X7 a w hO7 hf hh
        rw [Nat.zero_add, List.nil_append] at hO7
        obtain ⟨oa7, cp7, rfl⟩ := OwnSl_val hO7
        replace hh := hh.perm List.perm_append_comm
        refine ops_end ?_
        refine then_n ⟨⟨fun _ _ => (AtE.mk1 hh.ext (hh.get (B1, .cells (canV d p sa sb ca cb).cells 31) (by simp))), trivial⟩, ?_⟩
        refine mc_p rfl   hf (yv_buildS Try.bs_29 rfl rfl) (.inl rfl) rfl rfl ?_; clear hf a; intro a hf
        refine mc_e rfl fun Q1 => ?_
        refine o_store hf hh Try.sz_29 fun w hh => ?_
        refine ops_end ?_
        refine then_n ⟨⟨fun _ _ => (AtE.mk1 hh.ext (hh.get (B1, .cells (canV d p sa sb ca cb).cells 31) (by simp))), trivial⟩, ?_⟩
        refine mc_end ?_
        refine then_n ?_
        exact ⟨(B4, oa6, oa7, cp6, cp7), ⟨hh.ext, hh.at (i := 2) rfl, hh.at (i := 1) rfl, hh.at (i := 0) rfl, mkAt_of hO6 fun x hx => hh.get x (by simp [hx]), mkAt_of hO7 fun x hx => hh.get x (by simp [hx])⟩, hf.head ⟨rfl, True.intro⟩ (Keep.cons rfl (Keep.cons rfl (Keep.cons rfl (Keep.cons rfl (Keep.cons rfl (Keep.cons rfl (Keep.cons rfl (Keep.cons rfl (Keep.cons rfl (Keep.cons rfl (Keep.cons rfl (Keep.cons rfl (Keep.cons rfl (Keep.cons rfl (Keep.cons rfl (Keep.cons rfl (Keep.cons rfl (Keep.cons rfl (Keep.base)))))))))))))))))))⟩
       ·refine mc_e rfl fun Q1 => ?_
        refine ops_buildSl hf hh Try.bl_25_0 rfl rfl (.inl rfl) rfl ?_; clear hf hh; clear a; intro B70 a w hf hh
        refine ops_end ?_
        refine then_n ⟨⟨fun _ _ => (AtE.mk1 hh.ext (hh.get (B1, .cells (canV d p sa sb ca cb).cells 31) (by simp))), trivial⟩, ?_⟩
        refine mc_e rfl fun Q1 => ?_
        first | (refine ops_appendM (A := []) (B := d.l) (X := [(B65, .cells #[] 54)]) (m := 0) hf hh Try.eb_25 rfl rfl ⟨rfl, .inr ⟨B65, 0, #[], rfl, rfl, Nat.le_refl _, Nat.zero_le _, rfl, rfl⟩⟩ (hA.ext hh.ext) (by simp only [maxLen]; omega) (by omega) (.inl rfl) rfl ?_) | (refine ops_appendM (A := []) (B := d.l) (X := [(B65, .cells #[] 54)]) (m := 0) hf (hh.front (i := 1) rfl) Try.eb_25 rfl rfl ⟨rfl, .inr ⟨B65, 0, #[], rfl, rfl, Nat.le_refl _, Nat.zero_le _, rfl, rfl⟩⟩ (hA.ext hh.ext) (by simp only [maxLen]; omega) (by omega) (.inl rfl) rfl ?_) | (refine ops_appendM (A := []) (B := d.l) (X := [(B65, .cells #[] 54)]) (m := 0) hf (hh.front (i := 2) rfl) Try.eb_25 rfl rfl ⟨rfl, .inr ⟨B65, 0, #[], rfl, rfl, Nat.le_refl _, Nat.zero_le _, rfl, rfl⟩⟩ (hA.ext hh.ext) (by simp only [maxLen]; omega) (by omega) (.inl rfl) rfl ?_)
        clear hf hh; clear a
        intro v6 X6 a w hO6 hf hh
        rw [Nat.zero_add, List.nil_append] at hO6
        obtain ⟨oa6, cp6, rfl⟩ := OwnSl_val hO6
        replace hh := hh.perm List.perm_append_comm
        refine ops_end ?_
        refine then_n ⟨⟨fun _ _ => (AtE.mk1 hh.ext (hh.get (B1, .cells (canV d p sa sb ca cb).cells 31) (by simp))), trivial⟩, ?_⟩
        refine mc_e rfl fun Q1 => ?_
        first | (refine ops_appendM (A := []) (B := d.r) (X := [(B70, .cells #[] 54)]) (m := 0) hf hh Try.eb_25 rfl rfl ⟨rfl, .inr ⟨B70, 0, #[], rfl, rfl, Nat.le_refl _, Nat.zero_le _, rfl, rfl⟩⟩ (hB.ext hh.ext) (by simp only [maxLen]; omega) (by omega) (.inl rfl) rfl ?_) | (refine ops_appendM (A := []) (B := d.r) (X := [(B70, .cells #[] 54)]) (m := 0) hf (hh.front (i := 1) rfl) Try.eb_25 rfl rfl ⟨rfl, .inr ⟨B70, 0, #[], rfl, rfl, Nat.le_refl _, Nat.zero_le _, rfl, rfl⟩⟩ (hB.ext hh.ext) (by simp only [maxLen]; omega) (by omega) (.inl rfl) rfl ?_) | (refine ops_appendM (A := []) (B := d.r) (X := [(B70, .cells #[] 54)]) (m := 0) hf (hh.front (i := 2) rfl) Try.eb_25 rfl rfl ⟨rfl, .inr ⟨B70, 0, #[], rfl, rfl, Nat.le_refl _, Nat.zero_le _, rfl, rfl⟩⟩ (hB.ext hh.ext) (by simp only [maxLen]; omega) (by omega) (.inl rfl) rfl ?_)
        clear hf hh; clear a
        intro v7 X7 a w hO7 hf hh
        rw [Nat.zero_add, List.nil_append] at hO7
        obtain ⟨oa7, cp7, rfl⟩ := OwnSl_val hO7
        replace hh := hh.perm List.perm_append_comm
        refine ops_end ?_
        refine then_n ⟨⟨fun _ _ => (AtE.mk1 hh.ext (hh.get (B1, .cells (canV d p sa sb ca cb).cells 31) (by simp))), trivial⟩, ?_⟩
        refine mc_p rfl   hf (yv_buildS Try.bs_29 rfl rfl) (.inl rfl) rfl rfl ?_; clear hf a; intro a hf
        refine mc_e rfl fun Q1 => ?_
        refine o_store hf hh Try.sz_29 fun w hh => ?_
        refine ops_end ?_
        refine then_n ⟨⟨fun _ _ => (AtE.mk1 hh.ext (hh.get (B1, .cells (canV d p sa sb ca cb).cells 31) (by simp))), trivial⟩, ?_⟩
        refine mc_end ?_
        refine then_n ?_
        exact ⟨(B4, oa6, oa7, cp6, cp7), ⟨hh.ext, hh.at (i := 2) rfl, hh.at (i := 1) rfl, hh.at (i := 0) rfl, mkAt_of hO6 fun x hx => hh.get x (by simp [hx]), mkAt_of hO7 fun x hx => hh.get x (by simp [hx])⟩, hf.head ⟨rfl, True.intro⟩ (Keep.cons rfl (Keep.cons rfl (Keep.cons rfl (Keep.cons rfl (Keep.cons rfl (Keep.cons rfl (Keep.cons rfl (Keep.cons rfl (Keep.cons rfl (Keep.cons rfl (Keep.cons rfl (Keep.cons rfl (Keep.cons rfl (Keep.cons rfl (Keep.cons rfl (Keep.cons rfl (Keep.cons rfl (Keep.cons rfl (Keep.base)))))))))))))))))))⟩
     ·refine mc_e rfl fun Q1 => ?_
      refine ops_buildSl hf hh Try.bl_25_0 rfl rfl (.inl rfl) rfl ?_; clear hf hh; clear a; intro B70 a w hf hh
      refine ops_end ?_
      refine then_n ⟨⟨fun _ _ => (AtE.mk1 hh.ext (hh.get (B1, .cells (canV d p sa sb ca cb).cells 31) (by simp))), trivial⟩, ?_⟩
      refine ⟨?_, ?_⟩
      ·refine mc_e rfl fun Q1 => ?_
       refine ops_buildSl hf hh Try.bl_25_0 rfl rfl (.inl rfl) rfl ?_; clear hf hh; clear a; intro B65 a w hf hh
       refine ops_end ?_
       refine then_n ⟨⟨fun _ _ => (AtE.mk1 hh.ext (hh.get (B1, .cells (canV d p sa sb ca cb).cells 31) (by simp))), trivial⟩, ?_⟩
       refine ⟨?_, ?_⟩
       ·refine mc_e rfl fun Q1 => ?_
        first | (refine ops_appendM (A := []) (B := d.l) (X := [(B65, .cells #[] 54)]) (m := 0) hf hh Try.eb_25 rfl rfl ⟨rfl, .inr ⟨B65, 0, #[], rfl, rfl, Nat.le_refl _, Nat.zero_le _, rfl, rfl⟩⟩ (hA.ext hh.ext) (by simp only [maxLen]; omega) (by omega) (.inl rfl) rfl ?_) | (refine ops_appendM (A := []) (B := d.l) (X := [(B65, .cells #[] 54)]) (m := 0) hf (hh.front (i := 1) rfl) Try.eb_25 rfl rfl ⟨rfl, .inr ⟨B65, 0, #[], rfl, rfl, Nat.le_refl _, Nat.zero_le _, rfl, rfl⟩⟩ (hA.ext hh.ext) (by simp only [maxLen]; omega) (by omega) (.inl rfl) rfl ?_) | (refine ops_appendM (A := []) (B := d.l) (X := [(B65, .cells #[] 54)]) (m := 0) hf (hh.front (i := 2) rfl) Try.eb_25 rfl rfl ⟨rfl, .inr ⟨B65, 0, #[], rfl, rfl, Nat.le_refl _, Nat.zero_le _, rfl, rfl⟩⟩ (hA.ext hh.ext) (by simp only [maxLen]; omega) (by omega) (.inl rfl) rfl ?_)
        clear hf hh; clear a
        intro v6 X6 a w hO6 hf hh
        rw [Nat.zero_add, List.nil_append] at hO6
        obtain ⟨oa6, cp6, rfl⟩ := OwnSl_val hO6
        replace hh := hh.perm List.perm_append_comm
        refine ops_end ?_
        refine then_n ⟨⟨fun _ _ => (AtE.mk1 hh.ext (hh.get (B1, .cells (canV d p sa sb ca cb).cells 31) (by simp))), trivial⟩, ?_⟩
        refine ⟨?_, ?_⟩
        ·refine mc_e rfl fun Q1 => ?_
         first | (refine ops_appendM (A := []) (B := d.r) (X := [(B70, .cells #[] 54)]) (m := 0) hf hh Try.eb_25 rfl rfl ⟨rfl, .inr ⟨B70, 0, #[], rfl, rfl, Nat.le_refl _, Nat.zero_le _, rfl, rfl⟩⟩ (hB.ext hh.ext) (by simp only [maxLen]; omega) (by omega) (.inl rfl) rfl ?_) | (refine ops_appendM (A := []) (B := d.r) (X := [(B70, .cells #[] 54)]) (m := 0) hf (hh.front (i := 1) rfl) Try.eb_25 rfl rfl ⟨rfl, .inr ⟨B70, 0, #[], rfl, rfl, Nat.le_refl _, Nat.zero_le _, rfl, rfl⟩⟩ (hB.ext hh.ext) (by simp only [maxLen]; omega) (by omega) (.inl rfl) rfl ?_) | (refine ops_appendM (A := []) (B := d.r) (X := [(B70, .cells #[] 54)]) (m := 0) hf (hh.front (i := 2) rfl) Try.eb_25 rfl rfl ⟨rfl, .inr ⟨B70, 0, #[], rfl, rfl, Nat.le_refl _, Nat.zero_le _, rfl, rfl⟩⟩ (hB.ext hh.ext) (by simp only [maxLen]; omega) (by omega) (.inl rfl) rfl ?_)
         clear hf hh; clear a
         intro v7 X7 a w hO7 hf hh
         rw [Nat.zero_add, List.nil_append] at hO7
         obtain ⟨oa7, cp7, rfl⟩ := OwnSl_val hO7
         replace hh := hh.perm List.perm_append_comm
         refine ops_end ?_
         refine then_n ⟨⟨fun _ _ => (AtE.mk1 hh.ext (hh.get (B1, .cells (canV d p sa sb ca cb).cells 31) (by simp))), trivial⟩, ?_⟩
         refine mc_p rfl   hf (yv_buildS Try.bs_29 rfl rfl) (.inl rfl) rfl rfl ?_; clear hf a; intro a hf
         refine mc_e rfl fun Q1 => ?_
         refine o_alloc hf hh Try.ze_29 ?_; clear hf hh a; intro B4 a w hf hh
         refine ops_end ?_
         refine then_n ⟨⟨fun _ _ => (AtE.mk1 hh.ext (hh.get (B1, .cells (canV d p sa sb ca cb).cells 31) (by simp))), trivial⟩, ?_⟩
         refine mc_e rfl fun Q1 => ?_
         refine o_store hf hh Try.sz_29 fun w hh => ?_
         refine ops_end ?_
         refine then_n ⟨⟨fun _ _ => (AtE.mk1 hh.ext (hh.get (B1, .cells (canV d p sa sb ca cb).cells 31) (by simp))), trivial⟩, ?_⟩
         refine mc_end ?_
         refine then_n ?_
         exact ⟨(B4, oa6, oa7, cp6, cp7), ⟨hh.ext, hh.at (i := 2) rfl, hh.at (i := 1) rfl, hh.at (i := 0) rfl, mkAt_of hO6 fun x hx => hh.get x (by simp [hx]), mkAt_of hO7 fun x hx => hh.get x (by simp [hx])⟩, hf.head ⟨rfl, True.intro⟩ (Keep.cons rfl (Keep.cons rfl (Keep.cons rfl (Keep.cons rfl (Keep.cons rfl (Keep.cons rfl (Keep.cons rfl (Keep.cons rfl (Keep.cons rfl (Keep.cons rfl (Keep.cons rfl (Keep.cons rfl (Keep.cons rfl (Keep.cons rfl (Keep.cons rfl (Keep.cons rfl (Keep.cons rfl (Keep.cons rfl (Keep.base)))))))))))))))))))⟩
        ·refine mc_e rfl fun Q1 => ?_
         refine o_alloc hf hh Try.ze_29 ?_; clear hf hh a; intro B4 a w hf hh
         refine ops_end ?_
         refine then_n ⟨⟨fun _ _ => (AtE.mk1 hh.ext (hh.get (B1, .cells (canV d p sa sb ca cb).cells 31) (by simp))), trivial⟩, ?_⟩
         refine mc_e rfl fun Q1 => ?_
         first | (refine ops_appendM (A := []) (B := d.r) (X := [(B70, .cells #[] 54)]) (m := 0) hf hh Try.eb_25 rfl rfl ⟨rfl, .inr ⟨B70, 0, #[], rfl, rfl, Nat.le_refl _, Nat.zero_le _, rfl, rfl⟩⟩ (hB.ext hh.ext) (by simp only [maxLen]; omega) (by omega) (.inl rfl) rfl ?_) | (refine ops_appendM (A := []) (B := d.r) (X := [(B70, .cells #[] 54)]) (m := 0) hf (hh.front (i := 1) rfl) Try.eb_25 rfl rfl ⟨rfl, .inr ⟨B70, 0, #[], rfl, rfl, Nat.le_refl _, Nat.zero_le _, rfl, rfl⟩⟩ (hB.ext hh.ext) (by simp only [maxLen]; omega) (by omega) (.inl rfl) rfl ?_) | (refine ops_appendM (A := []) (B := d.r) (X := [(B70, .cells #[] 54)]) (m := 0) hf (hh.front (i := 2) rfl) Try.eb_25 rfl rfl ⟨rfl, .inr ⟨B70, 0, #[], rfl, rfl, Nat.le_refl _, Nat.zero_le _, rfl, rfl⟩⟩ (hB.ext hh.ext) (by simp only [maxLen]; omega) (by omega) (.inl rfl) rfl ?_)
         clear hf hh; clear a
         intro v7 X7 a w hO7 hf hh
         rw [Nat.zero_add, List.nil_append] at hO7
         obtain ⟨oa7, cp7, rfl⟩ := OwnSl_val hO7
         replace hh := hh.perm List.perm_append_comm
         refine ops_end ?_
         refine then_n ⟨⟨fun _ _ => (AtE.mk1 hh.ext (hh.get (B1, .cells (canV d p sa sb ca cb).cells 31) (by simp))), trivial⟩, ?_⟩
         refine mc_p rfl   hf (yv_buildS Try.bs_29 rfl rfl) (.inl rfl) rfl rfl ?_; clear hf a; intro a hf
         refine mc_e rfl fun Q1 => ?_
         refine o_store hf hh Try.sz_29 fun w hh => ?_
         refine ops_end ?_
         refine then_n ⟨⟨fun _ _ => (AtE.mk1 hh.ext (hh.get (B1, .cells (canV d p sa sb ca cb).cells 31) (by simp))), trivial⟩, ?_⟩
         refine mc_end ?_
         refine then_n ?_
         exact ⟨(B4, oa6, oa7, cp6, cp7), ⟨hh.ext, hh.at (i := 2) rfl, hh.at (i := 1) rfl, hh.at (i := 0) rfl, mkAt_of hO6 fun x hx => hh.get x (by simp [hx]), mkAt_of hO7 fun x hx => hh.get x (by simp [hx])⟩, hf.head ⟨rfl, True.intro⟩ (Keep.cons rfl (Keep.cons rfl (Keep.cons rfl (Keep.cons rfl (Keep.cons rfl (Keep.cons rfl (Keep.cons rfl (Keep.cons rfl (Keep.cons rfl (Keep.cons rfl (Keep.cons rfl (Keep.cons rfl (Keep.cons rfl (Keep.cons rfl (Keep.cons rfl (Keep.cons rfl (Keep.cons rfl (Keep.cons rfl (Keep.base)))))))))))))))))))⟩
       ·refine mc_e rfl fun Q1 => ?_
        refine o_alloc hf hh Try.ze_29 ?_; clear hf hh a; intro B4 a w hf hh
        refine ops_end ?_
        refine then_n ⟨⟨fun _ _ => (AtE.mk1 hh.ext (hh.get (B1, .cells (canV d p sa sb ca cb).cells 31) (by simp))), trivial⟩, ?_⟩
        refine mc_e rfl fun Q1 => ?_
        first | (refine ops_appendM (A := []) (B := d.l) (X := [(B65, .cells #[] 54)]) (m := 0) hf hh Try.eb_25 rfl rfl ⟨rfl, .inr ⟨B65, 0, #[], rfl, rfl, Nat.le_refl _, Nat.zero_le _, rfl, rfl⟩⟩ (hA.ext hh.ext) (by simp only [maxLen]; omega) (by omega) (.inl rfl) rfl ?_) | (refine ops_appendM (A := []) (B := d.l) (X := [(B65, .cells #[] 54)]) (m := 0) hf (hh.front (i := 1) rfl) Try.eb_25 rfl rfl ⟨rfl, .inr ⟨B65, 0, #[], rfl, rfl, Nat.le_refl _, Nat.zero_le _, rfl, rfl⟩⟩ (hA.ext hh.ext) (by simp only [maxLen]; omega) (by omega) (.inl rfl) rfl ?_) | (refine ops_appendM (A := []) (B := d.l) (X := [(B65, .cells #[] 54)]) (m := 0) hf (hh.front (i := 2) rfl) Try.eb_25 rfl rfl ⟨rfl, .inr ⟨B65, 0, #[], rfl, rfl, Nat.le_refl _, Nat.zero_le _, rfl, rfl⟩⟩ (hA.ext hh.ext) (by simp only [maxLen]; omega) (by omega) (.inl rfl) rfl ?_)
        clear hf hh; clear a
        intro v6 X6 a w hO6 hf hh
        rw [Nat.zero_add, List.nil_append] at hO6
        obtain ⟨oa6, cp6, rfl⟩ := OwnSl_val hO6
        replace hh := hh.perm List.perm_append_comm
        refine ops_end ?_
        refine then_n ⟨⟨fun _ _ => (AtE.mk1 hh.ext (hh.get (B1, .cells (canV d p sa sb ca cb).cells 31) (by simp))), trivial⟩, ?_⟩
        refine mc_e rfl fun Q1 => ?_
        first | (refine ops_appendM (A := []) (B := d.r) (X := [(B70, .cells #[] 54)]) (m := 0) hf hh Try.eb_25 rfl rfl ⟨rfl, .inr ⟨B70, 0, #[], rfl, rfl, Nat.le_refl _, Nat.zero_le _, rfl, rfl⟩⟩ (hB.ext hh.ext) (by simp only [maxLen]; omega) (by omega) (.inl rfl) rfl ?_) | (refine ops_appendM (A := []) (B := d.r) (X := [(B70, .cells #[] 54)]) (m := 0) hf (hh.front (i := 1) rfl) Try.eb_25 rfl rfl ⟨rfl, .inr ⟨B70, 0, #[], rfl, rfl, Nat.le_refl _, Nat.zero_le _, rfl, rfl⟩⟩ (hB.ext hh.ext) (by simp only [maxLen]; omega) (by omega) (.inl rfl) rfl ?_) | (refine ops_appendM (A := []) (B := d.r) (X := [(B70, .cells #[] 54)]) (m := 0) hf (hh.front (i := 2) rfl) Try.eb_25 rfl rfl ⟨rfl, .inr ⟨B70, 0, #[], rfl, rfl, Nat.le_refl _, Nat.zero_le _, rfl, rfl⟩⟩ (hB.ext hh.ext) (by simp only [maxLen]; omega) (by omega) (.inl rfl) rfl ?_)
        clear hf hh; clear a
        intro v7 X7 a w hO7 hf hh
        rw [Nat.zero_add, List.nil_append] at hO7
        obtain ⟨oa7, cp7, rfl⟩ := OwnSl_val hO7
        replace hh := hh.perm List.perm_append_comm
        refine ops_end ?_
        refine then_n ⟨⟨fun _ _ => (AtE.mk1 hh.ext (hh.get (B1, .cells (canV d p sa sb ca cb).cells 31) (by simp))), trivial⟩, ?_⟩
        refine mc_p rfl   hf (yv_buildS Try.bs_29 rfl rfl) (.inl rfl) rfl rfl ?_; clear hf a; intro a hf
        refine mc_e rfl fun Q1 => ?_
        refine o_store hf hh Try.sz_29 fun w hh => ?_
        refine ops_end ?_
        refine then_n ⟨⟨fun _ _ => (AtE.mk1 hh.ext (hh.get (B1, .cells (canV d p sa sb ca cb).cells 31) (by simp))), trivial⟩, ?_⟩
        refine mc_end ?_
        refine then_n ?_
        exact ⟨(B4, oa6, oa7, cp6, cp7), ⟨hh.ext, hh.at (i := 2) rfl, hh.at (i := 1) rfl, hh.at (i := 0) rfl, mkAt_of hO6 fun x hx => hh.get x (by simp [hx]), mkAt_of hO7 fun x hx => hh.get x (by simp [hx])⟩, hf.head ⟨rfl, True.intro⟩ (Keep.cons rfl (Keep.cons rfl (Keep.cons rfl (Keep.cons rfl (Keep.cons rfl (Keep.cons rfl (Keep.cons rfl (Keep.cons rfl (Keep.cons rfl (Keep.cons rfl (Keep.cons rfl (Keep.cons rfl (Keep.cons rfl (Keep.cons rfl (Keep.cons rfl (Keep.cons rfl (Keep.cons rfl (Keep.cons rfl (Keep.base)))))))))))))))))))⟩
      ·refine mc_e rfl fun Q1 => ?_
       refine o_alloc hf hh Try.ze_29 ?_; clear hf hh a; intro B4 a w hf hh
       refine ops_end ?_
       refine then_n ⟨⟨fun _ _ => (AtE.mk1 hh.ext (hh.get (B1, .cells (canV d p sa sb ca cb).cells 31) (by simp))), trivial⟩, ?_⟩
       refine mc_e rfl fun Q1 => ?_
       refine ops_buildSl hf hh Try.bl_25_0 rfl rfl (.inl rfl) rfl ?_; clear hf hh; clear a; intro B65 a w hf hh
       refine ops_end ?_
       refine then_n ⟨⟨fun _ _ => (AtE.mk1 hh.ext (hh.get (B1, .cells (canV d p sa sb ca cb).cells 31) (by simp))), trivial⟩, ?_⟩
       refine mc_e rfl fun Q1 => ?_
       first | (refine ops_appendM (A := []) (B := d.l) (X := [(B65, .cells #[] 54)]) (m := 0) hf hh Try.eb_25 rfl rfl ⟨rfl, .inr ⟨B65, 0, #[], rfl, rfl, Nat.le_refl _, Nat.zero_le _, rfl, rfl⟩⟩ (hA.ext hh.ext) (by simp only [maxLen]; omega) (by omega) (.inl rfl) rfl ?_) | (refine ops_appendM (A := []) (B := d.l) (X := [(B65, .cells #[] 54)]) (m := 0) hf (hh.front (i := 1) rfl) Try.eb_25 rfl rfl ⟨rfl, .inr ⟨B65, 0, #[], rfl, rfl, Nat.le_refl _, Nat.zero_le _, rfl, rfl⟩⟩ (hA.ext hh.ext) (by simp only [maxLen]; omega) (by omega) (.inl rfl) rfl ?_) | (refine ops_appendM (A := []) (B := d.l) (X := [(B65, .cells #[] 54)]) (m := 0) hf (hh.front (i := 2) rfl) Try.eb_25 rfl rfl ⟨rfl, .inr ⟨B65, 0, #[], rfl, rfl, Nat.le_refl _, Nat.zero_le _, rfl, rfl⟩⟩ (hA.ext hh.ext) (by simp only [maxLen]; omega) (by omega) (.inl rfl) rfl ?_)
       clear hf hh; clear a
       intro v6 X6 a w hO6 hf hh
       rw [Nat.zero_add, List.nil_append] at hO6
       obtain ⟨oa6, cp6, rfl⟩ := OwnSl_val hO6
       replace hh := hh.perm List.perm_append_comm
       refine ops_end ?_
       refine then_n ⟨⟨fun _ _ => (AtE.mk1 hh.ext (hh.get (B1, .cells (canV d p sa sb ca cb).cells 31) (by simp))), trivial⟩, ?_⟩
       refine mc_e rfl fun Q1 => ?_
       first | (refine ops_appendM (A := []) (B := d.r) (X := [(B70, .cells #[] 54)]) (m := 0) hf hh Try.eb_25 rfl rfl ⟨rfl, .inr ⟨B70, 0, #[], rfl, rfl, Nat.le_refl _, Nat.zero_le _, rfl, rfl⟩⟩ (hB.ext hh.ext) (by simp only [maxLen]; omega) (by omega) (.inl rfl) rfl ?_) | (refine ops_appendM (A := []) (B := d.r) (X := [(B70, .cells #[] 54)]) (m := 0) hf (hh.front (i := 1) rfl) Try.eb_25 rfl rfl ⟨rfl, .inr ⟨B70, 0, #[], rfl, rfl, Nat.le_refl _, Nat.zero_le _, rfl, rfl⟩⟩ (hB.ext hh.ext) (by simp only [maxLen]; omega) (by omega) (.inl rfl) rfl ?_) | (refine ops_appendM (A := []) (B := d.r) (X := [(B70, .cells #[] 54)]) (m := 0) hf (hh.front (i := 2) rfl) Try.eb_25 rfl rfl ⟨rfl, .inr ⟨B70, 0, #[], rfl, rfl, Nat.le_refl _, Nat.zero_le _, rfl, rfl⟩⟩ (hB.ext hh.ext) (by simp only [maxLen]; omega) (by omega) (.inl rfl) rfl ?_)
       clear hf hh; clear a
       intro v7 X7 a w hO7 hf hh
       rw [Nat.zero_add, List.nil_append] at hO7
       obtain ⟨oa7, cp7, rfl⟩ := OwnSl_val hO7
       replace hh := hh.perm List.perm_append_comm
       refine ops_end ?_
       refine then_n ⟨⟨fun _ _ => (AtE.mk1 hh.ext (hh.get (B1, .cells (canV d p sa sb ca cb).cells 31) (by simp))), trivial⟩, ?_⟩
       refine mc_p rfl   hf (yv_buildS Try.bs_29 rfl rfl) (.inl rfl) rfl rfl ?_; clear hf a; intro a hf
       refine mc_e rfl fun Q1 => ?_
       refine o_store hf hh Try.sz_29 fun w hh => ?_
       refine ops_end ?_
       refine then_n ⟨⟨fun _ _ => (AtE.mk1 hh.ext (hh.get (B1, .cells (canV d p sa sb ca cb).cells 31) (by simp))), trivial⟩, ?_⟩
       refine mc_end ?_
       refine then_n ?_
       exact ⟨(B4, oa6, oa7, cp6, cp7), ⟨hh.ext, hh.at (i := 2) rfl, hh.at (i := 1) rfl, hh.at (i := 0) rfl, mkAt_of hO6 fun x hx => hh.get x (by simp [hx]), mkAt_of hO7 fun x hx => hh.get x (by simp [hx])⟩, hf.head ⟨rfl, True.intro⟩ (Keep.cons rfl (Keep.cons rfl (Keep.cons rfl (Keep.cons rfl (Keep.cons rfl (Keep.cons rfl (Keep.cons rfl (Keep.cons rfl (Keep.cons rfl (Keep.cons rfl (Keep.cons rfl (Keep.cons rfl (Keep.cons rfl (Keep.cons rfl (Keep.cons rfl (Keep.cons rfl (Keep.cons rfl (Keep.cons rfl (Keep.base)))))))))))))))))))⟩
     ·refine mc_e rfl fun Q1 => ?_
      refine o_alloc hf hh Try.ze_29 ?_; clear hf hh a; intro B4 a w hf hh
      refine ops_end ?_
      refine then_n ⟨⟨fun _ _ => (AtE.mk1 hh.ext (hh.get (B1, .cells (canV d p sa sb ca cb).cells 31) (by simp))), trivial⟩, ?_⟩
      refine ⟨?_, ?_⟩
      ·refine mc_e rfl fun Q1 => ?_
       refine ops_buildSl hf hh Try.bl_25_0 rfl rfl (.inl rfl) rfl ?_; clear hf hh; clear a; intro B65 a w hf hh
       refine ops_end ?_
       refine then_n ⟨⟨fun _ _ => (AtE.mk1 hh.ext (hh.get (B1, .cells (canV d p sa sb ca cb).cells 31) (by simp))), trivial⟩, ?_⟩
       refine ⟨?_, ?_⟩
       ·refine mc_e rfl fun Q1 => ?_
        first | (refine ops_appendM (A := []) (B := d.l) (X := [(B65, .cells #[] 54)]) (m := 0) hf hh Try.eb_25 rfl rfl ⟨rfl, .inr ⟨B65, 0, #[], rfl, rfl, Nat.le_refl _, Nat.zero_le _, rfl, rfl⟩⟩ (hA.ext hh.ext) (by simp only [maxLen]; omega) (by omega) (.inl rfl) rfl ?_) | (refine ops_appendM (A := []) (B := d.l) (X := [(B65, .cells #[] 54)]) (m := 0) hf (hh.front (i := 1) rfl) Try.eb_25 rfl rfl ⟨rfl, .inr ⟨B65, 0, #[], rfl, rfl, Nat.le_refl _, Nat.zero_le _, rfl, rfl⟩⟩ (hA.ext hh.ext) (by simp only [maxLen]; omega) (by omega) (.inl rfl) rfl ?_) | (refine ops_appendM (A := []) (B := d.l) (X := [(B65, .cells #[] 54)]) (m := 0) hf (hh.front (i := 2) rfl) Try.eb_25 rfl rfl ⟨rfl, .inr ⟨B65, 0, #[], rfl, rfl, Nat.le_refl _, Nat.zero_le _, rfl, rfl⟩⟩ (hA.ext hh.ext) (by simp only [maxLen]; omega) (by omega) (.inl rfl) rfl ?_)
        clear hf hh; clear a
        intro v6 X6 a w hO6 hf hh
        rw [Nat.zero_add, List.nil_append] at hO6
        obtain ⟨oa6, cp6, rfl⟩ := OwnSl_val hO6
        replace hh := hh.perm List.perm_append_comm
        refine ops_end ?_
        refine then_n ⟨⟨fun _ _ => (AtE.mk1 hh.ext (hh.get (B1, .cells (canV d p sa sb ca cb).cells 31) (by simp))), trivial⟩, ?_⟩
        refine mc_e rfl fun Q1 => ?_
        refine ops_buildSl hf hh Try.bl_25_0 rfl rfl (.inl rfl) rfl ?_; clear hf hh; clear a; intro B70 a w hf hh
        refine ops_end ?_
        refine then_n ⟨⟨fun _ _ => (AtE.mk1 hh.ext (hh.get (B1, .cells (canV d p sa sb ca cb).cells 31) (by simp))), trivial⟩, ?_⟩
        refine mc_e rfl fun Q1 => ?_
        first | (refine ops_appendM (A := []) (B := d.r) (X := [(B70, .cells #[] 54)]) (m := 0) hf hh Try.eb_25 rfl rfl ⟨rfl, .inr ⟨B70, 0, #[], rfl, rfl, Nat.le_refl _, Nat.zero_le _, rfl, rfl⟩⟩ (hB.ext hh.ext) (by simp only [maxLen]; omega) (by omega) (.inl rfl) rfl ?_) | (refine ops_appendM (A := []) (B := d.r) (X := [(B70, .cells #[] 54)]) (m := 0) hf (hh.front (i := 1) rfl) Try.eb_25 rfl rfl ⟨rfl, .inr ⟨B70, 0, #[], rfl, rfl, Nat.le_refl _, Nat.zero_le _, rfl, rfl⟩⟩ (hB.ext hh.ext) (by simp only [maxLen]; omega) (by omega) (.inl rfl) rfl ?_) | (refine ops_appendM (A := []) (B := d.r) (X := [(B70, .cells #[] 54)]) (m := 0) hf (hh.front (i := 2) rfl) Try.eb_25 rfl rfl ⟨rfl, .inr ⟨B70, 0, #[], rfl, rfl, Nat.le_refl _, Nat.zero_le _, rfl, rfl⟩⟩ (hB.ext hh.ext) (by simp only [maxLen]; omega) (by omega) (.inl rfl) rfl ?_)
        clear hf hh; clear a
        intro v7 X7 a w hO7 hf hh
        rw [Nat.zero_add, List.nil_append] at hO7
        obtain ⟨oa7, cp7, rfl⟩ := OwnSl_val hO7
        replace hh := hh.perm List.perm_append_comm
        refine ops_end ?_
        refine then_n ⟨⟨fun _ _ => (AtE.mk1 hh.ext (hh.get (B1, .cells (canV d p sa sb ca cb).cells 31) (by simp))), trivial⟩, ?_⟩
        refine mc_p rfl   hf (yv_buildS Try.bs_29 rfl rfl) (.inl rfl) rfl rfl ?_; clear hf a; intro a hf
        refine mc_e rfl fun Q1 => ?_
        refine o_store hf hh Try.sz_29 fun w hh => ?_
        refine ops_end ?_
        refine then_n ⟨⟨fun _ _ => (AtE.mk1 hh.ext (hh.get (B1, .cells (canV d p sa sb ca cb).cells 31) (by simp))), trivial⟩, ?_⟩
        refine mc_end ?_
        refine then_n ?_
        exact ⟨(B4, oa6, oa7, cp6, cp7), ⟨hh.ext, hh.at (i := 2) rfl, hh.at (i := 1) rfl, hh.at (i := 0) rfl, mkAt_of hO6 fun x hx => hh.get x (by simp [hx]), mkAt_of hO7 fun x hx => hh.get x (by simp [hx])⟩, hf.head ⟨rfl, True.intro⟩ (Keep.cons rfl (Keep.cons rfl (Keep.cons rfl (Keep.cons rfl (Keep.cons rfl (Keep.cons rfl (Keep.cons rfl (Keep.cons rfl (Keep.cons rfl (Keep.cons rfl (Keep.cons rfl (Keep.cons rfl (Keep.cons rfl (Keep.cons rfl (Keep.cons rfl (Keep.cons rfl (Keep.cons rfl (Keep.cons rfl (Keep.base)))))))))))))))))))⟩
       ·refine mc_e rfl fun Q1 => ?_
        refine ops_buildSl hf hh Try.bl_25_0 rfl rfl (.inl rfl) rfl ?_; clear hf hh; clear a; intro B70 a w hf hh
        refine ops_end ?_
        refine then_n ⟨⟨fun _ _ => (AtE.mk1 hh.ext (hh.get (B1, .cells (canV d p sa sb ca cb).cells 31) (by simp))), trivial⟩, ?_⟩
        refine mc_e rfl fun Q1 => ?_
        first | (refine ops_appendM (A := []) (B := d.l) (X := [(B65, .cells #[] 54)]) (m := 0) hf hh Try.eb_25 rfl rfl ⟨rfl, .inr ⟨B65, 0, #[], rfl, rfl, Nat.le_refl _, Nat.zero_le _, rfl, rfl⟩⟩ (hA.ext hh.ext) (by simp only [maxLen]; omega) (by omega) (.inl rfl) rfl ?_) | (refine ops_appendM (A := []) (B := d.l) (X := [(B65, .cells #[] 54)]) (m := 0) hf (hh.front (i := 1) rfl) Try.eb_25 rfl rfl ⟨rfl, .inr ⟨B65, 0, #[], rfl, rfl, Nat.le_refl _, Nat.zero_le _, rfl, rfl⟩⟩ (hA.ext hh.ext) (by simp only [maxLen]; omega) (by omega) (.inl rfl) rfl ?_) | (refine ops_appendM (A := []) (B := d.l) (X := [(B65, .cells #[] 54)]) (m := 0) hf (hh.front (i := 2) rfl) Try.eb_25 rfl rfl ⟨rfl, .inr ⟨B65, 0, #[], rfl, rfl, Nat.le_refl _, Nat.zero_le _, rfl, rfl⟩⟩ (hA.ext hh.ext) (by simp only [maxLen]; omega) (by omega) (.inl rfl) rfl ?_)
        clear hf hh; clear a
        intro v6 X6 a w hO6 hf hh
        rw [Nat.zero_add, List.nil_append] at hO6
        obtain ⟨oa6, cp6, rfl⟩ := OwnSl_val hO6
        replace hh := hh.perm List.perm_append_comm
        refine ops_end ?_
        refine then_n ⟨⟨fun _ _ => (AtE.mk1 hh.ext (hh.get (B1, .cells (canV d p sa sb ca cb).cells 31) (by simp))), trivial⟩, ?_⟩
        refine mc_e rfl fun Q1 => ?_
        first | (refine ops_appendM (A := []) (B := d.r) (X := [(B70, .cells #[] 54)]) (m := 0) hf hh Try.eb_25 rfl rfl ⟨rfl, .inr ⟨B70, 0, #[], rfl, rfl, Nat.le_refl _, Nat.zero_le _, rfl, rfl⟩⟩ (hB.ext hh.ext) (by simp only [maxLen]; omega) (by omega) (.inl rfl) rfl ?_) | (refine ops_appendM (A := []) (B := d.r) (X := [(B70, .cells #[] 54)]) (m := 0) hf (hh.front (i := 1) rfl) Try.eb_25 rfl rfl ⟨rfl, .inr ⟨B70, 0, #[], rfl, rfl, Nat.le_refl _, Nat.zero_le _, rfl, rfl⟩⟩ (hB.ext hh.ext) (by simp only [maxLen]; omega) (by omega) (.inl rfl) rfl ?_) | (refine ops_appendM (A := []) (B := d.r) (X := [(B70, .cells #[] 54)]) (m := 0) hf (hh.front (i := 2) rfl) Try.eb_25 rfl rfl ⟨rfl, .inr ⟨B70, 0, #[], rfl, rfl, Nat.le_refl _, Nat.zero_le _, rfl, rfl⟩⟩ (hB.ext hh.ext) (by simp only [maxLen]; omega) (by omega) (.inl rfl) rfl ?_)
        clear hf hh; clear a
        intro v7 X7 a w hO7 hf hh
        rw [Nat.zero_add, List.nil_append] at hO7
        obtain ⟨oa7, cp7, rfl⟩ := OwnSl_val hO7
        replace hh := hh.perm List.perm_append_comm
        refine ops_end ?_
        refine then_n ⟨⟨fun _ _ => (AtE.mk1 hh.ext (hh.get (B1, .cells (canV d p sa sb ca cb).cells 31) (by simp))), trivial⟩, ?_⟩
        refine mc_p rfl   hf (yv_buildS Try.bs_29 rfl rfl) (.inl rfl) rfl rfl ?_; clear hf a; intro a hf
        refine mc_e rfl fun Q1 => ?_
        refine o_store hf hh Try.sz_29 fun w hh => ?_
        refine ops_end ?_
        refine then_n ⟨⟨fun _ _ => (AtE.mk1 hh.ext (hh.get (B1, .cells (canV d p sa sb ca cb).cells 31) (by simp))), trivial⟩, ?_⟩
        refine mc_end ?_
        refine then_n ?_
        exact ⟨(B4, oa6, oa7, cp6, cp7), ⟨hh.ext, hh.at (i := 2) rfl, hh.at (i := 1) rfl, hh.at (i := 0) rfl, mkAt_of hO6 fun x hx => hh.get x (by simp [hx]), mkAt_of hO7 fun x hx => hh.get x (by simp [hx])⟩, hf.head ⟨rfl, True.intro⟩ (Keep.cons rfl (Keep.cons rfl (Keep.cons rfl (Keep.cons rfl (Keep.cons rfl (Keep.cons rfl (Keep.cons rfl (Keep.cons rfl (Keep.cons rfl (Keep.cons rfl (Keep.cons rfl (Keep.cons rfl (Keep.cons rfl (Keep.cons rfl (Keep.cons rfl (Keep.cons rfl (Keep.cons rfl (Keep.cons rfl (Keep.base)))))))))))))))))))⟩
      ·refine mc_e rfl fun Q1 => ?_
       refine ops_buildSl hf hh Try.bl_25_0 rfl rfl (.inl rfl) rfl ?_; clear hf hh; clear a; intro B70 a w hf hh
       refine ops_end ?_
       refine then_n ⟨⟨fun _ _ => (AtE.mk1 hh.ext (hh.get (B1, .cells (canV d p sa sb ca cb).cells 31) (by simp))), trivial⟩, ?_⟩
       refine mc_e rfl fun Q1 => ?_
       refine ops_buildSl hf hh Try.bl_25_0 rfl rfl (.inl rfl) rfl ?_; clear hf hh; clear a; intro B65 a w hf hh
       refine ops_end ?_
       refine then_n ⟨⟨fun _ _ => (AtE.mk1 hh.ext (hh.get (B1, .cells (canV d p sa sb ca cb).cells 31) (by simp))), trivial⟩, ?_⟩
       refine mc_e rfl fun Q1 => ?_
       first | (refine ops_appendM (A := []) (B := d.l) (X := [(B65, .cells #[] 54)]) (m := 0) hf hh Try.eb_25 rfl rfl ⟨rfl, .inr ⟨B65, 0, #[], rfl, rfl, Nat.le_refl _, Nat.zero_le _, rfl, rfl⟩⟩ (hA.ext hh.ext) (by simp only [maxLen]; omega) (by omega) (.inl rfl) rfl ?_) | (refine ops_appendM (A := []) (B := d.l) (X := [(B65, .cells #[] 54)]) (m := 0) hf (hh.front (i := 1) rfl) Try.eb_25 rfl rfl ⟨rfl, .inr ⟨B65, 0, #[], rfl, rfl, Nat.le_refl _, Nat.zero_le _, rfl, rfl⟩⟩ (hA.ext hh.ext) (by simp only [maxLen]; omega) (by omega) (.inl rfl) rfl ?_) | (refine ops_appendM (A := []) (B := d.l) (X := [(B65, .cells #[] 54)]) (m := 0) hf (hh.front (i := 2) rfl) Try.eb_25 rfl rfl ⟨rfl, .inr ⟨B65, 0, #[], rfl, rfl, Nat.le_refl _, Nat.zero_le _, rfl, rfl⟩⟩ (hA.ext hh.ext) (by simp only [maxLen]; omega) (by omega) (.inl rfl) rfl ?_)
       clear hf hh; clear a
       intro v6 X6 a w hO6 hf hh
       rw [Nat.zero_add, List.nil_append] at hO6
       obtain ⟨oa6, cp6, rfl⟩ := OwnSl_val hO6
       replace hh := hh.perm List.perm_append_comm
       refine ops_end ?_
       refine then_n ⟨⟨fun _ _ => (AtE.mk1 hh.ext (hh.get (B1, .cells (canV d p sa sb ca cb).cells 31) (by simp))), trivial⟩, ?_⟩
       refine mc_e rfl fun Q1 => ?_
       first | (refine ops_appendM (A := []) (B := d.r) (X := [(B70, .cells #[] 54)]) (m := 0) hf hh Try.eb_25 rfl rfl ⟨rfl, .inr ⟨B70, 0, #[], rfl, rfl, Nat.le_refl _, Nat.zero_le _, rfl, rfl⟩⟩ (hB.ext hh.ext) (by simp only [maxLen]; omega) (by omega) (.inl rfl) rfl ?_) | (refine ops_appendM (A := []) (B := d.r) (X := [(B70, .cells #[] 54)]) (m := 0) hf (hh.front (i := 1) rfl) Try.eb_25 rfl rfl ⟨rfl, .inr ⟨B70, 0, #[], rfl, rfl, Nat.le_refl _, Nat.zero_le _, rfl, rfl⟩⟩ (hB.ext hh.ext) (by simp only [maxLen]; omega) (by omega) (.inl rfl) rfl ?_) | (refine ops_appendM (A := []) (B := d.r) (X := [(B70, .cells #[] 54)]) (m := 0) hf (hh.front (i := 2) rfl) Try.eb_25 rfl rfl ⟨rfl, .inr ⟨B70, 0, #[], rfl, rfl, Nat.le_refl _, Nat.zero_le _, rfl, rfl⟩⟩ (hB.ext hh.ext) (by simp only [maxLen]; omega) (by omega) (.inl rfl) rfl ?_)
       clear hf hh; clear a
       intro v7 X7 a w hO7 hf hh
       rw [Nat.zero_add, List.nil_append] at hO7
       obtain ⟨oa7, cp7, rfl⟩ := OwnSl_val hO7
       replace hh := hh.perm List.perm_append_comm
       refine ops_end ?_
       refine then_n ⟨⟨fun _ _ => (AtE.mk1 hh.ext (hh.get (B1, .cells (canV d p sa sb ca cb).cells 31) (by simp))), trivial⟩, ?_⟩
       refine mc_p rfl   hf (yv_buildS Try.bs_29 rfl rfl) (.inl rfl) rfl rfl ?_; clear hf a; intro a hf
       refine mc_e rfl fun Q1 => ?_
       refine o_store hf hh Try.sz_29 fun w hh => ?_
       refine ops_end ?_
       refine then_n ⟨⟨fun _ _ => (AtE.mk1 hh.ext (hh.get (B1, .cells (canV d p sa sb ca cb).cells 31) (by simp))), trivial⟩, ?_⟩
       refine mc_end ?_
       refine then_n ?_
       exact ⟨(B4, oa6, oa7, cp6, cp7), ⟨hh.ext, hh.at (i := 2) rfl, hh.at (i := 1) rfl, hh.at (i := 0) rfl, mkAt_of hO6 fun x hx => hh.get x (by simp [hx]), mkAt_of hO7 fun x hx => hh.get x (by simp [hx])⟩, hf.head ⟨rfl, True.intro⟩ (Keep.cons rfl (Keep.cons rfl (Keep.cons rfl (Keep.cons rfl (Keep.cons rfl (Keep.cons rfl (Keep.cons rfl (Keep.cons rfl (Keep.cons rfl (Keep.cons rfl (Keep.cons rfl (Keep.cons rfl (Keep.cons rfl (Keep.cons rfl (Keep.cons rfl (Keep.cons rfl (Keep.cons rfl (Keep.cons rfl (Keep.base)))))))))))))))))))⟩
    ·rintro q a w ⟨he1, hb1, hb3, hb4, hC6, hC7⟩ hf
     obtain ⟨B4, oa6, oa7, cp6, cp7⟩ := q
     simp only at he1 hb1 hb3 hb4 hC6 hC7 hf
     have hA1 := hA.ext he1
     have hB1 := hB.ext he1
     obtain ⟨u1, rfl⟩ : ∃ z, z = w := ⟨_, rfl⟩
     have hh := Hp.init u1 []
     have hokx := okCan_tX hok
     refine sy_sq ?_
     refine o_v hf hh (y_lds Try.ag_31 rfl) ?_; clear hf a; intro a hf
     refine o_call hf Try.en_12 rfl rfl rfl (p12 d p sa sb ca cb _ (hA1.ext hh.ext) (hB1.ext hh.ext)) ?_; clear hf a; intro v a w hR hf
     obtain ⟨rfl, hx⟩ := hR; replace hh := hh.more hx; clear hx
     refine o_v hf hh (yv_move rfl) ?_; clear hf a; intro a hf
     refine o_v hf hh (yv_extract rfl rfl) ?_; clear hf a; intro a hf
     refine o_v hf hh (yv_extract rfl rfl) ?_; clear hf a; intro a hf
     refine o_v hf hh (yv_assign rfl) ?_; clear hf a; intro a hf
     refine o_v hf hh (yv_assign rfl) ?_; clear hf a; intro a hf
     refine o_end ?_
     refine sy_sq ?_
     refine o_v hf hh (y_lds Try.ag_31 rfl) ?_; clear hf a; intro a hf
     refine o_call hf Try.en_12 rfl rfl rfl (p12 (tX d) p sb sa cb ca _ (hB1.ext hh.ext) (hA1.ext hh.ext)) ?_; clear hf a; intro v a w hR hf
     obtain ⟨rfl, hx⟩ := hR; replace hh := hh.more hx; clear hx
     refine o_v hf hh (yv_move rfl) ?_; clear hf a; intro a hf
     refine o_v hf hh (yv_extract rfl rfl) ?_; clear hf a; intro a hf
     refine o_v hf hh (yv_extract rfl rfl) ?_; clear hf a; intro a hf
     refine o_v hf hh (yv_assign rfl) ?_; clear hf a; intro a hf
     refine o_v hf hh (yv_assign rfl) ?_; clear hf a; intro a hf
     refine o_end ?_
     refine sy_sq ?_
     refine o_v hf hh (y_lds Try.ag_31 rfl) ?_; clear hf a; intro a hf
     refine o_call hf Try.en_13 rfl rfl rfl (p13 d p sa sb ca cb _ (hA1.ext hh.ext) (hB1.ext hh.ext)) ?_; clear hf a; intro v a w hR hf
     obtain ⟨rfl, hx⟩ := hR; replace hh := hh.more hx; clear hx
     refine o_v hf hh (yv_move rfl) ?_; clear hf a; intro a hf
     refine o_v hf hh (yv_extract rfl rfl) ?_; clear hf a; intro a hf
     refine o_v hf hh (yv_extract rfl rfl) ?_; clear hf a; intro a hf
     refine o_v hf hh (yv_assign rfl) ?_; clear hf a; intro a hf
     refine o_v hf hh (yv_assign rfl) ?_; clear hf a; intro a hf
     refine o_end ?_
     refine sy_sq ?_
     refine o_v hf hh (y_lds Try.ag_31 rfl) ?_; clear hf a; intro a hf
     refine o_call hf Try.en_13 rfl rfl rfl (p13 (tX d) p sb sa cb ca _ (hB1.ext hh.ext) (hA1.ext hh.ext)) ?_; clear hf a; intro v a w hR hf
     obtain ⟨rfl, hx⟩ := hR; replace hh := hh.more hx; clear hx
     refine o_v hf hh (yv_move rfl) ?_; clear hf a; intro a hf
     refine o_v hf hh (yv_extract rfl rfl) ?_; clear hf a; intro a hf
     refine o_v hf hh (yv_extract rfl rfl) ?_; clear hf a; intro a hf
     refine o_v hf hh (yv_assign rfl) ?_; clear hf a; intro a hf
     refine o_v hf hh (yv_assign rfl) ?_; clear hf a; intro a hf
     refine o_end ?_
     refine sy_sq ?_
     refine o_v hf hh (y_lds Try.ag_31 rfl) ?_; clear hf a; intro a hf
     refine o_call hf Try.en_20 rfl rfl rfl (p20 d p sa sb ca cb _ (hA1.ext hh.ext) (hB1.ext hh.ext)) ?_; clear hf a; intro v a w hR hf
     obtain ⟨rfl, hx⟩ := hR; replace hh := hh.more hx; clear hx
     refine o_v hf hh (yv_move rfl) ?_; clear hf a; intro a hf
     refine o_v hf hh (yv_extract rfl rfl) ?_; clear hf a; intro a hf
     refine o_v hf hh (yv_extract rfl rfl) ?_; clear hf a; intro a hf
     refine o_v hf hh (yv_extract rfl rfl) ?_; clear hf a; intro a hf
     refine o_v hf hh (yv_assign rfl) ?_; clear hf a; intro a hf
     refine o_v hf hh (yv_assign rfl) ?_; clear hf a; intro a hf
     refine o_v hf hh (yv_assign rfl) ?_; clear hf a; intro a hf
     refine o_end ?_
     refine sy_sq ?_
     refine o_v hf hh (y_lds Try.ag_31 rfl) ?_; clear hf a; intro a hf
     refine o_call hf Try.en_20 rfl rfl rfl (p20 (tX d) p sb sa cb ca _ (hB1.ext hh.ext) (hA1.ext hh.ext)) ?_; clear hf a; intro v a w hR hf
     obtain ⟨rfl, hx⟩ := hR; replace hh := hh.more hx; clear hx
     refine o_v hf hh (yv_move rfl) ?_; clear hf a; intro a hf
     refine o_v hf hh (yv_extract rfl rfl) ?_; clear hf a; intro a hf
     refine o_v hf hh (yv_extract rfl rfl) ?_; clear hf a; intro a hf
     refine o_v hf hh (yv_extract rfl rfl) ?_; clear hf a; intro a hf
     refine o_v hf hh (yv_assign rfl) ?_; clear hf a; intro a hf
     refine o_v hf hh (yv_assign rfl) ?_; clear hf a; intro a hf
     refine o_v hf hh (yv_assign rfl) ?_; clear hf a; intro a hf
     refine o_end ?_
     refine sy_sq ?_
     refine o_v hf hh (y_lds Try.ag_31 rfl) ?_; clear hf a; intro a hf
     refine o_call hf Try.en_15 rfl rfl rfl (p15 d p sa sb ca cb _ (hA1.ext hh.ext) (hB1.ext hh.ext)) ?_; clear hf a; intro v a w hR hf
     obtain ⟨rfl, hx⟩ := hR; replace hh := hh.more hx; clear hx
     refine o_v hf hh (yv_move rfl) ?_; clear hf a; intro a hf
     refine o_v hf hh (yv_extract rfl rfl) ?_; clear hf a; intro a hf
     refine o_v hf hh (yv_extract rfl rfl) ?_; clear hf a; intro a hf
     refine o_v hf hh (yv_extract rfl rfl) ?_; clear hf a; intro a hf
     refine o_v hf hh (yv_assign rfl) ?_; clear hf a; intro a hf
     refine o_v hf hh (yv_assign rfl) ?_; clear hf a; intro a hf
     refine o_v hf hh (yv_assign rfl) ?_; clear hf a; intro a hf
     refine o_end ?_
     refine sy_sq ?_
     refine o_v hf hh (y_lds Try.ag_31 rfl) ?_; clear hf a; intro a hf
     refine o_call hf Try.en_15 rfl rfl rfl (p15 (tX d) p sb sa cb ca _ (hB1.ext hh.ext) (hA1.ext hh.ext)) ?_; clear hf a; intro v a w hR hf
     obtain ⟨rfl, hx⟩ := hR; replace hh := hh.more hx; clear hx
     refine o_v hf hh (yv_move rfl) ?_; clear hf a; intro a hf
     refine o_v hf hh (yv_extract rfl rfl) ?_; clear hf a; intro a hf
     refine o_v hf hh (yv_extract rfl rfl) ?_; clear hf a; intro a hf
     refine o_v hf hh (yv_extract rfl rfl) ?_; clear hf a; intro a hf
     refine o_v hf hh (yv_assign rfl) ?_; clear hf a; intro a hf
     refine o_v hf hh (yv_assign rfl) ?_; clear hf a; intro a hf
     refine o_v hf hh (yv_assign rfl) ?_; clear hf a; intro a hf
     refine o_end ?_
     refine sy_seq ?_
     have hn1 := turnC_cases hok
     have hn2 : casesE (tX d) p = casesE d p := by rw [casesE_ok hok, casesE_ok hokx]
     have hn3 := turnC_sides hok
     have hn4 := turnC_gat hok
     have hn5 := turnC_can hok
     have hn6 := turnC_sure hok
     have hn7 : (joinV (tX d) p).o.1 = (joinV d p).o.2 := by rw [hn5]; rfl
     have hn8 : (joinV (tX d) p).o.2 = (joinV d p).o.1 := by rw [hn5]; rfl
     have hn9 : (joinV (tX d) p).a.1 = (joinV d p).a.2 := by rw [hn6]; rfl
     have hn10 : (joinV (tX d) p).a.2 = (joinV d p).a.1 := by rw [hn6]; rfl
     have hsl := sidesV_le (d := d) (p := p)
     obtain ⟨s, hs⟩ : ∃ z, z = sidesV d p := ⟨_, rfl⟩
     rw [← hs] at hf hsl hn3
     obtain ⟨z1, hz1⟩ : ∃ z, z = s &&& 1 := ⟨_, rfl⟩
     obtain ⟨z2, hz2⟩ : ∃ z, z = s &&& 2 := ⟨_, rfl⟩
     obtain ⟨z4, hz4⟩ : ∃ z, z = s &&& 4 := ⟨_, rfl⟩
     have hy1 : z1 ≤ 1 := hz1 ▸ Nat.and_le_right
     have hy2 : z2 ≤ 2 := hz2 ▸ Nat.and_le_right
     have hy4 : z4 ≤ 4 := hz4 ▸ Nat.and_le_right
     have hy5 : z1 ||| 2 * z2 ≤ 7 := or_le7 (by omega) (by omega)
     have hy6 : z4 >>> 1 ≤ 4 := Nat.le_trans (Nat.shiftRight_le _ _) hy4
     obtain ⟨z5, hz5⟩ : ∃ z, z = z1 ||| 2 * z2 := ⟨_, rfl⟩
     obtain ⟨z6, hz6⟩ : ∃ z, z = z4 >>> 1 := ⟨_, rfl⟩
     rw [← hz5] at hy5; rw [← hz6] at hy6
     have hts : turnS s = z5 ||| z6 := by rw [hz5, hz6, hz1, hz2, hz4]; rfl
     refine sy_ops ?_
     refine o_v hf hh (yv_move rfl) ?_; clear hf a; intro a hf
     refine ops_v hf hh (yv_cast (yv_and (.inl rfl) rfl rfl (by omega) (by simp only [IntKind.top]; omega) (by omega) (by simp only [IntKind.top]; omega)) (intv (b := ((z1 : Nat) : Int)) (by rw [hz1]; rfl))) (.inl rfl) rfl rfl rfl ?_; clear hf a; intro a hf
     refine o_v hf hh (yv_move rfl) ?_; clear hf a; intro a hf
     refine ops_v hf hh (yv_cast (yv_and (.inl rfl) rfl rfl (by omega) (by simp only [IntKind.top]; omega) (by omega) (by simp only [IntKind.top]; omega)) (intv (b := ((z2 : Nat) : Int)) (by rw [hz2]; rfl))) (.inl rfl) rfl rfl rfl ?_; clear hf a; intro a hf
     refine ops_v hf hh (yv_cast (yv_shl rfl rfl (by omega) (by simp only [IntKind.bits]; omega)) (intv (b := ((2 * z2 : Nat) : Int)) (by rw [show (2 : Int) ^ (1 : Int).toNat = 2 from rfl, wrap_i64 (by omega) (by omega)]; omega))) (.inl rfl) rfl rfl rfl ?_; clear hf a; intro a hf
     refine ops_v hf hh (yv_cast (yv_or (.inl rfl) rfl rfl (by omega) (by simp only [IntKind.top]; omega) (by omega) (by simp only [IntKind.top]; omega)) (intv (b := ((z5 : Nat) : Int)) (by rw [hz5]; rfl))) (.inl rfl) rfl rfl rfl ?_; clear hf a; intro a hf
     refine o_v hf hh (yv_move rfl) ?_; clear hf a; intro a hf
     refine ops_v hf hh (yv_cast (yv_and (.inl rfl) rfl rfl (by omega) (by simp only [IntKind.top]; omega) (by omega) (by simp only [IntKind.top]; omega)) (intv (b := ((z4 : Nat) : Int)) (by rw [hz4]; rfl))) (.inl rfl) rfl rfl rfl ?_; clear hf a; intro a hf
     refine ops_v hf hh (yv_cast (yv_shrx (.inl rfl) rfl rfl (by omega) (by omega) (by omega)) (intv (b := ((z6 : Nat) : Int)) (by rw [hz6]; rfl))) (.inl rfl) rfl rfl rfl ?_; clear hf a; intro a hf
     refine ops_v hf hh (yv_cast (yv_or (.inl rfl) rfl rfl (by omega) (by simp only [IntKind.top]; omega) (by omega) (by simp only [IntKind.top]; omega)) (intv (b := ((turnS s : Nat) : Int)) (by rw [hts]; rfl))) (.inl rfl) rfl rfl rfl ?_; clear hf a; intro a hf
     refine o_v hf hh (yv_assign rfl) ?_; clear hf a; intro a hf
     refine o_end ?_
     refine sy_seq ?_
     refine sy_sq ?_
     refine o_v hf hh (yv_move rfl) ?_; clear hf a; intro a hf
     refine o_v hf hh (yv_move rfl) ?_; clear hf a; intro a hf
     refine o_v hf hh (yv_bin rfl rfl rfl) ?_; clear hf a; intro a hf
     refine o_v hf hh (yv_move rfl) ?_; clear hf a; intro a hf
     refine o_v hf hh (yv_move rfl) ?_; clear hf a; intro a hf
     refine o_v hf hh (yv_move rfl) ?_; clear hf a; intro a hf
     refine o_v hf hh (yv_bin rfl rfl rfl) ?_; clear hf a; intro a hf
     refine o_v hf hh (y_pf rfl rfl) ?_; clear hf a; intro a hf
     refine o_v hf hh (yv_move rfl) ?_; clear hf a; intro a hf
     refine o_v hf hh (yv_move rfl) ?_; clear hf a; intro a hf
     refine o_v hf hh (yv_move rfl) ?_; clear hf a; intro a hf
     refine o_v hf hh (yv_bin rfl rfl rfl) ?_; clear hf a; intro a hf
     refine o_v hf hh (y_pf rfl rfl) ?_; clear hf a; intro a hf
     refine o_v hf hh (yv_move rfl) ?_; clear hf a; intro a hf
     refine o_v hf hh (yv_move rfl) ?_; clear hf a; intro a hf
     refine o_v hf hh (yv_move rfl) ?_; clear hf a; intro a hf
     refine o_v hf hh (yv_bin rfl rfl rfl) ?_; clear hf a; intro a hf
     refine o_v hf hh (y_pf rfl rfl) ?_; clear hf a; intro a hf
     refine o_v hf hh (yv_move rfl) ?_; clear hf a; intro a hf
     refine o_v hf hh (yv_move rfl) ?_; clear hf a; intro a hf
     refine o_v hf hh (yv_move rfl) ?_; clear hf a; intro a hf
     refine o_v hf hh (yv_bin rfl rfl rfl) ?_; clear hf a; intro a hf
     refine o_v hf hh (y_pf rfl rfl) ?_; clear hf a; intro a hf
     refine o_v hf hh (yv_move rfl) ?_; clear hf a; intro a hf
     refine o_v hf hh (yv_move rfl) ?_; clear hf a; intro a hf
     refine o_v hf hh (yv_move rfl) ?_; clear hf a; intro a hf
     refine o_v hf hh (yv_bin rfl rfl rfl) ?_; clear hf a; intro a hf
     refine o_v hf hh (y_pf rfl rfl) ?_; clear hf a; intro a hf
     refine o_v hf hh (yv_move rfl) ?_; clear hf a; intro a hf
     refine o_v hf hh (yv_move rfl) ?_; clear hf a; intro a hf
     refine o_v hf hh (yv_move rfl) ?_; clear hf a; intro a hf
     refine o_v hf hh (yv_bin rfl rfl rfl) ?_; clear hf a; intro a hf
     refine o_v hf hh (y_pf rfl rfl) ?_; clear hf a; intro a hf
     refine o_v hf hh (yv_move rfl) ?_; clear hf a; intro a hf
     refine o_v hf hh (yv_move rfl) ?_; clear hf a; intro a hf
     refine o_v hf hh (yv_move rfl) ?_; clear hf a; intro a hf
     refine o_v hf hh (yv_bin rfl rfl rfl) ?_; clear hf a; intro a hf
     refine o_v hf hh (y_pf rfl rfl) ?_; clear hf a; intro a hf
     refine o_v hf hh (yv_move rfl) ?_; clear hf a; intro a hf
     refine o_v hf hh (yv_move rfl) ?_; clear hf a; intro a hf
     refine o_v hf hh (yv_move rfl) ?_; clear hf a; intro a hf
     refine o_v hf hh (yv_bin rfl rfl rfl) ?_; clear hf a; intro a hf
     refine o_v hf hh (y_pf rfl rfl) ?_; clear hf a; intro a hf
     refine o_v hf hh (yv_move rfl) ?_; clear hf a; intro a hf
     refine o_v hf hh (yv_move rfl) ?_; clear hf a; intro a hf
     refine o_v hf hh (yv_move rfl) ?_; clear hf a; intro a hf
     refine o_v hf hh (yv_bin rfl rfl rfl) ?_; clear hf a; intro a hf
     refine o_v hf hh (y_pf rfl rfl) ?_; clear hf a; intro a hf
     refine o_end ?_
     refine c_f hf ?_
     refine sy_skip ?_
     refine then_n ?_
     refine sy_sq ?_
     refine o_v hf hh (y_lds Try.ag_31 rfl) ?_; clear hf a; intro a hf
     refine o_call hf Try.en_23 rfl rfl rfl (p23 d p sa sb ca cb _ (hA1.ext hh.ext) (hB1.ext hh.ext)) ?_; clear hf a; intro v a w hR hf
     obtain ⟨oa, ob, cpa, cpb, XA, XB, rfl, hOA, hOB, hx⟩ := hR; replace hh := (hh.join hx).perm List.perm_append_comm; clear hx
     have hrl : (restD d p).l.length ≤ 10 ∧ (restD d p).r.length ≤ 10 := by
       unfold restD; split
       · exact ⟨Nat.le_trans (keepL_len _ _) hnl, Nat.le_trans (keepL_len _ _) hnr⟩
       · exact ⟨Nat.zero_le _, Nat.zero_le _⟩
     obtain ⟨hrl1, hrl2⟩ := hrl
     refine o_v hf hh (yv_move rfl) ?_; clear hf a; intro a hf
     refine o_v hf hh (yv_extract rfl rfl) ?_; clear hf a; intro a hf
     refine o_v hf hh (yv_extract rfl rfl) ?_; clear hf a; intro a hf
     refine o_alloc hf hh Try.ze_29 ?_; clear hf hh a; intro B26 a w hf hh
     refine o_store hf hh Try.sz_29 fun w hh => ?_
     refine o_v hf hh (yv_assign rfl) ?_; clear hf a; intro a hf
     refine o_end ?_
     refine sy_sq ?_
     refine o_v hf hh (y_lds Try.ag_29 rfl) ?_; clear hf a; intro a hf
     refine o_call hf Try.en_25 rfl rfl rfl (p25 (restD d p) oa ob cpa cpb _ (mkAt_of hOA fun x hx => hh.get x (by simp [hx])) (mkAt_of hOB fun x hx => hh.get x (by simp [hx])) (by omega) (by omega) (0, 0) (by decide) (by decide)) ?_; clear hf a; intro v a w hR hf
     obtain ⟨oc, od, cpc, cpd, XC, XD, rfl, hOC, hOD, hx⟩ := hR; rw [woD_none] at hf hOC hOD
     replace hh := (hh.join hx).perm List.perm_append_comm; clear hx
     refine o_alloc hf hh Try.ze_29 ?_; clear hf hh a; intro B28 a w hf hh
     refine o_store hf hh Try.sz_29 fun w hh => ?_
     refine o_end ?_
     refine sy_seq ?_
     refine sy_seq ?_
     replace hh : Hp u1 [] ((B28, .cells (rowsV (restD d p) oc od cpc cpd).cells 29) :: (B26, .cells (rowsV (restD d p) oa ob cpa cpb).cells 29) :: (([] ++ (XA ++ XB)) ++ (XC ++ XD))) w := hh
     rw [List.nil_append, List.append_assoc] at hh
     refine sy_ops ?_
     refine o_v hf hh (yv_fieldAddr Try.fo_29_0 rfl) ?_; clear hf a; intro a hf
     refine o_v hf hh (y_ld Try.sc_25 rfl) ?_; clear hf a; intro a hf
     refine o_v hf hh (yv_len Try.se_25 rfl) ?_; clear hf a; intro a hf
     refine o_v hf hh (yv_move rfl) ?_; clear hf a; intro a hf
     refine o_end ?_
     refine sy_block ?_
     refine sy_loopH (σ := Nat × List Value × List (Nat × Obj)) [29, 194, 195, 196, 197, 198, 199, 200, 201, 202] (fun q => [(194, .int .i64 (q.1 : Nat))]) (fun q => fun w' => q.1 ≤ (restD d p).l.length ∧ OwnSl 54 4 (.slice oa (restD d p).l.length cpa) (restD d p).l.length q.2.1 q.2.2 ∧ Hp u1 [] ((B28, .cells (rowsV (restD d p) oc od cpc cpd).cells 29) :: (B26, .cells (rowsV (restD d p) oa ob cpa cpb).cells 29) :: (q.2.2 ++ (XB ++ (XC ++ XD)))) w') (fun q => (restD d p).l.length - q.1) ((0, encM (restD d p).l, XA)) hf ?_ ?_ ?_
     · exact ⟨rfl, True.intro⟩
     · exact ⟨Nat.zero_le _, hOA, hh⟩
     ·rintro q a w ⟨hi, hO, hh⟩ hf
      obtain ⟨i, xs, X⟩ := q; simp only at hi hO hh hf ⊢
      refine sy_sq ?_
      refine o_v hf hh (yv_bin rfl rfl rfl) ?_; clear hf a; intro a hf
      refine o_end ?_
      refine sy_seq ?_
      refine sy_cond hf rfl (fun hg84 => ?_) (fun hg84 => ?_)
      ·have hG84 := hg84; try simp only [gS] at hG84
       refine sy_skip ?_
       refine then_n ?_
       refine sy_seq ?_
       refine sy_block ?_
       refine sy_sq ?_
       refine o_v hf hh (yv_move rfl) ?_; clear hf a; intro a hf
       refine o_v hf hh (yv_assign rfl) ?_; clear hf a; intro a hf
       refine o_end ?_
       obtain ⟨BA, cur, e1, e2, hcl, hcm, hcs⟩ := ownSl_in hO (show i < (restD d p).l.length by omega)
       subst e1; subst e2
       refine sy_ops ?_
       refine o_v hf hh (yv_fieldAddr Try.fo_29_0 rfl) ?_; clear hf a; intro a hf
       refine o_v hf hh (y_ld Try.sc_25 rfl) ?_; clear hf a; intro a hf
       refine o_v hf hh (yv_move rfl) ?_; clear hf a; intro a hf
       refine o_v hf hh (yv_buildS Try.bs_54 rfl rfl) ?_; clear hf a; intro a hf
       refine o_v hf hh (y_ix Try.se_25 rfl rfl) ?_; clear hf a; intro a hf
       refine o_store (i := 2) hf hh Try.sz_54 (hx := rfl) (hi := atI (i := 2) rfl) (hy := rfl) (hl := Nat.ble_eq_true_of_le (by rw [Int.toNat_natCast]; show _ + 4 ≤ _; omega)) fun w hh => ?_
       refine ops_end ?_
       refine blk_n ?_
       refine then_n ?_
       refine sy_ops ?_
       refine o_v hf hh (y_add rfl rfl) ?_; clear hf a; intro a hf
       refine o_v hf hh (yv_move rfl) ?_; clear hf a; intro a hf
       refine ops_end ?_
       refine then_n ?_
       exact ⟨(i + 1, _, _), ⟨⟨by simp only; omega, ownSl_spl (off := 0 + ((i : Nat) : Int).toNat * 4) (vs := [.int .i64 0, .int .i64 0, .int .i64 0, .int .i64 0]) hcl hcm hcs (by rw [Int.toNat_natCast]; simp only [List.length_cons, List.length_nil]; omega), hh⟩, hf.head ⟨rfl, True.intro⟩ (Keep.cons rfl (Keep.cons rfl (Keep.cons rfl (Keep.cons rfl (Keep.cons rfl (Keep.cons rfl (Keep.cons rfl (Keep.cons rfl (Keep.cons rfl (Keep.cons rfl (Keep.app rfl (Keep.rm rfl Keep.base))))))))))))⟩, by simp only; omega⟩
      ·have hG84 := hg84; try simp only [gS] at hG84
       refine sy_exit ?_
       refine then_e ?_
       refine then_e ?_
       refine blk_e ?_
       refine then_n ?_
       refine sy_seq ?_
       refine sy_seq ?_
       obtain ⟨XA2, hXA2⟩ : ∃ Z, Z = X := ⟨_, rfl⟩
       rw [← hXA2] at hh
       replace hh := hh.perm (.cons _ (.cons _ (List.perm_append_comm_assoc XA2 XB (XC ++ XD))))
       refine sy_ops ?_
       refine o_v hf hh (yv_fieldAddr Try.fo_29_1 rfl) ?_; clear hf a; intro a hf
       refine o_v hf hh (y_ld Try.sc_25 rfl) ?_; clear hf a; intro a hf
       refine o_v hf hh (yv_len Try.se_25 rfl) ?_; clear hf a; intro a hf
       refine o_v hf hh (yv_move rfl) ?_; clear hf a; intro a hf
       refine o_end ?_
       refine sy_block ?_
       refine sy_loopH (σ := Nat × List Value × List (Nat × Obj)) [30, 206, 207, 208, 209, 210, 211, 212, 213, 214] (fun q => [(206, .int .i64 (q.1 : Nat))]) (fun q => fun w' => q.1 ≤ (restD d p).r.length ∧ OwnSl 54 4 (.slice ob (restD d p).r.length cpb) (restD d p).r.length q.2.1 q.2.2 ∧ Hp u1 [] ((B28, .cells (rowsV (restD d p) oc od cpc cpd).cells 29) :: (B26, .cells (rowsV (restD d p) oa ob cpa cpb).cells 29) :: (q.2.2 ++ (XA2 ++ (XC ++ XD)))) w') (fun q => (restD d p).r.length - q.1) ((0, encM (restD d p).r, XB)) hf ?_ ?_ ?_
       · exact ⟨rfl, True.intro⟩
       · exact ⟨Nat.zero_le _, hOB, hh⟩
       ·rintro q a w ⟨hi, hO, hh⟩ hf
        obtain ⟨i, xs, X⟩ := q; simp only at hi hO hh hf ⊢
        refine sy_sq ?_
        refine o_v hf hh (yv_bin rfl rfl rfl) ?_; clear hf a; intro a hf
        refine o_end ?_
        refine sy_seq ?_
        refine sy_cond hf rfl (fun hg86 => ?_) (fun hg86 => ?_)
        ·have hG86 := hg86; try simp only [gS] at hG86
         refine sy_skip ?_
         refine then_n ?_
         refine sy_seq ?_
         refine sy_block ?_
         refine sy_sq ?_
         refine o_v hf hh (yv_move rfl) ?_; clear hf a; intro a hf
         refine o_v hf hh (yv_assign rfl) ?_; clear hf a; intro a hf
         refine o_end ?_
         obtain ⟨BA, cur, e1, e2, hcl, hcm, hcs⟩ := ownSl_in hO (show i < (restD d p).r.length by omega)
         subst e1; subst e2
         refine sy_ops ?_
         refine o_v hf hh (yv_fieldAddr Try.fo_29_1 rfl) ?_; clear hf a; intro a hf
         refine o_v hf hh (y_ld Try.sc_25 rfl) ?_; clear hf a; intro a hf
         refine o_v hf hh (yv_move rfl) ?_; clear hf a; intro a hf
         refine o_v hf hh (yv_buildS Try.bs_54 rfl rfl) ?_; clear hf a; intro a hf
         refine o_v hf hh (y_ix Try.se_25 rfl rfl) ?_; clear hf a; intro a hf
         refine o_store (i := 2) hf hh Try.sz_54 (hx := rfl) (hi := atI (i := 2) rfl) (hy := rfl) (hl := Nat.ble_eq_true_of_le (by rw [Int.toNat_natCast]; show _ + 4 ≤ _; omega)) fun w hh => ?_
         refine ops_end ?_
         refine blk_n ?_
         refine then_n ?_
         refine sy_ops ?_
         refine o_v hf hh (y_add rfl rfl) ?_; clear hf a; intro a hf
         refine o_v hf hh (yv_move rfl) ?_; clear hf a; intro a hf
         refine ops_end ?_
         refine then_n ?_
         exact ⟨(i + 1, _, _), ⟨⟨by simp only; omega, ownSl_spl (off := 0 + ((i : Nat) : Int).toNat * 4) (vs := [.int .i64 0, .int .i64 0, .int .i64 0, .int .i64 0]) hcl hcm hcs (by rw [Int.toNat_natCast]; simp only [List.length_cons, List.length_nil]; omega), hh⟩, hf.head ⟨rfl, True.intro⟩ (Keep.cons rfl (Keep.cons rfl (Keep.cons rfl (Keep.cons rfl (Keep.cons rfl (Keep.cons rfl (Keep.cons rfl (Keep.cons rfl (Keep.cons rfl (Keep.cons rfl (Keep.app rfl (Keep.rm rfl Keep.base))))))))))))⟩, by simp only; omega⟩
        ·have hG86 := hg86; try simp only [gS] at hG86
         refine sy_exit ?_
         refine then_e ?_
         refine then_e ?_
         refine blk_e ?_
         refine then_n ?_
         refine sy_sq ?_
         refine o_v hf hh (y_lds Try.ag_31 rfl) ?_; clear hf a; intro a hf
         refine o_call hf Try.en_23 rfl rfl rfl (p23 d p sa sb ca cb _ (hA1.ext hh.ext) (hB1.ext hh.ext)) ?_; clear hf a; intro v a w hR hf
         obtain ⟨oe, og, cpe, cpg, XE, XF, rfl, hOE, hOF, hx⟩ := hR; replace hh := (hh.join hx).perm List.perm_append_comm; clear hx
         refine o_v hf hh (yv_move rfl) ?_; clear hf a; intro a hf
         refine o_v hf hh (yv_extract rfl rfl) ?_; clear hf a; intro a hf
         refine o_v hf hh (yv_extract rfl rfl) ?_; clear hf a; intro a hf
         refine o_alloc hf hh Try.ze_29 ?_; clear hf hh a; intro B31 a w hf hh
         refine o_store hf hh Try.sz_29 fun w hh => ?_
         refine o_v hf hh (yv_assign rfl) ?_; clear hf a; intro a hf
         refine o_end ?_
         refine sy_seq ?_
         have hME := mkAt_of hOE fun x hx => hh.get x (by simp [hx])
         have hMF := mkAt_of hOF fun x hx => hh.get x (by simp [hx])
         have hMC := mkAt_of hOC fun x hx => hh.get x (by simp [hx])
         have hMD := mkAt_of hOD fun x hx => hh.get x (by simp [hx])
         refine sy_ops ?_
         refine o_v hf hh (yv_move rfl) ?_; clear hf a; intro a hf
         refine o_v hf hh (yv_move rfl) ?_; clear hf a; intro a hf
         refine o_v hf hh (yv_bin rfl rfl rfl) ?_; clear hf a; intro a hf
         refine o_v hf hh (yv_move rfl) ?_; clear hf a; intro a hf
         refine o_v hf hh (y_lds Try.ag_29 rfl) ?_; clear hf a; intro a hf
         refine o_v hf hh (y_lds Try.ag_29 rfl) ?_; clear hf a; intro a hf
         refine o_call hf Try.en_24 rfl rfl rfl (p24 (restD d p) oe og cpe cpg oc od cpc cpd _ hME hMF hMC hMD (by omega) (by omega)) ?_; clear hf a; intro v a w hR hf
         obtain ⟨rfl, hx⟩ := hR; replace hh := hh.more hx; clear hx
         refine o_v hf hh (y_pt rfl rfl) ?_; clear hf a; intro a hf
         refine o_v hf hh (yv_move rfl) ?_; clear hf a; intro a hf
         refine o_v hf hh (y_lds Try.ag_29 rfl) ?_; clear hf a; intro a hf
         refine o_v hf hh (yv_fieldAddr Try.fo_31_0 rfl) ?_; clear hf a; intro a hf
         refine o_v hf hh (y_lds Try.ag_29 rfl) ?_; clear hf a; intro a hf
         refine o_call hf Try.en_24 rfl rfl rfl (p24 d oa6 oa7 cp6 cp7 sa sb ca cb _ (hC6.ext hh.ext) (hC7.ext hh.ext) (hA1.ext hh.ext) (hB1.ext hh.ext) (by omega) (by omega)) ?_; clear hf a; intro v a w hR hf
         obtain ⟨rfl, hx⟩ := hR; replace hh := hh.more hx; clear hx
         refine o_v hf hh (y_pt rfl rfl) ?_; clear hf a; intro a hf
         refine o_v hf hh (yv_move rfl) ?_; clear hf a; intro a hf
         refine o_v hf hh (y_lds Try.ag_29 rfl) ?_; clear hf a; intro a hf
         refine o_call hf Try.en_28 rfl rfl rfl (c26 d oa6 oa7 cp6 cp7 _ (hC6.ext hh.ext) (hC7.ext hh.ext) (by omega) (by omega)) ?_; clear hf a; intro v a w hR hf
         rw [(okRows_iff d).2 hV] at hR
         obtain ⟨rfl, hx⟩ := hR; replace hh := hh.more hx; clear hx
         refine o_v hf hh (y_pt rfl rfl) ?_; clear hf a; intro a hf
         refine o_v hf hh (yv_move rfl) ?_; clear hf a; intro a hf
         refine o_call hf Try.en_17 rfl rfl rfl (p17 _) ?_; clear hf a; intro v a w hR hf
         obtain ⟨rfl, hx⟩ := hR; replace hh := hh.more hx; clear hx
         refine o_v hf hh (y_pt rfl rfl) ?_; clear hf a; intro a hf
         refine o_v hf hh (yv_assign rfl) ?_; clear hf a; intro a hf
         refine o_end ?_
         refine sy_ret ?_
         refine ret_r hf rfl rfl ?_
         first
           | exact ⟨rfl, hh.ext⟩
           | exact ⟨rfl, he1.trans hh.ext⟩
end Go.Proofs.Ytidieepndphodaa
namespace Go.Proofs.Ytidieepndphodaa
open Go Go.Sy Go.MatM Go.ChangeShapes Go.WideShapes Go.Deep Go.RowKit
theorem hs31 : Try.prog.underlying 31 = some (.struct (Try.prog.fieldsOf 31)) := by kernel_rfl
theorem fs31 : (Try.prog.fieldsOf 31).map (fun f => (f.offset, f.type)) = #[(0, 29), (5, 3)] := by kernel_rfl
theorem hs29 : Try.prog.underlying 29 = some (.struct (Try.prog.fieldsOf 29)) := by kernel_rfl
theorem fs29 : (Try.prog.fieldsOf 29).map (fun f => (f.offset, f.type)) = #[(0, 25), (1, 25), (2, 27), (4, 3)] := by kernel_rfl
theorem co31 : Try.prog.cellsOf 31 = 6 := by kernel_rfl
theorem co29 : Try.prog.cellsOf 29 = 5 := by kernel_rfl
theorem co25 : Try.prog.cellsOf 25 = 1 := by kernel_rfl
theorem co27 : Try.prog.cellsOf 27 = 2 := by kernel_rfl
theorem co3 : Try.prog.cellsOf 3 = 1 := by kernel_rfl
theorem un25 : Try.prog.underlying 25 = some (.slice 54) := by kernel_rfl
theorem fk54 : flK Try.prog .i64 9 54 = some 4 := by kernel_rfl
theorem fk27 : flK Try.prog .i64 9 27 = some 2 := by kernel_rfl
theorem fk3 : flK Try.prog .i64 9 3 = some 1 := by kernel_rfl
theorem un4 : Try.prog.underlying 4 = some .bool := by kernel_rfl
theorem own : ownKnob Try.prog.godebug = none := by kernel_rfl
def toMk (p : List Int) : Mk := match p with
  | [x, y, z, t] => ⟨x, y, z, t⟩
  | _ => ⟨0, 0, 0, 0⟩
theorem mkAt_flat {W : World} {sa : Option Addr} {l : List (List Int)} (hl : ∀ p ∈ l, p.length = 4) (h : FlatAt W .i64 sa 4 l) : MkAt W sa (l.map toMk) := fun i s hi => by
  rw [List.getElem?_map] at hi
  cases hp : l[i]? with
  | none => rw [hp] at hi; cases hi
  | some p =>
    rw [hp] at hi
    cases hi
    obtain ⟨blk, off, c, T, fr, h1, h2, h3⟩ := h i p hp
    refine ⟨blk, off, c, T, fr, h1, h2, ?_⟩
    rw [h3]
    match p, hl p (List.mem_of_getElem? hp) with
    | [x, y, z, t], _ => rfl
theorem len6 {l : List Value} (h : l.length = 6) : ∃ a b c d e f, l = [a, b, c, d, e, f] := by
  match l, h with
  | [a, b, c, d, e, f], _ => exact ⟨a, b, c, d, e, f, rfl⟩
section
variable {H : Type} {enc : TypeId × Value → H} {W : World} {base : Nat} {spare : Nat → Bool} {held : Bool}
set_option maxRecDepth 100000 in
theorem openCan {r : Reach} {b0 : Nat} {v : Value} {d : DataW H} {p : List MemPlace} (hv : Value.okWide Try.prog W r b0 31 v) (h : DataW.Trod enc Try.prog W base spare held 31 v d p) : ∃ (d : RowsD) (p : Int) (sa sb : Option Addr) (ca cb : Nat), v = canV d p sa sb ca cb ∧ MkAt W sa d.l ∧ MkAt W sb d.r ∧ (-9223372036854775808 ≤ d.hid ∧ d.hid ≤ 9223372036854775807) ∧ (-9223372036854775808 ≤ p ∧ p ≤ 9223372036854775807) ∧ d.l.length ≤ ca ∧ d.r.length ≤ cb := by
  obtain ⟨cs, rfl, hsz⟩ := okWide_struct hs31 hv
  obtain ⟨fuel, h⟩ := h
  obtain ⟨_, hf0⟩ := trod_field hs31 h
  rw [fs31] at hf0
  rw [co31] at hsz
  obtain ⟨l, rfl⟩ : ∃ l : List Value, cs = l.toArray := ⟨cs.toList, by simp⟩
  obtain ⟨c0, c1, c2, c3, c4, c5, rfl⟩ := len6 (by simpa using hsz)
  replace hf0 : ∀ (i o : Nat) (u : TypeId) (c : Nat), (#[(0, 29), (5, 3)] : Array (Nat × TypeId))[i]? = some (o, u) → Try.prog.cellsOf u = c → ∃ n y, DataW.trod enc Try.prog W base spare held n u (([c0, c1, c2, c3, c4, c5].drop o).take c) = some y := hf0
  obtain ⟨_, _, k0⟩ := hf0 0 0 29 5 rfl co29
  obtain ⟨_, _, k1⟩ := hf0 1 5 3 1 rfl co3
  obtain ⟨p3, q3, e4, w4⟩ := trod_fl fk3 k1
  obtain ⟨_, hf⟩ := trod_field hs29 k0
  rw [fs29] at hf
  replace hf : ∀ (i o : Nat) (u : TypeId) (c : Nat), (#[(0, 25), (1, 25), (2, 27), (4, 3)] : Array (Nat × TypeId))[i]? = some (o, u) → Try.prog.cellsOf u = c → ∃ n y, DataW.trod enc Try.prog W base spare held n u (([c0, c1, c2, c3, c4].drop o).take c) = some y := hf
  obtain ⟨_, _, g0⟩ := hf 0 0 25 1 rfl co25
  obtain ⟨_, _, g1⟩ := hf 1 1 25 1 rfl co25
  obtain ⟨_, _, g2⟩ := hf 2 2 27 2 rfl co27
  obtain ⟨_, _, g3⟩ := hf 3 4 3 1 rfl co3
  obtain ⟨l0, sa, ca, e0, _, b0', f0⟩ := trod_slices un25 fk54 (by omega) g0
  have hc0 := trod_cap un25 e0 g0
  obtain ⟨l1, sb, cb, e1, _, b1, f1⟩ := trod_slices un25 fk54 (by omega) g1
  have hc1 := trod_cap un25 e1 g1
  obtain ⟨p2, q2, e2, _⟩ := trod_fl fk27 g2
  obtain ⟨p5, q5, e3, w3⟩ := trod_fl fk3 g3
  obtain ⟨lo, hi, rfl⟩ : ∃ x y, p2 = [x, y] := by
    match p2, q2 with
    | [x, y], _ => exact ⟨x, y, rfl⟩
  obtain ⟨hid, rfl⟩ : ∃ x, p5 = [x] := by
    match p5, q5 with
    | [x], _ => exact ⟨x, rfl⟩
  obtain ⟨pp, rfl⟩ : ∃ x, p3 = [x] := by
    match p3, q3 with
    | [x], _ => exact ⟨x, rfl⟩
  simp at e0 e1 e2 e3 e4
  obtain ⟨rfl, rfl⟩ := e2
  subst e0; subst e1; subst e3; subst e4
  exact ⟨⟨l0.map toMk, l1.map toMk, lo, hi, hid⟩, pp, sa, sb, ca, cb, by simp, mkAt_flat (fun p hp => (b0' p hp).1) f0, mkAt_flat (fun p hp => (b1 p hp).1) f1, wf64 (w3 hid (by simp)), wf64 (w4 pp (by simp)), by simpa using hc0, by simpa using hc1⟩
end
end Go.Proofs.Ytidieepndphodaa
