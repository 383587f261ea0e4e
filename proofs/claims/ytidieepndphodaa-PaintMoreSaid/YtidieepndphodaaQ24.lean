/- Lemmas, in order: PaintMore: the law's code returns true. What a law is handed, opened: canvases.. -/
import Derived.Test.YtidieepndphodaaQ23
import Derived.Test.YtidieepndphodaaRows
import Derived.Test.YtidieepndphodaaChecked
import Derived.JoinedOf
import Derived.LaidLaws
import Derived.RowKit
import Derived.RowKitTokens
import Derived.LaidHandle
import Derived.Stop.Joined
import Derived.Lay
import Derived.SizedLaws
import Derived.SevenTiedAt
namespace Go.Proofs.Ytidieepndphodaa
open Go Go.Sy Go.MatM
set_option maxRecDepth 100000 in
set_option maxHeartbeats 4000000 in
theorem p9 (d : RowsD) (p : Int) (sa sb : Option Addr) (ca cb : Nat) (u : World) (hA : MkAt u sa d.l) (hB : MkAt u sb d.r) (l r : Int) : Calls Try.prog 9 #[canV d p sa sb ca cb, .int .i64 l, .int .i64 r] u (Ret fun v w' => v = .bool true ∧ Ext [] u w') := by
  refine calls_of Try.func9 rfl rfl (fun a hf => ?_)
  have hh := Hp.init u []
  refine sy_sq ?_
  refine o_box hf hh ?_; clear hf hh a; intro B3 a w hf hh
  refine o_v hf hh (yv_assign rfl) ?_; clear hf a; intro a hf
  refine o_end ?_
  refine sy_seq ?_
  refine sy_sq ?_
  refine o_v hf hh (y_lds Try.ag_31 rfl) ?_; clear hf a; intro a hf
  refine o_call hf Try.en_18 rfl rfl rfl (p18 d p sa sb ca cb _ (hA.ext hh.ext) (hB.ext hh.ext) 8) ?_; clear hf a; intro v a w hR hf
  obtain ⟨rfl, hx⟩ := hR; replace hh := hh.more hx; clear hx
  refine o_v hf hh (yv_move rfl) ?_; clear hf a; intro a hf
  refine guard_split hf (t := 38) rfl (fun hg2 => ?_) (fun hg2 => ?_)
  ·have hG2 := hg2; try simp only [gS] at hG2
   refine o_off hf ?_; clear hf a; intro a hf
   refine o_off hf ?_; clear hf a; intro a hf
   refine o_off hf ?_; clear hf a; intro a hf
   refine o_v hf hh (y_pt rfl rfl) ?_; clear hf a; intro a hf
   refine o_end ?_
   refine c_t hf ?_
   refine sy_sq ?_
   refine o_call hf Try.en_17 rfl rfl rfl (p17 _) ?_; clear hf a; intro v a w hR hf
   obtain ⟨rfl, hx⟩ := hR; replace hh := hh.more hx; clear hx
   refine o_v hf hh (yv_assign rfl) ?_; clear hf a; intro a hf
   refine o_end ?_
   refine sy_ret ?_
   refine then_r ?_
   refine ret_r hf rfl rfl ?_
   exact ⟨rfl, hh.ext⟩
  ·have hG2 := hg2; try simp only [gS] at hG2
   refine o_v hf hh (y_lds Try.ag_31 rfl) ?_; clear hf a; intro a hf
   have hg9 : (decide (24 < d.l.length ∨ 24 < d.r.length) || (decide ((8 : Int) < d.l.length ∨ (8 : Int) < d.r.length) && okCan d p)) = false := by assumption
   have hlen : d.l.length ≤ 24 ∧ d.r.length ≤ 24 := by
     rw [Bool.or_eq_false_iff, decide_eq_false_iff_not] at hg9
     omega
   refine o_call hf Try.en_19 rfl rfl rfl (p19 d p sa sb ca cb _ (hA.ext hh.ext) (hB.ext hh.ext) (by omega) (by omega)) ?_; clear hf a; intro v a w hR hf
   obtain ⟨rfl, hx⟩ := hR; replace hh := hh.more hx; clear hx
   refine o_v hf hh (yv_not rfl) ?_; clear hf a; intro a hf
   refine o_v hf hh (y_pf rfl rfl) ?_; clear hf a; intro a hf
   refine o_end ?_
   refine sy_cond hf rfl (fun hg5 => ?_) (fun hg5 => ?_)
   ·have hG5 := hg5; try simp only [gS] at hG5
    refine sy_sq ?_
    refine o_call hf Try.en_17 rfl rfl rfl (p17 _) ?_; clear hf a; intro v a w hR hf
    obtain ⟨rfl, hx⟩ := hR; replace hh := hh.more hx; clear hx
    refine o_v hf hh (yv_assign rfl) ?_; clear hf a; intro a hf
    refine o_end ?_
    refine sy_ret ?_
    refine then_r ?_
    refine ret_r hf rfl rfl ?_
    exact ⟨rfl, hh.ext⟩
   ·have hG5 := hg5; try simp only [gS] at hG5
    refine sy_skip ?_
    refine then_n ?_
    refine sy_cut (σ := Nat × Nat × Nat) [7, 8, 9, 44, 45, 46] (fun q => [(7, ptr q.1 0), (8, ptr q.2.1 0), (9, ptr q.2.2 0)]) (fun q => fun w' => Hp u [] [(q.2.2, .cells (canV d p sa sb ca cb).cells 31), (q.2.1, .cells (canV d p sa sb ca cb).cells 31), (q.1, .cells (canV d p sa sb ca cb).cells 31), (B3, .cells (canV d p sa sb ca cb).cells 31)] w') hf ?_ ?_
    ·refine sy_tree1 (.q 0 0 (.q 0 1 (.q 0 2 (.e3 3 (.e2 4 (.e1 5 (.e1 6 (.e1 7 (.e1 8 (.fin))))) 5 (.e1 4 (.e1 6 (.e1 7 (.e1 8 (.fin)))))) 4 (.e2 3 (.e1 5 (.e1 6 (.e1 7 (.e1 8 (.fin))))) 5 (.e1 3 (.e1 6 (.e1 7 (.e1 8 (.fin)))))) 5 (.e2 3 (.e1 4 (.e1 6 (.e1 7 (.e1 8 (.fin))))) 4 (.e1 3 (.e1 6 (.e1 7 (.e1 8 (.fin)))))))))) [] Try.follows (by kernel_rfl) hh (fun w hh => ?_)
     refine mc_q rfl rfl hh hf (y_lds Try.ag_31 rfl) (.inl rfl) rfl rfl ?_; clear hf a; intro a hf
     refine mc_q rfl rfl hh hf (y_lds Try.ag_31 rfl) (.inl rfl) rfl rfl ?_; clear hf a; intro a hf
     refine mc_q rfl rfl hh hf (y_lds Try.ag_31 rfl) (.inl rfl) rfl rfl ?_; clear hf a; intro a hf
     refine ⟨?_, ?_, ?_⟩
     ·refine mc_e rfl fun Q1 => ?_
      refine o_alloc hf hh Try.ze_31 ?_; clear hf hh a; intro B7 a w hf hh
      refine ops_end ?_
      refine then_n ⟨⟨fun _ _ => (hh.less (.cons _ (List.Sublist.refl _))), trivial⟩, ?_⟩
      refine ⟨?_, ?_⟩
      ·refine mc_e rfl fun Q1 => ?_
       refine o_alloc hf hh Try.ze_31 ?_; clear hf hh a; intro B8 a w hf hh
       refine ops_end ?_
       refine then_n ⟨⟨fun _ _ => (hh.less (.cons _ (.cons _ (List.Sublist.refl _)))), trivial⟩, ?_⟩
       refine mc_e rfl fun Q1 => ?_
       refine o_alloc hf hh Try.ze_31 ?_; clear hf hh a; intro B9 a w hf hh
       refine ops_end ?_
       refine then_n ⟨⟨fun _ _ => (hh.less (.cons _ (.cons _ (.cons _ (List.Sublist.refl _))))), trivial⟩, ?_⟩
       refine mc_e rfl fun Q1 => ?_
       refine o_store hf hh Try.sz_31 fun w hh => ?_
       refine ops_end ?_
       refine then_n ⟨⟨fun _ _ => (hh.less (.cons _ (.cons _ (.cons _ (List.Sublist.refl _))))), trivial⟩, ?_⟩
       refine mc_e rfl fun Q1 => ?_
       refine o_store hf hh Try.sz_31 fun w hh => ?_
       refine ops_end ?_
       refine then_n ⟨⟨fun _ _ => (hh.less (.cons _ (.cons _ (.cons _ (List.Sublist.refl _))))), trivial⟩, ?_⟩
       refine mc_e rfl fun Q1 => ?_
       refine o_store hf hh Try.sz_31 fun w hh => ?_
       refine ops_end ?_
       refine then_n ⟨⟨fun _ _ => (hh.less (.cons _ (.cons _ (.cons _ (List.Sublist.refl _))))), trivial⟩, ?_⟩
       refine mc_end ?_
       refine then_n ?_
       exact ⟨(B7, B8, B9), (by first | exact hh | exact hh.perm (.swap _ _ _) | exact hh.perm (.cons _ (.swap _ _ _)) | exact hh.perm ((List.Perm.swap _ _ _).trans (.cons _ (.swap _ _ _))) | exact hh.perm ((List.Perm.cons _ (.swap _ _ _)).trans (.swap _ _ _)) | exact hh.perm ((List.Perm.swap _ _ _).trans ((List.Perm.cons _ (.swap _ _ _)).trans (.swap _ _ _)))), hf.head ⟨rfl, rfl, rfl, True.intro⟩ (Keep.cons rfl (Keep.cons rfl (Keep.cons rfl (Keep.cons rfl (Keep.cons rfl (Keep.cons rfl (Keep.base)))))))⟩
      ·refine mc_e rfl fun Q1 => ?_
       refine o_alloc hf hh Try.ze_31 ?_; clear hf hh a; intro B9 a w hf hh
       refine ops_end ?_
       refine then_n ⟨⟨fun _ _ => (hh.less (.cons _ (.cons _ (List.Sublist.refl _)))), trivial⟩, ?_⟩
       refine mc_e rfl fun Q1 => ?_
       refine o_alloc hf hh Try.ze_31 ?_; clear hf hh a; intro B8 a w hf hh
       refine ops_end ?_
       refine then_n ⟨⟨fun _ _ => (hh.less (.cons _ (.cons _ (.cons _ (List.Sublist.refl _))))), trivial⟩, ?_⟩
       refine mc_e rfl fun Q1 => ?_
       refine o_store hf hh Try.sz_31 fun w hh => ?_
       refine ops_end ?_
       refine then_n ⟨⟨fun _ _ => (hh.less (.cons _ (.cons _ (.cons _ (List.Sublist.refl _))))), trivial⟩, ?_⟩
       refine mc_e rfl fun Q1 => ?_
       refine o_store hf hh Try.sz_31 fun w hh => ?_
       refine ops_end ?_
       refine then_n ⟨⟨fun _ _ => (hh.less (.cons _ (.cons _ (.cons _ (List.Sublist.refl _))))), trivial⟩, ?_⟩
       refine mc_e rfl fun Q1 => ?_
       refine o_store hf hh Try.sz_31 fun w hh => ?_
       refine ops_end ?_
       refine then_n ⟨⟨fun _ _ => (hh.less (.cons _ (.cons _ (.cons _ (List.Sublist.refl _))))), trivial⟩, ?_⟩
       refine mc_end ?_
       refine then_n ?_
       exact ⟨(B7, B8, B9), (by first | exact hh | exact hh.perm (.swap _ _ _) | exact hh.perm (.cons _ (.swap _ _ _)) | exact hh.perm ((List.Perm.swap _ _ _).trans (.cons _ (.swap _ _ _))) | exact hh.perm ((List.Perm.cons _ (.swap _ _ _)).trans (.swap _ _ _)) | exact hh.perm ((List.Perm.swap _ _ _).trans ((List.Perm.cons _ (.swap _ _ _)).trans (.swap _ _ _)))), hf.head ⟨rfl, rfl, rfl, True.intro⟩ (Keep.cons rfl (Keep.cons rfl (Keep.cons rfl (Keep.cons rfl (Keep.cons rfl (Keep.cons rfl (Keep.base)))))))⟩
     ·refine mc_e rfl fun Q1 => ?_
      refine o_alloc hf hh Try.ze_31 ?_; clear hf hh a; intro B8 a w hf hh
      refine ops_end ?_
      refine then_n ⟨⟨fun _ _ => (hh.less (.cons _ (List.Sublist.refl _))), trivial⟩, ?_⟩
      refine ⟨?_, ?_⟩
      ·refine mc_e rfl fun Q1 => ?_
       refine o_alloc hf hh Try.ze_31 ?_; clear hf hh a; intro B7 a w hf hh
       refine ops_end ?_
       refine then_n ⟨⟨fun _ _ => (hh.less (.cons _ (.cons _ (List.Sublist.refl _)))), trivial⟩, ?_⟩
       refine mc_e rfl fun Q1 => ?_
       refine o_alloc hf hh Try.ze_31 ?_; clear hf hh a; intro B9 a w hf hh
       refine ops_end ?_
       refine then_n ⟨⟨fun _ _ => (hh.less (.cons _ (.cons _ (.cons _ (List.Sublist.refl _))))), trivial⟩, ?_⟩
       refine mc_e rfl fun Q1 => ?_
       refine o_store hf hh Try.sz_31 fun w hh => ?_
       refine ops_end ?_
       refine then_n ⟨⟨fun _ _ => (hh.less (.cons _ (.cons _ (.cons _ (List.Sublist.refl _))))), trivial⟩, ?_⟩
       refine mc_e rfl fun Q1 => ?_
       refine o_store hf hh Try.sz_31 fun w hh => ?_
       refine ops_end ?_
       refine then_n ⟨⟨fun _ _ => (hh.less (.cons _ (.cons _ (.cons _ (List.Sublist.refl _))))), trivial⟩, ?_⟩
       refine mc_e rfl fun Q1 => ?_
       refine o_store hf hh Try.sz_31 fun w hh => ?_
       refine ops_end ?_
       refine then_n ⟨⟨fun _ _ => (hh.less (.cons _ (.cons _ (.cons _ (List.Sublist.refl _))))), trivial⟩, ?_⟩
       refine mc_end ?_
       refine then_n ?_
       exact ⟨(B7, B8, B9), (by first | exact hh | exact hh.perm (.swap _ _ _) | exact hh.perm (.cons _ (.swap _ _ _)) | exact hh.perm ((List.Perm.swap _ _ _).trans (.cons _ (.swap _ _ _))) | exact hh.perm ((List.Perm.cons _ (.swap _ _ _)).trans (.swap _ _ _)) | exact hh.perm ((List.Perm.swap _ _ _).trans ((List.Perm.cons _ (.swap _ _ _)).trans (.swap _ _ _)))), hf.head ⟨rfl, rfl, rfl, True.intro⟩ (Keep.cons rfl (Keep.cons rfl (Keep.cons rfl (Keep.cons rfl (Keep.cons rfl (Keep.cons rfl (Keep.base)))))))⟩
      ·refine mc_e rfl fun Q1 => ?_
       refine o_alloc hf hh Try.ze_31 ?_; clear hf hh a; intro B9 a w hf hh
       refine ops_end ?_
       refine then_n ⟨⟨fun _ _ => (hh.less (.cons _ (.cons _ (List.Sublist.refl _)))), trivial⟩, ?_⟩
       refine mc_e rfl fun Q1 => ?_
       refine o_alloc hf hh Try.ze_31 ?_; clear hf hh a; intro B7 a w hf hh
       refine ops_end ?_
       refine then_n ⟨⟨fun _ _ => (hh.less (.cons _ (.cons _ (.cons _ (List.Sublist.refl _))))), trivial⟩, ?_⟩
       refine mc_e rfl fun Q1 => ?_
       refine o_store hf hh Try.sz_31 fun w hh => ?_
       refine ops_end ?_
       refine then_n ⟨⟨fun _ _ => (hh.less (.cons _ (.cons _ (.cons _ (List.Sublist.refl _))))), trivial⟩, ?_⟩
       refine mc_e rfl fun Q1 => ?_
       refine o_store hf hh Try.sz_31 fun w hh => ?_
       refine ops_end ?_
       refine then_n ⟨⟨fun _ _ => (hh.less (.cons _ (.cons _ (.cons _ (List.Sublist.refl _))))), trivial⟩, ?_⟩
       refine mc_e rfl fun Q1 => ?_
       refine o_store hf hh Try.sz_31 fun w hh => ?_
       refine ops_end ?_
       refine then_n ⟨⟨fun _ _ => (hh.less (.cons _ (.cons _ (.cons _ (List.Sublist.refl _))))), trivial⟩, ?_⟩
       refine mc_end ?_
       refine then_n ?_
       exact ⟨(B7, B8, B9), (by first | exact hh | exact hh.perm (.swap _ _ _) | exact hh.perm (.cons _ (.swap _ _ _)) | exact hh.perm ((List.Perm.swap _ _ _).trans (.cons _ (.swap _ _ _))) | exact hh.perm ((List.Perm.cons _ (.swap _ _ _)).trans (.swap _ _ _)) | exact hh.perm ((List.Perm.swap _ _ _).trans ((List.Perm.cons _ (.swap _ _ _)).trans (.swap _ _ _)))), hf.head ⟨rfl, rfl, rfl, True.intro⟩ (Keep.cons rfl (Keep.cons rfl (Keep.cons rfl (Keep.cons rfl (Keep.cons rfl (Keep.cons rfl (Keep.base)))))))⟩
     ·refine mc_e rfl fun Q1 => ?_
      refine o_alloc hf hh Try.ze_31 ?_; clear hf hh a; intro B9 a w hf hh
      refine ops_end ?_
      refine then_n ⟨⟨fun _ _ => (hh.less (.cons _ (List.Sublist.refl _))), trivial⟩, ?_⟩
      refine ⟨?_, ?_⟩
      ·refine mc_e rfl fun Q1 => ?_
       refine o_alloc hf hh Try.ze_31 ?_; clear hf hh a; intro B7 a w hf hh
       refine ops_end ?_
       refine then_n ⟨⟨fun _ _ => (hh.less (.cons _ (.cons _ (List.Sublist.refl _)))), trivial⟩, ?_⟩
       refine mc_e rfl fun Q1 => ?_
       refine o_alloc hf hh Try.ze_31 ?_; clear hf hh a; intro B8 a w hf hh
       refine ops_end ?_
       refine then_n ⟨⟨fun _ _ => (hh.less (.cons _ (.cons _ (.cons _ (List.Sublist.refl _))))), trivial⟩, ?_⟩
       refine mc_e rfl fun Q1 => ?_
       refine o_store hf hh Try.sz_31 fun w hh => ?_
       refine ops_end ?_
       refine then_n ⟨⟨fun _ _ => (hh.less (.cons _ (.cons _ (.cons _ (List.Sublist.refl _))))), trivial⟩, ?_⟩
       refine mc_e rfl fun Q1 => ?_
       refine o_store hf hh Try.sz_31 fun w hh => ?_
       refine ops_end ?_
       refine then_n ⟨⟨fun _ _ => (hh.less (.cons _ (.cons _ (.cons _ (List.Sublist.refl _))))), trivial⟩, ?_⟩
       refine mc_e rfl fun Q1 => ?_
       refine o_store hf hh Try.sz_31 fun w hh => ?_
       refine ops_end ?_
       refine then_n ⟨⟨fun _ _ => (hh.less (.cons _ (.cons _ (.cons _ (List.Sublist.refl _))))), trivial⟩, ?_⟩
       refine mc_end ?_
       refine then_n ?_
       exact ⟨(B7, B8, B9), (by first | exact hh | exact hh.perm (.swap _ _ _) | exact hh.perm (.cons _ (.swap _ _ _)) | exact hh.perm ((List.Perm.swap _ _ _).trans (.cons _ (.swap _ _ _))) | exact hh.perm ((List.Perm.cons _ (.swap _ _ _)).trans (.swap _ _ _)) | exact hh.perm ((List.Perm.swap _ _ _).trans ((List.Perm.cons _ (.swap _ _ _)).trans (.swap _ _ _)))), hf.head ⟨rfl, rfl, rfl, True.intro⟩ (Keep.cons rfl (Keep.cons rfl (Keep.cons rfl (Keep.cons rfl (Keep.cons rfl (Keep.cons rfl (Keep.base)))))))⟩
      ·refine mc_e rfl fun Q1 => ?_
       refine o_alloc hf hh Try.ze_31 ?_; clear hf hh a; intro B8 a w hf hh
       refine ops_end ?_
       refine then_n ⟨⟨fun _ _ => (hh.less (.cons _ (.cons _ (List.Sublist.refl _)))), trivial⟩, ?_⟩
       refine mc_e rfl fun Q1 => ?_
       refine o_alloc hf hh Try.ze_31 ?_; clear hf hh a; intro B7 a w hf hh
       refine ops_end ?_
       refine then_n ⟨⟨fun _ _ => (hh.less (.cons _ (.cons _ (.cons _ (List.Sublist.refl _))))), trivial⟩, ?_⟩
       refine mc_e rfl fun Q1 => ?_
       refine o_store hf hh Try.sz_31 fun w hh => ?_
       refine ops_end ?_
       refine then_n ⟨⟨fun _ _ => (hh.less (.cons _ (.cons _ (.cons _ (List.Sublist.refl _))))), trivial⟩, ?_⟩
       refine mc_e rfl fun Q1 => ?_
       refine o_store hf hh Try.sz_31 fun w hh => ?_
       refine ops_end ?_
       refine then_n ⟨⟨fun _ _ => (hh.less (.cons _ (.cons _ (.cons _ (List.Sublist.refl _))))), trivial⟩, ?_⟩
       refine mc_e rfl fun Q1 => ?_
       refine o_store hf hh Try.sz_31 fun w hh => ?_
       refine ops_end ?_
       refine then_n ⟨⟨fun _ _ => (hh.less (.cons _ (.cons _ (.cons _ (List.Sublist.refl _))))), trivial⟩, ?_⟩
       refine mc_end ?_
       refine then_n ?_
       exact ⟨(B7, B8, B9), (by first | exact hh | exact hh.perm (.swap _ _ _) | exact hh.perm (.cons _ (.swap _ _ _)) | exact hh.perm ((List.Perm.swap _ _ _).trans (.cons _ (.swap _ _ _))) | exact hh.perm ((List.Perm.cons _ (.swap _ _ _)).trans (.swap _ _ _)) | exact hh.perm ((List.Perm.swap _ _ _).trans ((List.Perm.cons _ (.swap _ _ _)).trans (.swap _ _ _)))), hf.head ⟨rfl, rfl, rfl, True.intro⟩ (Keep.cons rfl (Keep.cons rfl (Keep.cons rfl (Keep.cons rfl (Keep.cons rfl (Keep.cons rfl (Keep.base)))))))⟩
    ·rintro q a w hh hf
     have hok : okCan d p = true := by assumption
     obtain ⟨hV, hp0, hp3⟩ := okCan_valid hok
     have hnl := hV.nl; have hnr := hV.nr; have hh1 := hV.h1; have hh2 := hV.h2
     obtain ⟨B7, B8, B9⟩ := q
     simp only at hh hf
     have hM1 := more_p hok
     have hM2 := more_h hok
     obtain ⟨p1, hp1⟩ : ∃ z, z = min 3 (p + 1) := ⟨_, rfl⟩
     obtain ⟨dH, hdH⟩ : ∃ y, y = setH d (min 20 (d.hid + 1)) := ⟨_, rfl⟩
     rw [← hp1] at hM1; rw [← hdH] at hM2
     refine sy_sq ?_
     refine o_v hf hh (yv_fieldAddr Try.fo_31_1 rfl) ?_; clear hf a; intro a hf
     refine o_v hf hh (y_ld Try.sc_3 rfl) ?_; clear hf a; intro a hf
     refine o_v hf hh (y_add rfl rfl) ?_; clear hf a; intro a hf
     refine o_v hf hh (yv_min rfl rfl) ?_; clear hf a; intro a hf
     refine o_v hf hh (yv_fieldAddr Try.fo_31_1 rfl) ?_; clear hf a; intro a hf
     refine o_store hf hh Try.sz_3 fun w hh => ?_
     refine o_v hf hh (yv_fieldAddr Try.fo_31_1 rfl) ?_; clear hf a; intro a hf
     refine o_store hf hh Try.sz_3 fun w hh => ?_
     refine o_end ?_
     refine sy_sq ?_
     refine o_v hf hh (yv_fieldAddr Try.fo_31_0 rfl) ?_; clear hf a; intro a hf
     refine o_v hf hh (yv_fieldAddr Try.fo_29_3 rfl) ?_; clear hf a; intro a hf
     refine o_v hf hh (y_ld Try.sc_3 rfl) ?_; clear hf a; intro a hf
     refine o_v hf hh (y_add rfl rfl) ?_; clear hf a; intro a hf
     refine o_v hf hh (yv_min rfl rfl) ?_; clear hf a; intro a hf
     refine o_v hf hh (yv_fieldAddr Try.fo_31_0 rfl) ?_; clear hf a; intro a hf
     refine o_v hf hh (yv_fieldAddr Try.fo_29_3 rfl) ?_; clear hf a; intro a hf
     refine o_store hf hh Try.sz_3 fun w hh => ?_
     refine o_end ?_
     refine sy_seq ?_
     replace hh : Hp u [] [(B9, .cells (canV d 0 sa sb ca cb).cells 31), (B8, .cells (canV dH p sa sb ca cb).cells 31), (B7, .cells (canV d p1 sa sb ca cb).cells 31), (B3, .cells (canV d p sa sb ca cb).cells 31)] w := by rw [hdH, hp1]; exact hh
     have hw1 := pow_le_10 hnl
     have hw2 := pow_le_10 hnr
     obtain ⟨q1, hq1⟩ : ∃ q : Nat, q = 2 ^ d.l.length := ⟨_, rfl⟩
     obtain ⟨q2, hq2⟩ : ∃ q : Nat, q = 2 ^ d.r.length := ⟨_, rfl⟩
     have hr1 : 0 < q1 := hq1 ▸ Nat.two_pow_pos _
     have hr2 : 0 < q2 := hq2 ▸ Nat.two_pow_pos _
     rw [← hq1] at hw1; rw [← hq2] at hw2
     refine sy_quiet (C := Hp _ _ _) Try.follows (by kernel_rfl) (hh.drawn _) ?_
     refine oq_v hf (yv_move rfl) ?_; clear hf a; intro a hf
     refine oq_v hf (yv_fieldAddr Try.fo_31_0 rfl) ?_; clear hf a; intro a hf
     refine oq_v hf (yv_fieldAddr Try.fo_29_0 rfl) ?_; clear hf a; intro a hf
     refine oq_v hf (y_ld Try.sc_25 rfl) ?_; clear hf a; intro a hf
     refine oq_v hf (yv_len Try.se_25 rfl) ?_; clear hf a; intro a hf
     refine oq_v hf (yv_cast (yv_shl1 (.inl rfl) rfl rfl (by omega) (by omega)) (intv (b := ((q1 : Nat) : Int)) (by rw [hq1]; exact shl_one))) ?_; clear hf a; intro a hf
     refine oq_v hf (y_sub rfl rfl) ?_; clear hf a; intro a hf
     refine oq_v hf (yv_andm rfl rfl (by omega) (by simp only [IntKind.top]; omega)) ?_; clear hf a; intro a hf
     refine oq_v hf (yv_move rfl) ?_; clear hf a; intro a hf
     refine oq_v hf (yv_fieldAddr Try.fo_31_0 rfl) ?_; clear hf a; intro a hf
     refine oq_v hf (yv_fieldAddr Try.fo_29_1 rfl) ?_; clear hf a; intro a hf
     refine oq_v hf (y_ld Try.sc_25 rfl) ?_; clear hf a; intro a hf
     refine oq_v hf (yv_len Try.se_25 rfl) ?_; clear hf a; intro a hf
     refine oq_v hf (yv_cast (yv_shl1 (.inl rfl) rfl rfl (by omega) (by omega)) (intv (b := ((q2 : Nat) : Int)) (by rw [hq2]; exact shl_one))) ?_; clear hf a; intro a hf
     refine oq_v hf (y_sub rfl rfl) ?_; clear hf a; intro a hf
     refine oq_v hf (yv_andm rfl rfl (by omega) (by simp only [IntKind.top]; omega)) ?_; clear hf a; intro a hf
     refine oq_v hf (yv_assign rfl) ?_; clear hf a; intro a hf
     refine oq_v hf (yv_assign rfl) ?_; clear hf a; intro a hf
     refine q_end fun w hh => ?_
     refine then_n ?_
     refine sy_seq ?_
     have hx1 := andm_le l ((q1 : Int) - 1) (by omega)
     have hy1 := andm_le r ((q2 : Int) - 1) (by omega)
     obtain ⟨x, hxd⟩ : ∃ z, z = andm l ((q1 : Int) - 1) := ⟨_, rfl⟩
     obtain ⟨y, hyd⟩ : ∃ z, z = andm r ((q2 : Int) - 1) := ⟨_, rfl⟩
     rw [← hxd] at hf hx1; rw [← hyd] at hf hy1
     have hask : askS d x y = true := by
       unfold askS inS
       rw [← hq1, ← hq2, decide_eq_true hx1, decide_eq_true hy1, decide_eq_true (Int.natCast_nonneg x), decide_eq_true (Int.natCast_nonneg y)]
       rfl
     have hE0 := fitsCE_0 hok hask
     have hC0 := casesE_ok hok
     refine sy_ops ?_
     refine o_v hf hh (y_lds Try.ag_31 rfl) ?_; clear hf a; intro a hf
     refine o_v hf hh (yv_move rfl) ?_; clear hf a; intro a hf
     refine o_v hf hh (yv_move rfl) ?_; clear hf a; intro a hf
     refine o_call hf Try.en_10 rfl rfl rfl (p10 d p sa sb ca cb _ (hA.ext hh.ext) (hB.ext hh.ext) x y) ?_; clear hf a; intro v a w hR hf
     obtain ⟨rfl, hx⟩ := hR; replace hh := hh.more hx; clear hx
     refine o_v hf hh (yv_move rfl) ?_; clear hf a; intro a hf
     refine o_v hf hh (yv_extract rfl rfl) ?_; clear hf a; intro a hf
     refine o_v hf hh (yv_extract rfl rfl) ?_; clear hf a; intro a hf
     refine o_v hf hh (yv_assign rfl) ?_; clear hf a; intro a hf
     refine o_v hf hh (yv_assign rfl) ?_; clear hf a; intro a hf
     refine o_end ?_
     refine sy_sq ?_
     refine o_v hf hh (y_lds Try.ag_31 rfl) ?_; clear hf a; intro a hf
     refine o_call hf Try.en_12 rfl rfl rfl (p12 d p sa sb ca cb _ (hA.ext hh.ext) (hB.ext hh.ext)) ?_; clear hf a; intro v a w hR hf
     obtain ⟨rfl, hx⟩ := hR; replace hh := hh.more hx; clear hx
     refine o_v hf hh (yv_move rfl) ?_; clear hf a; intro a hf
     refine o_v hf hh (yv_extract rfl rfl) ?_; clear hf a; intro a hf
     refine o_v hf hh (yv_extract rfl rfl) ?_; clear hf a; intro a hf
     refine o_v hf hh (yv_assign rfl) ?_; clear hf a; intro a hf
     refine o_v hf hh (yv_assign rfl) ?_; clear hf a; intro a hf
     refine o_end ?_
     refine sy_sq ?_
     refine o_v hf hh (y_lds Try.ag_31 rfl) ?_; clear hf a; intro a hf
     refine o_call hf Try.en_20 rfl rfl rfl (p20 d p sa sb ca cb _ (hA.ext hh.ext) (hB.ext hh.ext)) ?_; clear hf a; intro v a w hR hf
     obtain ⟨rfl, hx⟩ := hR; replace hh := hh.more hx; clear hx
     refine o_v hf hh (yv_move rfl) ?_; clear hf a; intro a hf
     refine o_v hf hh (yv_extract rfl rfl) ?_; clear hf a; intro a hf
     refine o_v hf hh (yv_extract rfl rfl) ?_; clear hf a; intro a hf
     refine o_v hf hh (yv_extract rfl rfl) ?_; clear hf a; intro a hf
     refine o_v hf hh (yv_assign rfl) ?_; clear hf a; intro a hf
     refine o_v hf hh (yv_assign rfl) ?_; clear hf a; intro a hf
     refine o_v hf hh (yv_assign rfl) ?_; clear hf a; intro a hf
     refine o_end ?_
     refine sy_sq ?_
     refine o_v hf hh (y_lds Try.ag_31 rfl) ?_; clear hf a; intro a hf
     refine o_call hf Try.en_15 rfl rfl rfl (p15 d p sa sb ca cb _ (hA.ext hh.ext) (hB.ext hh.ext)) ?_; clear hf a; intro v a w hR hf
     obtain ⟨rfl, hx⟩ := hR; replace hh := hh.more hx; clear hx
     refine o_v hf hh (yv_move rfl) ?_; clear hf a; intro a hf
     refine o_v hf hh (yv_extract rfl rfl) ?_; clear hf a; intro a hf
     refine o_v hf hh (yv_extract rfl rfl) ?_; clear hf a; intro a hf
     refine o_v hf hh (yv_extract rfl rfl) ?_; clear hf a; intro a hf
     refine o_v hf hh (yv_assign rfl) ?_; clear hf a; intro a hf
     refine o_v hf hh (yv_assign rfl) ?_; clear hf a; intro a hf
     refine o_v hf hh (yv_assign rfl) ?_; clear hf a; intro a hf
     refine o_end ?_
     refine sy_seq ?_
     refine sy_sq ?_
     refine o_v hf hh (yv_move rfl) ?_; clear hf a; intro a hf
     refine o_v hf hh (yv_bin rfl rfl rfl) ?_; clear hf a; intro a hf
     refine o_v hf hh (yv_move rfl) ?_; clear hf a; intro a hf
     refine o_v hf hh (yv_move rfl) ?_; clear hf a; intro a hf
     refine o_v hf hh (yv_bin rfl rfl rfl) ?_; clear hf a; intro a hf
     refine o_v hf hh (y_pf rfl rfl) ?_; clear hf a; intro a hf
     refine o_end ?_
     refine c_f hf ?_
     refine sy_skip ?_
     refine then_n ?_
     refine sy_seq ?_
     refine sy_seq ?_
     obtain ⟨hs1, hs2, hs3, hs4⟩ := joinV_lt (p := p) hV
     have hpick := fun j hj => pickC2 (sa := sa) (sb := sb) (ca := ca) (cb := cb) hM1 hM2 j hj
     refine sy_ops ?_
     refine o_v hf hh (y_lds Try.ag_31 rfl) ?_; clear hf a; intro a hf
     refine o_v hf hh (y_lds Try.ag_31 rfl) ?_; clear hf a; intro a hf
     refine ops_buildSl hf hh Try.bl_63_2 rfl rfl (.inl rfl) rfl ?_; clear hf hh; clear a; intro B108 a w hf hh
     refine o_v hf hh (yv_len Try.se_63 rfl) ?_; clear hf a; intro a hf
     refine o_v hf hh (yv_move rfl) ?_; clear hf a; intro a hf
     refine o_end ?_
     refine sy_block ?_
     refine sy_loopH (σ := Nat) [6, 21, 22, 23, 24, 25, 26, 27, 28, 29, 30, 31, 110, 111, 112, 113, 114, 115, 116, 117, 118, 119, 120, 121, 122, 123, 124, 125, 126, 127, 128, 129, 130, 131, 132, 133, 134, 135, 136, 137, 138, 139, 140, 141, 142, 143, 144, 145, 146, 147, 148, 149, 150, 151, 152, 153, 154, 155, 156, 157, 158, 159, 160, 161, 162, 163, 164, 165, 166, 167, 168, 169, 170, 171, 172, 173, 174, 175, 176, 177, 178, 179, 180, 181, 182, 183, 184, 185, 186, 187, 188] (fun j => [(110, .int .i64 j)]) (fun j => fun w' => j ≤ 2 ∧ Hp u [] [(B108, .cells #[.slice sa d.l.length ca, .slice sb d.r.length cb, .int .i64 d.lo, .int .i64 d.hi, .int .i64 d.hid, .int .i64 p1, .slice sa dH.l.length ca, .slice sb dH.r.length cb, .int .i64 dH.lo, .int .i64 dH.hi, .int .i64 dH.hid, .int .i64 p] 31), (B9, .cells (canV d 0 sa sb ca cb).cells 31), (B8, .cells (canV dH p sa sb ca cb).cells 31), (B7, .cells (canV d p1 sa sb ca cb).cells 31), (B3, .cells (canV d p sa sb ca cb).cells 31)] w') (fun j => 2 - j) (0) hf ?_ ?_ ?_
     · repeat' (first | exact True.intro | refine And.intro rfl ?_)
     · exact ⟨Nat.zero_le _, hh⟩
     ·rintro j a w ⟨hj, hh⟩ hf
      refine sy_sq ?_
      refine o_v hf hh (yv_bin rfl rfl rfl) ?_; clear hf a; intro a hf
      refine o_end ?_
      refine sy_seq ?_
      refine sy_cond hf rfl (fun hg28 => ?_) (fun hg28 => ?_)
      ·have hG28 := hg28; try simp only [gS] at hG28
       refine sy_skip ?_
       refine then_n ?_
       refine sy_seq ?_
       refine sy_block ?_
       refine sy_seq ?_
       obtain ⟨e, q, hcx, hM⟩ := hpick j (by omega)
       have hAe : MkAt u sa e.l := hM.l ▸ hA
       have hBe : MkAt u sb e.r := hM.r ▸ hB
       obtain ⟨hFE, hfits⟩ := hM.fits hE0
       have hCE := casesE_ok hM.ok
       have hCn := hM.cases hok
       obtain ⟨hVe, hq0, hq3⟩ := okCan_valid hM.ok
       refine sy_ops ?_
       refine o_v hf hh (y_ix Try.se_63 rfl rfl) ?_; clear hf a; intro a hf
       refine o_v hf hh (y_lds Try.ag_31 rfl) ?_; clear hf a; intro a hf
       refine o_alloc hf hh Try.ze_31 ?_; clear hf hh a; intro B21 a w hf hh
       refine o_store hf hh Try.sz_31 fun w hh => ?_
       refine o_end ?_
       refine sy_seq ?_
       replace hh : Hp u [] [(B21, .cells (canV e q sa sb ca cb).cells 31), (B108, .cells #[.slice sa d.l.length ca, .slice sb d.r.length cb, .int .i64 d.lo, .int .i64 d.hi, .int .i64 d.hid, .int .i64 p1, .slice sa dH.l.length ca, .slice sb dH.r.length cb, .int .i64 dH.lo, .int .i64 dH.hi, .int .i64 dH.hid, .int .i64 p] 31), (B9, .cells (canV d 0 sa sb ca cb).cells 31), (B8, .cells (canV dH p sa sb ca cb).cells 31), (B7, .cells (canV d p1 sa sb ca cb).cells 31), (B3, .cells (canV d p sa sb ca cb).cells 31)] w := hh
       refine sy_ops ?_
       refine o_v hf hh (y_lds Try.ag_31 rfl) ?_; clear hf a; intro a hf
       refine o_v hf hh (yv_move rfl) ?_; clear hf a; intro a hf
       refine o_v hf hh (yv_move rfl) ?_; clear hf a; intro a hf
       refine o_call hf Try.en_10 rfl rfl rfl (p10 e q sa sb ca cb _ (hAe.ext hh.ext) (hBe.ext hh.ext) x y) ?_; clear hf a; intro v a w hR hf
       obtain ⟨rfl, hx⟩ := hR; replace hh := hh.more hx; clear hx
       refine o_v hf hh (yv_move rfl) ?_; clear hf a; intro a hf
       refine o_v hf hh (yv_extract rfl rfl) ?_; clear hf a; intro a hf
       refine o_v hf hh (yv_extract rfl rfl) ?_; clear hf a; intro a hf
       refine o_v hf hh (yv_assign rfl) ?_; clear hf a; intro a hf
       refine o_v hf hh (yv_assign rfl) ?_; clear hf a; intro a hf
       refine o_end ?_
       refine sy_sq ?_
       refine o_v hf hh (y_lds Try.ag_31 rfl) ?_; clear hf a; intro a hf
       refine o_call hf Try.en_12 rfl rfl rfl (p12 e q sa sb ca cb _ (hAe.ext hh.ext) (hBe.ext hh.ext)) ?_; clear hf a; intro v a w hR hf
       obtain ⟨rfl, hx⟩ := hR; replace hh := hh.more hx; clear hx
       refine o_v hf hh (yv_move rfl) ?_; clear hf a; intro a hf
       refine o_v hf hh (yv_extract rfl rfl) ?_; clear hf a; intro a hf
       refine o_v hf hh (yv_extract rfl rfl) ?_; clear hf a; intro a hf
       refine o_v hf hh (yv_assign rfl) ?_; clear hf a; intro a hf
       refine o_v hf hh (yv_assign rfl) ?_; clear hf a; intro a hf
       refine o_end ?_
       refine sy_seq ?_
       refine sy_sq ?_
       refine o_v hf hh (yv_move rfl) ?_; clear hf a; intro a hf
       refine o_v hf hh (yv_bin rfl rfl rfl) ?_; clear hf a; intro a hf
       refine o_v hf hh (yv_move rfl) ?_; clear hf a; intro a hf
       refine o_v hf hh (yv_move rfl) ?_; clear hf a; intro a hf
       refine o_v hf hh (yv_move rfl) ?_; clear hf a; intro a hf
       refine guard_split hf (t := 130) rfl (fun hg36 => ?_) (fun hg36 => ?_)
       ·have hG36 := hg36; try simp only [gS] at hG36
        have hf9 := hfits (by assumption)
        refine o_v hf hh (yv_move rfl) ?_; clear hf a; intro a hf
        refine o_v hf hh (yv_not rfl) ?_; clear hf a; intro a hf
        refine o_v hf hh (y_pt rfl rfl) ?_; clear hf a; intro a hf
        refine o_v hf hh (y_pf rfl rfl) ?_; clear hf a; intro a hf
        refine o_v hf hh (yv_move rfl) ?_; clear hf a; intro a hf
        refine o_v hf hh (yv_move rfl) ?_; clear hf a; intro a hf
        refine o_v hf hh (yv_bin rfl rfl rfl) ?_; clear hf a; intro a hf
        refine o_v hf hh (y_pf rfl rfl) ?_; clear hf a; intro a hf
        refine o_v hf hh (yv_move rfl) ?_; clear hf a; intro a hf
        refine o_v hf hh (yv_move rfl) ?_; clear hf a; intro a hf
        refine o_v hf hh (yv_move rfl) ?_; clear hf a; intro a hf
        refine o_v hf hh (yv_bin rfl rfl rfl) ?_; clear hf a; intro a hf
        refine o_v hf hh (y_pf rfl rfl) ?_; clear hf a; intro a hf
        refine o_end ?_
        refine c_f hf ?_
        refine sy_skip ?_
        refine then_n ?_
        refine sy_seq ?_
        refine sy_sq ?_
        refine o_v hf hh (yv_move rfl) ?_; clear hf a; intro a hf
        refine o_v hf hh (yv_bin rfl rfl rfl) ?_; clear hf a; intro a hf
        refine o_end ?_
        refine sy_cond hf rfl (fun hg40 => ?_) (fun hg40 => ?_)
        ·have hG40 := hg40; try simp only [gS] at hG40
         refine sy_exit ?_
         refine then_e ?_
         refine blk_e ?_
         refine then_n ?_
         refine sy_ops ?_
         refine o_v hf hh (y_add rfl rfl) ?_; clear hf a; intro a hf
         refine o_v hf hh (yv_move rfl) ?_; clear hf a; intro a hf
         refine ops_end ?_
         refine then_n ?_
         exact ⟨j + 1, ⟨⟨by omega, hh.less (.cons _ (.refl _))⟩, hf.head ⟨rfl, True.intro⟩ (Keep.cons rfl (Keep.cons rfl (Keep.cons rfl (Keep.cons rfl (Keep.cons rfl (Keep.cons rfl (Keep.cons rfl (Keep.cons rfl (Keep.cons rfl (Keep.cons rfl (Keep.cons rfl (Keep.cons rfl (Keep.cons rfl (Keep.cons rfl (Keep.cons rfl (Keep.cons rfl (Keep.cons rfl (Keep.cons rfl (Keep.cons rfl (Keep.cons rfl (Keep.cons rfl (Keep.cons rfl (Keep.cons rfl (Keep.cons rfl (Keep.cons rfl (Keep.cons rfl (Keep.cons rfl (Keep.cons rfl (Keep.cons rfl (Keep.cons rfl (Keep.cons rfl (Keep.cons rfl (Keep.cons rfl (Keep.cons rfl (Keep.cons rfl (Keep.cons rfl (Keep.cons rfl (Keep.cons rfl (Keep.cons rfl (Keep.cons rfl (Keep.cons rfl (Keep.cons rfl (Keep.app rfl (Keep.rm rfl Keep.base))))))))))))))))))))))))))))))))))))))))))))⟩, by omega⟩
        ·have hG40 := hg40; try simp only [gS] at hG40
         refine sy_skip ?_
         refine then_n ?_
         refine sy_seq ?_
         have hgd : gatE d p = 0 := by omega
         have hge := hM.gat hok hgd
         obtain ⟨hc1, hc2⟩ := hM.can hok hgd
         obtain ⟨hd1, hd2⟩ := hM.sure hok hgd
         obtain ⟨ht1, ht2, ht3, ht4⟩ := joinV_lt (p := q) hVe
         refine sy_ops ?_
         refine o_v hf hh (y_lds Try.ag_31 rfl) ?_; clear hf a; intro a hf
         refine o_call hf Try.en_20 rfl rfl rfl (p20 e q sa sb ca cb _ (hAe.ext hh.ext) (hBe.ext hh.ext)) ?_; clear hf a; intro v a w hR hf
         obtain ⟨rfl, hx⟩ := hR; replace hh := hh.more hx; clear hx
         refine o_v hf hh (yv_move rfl) ?_; clear hf a; intro a hf
         refine o_v hf hh (yv_extract rfl rfl) ?_; clear hf a; intro a hf
         refine o_v hf hh (yv_extract rfl rfl) ?_; clear hf a; intro a hf
         refine o_v hf hh (yv_extract rfl rfl) ?_; clear hf a; intro a hf
         refine o_v hf hh (yv_assign rfl) ?_; clear hf a; intro a hf
         refine o_v hf hh (yv_assign rfl) ?_; clear hf a; intro a hf
         refine o_v hf hh (yv_assign rfl) ?_; clear hf a; intro a hf
         refine o_end ?_
         refine sy_sq ?_
         refine o_v hf hh (y_lds Try.ag_31 rfl) ?_; clear hf a; intro a hf
         refine o_call hf Try.en_15 rfl rfl rfl (p15 e q sa sb ca cb _ (hAe.ext hh.ext) (hBe.ext hh.ext)) ?_; clear hf a; intro v a w hR hf
         obtain ⟨rfl, hx⟩ := hR; replace hh := hh.more hx; clear hx
         refine o_v hf hh (yv_move rfl) ?_; clear hf a; intro a hf
         refine o_v hf hh (yv_extract rfl rfl) ?_; clear hf a; intro a hf
         refine o_v hf hh (yv_extract rfl rfl) ?_; clear hf a; intro a hf
         refine o_v hf hh (yv_extract rfl rfl) ?_; clear hf a; intro a hf
         refine o_v hf hh (yv_assign rfl) ?_; clear hf a; intro a hf
         refine o_v hf hh (yv_assign rfl) ?_; clear hf a; intro a hf
         refine o_v hf hh (yv_assign rfl) ?_; clear hf a; intro a hf
         refine o_end ?_
         refine sy_sq ?_
         refine o_v hf hh (yv_move rfl) ?_; clear hf a; intro a hf
         refine o_v hf hh (yv_bin rfl rfl rfl) ?_; clear hf a; intro a hf
         refine o_v hf hh (yv_move rfl) ?_; clear hf a; intro a hf
         refine o_v hf hh (yv_move rfl) ?_; clear hf a; intro a hf
         refine o_v hf hh (yv_bin rfl rfl rfl) ?_; clear hf a; intro a hf
         refine o_v hf hh (y_pf rfl rfl) ?_; clear hf a; intro a hf
         refine o_v hf hh (yv_move rfl) ?_; clear hf a; intro a hf
         refine o_v hf hh (yv_move rfl) ?_; clear hf a; intro a hf
         refine o_v hf hh (yv_move rfl) ?_; clear hf a; intro a hf
         refine o_v hf hh (yv_cast (yv_andn (.inl rfl) rfl rfl (by omega) (by simp only [IntKind.top]; omega) (by omega) (by simp only [IntKind.top]; omega)) (intv (b := 0) (by rw [Int.toNat_natCast, Int.toNat_natCast, andn_none hc1]; rfl))) ?_; clear hf a; intro a hf
         refine o_v hf hh (yv_bin rfl rfl rfl) ?_; clear hf a; intro a hf
         refine o_v hf hh (y_pf rfl rfl) ?_; clear hf a; intro a hf
         refine o_v hf hh (yv_move rfl) ?_; clear hf a; intro a hf
         refine o_v hf hh (yv_move rfl) ?_; clear hf a; intro a hf
         refine o_v hf hh (yv_move rfl) ?_; clear hf a; intro a hf
         refine o_v hf hh (yv_cast (yv_andn (.inl rfl) rfl rfl (by omega) (by simp only [IntKind.top]; omega) (by omega) (by simp only [IntKind.top]; omega)) (intv (b := 0) (by rw [Int.toNat_natCast, Int.toNat_natCast, andn_none hc2]; rfl))) ?_; clear hf a; intro a hf
         refine o_v hf hh (yv_bin rfl rfl rfl) ?_; clear hf a; intro a hf
         refine o_v hf hh (y_pf rfl rfl) ?_; clear hf a; intro a hf
         refine o_v hf hh (yv_move rfl) ?_; clear hf a; intro a hf
         refine o_v hf hh (yv_move rfl) ?_; clear hf a; intro a hf
         refine o_v hf hh (yv_move rfl) ?_; clear hf a; intro a hf
         refine o_v hf hh (yv_cast (yv_andn (.inl rfl) rfl rfl (by omega) (by simp only [IntKind.top]; omega) (by omega) (by simp only [IntKind.top]; omega)) (intv (b := 0) (by rw [Int.toNat_natCast, Int.toNat_natCast, andn_none hd1]; rfl))) ?_; clear hf a; intro a hf
         refine o_v hf hh (yv_bin rfl rfl rfl) ?_; clear hf a; intro a hf
         refine o_v hf hh (y_pf rfl rfl) ?_; clear hf a; intro a hf
         refine o_v hf hh (yv_move rfl) ?_; clear hf a; intro a hf
         refine o_v hf hh (yv_move rfl) ?_; clear hf a; intro a hf
         refine o_v hf hh (yv_move rfl) ?_; clear hf a; intro a hf
         refine o_v hf hh (yv_cast (yv_andn (.inl rfl) rfl rfl (by omega) (by simp only [IntKind.top]; omega) (by omega) (by simp only [IntKind.top]; omega)) (intv (b := 0) (by rw [Int.toNat_natCast, Int.toNat_natCast, andn_none hd2]; rfl))) ?_; clear hf a; intro a hf
         refine o_v hf hh (yv_bin rfl rfl rfl) ?_; clear hf a; intro a hf
         refine o_v hf hh (y_pf rfl rfl) ?_; clear hf a; intro a hf
         refine o_end ?_
         refine c_f hf ?_
         refine sy_skip ?_
         refine blk_n ?_
         refine then_n ?_
         refine sy_ops ?_
         refine o_v hf hh (y_add rfl rfl) ?_; clear hf a; intro a hf
         refine o_v hf hh (yv_move rfl) ?_; clear hf a; intro a hf
         refine ops_end ?_
         refine then_n ?_
         exact ⟨j + 1, ⟨⟨by omega, hh.less (.cons _ (.refl _))⟩, hf.head ⟨rfl, True.intro⟩ (Keep.cons rfl (Keep.cons rfl (Keep.cons rfl (Keep.cons rfl (Keep.cons rfl (Keep.cons rfl (Keep.cons rfl (Keep.cons rfl (Keep.cons rfl (Keep.cons rfl (Keep.cons rfl (Keep.cons rfl (Keep.cons rfl (Keep.cons rfl (Keep.cons rfl (Keep.cons rfl (Keep.cons rfl (Keep.cons rfl (Keep.cons rfl (Keep.cons rfl (Keep.cons rfl (Keep.cons rfl (Keep.cons rfl (Keep.cons rfl (Keep.cons rfl (Keep.cons rfl (Keep.cons rfl (Keep.cons rfl (Keep.cons rfl (Keep.cons rfl (Keep.cons rfl (Keep.cons rfl (Keep.cons rfl (Keep.cons rfl (Keep.cons rfl (Keep.cons rfl (Keep.cons rfl (Keep.cons rfl (Keep.cons rfl (Keep.cons rfl (Keep.cons rfl (Keep.cons rfl (Keep.cons rfl (Keep.cons rfl (Keep.cons rfl (Keep.cons rfl (Keep.cons rfl (Keep.cons rfl (Keep.cons rfl (Keep.cons rfl (Keep.cons rfl (Keep.cons rfl (Keep.cons rfl (Keep.cons rfl (Keep.cons rfl (Keep.cons rfl (Keep.cons rfl (Keep.cons rfl (Keep.cons rfl (Keep.cons rfl (Keep.cons rfl (Keep.cons rfl (Keep.cons rfl (Keep.cons rfl (Keep.cons rfl (Keep.cons rfl (Keep.cons rfl (Keep.cons rfl (Keep.cons rfl (Keep.cons rfl (Keep.cons rfl (Keep.cons rfl (Keep.cons rfl (Keep.cons rfl (Keep.cons rfl (Keep.cons rfl (Keep.cons rfl (Keep.cons rfl (Keep.cons rfl (Keep.cons rfl (Keep.cons rfl (Keep.cons rfl (Keep.cons rfl (Keep.cons rfl (Keep.cons rfl (Keep.cons rfl (Keep.cons rfl (Keep.cons rfl (Keep.cons rfl (Keep.cons rfl (Keep.app rfl (Keep.rm rfl Keep.base))))))))))))))))))))))))))))))))))))))))))))))))))))))))))))))))))))))))))))))))))))))))))))⟩, by omega⟩
       ·have hG36 := hg36; try simp only [gS] at hG36
        refine o_off hf ?_; clear hf a; intro a hf
        refine o_off hf ?_; clear hf a; intro a hf
        refine o_v hf hh (y_pf rfl rfl) ?_; clear hf a; intro a hf
        refine o_v hf hh (y_pf rfl rfl) ?_; clear hf a; intro a hf
        refine o_v hf hh (yv_move rfl) ?_; clear hf a; intro a hf
        refine o_v hf hh (yv_move rfl) ?_; clear hf a; intro a hf
        refine o_v hf hh (yv_bin rfl rfl rfl) ?_; clear hf a; intro a hf
        refine o_v hf hh (y_pf rfl rfl) ?_; clear hf a; intro a hf
        refine o_v hf hh (yv_move rfl) ?_; clear hf a; intro a hf
        refine o_v hf hh (yv_move rfl) ?_; clear hf a; intro a hf
        refine o_v hf hh (yv_move rfl) ?_; clear hf a; intro a hf
        refine o_v hf hh (yv_bin rfl rfl rfl) ?_; clear hf a; intro a hf
        refine o_v hf hh (y_pf rfl rfl) ?_; clear hf a; intro a hf
        refine o_end ?_
        refine c_f hf ?_
        refine sy_skip ?_
        refine then_n ?_
        refine sy_seq ?_
        refine sy_sq ?_
        refine o_v hf hh (yv_move rfl) ?_; clear hf a; intro a hf
        refine o_v hf hh (yv_bin rfl rfl rfl) ?_; clear hf a; intro a hf
        refine o_end ?_
        refine sy_cond hf rfl (fun hg62 => ?_) (fun hg62 => ?_)
        ·have hG62 := hg62; try simp only [gS] at hG62
         refine sy_exit ?_
         refine then_e ?_
         refine blk_e ?_
         refine then_n ?_
         refine sy_ops ?_
         refine o_v hf hh (y_add rfl rfl) ?_; clear hf a; intro a hf
         refine o_v hf hh (yv_move rfl) ?_; clear hf a; intro a hf
         refine ops_end ?_
         refine then_n ?_
         exact ⟨j + 1, ⟨⟨by omega, hh.less (.cons _ (.refl _))⟩, hf.head ⟨rfl, True.intro⟩ (Keep.cons rfl (Keep.cons rfl (Keep.cons rfl (Keep.cons rfl (Keep.cons rfl (Keep.cons rfl (Keep.cons rfl (Keep.cons rfl (Keep.cons rfl (Keep.cons rfl (Keep.cons rfl (Keep.cons rfl (Keep.cons rfl (Keep.cons rfl (Keep.cons rfl (Keep.cons rfl (Keep.cons rfl (Keep.cons rfl (Keep.cons rfl (Keep.cons rfl (Keep.cons rfl (Keep.cons rfl (Keep.cons rfl (Keep.cons rfl (Keep.cons rfl (Keep.cons rfl (Keep.cons rfl (Keep.cons rfl (Keep.cons rfl (Keep.cons rfl (Keep.cons rfl (Keep.cons rfl (Keep.cons rfl (Keep.cons rfl (Keep.cons rfl (Keep.cons rfl (Keep.cons rfl (Keep.cons rfl (Keep.cons rfl (Keep.cons rfl (Keep.cons rfl (Keep.cons rfl (Keep.app rfl (Keep.rm rfl Keep.base))))))))))))))))))))))))))))))))))))))))))))⟩, by omega⟩
        ·have hG62 := hg62; try simp only [gS] at hG62
         refine sy_skip ?_
         refine then_n ?_
         refine sy_seq ?_
         have hgd : gatE d p = 0 := by omega
         have hge := hM.gat hok hgd
         obtain ⟨hc1, hc2⟩ := hM.can hok hgd
         obtain ⟨hd1, hd2⟩ := hM.sure hok hgd
         obtain ⟨ht1, ht2, ht3, ht4⟩ := joinV_lt (p := q) hVe
         refine sy_ops ?_
         refine o_v hf hh (y_lds Try.ag_31 rfl) ?_; clear hf a; intro a hf
         refine o_call hf Try.en_20 rfl rfl rfl (p20 e q sa sb ca cb _ (hAe.ext hh.ext) (hBe.ext hh.ext)) ?_; clear hf a; intro v a w hR hf
         obtain ⟨rfl, hx⟩ := hR; replace hh := hh.more hx; clear hx
         refine o_v hf hh (yv_move rfl) ?_; clear hf a; intro a hf
         refine o_v hf hh (yv_extract rfl rfl) ?_; clear hf a; intro a hf
         refine o_v hf hh (yv_extract rfl rfl) ?_; clear hf a; intro a hf
         refine o_v hf hh (yv_extract rfl rfl) ?_; clear hf a; intro a hf
         refine o_v hf hh (yv_assign rfl) ?_; clear hf a; intro a hf
         refine o_v hf hh (yv_assign rfl) ?_; clear hf a; intro a hf
         refine o_v hf hh (yv_assign rfl) ?_; clear hf a; intro a hf
         refine o_end ?_
         refine sy_sq ?_
         refine o_v hf hh (y_lds Try.ag_31 rfl) ?_; clear hf a; intro a hf
         refine o_call hf Try.en_15 rfl rfl rfl (p15 e q sa sb ca cb _ (hAe.ext hh.ext) (hBe.ext hh.ext)) ?_; clear hf a; intro v a w hR hf
         obtain ⟨rfl, hx⟩ := hR; replace hh := hh.more hx; clear hx
         refine o_v hf hh (yv_move rfl) ?_; clear hf a; intro a hf
         refine o_v hf hh (yv_extract rfl rfl) ?_; clear hf a; intro a hf
         refine o_v hf hh (yv_extract rfl rfl) ?_; clear hf a; intro a hf
         refine o_v hf hh (yv_extract rfl rfl) ?_; clear hf a; intro a hf
         refine o_v hf hh (yv_assign rfl) ?_; clear hf a; intro a hf
         refine o_v hf hh (yv_assign rfl) ?_; clear hf a; intro a hf
         refine o_v hf hh (yv_assign rfl) ?_; clear hf a; intro a hf
         refine o_end ?_
         refine sy_sq ?_
         refine o_v hf hh (yv_move rfl) ?_; clear hf a; intro a hf
         refine o_v hf hh (yv_bin rfl rfl rfl) ?_; clear hf a; intro a hf
         refine o_v hf hh (yv_move rfl) ?_; clear hf a; intro a hf
         refine o_v hf hh (yv_move rfl) ?_; clear hf a; intro a hf
         refine o_v hf hh (yv_bin rfl rfl rfl) ?_; clear hf a; intro a hf
         refine o_v hf hh (y_pf rfl rfl) ?_; clear hf a; intro a hf
         refine o_v hf hh (yv_move rfl) ?_; clear hf a; intro a hf
         refine o_v hf hh (yv_move rfl) ?_; clear hf a; intro a hf
         refine o_v hf hh (yv_move rfl) ?_; clear hf a; intro a hf
         refine o_v hf hh (yv_cast (yv_andn (.inl rfl) rfl rfl (by omega) (by simp only [IntKind.top]; omega) (by omega) (by simp only [IntKind.top]; omega)) (intv (b := 0) (by rw [Int.toNat_natCast, Int.toNat_natCast, andn_none hc1]; rfl))) ?_; clear hf a; intro a hf
         refine o_v hf hh (yv_bin rfl rfl rfl) ?_; clear hf a; intro a hf
         refine o_v hf hh (y_pf rfl rfl) ?_; clear hf a; intro a hf
         refine o_v hf hh (yv_move rfl) ?_; clear hf a; intro a hf
         refine o_v hf hh (yv_move rfl) ?_; clear hf a; intro a hf
         refine o_v hf hh (yv_move rfl) ?_; clear hf a; intro a hf
         refine o_v hf hh (yv_cast (yv_andn (.inl rfl) rfl rfl (by omega) (by simp only [IntKind.top]; omega) (by omega) (by simp only [IntKind.top]; omega)) (intv (b := 0) (by rw [Int.toNat_natCast, Int.toNat_natCast, andn_none hc2]; rfl))) ?_; clear hf a; intro a hf
         refine o_v hf hh (yv_bin rfl rfl rfl) ?_; clear hf a; intro a hf
         refine o_v hf hh (y_pf rfl rfl) ?_; clear hf a; intro a hf
         refine o_v hf hh (yv_move rfl) ?_; clear hf a; intro a hf
         refine o_v hf hh (yv_move rfl) ?_; clear hf a; intro a hf
         refine o_v hf hh (yv_move rfl) ?_; clear hf a; intro a hf
         refine o_v hf hh (yv_cast (yv_andn (.inl rfl) rfl rfl (by omega) (by simp only [IntKind.top]; omega) (by omega) (by simp only [IntKind.top]; omega)) (intv (b := 0) (by rw [Int.toNat_natCast, Int.toNat_natCast, andn_none hd1]; rfl))) ?_; clear hf a; intro a hf
         refine o_v hf hh (yv_bin rfl rfl rfl) ?_; clear hf a; intro a hf
         refine o_v hf hh (y_pf rfl rfl) ?_; clear hf a; intro a hf
         refine o_v hf hh (yv_move rfl) ?_; clear hf a; intro a hf
         refine o_v hf hh (yv_move rfl) ?_; clear hf a; intro a hf
         refine o_v hf hh (yv_move rfl) ?_; clear hf a; intro a hf
         refine o_v hf hh (yv_cast (yv_andn (.inl rfl) rfl rfl (by omega) (by simp only [IntKind.top]; omega) (by omega) (by simp only [IntKind.top]; omega)) (intv (b := 0) (by rw [Int.toNat_natCast, Int.toNat_natCast, andn_none hd2]; rfl))) ?_; clear hf a; intro a hf
         refine o_v hf hh (yv_bin rfl rfl rfl) ?_; clear hf a; intro a hf
         refine o_v hf hh (y_pf rfl rfl) ?_; clear hf a; intro a hf
         refine o_end ?_
         refine c_f hf ?_
         refine sy_skip ?_
         refine blk_n ?_
         refine then_n ?_
         refine sy_ops ?_
         refine o_v hf hh (y_add rfl rfl) ?_; clear hf a; intro a hf
         refine o_v hf hh (yv_move rfl) ?_; clear hf a; intro a hf
         refine ops_end ?_
         refine then_n ?_
         exact ⟨j + 1, ⟨⟨by omega, hh.less (.cons _ (.refl _))⟩, hf.head ⟨rfl, True.intro⟩ (Keep.cons rfl (Keep.cons rfl (Keep.cons rfl (Keep.cons rfl (Keep.cons rfl (Keep.cons rfl (Keep.cons rfl (Keep.cons rfl (Keep.cons rfl (Keep.cons rfl (Keep.cons rfl (Keep.cons rfl (Keep.cons rfl (Keep.cons rfl (Keep.cons rfl (Keep.cons rfl (Keep.cons rfl (Keep.cons rfl (Keep.cons rfl (Keep.cons rfl (Keep.cons rfl (Keep.cons rfl (Keep.cons rfl (Keep.cons rfl (Keep.cons rfl (Keep.cons rfl (Keep.cons rfl (Keep.cons rfl (Keep.cons rfl (Keep.cons rfl (Keep.cons rfl (Keep.cons rfl (Keep.cons rfl (Keep.cons rfl (Keep.cons rfl (Keep.cons rfl (Keep.cons rfl (Keep.cons rfl (Keep.cons rfl (Keep.cons rfl (Keep.cons rfl (Keep.cons rfl (Keep.cons rfl (Keep.cons rfl (Keep.cons rfl (Keep.cons rfl (Keep.cons rfl (Keep.cons rfl (Keep.cons rfl (Keep.cons rfl (Keep.cons rfl (Keep.cons rfl (Keep.cons rfl (Keep.cons rfl (Keep.cons rfl (Keep.cons rfl (Keep.cons rfl (Keep.cons rfl (Keep.cons rfl (Keep.cons rfl (Keep.cons rfl (Keep.cons rfl (Keep.cons rfl (Keep.cons rfl (Keep.cons rfl (Keep.cons rfl (Keep.cons rfl (Keep.cons rfl (Keep.cons rfl (Keep.cons rfl (Keep.cons rfl (Keep.cons rfl (Keep.cons rfl (Keep.cons rfl (Keep.cons rfl (Keep.cons rfl (Keep.cons rfl (Keep.cons rfl (Keep.cons rfl (Keep.cons rfl (Keep.cons rfl (Keep.cons rfl (Keep.cons rfl (Keep.cons rfl (Keep.cons rfl (Keep.cons rfl (Keep.cons rfl (Keep.cons rfl (Keep.cons rfl (Keep.cons rfl (Keep.app rfl (Keep.rm rfl Keep.base))))))))))))))))))))))))))))))))))))))))))))))))))))))))))))))))))))))))))))))))))))))))))))⟩, by omega⟩
      ·have hG28 := hg28; try simp only [gS] at hG28
       refine sy_exit ?_
       refine then_e ?_
       refine then_e ?_
       refine blk_e ?_
       refine then_n ?_
       refine sy_seq ?_
       have hok0 : okCan d 0 = true := okCan_mk hV (by omega) (by omega)
       have hC00 := casesE_ok hok0
       have hcn := cases_none hV
       have hcE := countE_ok hV
       have hCl := casesC_ok hok0
       rw [hcn] at hCl
       have hle1 : casesC d 0 ≤ 1 := by rw [hCl]; split <;> simp
       have hEq : (decide (((casesC d 0 : Nat) : Int) = 1) == decide (0 < countV d)) = true := by
         rw [beq_iff_eq, decide_eq_decide, hCl]
         split <;> simp_all
       refine sy_ops ?_
       refine o_v hf hh (y_lds Try.ag_31 rfl) ?_; clear hf a; intro a hf
       refine o_call hf Try.en_12 rfl rfl rfl (p12 d 0 sa sb ca cb _ (hA.ext hh.ext) (hB.ext hh.ext)) ?_; clear hf a; intro v a w hR hf
       obtain ⟨rfl, hx⟩ := hR; replace hh := hh.more hx; clear hx
       refine o_v hf hh (yv_move rfl) ?_; clear hf a; intro a hf
       refine o_v hf hh (yv_extract rfl rfl) ?_; clear hf a; intro a hf
       refine o_v hf hh (yv_extract rfl rfl) ?_; clear hf a; intro a hf
       refine o_v hf hh (yv_assign rfl) ?_; clear hf a; intro a hf
       refine o_v hf hh (yv_assign rfl) ?_; clear hf a; intro a hf
       refine o_end ?_
       refine sy_sq ?_
       refine o_v hf hh (yv_fieldAddr Try.fo_31_0 rfl) ?_; clear hf a; intro a hf
       refine o_v hf hh (y_lds Try.ag_29 rfl) ?_; clear hf a; intro a hf
       refine o_call hf Try.en_31 rfl rfl rfl (c17 d sa sb ca cb _ (hA.ext hh.ext) (hB.ext hh.ext)) ?_; clear hf a; intro v a w hR hf
       obtain ⟨rfl, hx⟩ := hR; replace hh := hh.more hx; clear hx
       refine o_v hf hh (yv_move rfl) ?_; clear hf a; intro a hf
       refine o_v hf hh (yv_extract rfl rfl) ?_; clear hf a; intro a hf
       refine o_v hf hh (yv_extract rfl rfl) ?_; clear hf a; intro a hf
       refine o_v hf hh (yv_assign rfl) ?_; clear hf a; intro a hf
       refine o_v hf hh (yv_assign rfl) ?_; clear hf a; intro a hf
       refine o_end ?_
       refine sy_sq ?_
       refine o_v hf hh (yv_move rfl) ?_; clear hf a; intro a hf
       refine o_v hf hh (yv_bin rfl rfl rfl) ?_; clear hf a; intro a hf
       refine o_v hf hh (yv_move rfl) ?_; clear hf a; intro a hf
       refine o_v hf hh (yv_move rfl) ?_; clear hf a; intro a hf
       refine o_v hf hh (yv_bin rfl rfl rfl) ?_; clear hf a; intro a hf
       refine o_v hf hh (y_pt rfl rfl) ?_; clear hf a; intro a hf
       refine o_v hf hh (yv_move rfl) ?_; clear hf a; intro a hf
       refine o_v hf hh (yv_move rfl) ?_; clear hf a; intro a hf
       refine o_v hf hh (yv_bin rfl rfl rfl) ?_; clear hf a; intro a hf
       refine o_v hf hh (yv_move rfl) ?_; clear hf a; intro a hf
       refine o_v hf hh (yv_bin rfl rfl rfl) ?_; clear hf a; intro a hf
       refine o_v hf hh (yv_eqb Try.ub_4 rfl rfl) ?_; clear hf a; intro a hf
       refine o_v hf hh (y_pt rfl rfl) ?_; clear hf a; intro a hf
       refine o_v hf hh (yv_move rfl) ?_; clear hf a; intro a hf
       refine o_v hf hh (yv_move rfl) ?_; clear hf a; intro a hf
       refine o_v hf hh (yv_bin rfl rfl rfl) ?_; clear hf a; intro a hf
       refine o_v hf hh (y_pt rfl rfl) ?_; clear hf a; intro a hf
       refine o_v hf hh (yv_move rfl) ?_; clear hf a; intro a hf
       refine o_call hf Try.en_17 rfl rfl rfl (p17 _) ?_; clear hf a; intro v a w hR hf
       obtain ⟨rfl, hx⟩ := hR; replace hh := hh.more hx; clear hx
       refine o_v hf hh (y_pt rfl rfl) ?_; clear hf a; intro a hf
       refine o_v hf hh (yv_assign rfl) ?_; clear hf a; intro a hf
       refine o_end ?_
       refine sy_ret ?_
       refine ret_r hf rfl rfl ?_
       exact ⟨rfl, hh.ext⟩
end Go.Proofs.Ytidieepndphodaa
namespace Go.Proofs.Ytidieepndphodaa
open Go Go.Sy Go.MatM Go.ChangeShapes Go.WideShapes Go.Deep Go.RowKit
theorem hs31 : Try.prog.underlying 31 = some (.struct (Try.prog.fieldsOf 31)) := by kernel_rfl
theorem fs31 : (Try.prog.fieldsOf 31).map (fun f => (f.offset, f.type)) = #[(0, 29), (5, 3)] := by kernel_rfl
theorem hs29 : Try.prog.underlying 29 = some (.struct (Try.prog.fieldsOf 29)) := by kernel_rfl
theorem fs29 : (Try.prog.fieldsOf 29).map (fun f => (f.offset, f.type)) = #[(0, 25), (1, 25), (2, 27), (4, 3)] := by kernel_rfl
theorem co31 : Try.prog.cellsOf 31 = 6 := by kernel_rfl
theorem co29 : Try.prog.cellsOf 29 = 5 := by kernel_rfl
theorem co25 : Try.prog.cellsOf 25 = 1 := by kernel_rfl
theorem co27 : Try.prog.cellsOf 27 = 2 := by kernel_rfl
theorem co3 : Try.prog.cellsOf 3 = 1 := by kernel_rfl
theorem un25 : Try.prog.underlying 25 = some (.slice 54) := by kernel_rfl
theorem fk54 : flK Try.prog .i64 9 54 = some 4 := by kernel_rfl
theorem fk27 : flK Try.prog .i64 9 27 = some 2 := by kernel_rfl
theorem fk3 : flK Try.prog .i64 9 3 = some 1 := by kernel_rfl
theorem un4 : Try.prog.underlying 4 = some .bool := by kernel_rfl
theorem own : ownKnob Try.prog.godebug = none := by kernel_rfl
def toMk (p : List Int) : Mk := match p with
  | [x, y, z, t] => ⟨x, y, z, t⟩
  | _ => ⟨0, 0, 0, 0⟩
theorem mkAt_flat {W : World} {sa : Option Addr} {l : List (List Int)} (hl : ∀ p ∈ l, p.length = 4) (h : FlatAt W .i64 sa 4 l) : MkAt W sa (l.map toMk) := fun i s hi => by
  rw [List.getElem?_map] at hi
  cases hp : l[i]? with
  | none => rw [hp] at hi; cases hi
  | some p =>
    rw [hp] at hi
    cases hi
    obtain ⟨blk, off, c, T, fr, h1, h2, h3⟩ := h i p hp
    refine ⟨blk, off, c, T, fr, h1, h2, ?_⟩
    rw [h3]
    match p, hl p (List.mem_of_getElem? hp) with
    | [x, y, z, t], _ => rfl
theorem len6 {l : List Value} (h : l.length = 6) : ∃ a b c d e f, l = [a, b, c, d, e, f] := by
  match l, h with
  | [a, b, c, d, e, f], _ => exact ⟨a, b, c, d, e, f, rfl⟩
section
variable {H : Type} {enc : TypeId × Value → H} {W : World} {base : Nat} {spare : Nat → Bool} {held : Bool}
set_option maxRecDepth 100000 in
theorem openCan {r : Reach} {b0 : Nat} {v : Value} {d : DataW H} {p : List MemPlace} (hv : Value.okWide Try.prog W r b0 31 v) (h : DataW.Trod enc Try.prog W base spare held 31 v d p) : ∃ (d : RowsD) (p : Int) (sa sb : Option Addr) (ca cb : Nat), v = canV d p sa sb ca cb ∧ MkAt W sa d.l ∧ MkAt W sb d.r ∧ (-9223372036854775808 ≤ d.hid ∧ d.hid ≤ 9223372036854775807) ∧ (-9223372036854775808 ≤ p ∧ p ≤ 9223372036854775807) ∧ d.l.length ≤ ca ∧ d.r.length ≤ cb := by
  obtain ⟨cs, rfl, hsz⟩ := okWide_struct hs31 hv
  obtain ⟨fuel, h⟩ := h
  obtain ⟨_, hf0⟩ := trod_field hs31 h
  rw [fs31] at hf0
  rw [co31] at hsz
  obtain ⟨l, rfl⟩ : ∃ l : List Value, cs = l.toArray := ⟨cs.toList, by simp⟩
  obtain ⟨c0, c1, c2, c3, c4, c5, rfl⟩ := len6 (by simpa using hsz)
  replace hf0 : ∀ (i o : Nat) (u : TypeId) (c : Nat), (#[(0, 29), (5, 3)] : Array (Nat × TypeId))[i]? = some (o, u) → Try.prog.cellsOf u = c → ∃ n y, DataW.trod enc Try.prog W base spare held n u (([c0, c1, c2, c3, c4, c5].drop o).take c) = some y := hf0
  obtain ⟨_, _, k0⟩ := hf0 0 0 29 5 rfl co29
  obtain ⟨_, _, k1⟩ := hf0 1 5 3 1 rfl co3
  obtain ⟨p3, q3, e4, w4⟩ := trod_fl fk3 k1
  obtain ⟨_, hf⟩ := trod_field hs29 k0
  rw [fs29] at hf
  replace hf : ∀ (i o : Nat) (u : TypeId) (c : Nat), (#[(0, 25), (1, 25), (2, 27), (4, 3)] : Array (Nat × TypeId))[i]? = some (o, u) → Try.prog.cellsOf u = c → ∃ n y, DataW.trod enc Try.prog W base spare held n u (([c0, c1, c2, c3, c4].drop o).take c) = some y := hf
  obtain ⟨_, _, g0⟩ := hf 0 0 25 1 rfl co25
  obtain ⟨_, _, g1⟩ := hf 1 1 25 1 rfl co25
  obtain ⟨_, _, g2⟩ := hf 2 2 27 2 rfl co27
  obtain ⟨_, _, g3⟩ := hf 3 4 3 1 rfl co3
  obtain ⟨l0, sa, ca, e0, _, b0', f0⟩ := trod_slices un25 fk54 (by omega) g0
  have hc0 := trod_cap un25 e0 g0
  obtain ⟨l1, sb, cb, e1, _, b1, f1⟩ := trod_slices un25 fk54 (by omega) g1
  have hc1 := trod_cap un25 e1 g1
  obtain ⟨p2, q2, e2, _⟩ := trod_fl fk27 g2
  obtain ⟨p5, q5, e3, w3⟩ := trod_fl fk3 g3
  obtain ⟨lo, hi, rfl⟩ : ∃ x y, p2 = [x, y] := by
    match p2, q2 with
    | [x, y], _ => exact ⟨x, y, rfl⟩
  obtain ⟨hid, rfl⟩ : ∃ x, p5 = [x] := by
    match p5, q5 with
    | [x], _ => exact ⟨x, rfl⟩
  obtain ⟨pp, rfl⟩ : ∃ x, p3 = [x] := by
    match p3, q3 with
    | [x], _ => exact ⟨x, rfl⟩
  simp at e0 e1 e2 e3 e4
  obtain ⟨rfl, rfl⟩ := e2
  subst e0; subst e1; subst e3; subst e4
  exact ⟨⟨l0.map toMk, l1.map toMk, lo, hi, hid⟩, pp, sa, sb, ca, cb, by simp, mkAt_flat (fun p hp => (b0' p hp).1) f0, mkAt_flat (fun p hp => (b1 p hp).1) f1, wf64 (w3 hid (by simp)), wf64 (w4 pp (by simp)), by simpa using hc0, by simpa using hc1⟩
end
end Go.Proofs.Ytidieepndphodaa
