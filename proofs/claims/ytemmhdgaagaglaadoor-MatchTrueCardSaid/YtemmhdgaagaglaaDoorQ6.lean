/- Lemmas, in order: Do two marks break a rule? Do two marks break one of the rules? The cells of rows that are looked at. look: rows that are looked at. Plain laws: how many ways there are with a pair, without a mark; ways split at a pair. All pairs that fit, one after the other.. -/
import Derived.Test.YtemmhdgaagaglaaDoorQ5
namespace Go.Proofs.YtemmhdgaagaglaaDoor
open Go Go.Sy Go.MatM
abbrev fn0 (n : Nat) : Value := .func (.func n) #[] #[]
abbrev rule0 : Value := .agg #[fn0 80, fn0 80]
abbrev rule1 (bx : Nat) : Value := .agg #[.func (.func 81) #[] #[ptr bx 0], fn0 82]
theorem c84a (x y : Mk) (ba bb : Nat) (w : World) (ha : w.heap[ba]? = some (.cells (mkV x).cells 53 (0, 0))) (hb : w.heap[bb]? = some (.cells (mkV y).cells 53 (0, 0))) : Calls Tryd.prog 84 #[rule0, ptr ba 0, ptr bb 0] w (Ret fun v w' => v = .bool (decide (max x.tl y.tl > min x.th y.th)) ∧ Ext [] w w') := by
  refine calls_of Tryd.func84 rfl rfl (fun a hf => ?_)
  have hh := Hp.init w []
  refine sy_sq ?_
  refine o_box hf hh ?_; clear hf hh a; intro B3 a w hf hh
  refine o_v hf hh (yv_assign rfl) ?_; clear hf a; intro a hf
  refine o_end ?_
  refine sy_seq ?_
  refine sy_tree (.q 0 (.q 1 (.q 2 (.q 4 (.q 5 (.q 6 (.e2 3 (.e2 7 (.e2 8 (.e1 9 (.e1 10 (.fin))) 9 (.e1 8 (.e1 10 (.fin)))) 9 (.e1 7 (.e1 8 (.e1 10 (.fin))))) 9 (.e1 3 (.e1 7 (.e1 8 (.e1 10 (.fin)))))))))))) [] Tryd.follows (by kernel_rfl) hh (fun w hh => ?_)
  refine mt_v rfl hh hf (yv_fieldAddr Tryd.fo_115_0 rfl) (.inl rfl) rfl rfl ?_; clear hf a; intro a hf
  refine mt_v rfl hh hf (y_ld Tryd.sc_113 rfl) (.inl rfl) rfl rfl ?_; clear hf a; intro a hf
  refine mt_v rfl hh hf (y_lds Tryd.ag_53 rfl) (.inl rfl) rfl rfl ?_; clear hf a; intro a hf
  refine mt_v rfl hh hf (yv_fieldAddr Tryd.fo_115_1 rfl) (.inl rfl) rfl rfl ?_; clear hf a; intro a hf
  refine mt_v rfl hh hf (y_ld Tryd.sc_113 rfl) (.inl rfl) rfl rfl ?_; clear hf a; intro a hf
  refine mt_v rfl hh hf (y_lds Tryd.ag_53 rfl) (.inl rfl) rfl rfl ?_; clear hf a; intro a hf
  refine ⟨?_, ?_⟩
  ·refine mt_e rfl fun Q1 => ?_
   refine o_call hf Tryd.en_80 rfl rfl rfl (c80 x _) ?_; clear hf a; intro v a w hR hf
   obtain ⟨rfl, hx⟩ := hR; replace hh := hh.more hx; clear hx
   refine ops_end ?_
   refine then_n ⟨fun _ => hh, ?_⟩
   refine ⟨?_, ?_⟩
   ·refine mt_e rfl fun Q1 => ?_
    refine o_call hf Tryd.en_80 rfl rfl rfl (c80 y _) ?_; clear hf a; intro v a w hR hf
    obtain ⟨rfl, hx⟩ := hR; replace hh := hh.more hx; clear hx
    refine ops_end ?_
    refine then_n ⟨fun _ => hh, ?_⟩
    refine ⟨?_, ?_⟩
    ·refine mt_e rfl fun Q1 => ?_
     refine o_call hf Tryd.en_85 rfl rfl rfl (c85 _ _ _ _ _) ?_; clear hf a; intro v a w hR hf
     obtain ⟨rfl, hx⟩ := hR; replace hh := hh.more hx; clear hx
     refine ops_end ?_
     refine then_n ⟨fun _ => hh, ?_⟩
     refine mt_e rfl fun Q1 => ?_
     refine o_alloc hf hh Tryd.ze_24 ?_; clear hf hh a; intro B5 a w hf hh
     refine ops_end ?_
     refine then_n ⟨fun _ => (hh.less (.cons _ (List.Sublist.refl _))), ?_⟩
     refine mt_e rfl fun Q1 => ?_
     refine o_store hf hh Tryd.sz_24 fun w hh => ?_
     refine ops_end ?_
     refine then_n ⟨fun _ => (hh.less (.cons _ (List.Sublist.refl _))), ?_⟩
     refine mt_end ?_
     refine then_n ?_
     refine sy_sq ?_
     refine o_v hf hh (yv_fieldAddr Tryd.fo_24_0 rfl) ?_; clear hf a; intro a hf
     refine o_v hf hh (y_ld Tryd.sc_3 rfl) ?_; clear hf a; intro a hf
     refine o_v hf hh (yv_fieldAddr Tryd.fo_24_1 rfl) ?_; clear hf a; intro a hf
     refine o_v hf hh (y_ld Tryd.sc_3 rfl) ?_; clear hf a; intro a hf
     refine o_v hf hh (yv_bin rfl rfl rfl) ?_; clear hf a; intro a hf
     refine o_v hf hh (yv_assign rfl) ?_; clear hf a; intro a hf
     refine o_end ?_
     refine sy_ret ?_
     refine ret_r hf rfl rfl ?_
     exact ⟨rfl, hh.ext⟩
    ·refine mt_e rfl fun Q1 => ?_
     refine o_alloc hf hh Tryd.ze_24 ?_; clear hf hh a; intro B5 a w hf hh
     refine ops_end ?_
     refine then_n ⟨fun _ => (hh.less (.cons _ (List.Sublist.refl _))), ?_⟩
     refine mt_e rfl fun Q1 => ?_
     refine o_call hf Tryd.en_85 rfl rfl rfl (c85 _ _ _ _ _) ?_; clear hf a; intro v a w hR hf
     obtain ⟨rfl, hx⟩ := hR; replace hh := hh.more hx; clear hx
     refine ops_end ?_
     refine then_n ⟨fun _ => (hh.less (.cons _ (List.Sublist.refl _))), ?_⟩
     refine mt_e rfl fun Q1 => ?_
     refine o_store hf hh Tryd.sz_24 fun w hh => ?_
     refine ops_end ?_
     refine then_n ⟨fun _ => (hh.less (.cons _ (List.Sublist.refl _))), ?_⟩
     refine mt_end ?_
     refine then_n ?_
     refine sy_sq ?_
     refine o_v hf hh (yv_fieldAddr Tryd.fo_24_0 rfl) ?_; clear hf a; intro a hf
     refine o_v hf hh (y_ld Tryd.sc_3 rfl) ?_; clear hf a; intro a hf
     refine o_v hf hh (yv_fieldAddr Tryd.fo_24_1 rfl) ?_; clear hf a; intro a hf
     refine o_v hf hh (y_ld Tryd.sc_3 rfl) ?_; clear hf a; intro a hf
     refine o_v hf hh (yv_bin rfl rfl rfl) ?_; clear hf a; intro a hf
     refine o_v hf hh (yv_assign rfl) ?_; clear hf a; intro a hf
     refine o_end ?_
     refine sy_ret ?_
     refine ret_r hf rfl rfl ?_
     exact ⟨rfl, hh.ext⟩
   ·refine mt_e rfl fun Q1 => ?_
    refine o_alloc hf hh Tryd.ze_24 ?_; clear hf hh a; intro B5 a w hf hh
    refine ops_end ?_
    refine then_n ⟨fun _ => (hh.less (.cons _ (List.Sublist.refl _))), ?_⟩
    refine mt_e rfl fun Q1 => ?_
    refine o_call hf Tryd.en_80 rfl rfl rfl (c80 y _) ?_; clear hf a; intro v a w hR hf
    obtain ⟨rfl, hx⟩ := hR; replace hh := hh.more hx; clear hx
    refine ops_end ?_
    refine then_n ⟨fun _ => (hh.less (.cons _ (List.Sublist.refl _))), ?_⟩
    refine mt_e rfl fun Q1 => ?_
    refine o_call hf Tryd.en_85 rfl rfl rfl (c85 _ _ _ _ _) ?_; clear hf a; intro v a w hR hf
    obtain ⟨rfl, hx⟩ := hR; replace hh := hh.more hx; clear hx
    refine ops_end ?_
    refine then_n ⟨fun _ => (hh.less (.cons _ (List.Sublist.refl _))), ?_⟩
    refine mt_e rfl fun Q1 => ?_
    refine o_store hf hh Tryd.sz_24 fun w hh => ?_
    refine ops_end ?_
    refine then_n ⟨fun _ => (hh.less (.cons _ (List.Sublist.refl _))), ?_⟩
    refine mt_end ?_
    refine then_n ?_
    refine sy_sq ?_
    refine o_v hf hh (yv_fieldAddr Tryd.fo_24_0 rfl) ?_; clear hf a; intro a hf
    refine o_v hf hh (y_ld Tryd.sc_3 rfl) ?_; clear hf a; intro a hf
    refine o_v hf hh (yv_fieldAddr Tryd.fo_24_1 rfl) ?_; clear hf a; intro a hf
    refine o_v hf hh (y_ld Tryd.sc_3 rfl) ?_; clear hf a; intro a hf
    refine o_v hf hh (yv_bin rfl rfl rfl) ?_; clear hf a; intro a hf
    refine o_v hf hh (yv_assign rfl) ?_; clear hf a; intro a hf
    refine o_end ?_
    refine sy_ret ?_
    refine ret_r hf rfl rfl ?_
    exact ⟨rfl, hh.ext⟩
  ·refine mt_e rfl fun Q1 => ?_
   refine o_alloc hf hh Tryd.ze_24 ?_; clear hf hh a; intro B5 a w hf hh
   refine ops_end ?_
   refine then_n ⟨fun _ => (hh.less (.cons _ (List.Sublist.refl _))), ?_⟩
   refine mt_e rfl fun Q1 => ?_
   refine o_call hf Tryd.en_80 rfl rfl rfl (c80 x _) ?_; clear hf a; intro v a w hR hf
   obtain ⟨rfl, hx⟩ := hR; replace hh := hh.more hx; clear hx
   refine ops_end ?_
   refine then_n ⟨fun _ => (hh.less (.cons _ (List.Sublist.refl _))), ?_⟩
   refine mt_e rfl fun Q1 => ?_
   refine o_call hf Tryd.en_80 rfl rfl rfl (c80 y _) ?_; clear hf a; intro v a w hR hf
   obtain ⟨rfl, hx⟩ := hR; replace hh := hh.more hx; clear hx
   refine ops_end ?_
   refine then_n ⟨fun _ => (hh.less (.cons _ (List.Sublist.refl _))), ?_⟩
   refine mt_e rfl fun Q1 => ?_
   refine o_call hf Tryd.en_85 rfl rfl rfl (c85 _ _ _ _ _) ?_; clear hf a; intro v a w hR hf
   obtain ⟨rfl, hx⟩ := hR; replace hh := hh.more hx; clear hx
   refine ops_end ?_
   refine then_n ⟨fun _ => (hh.less (.cons _ (List.Sublist.refl _))), ?_⟩
   refine mt_e rfl fun Q1 => ?_
   refine o_store hf hh Tryd.sz_24 fun w hh => ?_
   refine ops_end ?_
   refine then_n ⟨fun _ => (hh.less (.cons _ (List.Sublist.refl _))), ?_⟩
   refine mt_end ?_
   refine then_n ?_
   refine sy_sq ?_
   refine o_v hf hh (yv_fieldAddr Tryd.fo_24_0 rfl) ?_; clear hf a; intro a hf
   refine o_v hf hh (y_ld Tryd.sc_3 rfl) ?_; clear hf a; intro a hf
   refine o_v hf hh (yv_fieldAddr Tryd.fo_24_1 rfl) ?_; clear hf a; intro a hf
   refine o_v hf hh (y_ld Tryd.sc_3 rfl) ?_; clear hf a; intro a hf
   refine o_v hf hh (yv_bin rfl rfl rfl) ?_; clear hf a; intro a hf
   refine o_v hf hh (yv_assign rfl) ?_; clear hf a; intro a hf
   refine o_end ?_
   refine sy_ret ?_
   refine ret_r hf rfl rfl ?_
   exact ⟨rfl, hh.ext⟩
theorem c84b (x y : Mk) (ba bb : Nat) (w : World) (ha : w.heap[ba]? = some (.cells (mkV x).cells 53 (0, 0))) (hb : w.heap[bb]? = some (.cells (mkV y).cells 53 (0, 0))) (d : RowsD) (sa sb : Option Addr) (ca cb bx : Nat) (hx : w.heap[bx]? = some (.cells (rowsV d sa sb ca cb).cells 26 (0, 0))) (h1 : -65536 ≤ d.lo) (h2 : d.lo ≤ d.hi) (h3 : d.hi ≤ 65536) (hm : okM x = true) : Calls Tryd.prog 84 #[rule1 bx, ptr ba 0, ptr bb 0] w (Ret fun v w' => v = .bool (decide (max (x.al - d.hi) y.al > min (x.ah - d.lo) y.ah)) ∧ Ext [] w w') := by
  refine calls_of Tryd.func84 rfl rfl (fun a hf => ?_)
  have hh := Hp.init w []
  refine sy_sq ?_
  refine o_box hf hh ?_; clear hf hh a; intro B3 a w hf hh
  refine o_v hf hh (yv_assign rfl) ?_; clear hf a; intro a hf
  refine o_end ?_
  refine sy_seq ?_
  refine sy_tree (.q 0 (.q 1 (.q 2 (.q 4 (.q 5 (.q 6 (.e2 3 (.e2 7 (.e2 8 (.e1 9 (.e1 10 (.fin))) 9 (.e1 8 (.e1 10 (.fin)))) 9 (.e1 7 (.e1 8 (.e1 10 (.fin))))) 9 (.e1 3 (.e1 7 (.e1 8 (.e1 10 (.fin)))))))))))) [] Tryd.follows (by kernel_rfl) hh (fun w hh => ?_)
  refine mt_v rfl hh hf (yv_fieldAddr Tryd.fo_115_0 rfl) (.inl rfl) rfl rfl ?_; clear hf a; intro a hf
  refine mt_v rfl hh hf (y_ld Tryd.sc_113 rfl) (.inl rfl) rfl rfl ?_; clear hf a; intro a hf
  refine mt_v rfl hh hf (y_lds Tryd.ag_53 rfl) (.inl rfl) rfl rfl ?_; clear hf a; intro a hf
  refine mt_v rfl hh hf (yv_fieldAddr Tryd.fo_115_1 rfl) (.inl rfl) rfl rfl ?_; clear hf a; intro a hf
  refine mt_v rfl hh hf (y_ld Tryd.sc_113 rfl) (.inl rfl) rfl rfl ?_; clear hf a; intro a hf
  refine mt_v rfl hh hf (y_lds Tryd.ag_53 rfl) (.inl rfl) rfl rfl ?_; clear hf a; intro a hf
  refine ⟨?_, ?_⟩
  ·refine mt_e rfl fun Q1 => ?_
   refine o_call hf Tryd.en_81 rfl rfl rfl (c81 x d sa sb ca cb bx _ (hh.old hx) hm h1 h2 h3) ?_; clear hf a; intro v a w hR hf
   obtain ⟨rfl, hx⟩ := hR; replace hh := hh.more hx; clear hx
   refine ops_end ?_
   refine then_n ⟨fun _ => hh, ?_⟩
   refine ⟨?_, ?_⟩
   ·refine mt_e rfl fun Q1 => ?_
    refine o_call hf Tryd.en_82 rfl rfl rfl (c82 y _) ?_; clear hf a; intro v a w hR hf
    obtain ⟨rfl, hx⟩ := hR; replace hh := hh.more hx; clear hx
    refine ops_end ?_
    refine then_n ⟨fun _ => hh, ?_⟩
    refine ⟨?_, ?_⟩
    ·refine mt_e rfl fun Q1 => ?_
     refine o_call hf Tryd.en_85 rfl rfl rfl (c85 _ _ _ _ _) ?_; clear hf a; intro v a w hR hf
     obtain ⟨rfl, hx⟩ := hR; replace hh := hh.more hx; clear hx
     refine ops_end ?_
     refine then_n ⟨fun _ => hh, ?_⟩
     refine mt_e rfl fun Q1 => ?_
     refine o_alloc hf hh Tryd.ze_24 ?_; clear hf hh a; intro B5 a w hf hh
     refine ops_end ?_
     refine then_n ⟨fun _ => (hh.less (.cons _ (List.Sublist.refl _))), ?_⟩
     refine mt_e rfl fun Q1 => ?_
     refine o_store hf hh Tryd.sz_24 fun w hh => ?_
     refine ops_end ?_
     refine then_n ⟨fun _ => (hh.less (.cons _ (List.Sublist.refl _))), ?_⟩
     refine mt_end ?_
     refine then_n ?_
     refine sy_sq ?_
     refine o_v hf hh (yv_fieldAddr Tryd.fo_24_0 rfl) ?_; clear hf a; intro a hf
     refine o_v hf hh (y_ld Tryd.sc_3 rfl) ?_; clear hf a; intro a hf
     refine o_v hf hh (yv_fieldAddr Tryd.fo_24_1 rfl) ?_; clear hf a; intro a hf
     refine o_v hf hh (y_ld Tryd.sc_3 rfl) ?_; clear hf a; intro a hf
     refine o_v hf hh (yv_bin rfl rfl rfl) ?_; clear hf a; intro a hf
     refine o_v hf hh (yv_assign rfl) ?_; clear hf a; intro a hf
     refine o_end ?_
     refine sy_ret ?_
     refine ret_r hf rfl rfl ?_
     exact ⟨rfl, hh.ext⟩
    ·refine mt_e rfl fun Q1 => ?_
     refine o_alloc hf hh Tryd.ze_24 ?_; clear hf hh a; intro B5 a w hf hh
     refine ops_end ?_
     refine then_n ⟨fun _ => (hh.less (.cons _ (List.Sublist.refl _))), ?_⟩
     refine mt_e rfl fun Q1 => ?_
     refine o_call hf Tryd.en_85 rfl rfl rfl (c85 _ _ _ _ _) ?_; clear hf a; intro v a w hR hf
     obtain ⟨rfl, hx⟩ := hR; replace hh := hh.more hx; clear hx
     refine ops_end ?_
     refine then_n ⟨fun _ => (hh.less (.cons _ (List.Sublist.refl _))), ?_⟩
     refine mt_e rfl fun Q1 => ?_
     refine o_store hf hh Tryd.sz_24 fun w hh => ?_
     refine ops_end ?_
     refine then_n ⟨fun _ => (hh.less (.cons _ (List.Sublist.refl _))), ?_⟩
     refine mt_end ?_
     refine then_n ?_
     refine sy_sq ?_
     refine o_v hf hh (yv_fieldAddr Tryd.fo_24_0 rfl) ?_; clear hf a; intro a hf
     refine o_v hf hh (y_ld Tryd.sc_3 rfl) ?_; clear hf a; intro a hf
     refine o_v hf hh (yv_fieldAddr Tryd.fo_24_1 rfl) ?_; clear hf a; intro a hf
     refine o_v hf hh (y_ld Tryd.sc_3 rfl) ?_; clear hf a; intro a hf
     refine o_v hf hh (yv_bin rfl rfl rfl) ?_; clear hf a; intro a hf
     refine o_v hf hh (yv_assign rfl) ?_; clear hf a; intro a hf
     refine o_end ?_
     refine sy_ret ?_
     refine ret_r hf rfl rfl ?_
     exact ⟨rfl, hh.ext⟩
   ·refine mt_e rfl fun Q1 => ?_
    refine o_alloc hf hh Tryd.ze_24 ?_; clear hf hh a; intro B5 a w hf hh
    refine ops_end ?_
    refine then_n ⟨fun _ => (hh.less (.cons _ (List.Sublist.refl _))), ?_⟩
    refine mt_e rfl fun Q1 => ?_
    refine o_call hf Tryd.en_82 rfl rfl rfl (c82 y _) ?_; clear hf a; intro v a w hR hf
    obtain ⟨rfl, hx⟩ := hR; replace hh := hh.more hx; clear hx
    refine ops_end ?_
    refine then_n ⟨fun _ => (hh.less (.cons _ (List.Sublist.refl _))), ?_⟩
    refine mt_e rfl fun Q1 => ?_
    refine o_call hf Tryd.en_85 rfl rfl rfl (c85 _ _ _ _ _) ?_; clear hf a; intro v a w hR hf
    obtain ⟨rfl, hx⟩ := hR; replace hh := hh.more hx; clear hx
    refine ops_end ?_
    refine then_n ⟨fun _ => (hh.less (.cons _ (List.Sublist.refl _))), ?_⟩
    refine mt_e rfl fun Q1 => ?_
    refine o_store hf hh Tryd.sz_24 fun w hh => ?_
    refine ops_end ?_
    refine then_n ⟨fun _ => (hh.less (.cons _ (List.Sublist.refl _))), ?_⟩
    refine mt_end ?_
    refine then_n ?_
    refine sy_sq ?_
    refine o_v hf hh (yv_fieldAddr Tryd.fo_24_0 rfl) ?_; clear hf a; intro a hf
    refine o_v hf hh (y_ld Tryd.sc_3 rfl) ?_; clear hf a; intro a hf
    refine o_v hf hh (yv_fieldAddr Tryd.fo_24_1 rfl) ?_; clear hf a; intro a hf
    refine o_v hf hh (y_ld Tryd.sc_3 rfl) ?_; clear hf a; intro a hf
    refine o_v hf hh (yv_bin rfl rfl rfl) ?_; clear hf a; intro a hf
    refine o_v hf hh (yv_assign rfl) ?_; clear hf a; intro a hf
    refine o_end ?_
    refine sy_ret ?_
    refine ret_r hf rfl rfl ?_
    exact ⟨rfl, hh.ext⟩
  ·refine mt_e rfl fun Q1 => ?_
   refine o_alloc hf hh Tryd.ze_24 ?_; clear hf hh a; intro B5 a w hf hh
   refine ops_end ?_
   refine then_n ⟨fun _ => (hh.less (.cons _ (List.Sublist.refl _))), ?_⟩
   refine mt_e rfl fun Q1 => ?_
   refine o_call hf Tryd.en_81 rfl rfl rfl (c81 x d sa sb ca cb bx _ (hh.old hx) hm h1 h2 h3) ?_; clear hf a; intro v a w hR hf
   obtain ⟨rfl, hx⟩ := hR; replace hh := hh.more hx; clear hx
   refine ops_end ?_
   refine then_n ⟨fun _ => (hh.less (.cons _ (List.Sublist.refl _))), ?_⟩
   refine mt_e rfl fun Q1 => ?_
   refine o_call hf Tryd.en_82 rfl rfl rfl (c82 y _) ?_; clear hf a; intro v a w hR hf
   obtain ⟨rfl, hx⟩ := hR; replace hh := hh.more hx; clear hx
   refine ops_end ?_
   refine then_n ⟨fun _ => (hh.less (.cons _ (List.Sublist.refl _))), ?_⟩
   refine mt_e rfl fun Q1 => ?_
   refine o_call hf Tryd.en_85 rfl rfl rfl (c85 _ _ _ _ _) ?_; clear hf a; intro v a w hR hf
   obtain ⟨rfl, hx⟩ := hR; replace hh := hh.more hx; clear hx
   refine ops_end ?_
   refine then_n ⟨fun _ => (hh.less (.cons _ (List.Sublist.refl _))), ?_⟩
   refine mt_e rfl fun Q1 => ?_
   refine o_store hf hh Tryd.sz_24 fun w hh => ?_
   refine ops_end ?_
   refine then_n ⟨fun _ => (hh.less (.cons _ (List.Sublist.refl _))), ?_⟩
   refine mt_end ?_
   refine then_n ?_
   refine sy_sq ?_
   refine o_v hf hh (yv_fieldAddr Tryd.fo_24_0 rfl) ?_; clear hf a; intro a hf
   refine o_v hf hh (y_ld Tryd.sc_3 rfl) ?_; clear hf a; intro a hf
   refine o_v hf hh (yv_fieldAddr Tryd.fo_24_1 rfl) ?_; clear hf a; intro a hf
   refine o_v hf hh (y_ld Tryd.sc_3 rfl) ?_; clear hf a; intro a hf
   refine o_v hf hh (yv_bin rfl rfl rfl) ?_; clear hf a; intro a hf
   refine o_v hf hh (yv_assign rfl) ?_; clear hf a; intro a hf
   refine o_end ?_
   refine sy_ret ?_
   refine ret_r hf rfl rfl ?_
   exact ⟨rfl, hh.ext⟩
end Go.Proofs.YtemmhdgaagaglaaDoor
namespace Go.Proofs.YtemmhdgaagaglaaDoor
open Go Go.Sy Go.MatM
abbrev rulesC (bx : Nat) : Array Value := #[fn0 80, fn0 80, .func (.func 81) #[] #[ptr bx 0], fn0 82]
def brk0 (x y : Mk) : Bool := decide (max x.tl y.tl > min x.th y.th)
def brk1 (d : RowsD) (x y : Mk) : Bool := decide (max (x.al - d.hi) y.al > min (x.ah - d.lo) y.ah)
def brkI (d : RowsD) (x y : Mk) : Int := if brk0 x y = true then 0 else if brk1 d x y = true then 1 else -1
theorem brk_fit {d : RowsD} {x y : Mk} (hx : okM x = true) (hy : okM y = true) (h2 : d.lo ≤ d.hi) : (!decide (brkI d x y ≥ 0)) = fitM d.lo d.hi x y := by
  have hx := okM_iff.1 hx; have hy := okM_iff.1 hy
  have e : decide (brkI d x y ≥ 0) = (brk0 x y || brk1 d x y) := by
    unfold brkI; cases brk0 x y <;> cases brk1 d x y <;> rfl
  rw [e, Bool.eq_iff_iff]
  simp only [brk0, brk1, fitM, Bool.not_eq_true', Bool.or_eq_false_iff, decide_eq_false_iff_not, Bool.and_eq_true, decide_eq_true_eq]
  omega
theorem rule_at (x y : Mk) (ba bb : Nat) (u : World) (ha : u.heap[ba]? = some (.cells (mkV x).cells 53 (0, 0))) (hb : u.heap[bb]? = some (.cells (mkV y).cells 53 (0, 0))) (d : RowsD) (sa sb : Option Addr) (ca cb bx bs : Nat) (hx : u.heap[bx]? = some (.cells (rowsV d sa sb ca cb).cells 26 (0, 0))) (h1 : -65536 ≤ d.lo) (h2 : d.lo ≤ d.hi) (h3 : d.hi ≤ 65536) (hm : okM x = true) (hs : u.heap[bs]? = some (.cells (rulesC bx) 115 (0, 0))) {j : Nat} (hj : j < 2) : ∃ vs p, cellsAt (rulesC bx) (0 + ((j : Nat) : Int).toNat * 2) 2 = some vs ∧ (p = if j = 0 then brk0 x y else brk1 d x y) ∧ ∀ w', Ext [] u w' → Calls Tryd.prog 84 #[.agg vs.toArray, ptr ba 0, ptr bb 0] w' (Ret fun v w'' => v = .bool p ∧ Ext [] w' w'') := by
  match j, hj with
  | 0, _ => exact ⟨_, _, rfl, rfl, fun w' e => c84a x y ba bb w' (e.get ha) (e.get hb)⟩
  | 1, _ => exact ⟨_, _, rfl, rfl, fun w' e => c84b x y ba bb w' (e.get ha) (e.get hb) d sa sb ca cb bx (e.get hx) h1 h2 h3 hm⟩
theorem c99 (x y : Mk) (ba bb : Nat) (u : World) (ha : u.heap[ba]? = some (.cells (mkV x).cells 53 (0, 0))) (hb : u.heap[bb]? = some (.cells (mkV y).cells 53 (0, 0))) (d : RowsD) (sa sb : Option Addr) (ca cb bx bs : Nat) (hx : u.heap[bx]? = some (.cells (rowsV d sa sb ca cb).cells 26 (0, 0))) (h1 : -65536 ≤ d.lo) (h2 : d.lo ≤ d.hi) (h3 : d.hi ≤ 65536) (hm : okM x = true) (hs : u.heap[bs]? = some (.cells (rulesC bx) 115 (0, 0))) : Calls Tryd.prog 99 #[.slice (some ⟨bs, 0, none⟩) 2 2, .func (.func 84) #[] #[ptr ba 0, ptr bb 0]] u (Ret fun v w' => v = .int .i64 (brkI d x y) ∧ Ext [] u w') := by
  refine calls_of Tryd.func99 rfl rfl (fun a hf => ?_)
  have hh := Hp.init u []
  refine sy_sq ?_
  refine o_v hf hh (yv_assign rfl) ?_; clear hf a; intro a hf
  refine o_end ?_
  refine sy_seq ?_
  refine sy_sq ?_
  refine o_v hf hh (yv_move rfl) ?_; clear hf a; intro a hf
  refine o_v hf hh (yv_len Tryd.se_116 rfl) ?_; clear hf a; intro a hf
  refine o_v hf hh (yv_move rfl) ?_; clear hf a; intro a hf
  refine o_end ?_
  refine sy_block ?_
  refine sy_loopF (σ := Nat) [4, 5, 8, 9, 10, 11, 12, 13, 14, 15, 16, 17, 18] (fun j => [(8, .int .i64 j)]) (fun j => j ≤ 2 ∧ (0 < j → brk0 x y = false) ∧ (1 < j → brk1 d x y = false)) (fun j => 2 - j) (0) hf hh ?_ ?_ ?_
  · repeat' (first | exact True.intro | refine And.intro rfl ?_)
  · exact ⟨by omega, fun h => absurd h (by omega), fun h => absurd h (by omega)⟩
  ·rintro j a w ⟨hj, hq1, hq2⟩ hf hh
   refine sy_sq ?_
   refine o_v hf hh (yv_bin rfl rfl rfl) ?_; clear hf a; intro a hf
   refine o_end ?_
   refine sy_seq ?_
   refine sy_cond hf rfl (fun hg2 => ?_) (fun hg2 => ?_)
   ·have hG2 := hg2; try simp only [gS] at hG2
    refine sy_skip ?_
    refine then_n ?_
    refine sy_seq ?_
    refine sy_block ?_
    refine sy_seq ?_
    obtain ⟨vs, p, hcx, hp, hcall⟩ := rule_at x y ba bb u ha hb d sa sb ca cb bx bs hx h1 h2 h3 hm hs (j := j) (by omega)
    subst hp
    refine sy_ops ?_
    refine o_v hf hh (yv_move rfl) ?_; clear hf a; intro a hf
    refine o_v hf hh (yv_assign rfl) ?_; clear hf a; intro a hf
    refine o_end ?_
    refine sy_sq ?_
    refine o_v hf hh (yv_move rfl) ?_; clear hf a; intro a hf
    refine o_v hf hh (yv_move rfl) ?_; clear hf a; intro a hf
    refine o_v hf hh (yv_move rfl) ?_; clear hf a; intro a hf
    refine o_v hf hh (y_ix Tryd.se_116 rfl rfl) ?_; clear hf a; intro a hf
    refine o_v hf hh (y_lds Tryd.ag_115 rfl) ?_; clear hf a; intro a hf
    refine o_call hf Tryd.en_84 rfl rfl rfl (hcall _ hh.ext) ?_; clear hf a; intro v a w hR hf
    obtain ⟨rfl, hx⟩ := hR; replace hh := hh.more hx; clear hx
    refine o_end ?_
    refine sy_cond hf rfl (fun hg4 => ?_) (fun hg4 => ?_)
    ·have hG4 := hg4; try simp only [gS] at hG4
     refine sy_sq ?_
     refine o_v hf hh (yv_move rfl) ?_; clear hf a; intro a hf
     refine o_v hf hh (yv_assign rfl) ?_; clear hf a; intro a hf
     refine o_end ?_
     refine sy_ret ?_
     refine blk_r ?_
     refine then_r ?_
     refine then_r ?_
     refine blk_r ?_
     refine then_r ?_
     refine ret_r hf rfl rfl ?_
     refine ⟨congrArg (Value.int .i64) ?_, hh.ext⟩
     by_cases hj0 : j = 0
     · subst hj0; simp_all [brkI]
     · have hj1 : j = 1 := by omega
       subst hj1; simp_all [brkI]
    ·have hG4 := hg4; try simp only [gS] at hG4
     refine sy_skip ?_
     refine blk_n ?_
     refine then_n ?_
     refine sy_ops ?_
     refine o_v hf hh (y_add rfl rfl) ?_; clear hf a; intro a hf
     refine o_v hf hh (yv_move rfl) ?_; clear hf a; intro a hf
     refine ops_end ?_
     refine then_n ?_
     refine ⟨j + 1, ⟨⟨by omega, fun _ => ?_, fun _ => ?_⟩, (hf.head (by repeat' (first | exact True.intro | refine And.intro rfl ?_)) (Keep.cons rfl (Keep.cons rfl (Keep.cons rfl (Keep.cons rfl (Keep.cons rfl (Keep.cons rfl (Keep.cons rfl (Keep.cons rfl (Keep.cons rfl (Keep.cons rfl (Keep.cons rfl (Keep.app rfl (Keep.rm rfl Keep.base)))))))))))))), hh⟩, by omega⟩
     · by_cases hj0 : j = 0
       · subst hj0; simpa using hG4
       · exact hq1 (by omega)
     · by_cases hj0 : j = 0
       · omega
       · rw [if_neg hj0] at hG4; exact hG4
   ·have hG2 := hg2; try simp only [gS] at hG2
    refine sy_exit ?_
    refine then_e ?_
    refine then_e ?_
    refine blk_e ?_
    refine then_n ?_
    refine sy_sq ?_
    refine o_v hf hh (yv_assign rfl) ?_; clear hf a; intro a hf
    refine o_end ?_
    refine sy_ret ?_
    refine ret_r hf rfl rfl ?_
    exact ⟨congrArg (Value.int .i64) (by simp [brkI, hq1 (by omega), hq2 (by omega)]), hh.ext⟩
theorem c83 (x y : Mk) (ba bb : Nat) (u : World) (ha : u.heap[ba]? = some (.cells (mkV x).cells 53 (0, 0))) (hb : u.heap[bb]? = some (.cells (mkV y).cells 53 (0, 0))) (d : RowsD) (sa sb : Option Addr) (ca cb bx bs : Nat) (hx : u.heap[bx]? = some (.cells (rowsV d sa sb ca cb).cells 26 (0, 0))) (h1 : -65536 ≤ d.lo) (h2 : d.lo ≤ d.hi) (h3 : d.hi ≤ 65536) (hm : okM x = true) (hs : u.heap[bs]? = some (.cells (rulesC bx) 115 (0, 0))) : Calls Tryd.prog 83 #[.slice (some ⟨bs, 0, none⟩) 2 2, .func (.func 84) #[] #[ptr ba 0, ptr bb 0]] u (Ret fun v w' => v = .bool (decide (brkI d x y ≥ 0)) ∧ Ext [] u w') := by
  refine calls_of Tryd.func83 rfl rfl (fun a hf => ?_)
  have hh := Hp.init u []
  refine sy_sq ?_
  refine o_v hf hh (yv_assign rfl) ?_; clear hf a; intro a hf
  refine o_end ?_
  refine sy_sq ?_
  refine o_v hf hh (yv_move rfl) ?_; clear hf a; intro a hf
  refine o_v hf hh (yv_move rfl) ?_; clear hf a; intro a hf
  refine o_call hf Tryd.en_99 rfl rfl rfl (c99 x y ba bb _ (hh.old ha) (hh.old hb) d sa sb ca cb bx bs (hh.old hx) h1 h2 h3 hm (hh.old hs)) ?_; clear hf a; intro v a w hR hf
  obtain ⟨rfl, hx⟩ := hR; replace hh := hh.more hx; clear hx
  refine o_v hf hh (yv_bin rfl rfl rfl) ?_; clear hf a; intro a hf
  refine o_v hf hh (yv_assign rfl) ?_; clear hf a; intro a hf
  refine o_end ?_
  refine sy_ret ?_
  refine ret_r hf rfl rfl ?_
  exact ⟨rfl, hh.ext⟩
end Go.Proofs.YtemmhdgaagaglaaDoor
namespace Go.MatM
open Go Go.Sy
/-- What 106 cells hold: the rows, which marks fit, how many pairs a way has at least. -/
structure RowA (d : RowsD) (sa sb : Option Addr) (ca cb : Nat) (F : Nat → Nat → Bool) (cs : Array Value) : Prop where
  size : cs.size = 106
  l : cs[0]? = some (.slice sa d.l.length ca)
  r : cs[1]? = some (.slice sb d.r.length cb)
  lo : cs[2]? = some (.int .i64 d.lo)
  hi : cs[3]? = some (.int .i64 d.hi)
  hid : cs[4]? = some (.int .i64 d.hid)
  fit : ∀ i k, i < 10 → k < 10 → cs[5 + i * 10 + k]? = some (.bool (F i k))
  need : cs[105]? = some (.int .i64 (needI d))
def updF (F : Nat → Nat → Bool) (i k : Nat) (b : Bool) : Nat → Nat → Bool := fun x y => if x = i ∧ y = k then b else F x y
theorem RowA.set {d : RowsD} {sa sb : Option Addr} {ca cb : Nat} {F : Nat → Nat → Bool} {cs : Array Value} (h : RowA d sa sb ca cb F cs) {i k : Nat} (hi : i < 10) (hk : k < 10) (b : Bool) : RowA d sa sb ca cb (updF F i k b) (cs.setIfInBounds (5 + i * 10 + k) (.bool b)) := by
  have g : ∀ j, j ≠ 5 + i * 10 + k → (cs.setIfInBounds (5 + i * 10 + k) (.bool b))[j]? = cs[j]? := fun j hj => Array.getElem?_setIfInBounds_ne (Ne.symm hj)
  refine ⟨by rw [Array.size_setIfInBounds, h.size], ?_, ?_, ?_, ?_, ?_, fun x y hx hy => ?_, ?_⟩
  · rw [g _ (by omega), h.l]
  · rw [g _ (by omega), h.r]
  · rw [g _ (by omega), h.lo]
  · rw [g _ (by omega), h.hi]
  · rw [g _ (by omega), h.hid]
  · unfold updF
    by_cases e : x = i ∧ y = k
    · rw [if_pos e, e.1, e.2, Array.getElem?_setIfInBounds_self_of_lt (by rw [h.size]; omega)]
    · rw [if_neg e, g _ (by omega), h.fit x y hx hy]
  · rw [g _ (by omega), h.need]
theorem RowA.congr {d : RowsD} {sa sb : Option Addr} {ca cb : Nat} {F G : Nat → Nat → Bool} {cs : Array Value} (h : RowA d sa sb ca cb F cs) (e : ∀ i k, i < 10 → k < 10 → F i k = G i k) : RowA d sa sb ca cb G cs :=
  ⟨h.size, h.l, h.r, h.lo, h.hi, h.hid, fun i k hi hk => by rw [h.fit i k hi hk, e i k hi hk], h.need⟩
theorem RowA.fitA {d : RowsD} {sa sb : Option Addr} {ca cb : Nat} {F : Nat → Nat → Bool} {cs : Array Value} (h : RowA d sa sb ca cb F cs) {i k : Nat} (hi : i < 10) (hk : k < 10) : cs[0 + 5 + ((i : Nat) : Int).toNat * 10 + ((k : Nat) : Int).toNat * 1]? = some (.bool (F i k)) := by
  simpa using h.fit i k hi hk
theorem RowA.one {d : RowsD} {sa sb : Option Addr} {ca cb : Nat} {F : Nat → Nat → Bool} {cs : Array Value} (h : RowA d sa sb ca cb F cs) : cs.toList.all (·.oneCell') = true := by
  rw [List.all_eq_true]
  intro v hv
  obtain ⟨j, hj, rfl⟩ := List.getElem_of_mem hv
  have hj' : j < cs.size := by simpa using hj
  have key : ∀ u : Value, cs[j]? = some u → u.oneCell' = true → (cs.toList[j]).oneCell' = true := fun u h1 h2 => by
    have e : cs[j]? = some cs[j] := Array.getElem?_eq_getElem hj'
    rw [e] at h1; cases h1
    rw [Array.getElem_toList]; exact h2
  have hs := h.size
  rcases Nat.lt_or_ge j 5 with h5 | h5
  · have : j = 0 ∨ j = 1 ∨ j = 2 ∨ j = 3 ∨ j = 4 := by omega
    rcases this with rfl | rfl | rfl | rfl | rfl
    · exact key _ h.l rfl
    · exact key _ h.r rfl
    · exact key _ h.lo rfl
    · exact key _ h.hi rfl
    · exact key _ h.hid rfl
  · rcases Nat.lt_or_ge j 105 with h6 | h6
    · have e := h.fit ((j - 5) / 10) ((j - 5) % 10) (by omega) (by omega)
      rw [show 5 + (j - 5) / 10 * 10 + (j - 5) % 10 = j by omega] at e
      exact key _ e rfl
    · have : j = 105 := by omega
      subst this
      exact key _ h.need rfl
end Go.MatM
namespace Go.Proofs.YtemmhdgaagaglaaDoor
open Go Go.Sy Go.MatM
def isF : Option Value → Bool
  | some (.bool false) => true
  | _ => false
theorem cells_false (cs : Array Value) (h : (List.range 100).all (fun j => isF cs[5 + j]?) = true) : ∀ i k, i < 10 → k < 10 → cs[5 + i * 10 + k]? = some (.bool false) := fun i k hi hk => by
  have h1 := List.all_eq_true.1 h (i * 10 + k) (List.mem_range.2 (by omega))
  rw [← Nat.add_assoc] at h1
  unfold isF at h1
  split at h1
  · assumption
  · cases h1
def procF (d : RowsD) (i k : Nat) : Nat → Nat → Bool := fun x y => fitD d x y && decide (x < i ∨ x = i ∧ y < k)
theorem need_bd {d : RowsD} (hV : Valid d) : -9223372036854775808 ≤ needI d ∧ needI d ≤ 9223372036854775807 := by
  have h1 := hV.nl; have h2 := hV.nr; have h3 := hV.h1; have h4 := hV.h2
  unfold needI
  have := Int.tdiv_eq_ediv (a := ((d.l.length + d.r.length : Nat) - d.hid + 1)) (b := 2)
  rw [this]
  rw [show Int.sign 2 = 1 from rfl]
  split <;> omega
theorem fitD_eq {d : RowsD} {i k : Nat} {x y : Mk} (hx : d.l[i]? = some x) (hy : d.r[k]? = some y) : fitD d i k = fitM d.lo d.hi x y := by simp [fitD, hx, hy]
theorem procF_next {d : RowsD} {i k : Nat} : updF (procF d i k) i k (fitD d i k) = procF d i (k + 1) := by
  funext x y
  unfold updF procF
  split
  · rename_i h; simp [h.1, h.2]
  · rename_i h
    congr 1
    rw [decide_eq_decide]
    omega
theorem procF_row {d : RowsD} {i : Nat} : procF d i d.r.length = procF d (i + 1) 0 := by
  funext x y
  unfold procF
  by_cases h : y < d.r.length
  · congr 1; rw [decide_eq_decide]; omega
  · have : fitD d x y = false := by
      unfold fitD; rw [List.getElem?_eq_none (l := d.r) (by omega)]; cases d.l[x]? <;> rfl
    rw [this]; rfl
theorem procF_all {d : RowsD} : procF d d.l.length 0 = fitD d := by
  funext x y
  unfold procF
  by_cases h : x < d.l.length
  · simp [h]
  · have : fitD d x y = false := by
      unfold fitD; rw [List.getElem?_eq_none (l := d.l) (by omega)]
    rw [this]; rfl
theorem RowA_spl {d : RowsD} {sa sb : Option Addr} {ca cb : Nat} {F : Nat → Nat → Bool} {cs : Array Value} (h : RowA d sa sb ca cb F cs) {i k off : Nat} {b b' : Bool} (hi : i < 10) (hk : k < 10) (ho : off = 5 + i * 10 + k) (hb : b' = b) : RowA d sa sb ca cb (updF F i k b) (spl cs off [.bool b']) := by
  subst ho; subst hb
  rw [spl_one _ _ (by rw [h.size]; omega)]
  exact h.set hi hk b'
theorem procF_zero {d : RowsD} : procF d 0 0 = fun _ _ => false := by
  funext x y; simp [procF]
theorem c44 (d : RowsD) (sa sb : Option Addr) (ca cb : Nat) (u : World) (hA : MkAt u sa d.l) (hB : MkAt u sb d.r) (hV : Valid d) : Calls Tryd.prog 44 #[rowsV d sa sb ca cb] u (Ret fun v w' => ∃ B cs, v = ptr B 0 ∧ RowA d sa sb ca cb (fitD d) cs ∧ Hp u [] [(B, .cells cs 73)] w') := by
  refine calls_of Tryd.func44 rfl rfl (fun a hf => ?_)
  have hh := Hp.init u []
  have hnb := need_bd hV; have hnl := hV.nl; have hnr := hV.nr; have hh1 := hV.h1; have hh2 := hV.h2
  refine sy_sq ?_
  refine o_box hf hh ?_; clear hf hh a; intro B1 a w hf hh
  refine o_v hf hh (yv_assign rfl) ?_; clear hf a; intro a hf
  refine o_end ?_
  refine sy_sq ?_
  refine o_v hf hh (y_lds Tryd.ag_26 rfl) ?_; clear hf a; intro a hf
  refine o_v hf hh (yv_fieldAddr Tryd.fo_26_0 rfl) ?_; clear hf a; intro a hf
  refine o_v hf hh (y_ld Tryd.sc_22 rfl) ?_; clear hf a; intro a hf
  refine o_v hf hh (yv_len Tryd.se_22 rfl) ?_; clear hf a; intro a hf
  refine o_v hf hh (yv_fieldAddr Tryd.fo_26_1 rfl) ?_; clear hf a; intro a hf
  refine o_v hf hh (y_ld Tryd.sc_22 rfl) ?_; clear hf a; intro a hf
  refine o_v hf hh (yv_len Tryd.se_22 rfl) ?_; clear hf a; intro a hf
  refine o_v hf hh (y_add rfl rfl) ?_; clear hf a; intro a hf
  refine o_v hf hh (yv_fieldAddr Tryd.fo_26_3 rfl) ?_; clear hf a; intro a hf
  refine o_v hf hh (y_ld Tryd.sc_3 rfl) ?_; clear hf a; intro a hf
  refine o_v hf hh (y_sub rfl rfl) ?_; clear hf a; intro a hf
  refine o_v hf hh (y_add rfl rfl) ?_; clear hf a; intro a hf
  refine o_v hf hh (yv_quoT rfl rfl (by omega) hnb.1 hnb.2) ?_; clear hf a; intro a hf
  refine o_v hf hh (yv_buildS Tryd.bs_73 rfl rfl) ?_; clear hf a; intro a hf
  refine o_box hf hh ?_; clear hf hh a; intro B25 a w hf hh
  refine o_v hf hh (yv_assign rfl) ?_; clear hf a; intro a hf
  refine o_end ?_
  refine sy_sq ?_
  refine o_v hf hh (yv_assign rfl) ?_; clear hf a; intro a hf
  refine o_end ?_
  refine sy_sq ?_
  refine o_v hf hh (yv_makeFunc rfl rfl) ?_; clear hf a; intro a hf
  refine o_v hf hh (yv_assign rfl) ?_; clear hf a; intro a hf
  refine o_end ?_
  refine sy_sq ?_
  refine o_v hf hh (yv_move rfl) ?_; clear hf a; intro a hf
  refine o_v hf hh (yv_move rfl) ?_; clear hf a; intro a hf
  refine o_v hf hh (yv_buildS Tryd.bs_115 rfl rfl) ?_; clear hf a; intro a hf
  refine o_v hf hh (yv_move rfl) ?_; clear hf a; intro a hf
  refine o_v hf hh (yv_buildS Tryd.bs_115 rfl rfl) ?_; clear hf a; intro a hf
  refine ops_buildSl hf hh Tryd.bl_116_2 rfl rfl (.inl rfl) rfl ?_; clear hf hh; clear a; intro B32 a w hf hh
  refine o_v hf hh (yv_assign rfl) ?_; clear hf a; intro a hf
  refine o_end ?_
  refine sy_seq ?_
  refine sy_seq ?_
  obtain ⟨cs0, hR0, hh⟩ : ∃ cs0, RowA d sa sb ca cb (procF d 0 0) cs0 ∧ Hp u [] [(B32, .cells (rulesC B1) 115), (B25, .cells cs0 73), (B1, .cells (rowsV d sa sb ca cb).cells 26)] w := by
    refine ⟨_, ?_, hh⟩
    rw [procF_zero]
    exact ⟨rfl, rfl, rfl, rfl, rfl, rfl, cells_false _ rfl, rfl⟩
  refine sy_ops ?_
  refine o_v hf hh (yv_fieldAddr Tryd.fo_26_0 rfl) ?_; clear hf a; intro a hf
  refine o_v hf hh (y_ld Tryd.sc_22 rfl) ?_; clear hf a; intro a hf
  refine o_v hf hh (yv_len Tryd.se_22 rfl) ?_; clear hf a; intro a hf
  refine o_v hf hh (yv_move rfl) ?_; clear hf a; intro a hf
  refine o_end ?_
  refine sy_block ?_
  refine sy_loopH (σ := Nat) [7, 8, 9, 10, 36, 37, 38, 39, 40, 41, 42, 43, 44, 45, 46, 47, 48, 49, 50, 51, 52, 53, 54, 55, 56, 57, 58, 59, 60, 61] (fun i => [(36, .int .i64 i)]) (fun i => fun w => i ≤ d.l.length ∧ ∃ cs, RowA d sa sb ca cb (procF d i 0) cs ∧ Hp u [] [(B32, .cells (rulesC B1) 115), (B25, .cells cs 73), (B1, .cells (rowsV d sa sb ca cb).cells 26)] w) (fun i => d.l.length - i) (0) hf ?_ ?_ ?_
  · repeat' (first | exact True.intro | refine And.intro rfl ?_)
  · exact ⟨Nat.zero_le _, _, hR0, hh⟩
  ·rintro i a w ⟨hi, cs, hR, hh⟩ hf
   refine sy_sq ?_
   refine o_v hf hh (yv_bin rfl rfl rfl) ?_; clear hf a; intro a hf
   refine o_end ?_
   refine sy_seq ?_
   refine sy_cond hf rfl (fun hg3 => ?_) (fun hg3 => ?_)
   ·have hG3 := hg3; try simp only [gS] at hG3
    refine sy_skip ?_
    refine then_n ?_
    refine sy_seq ?_
    refine sy_block ?_
    refine sy_seq ?_
    obtain ⟨x, hx⟩ := ex_of (l := d.l) (i := i) (by omega)
    obtain ⟨blk, off, cc, T, fr, e, hbx, hcx⟩ := hA i x hx
    refine sy_ops ?_
    refine o_v hf hh (yv_move rfl) ?_; clear hf a; intro a hf
    refine o_v hf hh (y_ix (b := blk) (off := off) Tryd.se_22 (congrArg (fun z => some (Value.slice z d.l.length ca)) e) rfl) ?_; clear hf a; intro a hf
    refine o_v hf hh (y_lds Tryd.ag_53 rfl) ?_; clear hf a; intro a hf
    refine o_alloc hf hh Tryd.ze_53 ?_; clear hf hh a; intro B8 a w hf hh
    refine o_v hf hh (yv_assign rfl) ?_; clear hf a; intro a hf
    refine o_store hf hh Tryd.sz_53 fun w hh => ?_
    refine o_end ?_
    refine sy_sq ?_
    refine o_v hf hh (yv_fieldAddr Tryd.fo_26_1 rfl) ?_; clear hf a; intro a hf
    refine o_v hf hh (y_ld Tryd.sc_22 rfl) ?_; clear hf a; intro a hf
    refine o_v hf hh (yv_len Tryd.se_22 rfl) ?_; clear hf a; intro a hf
    refine o_v hf hh (yv_move rfl) ?_; clear hf a; intro a hf
    refine o_end ?_
    refine sy_block ?_
    refine sy_loopH (σ := Nat) [9, 10, 44, 45, 46, 47, 48, 49, 50, 51, 52, 53, 54, 55, 56, 57, 58, 59, 60] (fun k => [(44, .int .i64 k)]) (fun k => fun w => k ≤ d.r.length ∧ ∃ cs, RowA d sa sb ca cb (procF d i k) cs ∧ Hp u [] [(B8, .cells (mkV x).cells 53), (B32, .cells (rulesC B1) 115), (B25, .cells cs 73), (B1, .cells (rowsV d sa sb ca cb).cells 26)] w) (fun k => d.r.length - k) (0) hf ?_ ?_ ?_
    · repeat' (first | exact True.intro | refine And.intro rfl ?_)
    · exact ⟨Nat.zero_le _, _, hR, hh⟩
    ·rintro k a w ⟨hk, cs2, hR2, hh⟩ hf
     refine sy_sq ?_
     refine o_v hf hh (yv_bin rfl rfl rfl) ?_; clear hf a; intro a hf
     refine o_end ?_
     refine sy_seq ?_
     refine sy_cond hf rfl (fun hg6 => ?_) (fun hg6 => ?_)
     ·have hG6 := hg6; try simp only [gS] at hG6
      refine sy_skip ?_
      refine then_n ?_
      refine sy_seq ?_
      refine sy_block ?_
      refine sy_seq ?_
      obtain ⟨y, hy⟩ := ex_of (l := d.r) (i := k) (by omega)
      obtain ⟨blk2, off2, cc2, T2, fr2, e2, hby, hcy⟩ := hB k y hy
      have hsz := hR2.size
      refine sy_ops ?_
      refine o_v hf hh (yv_move rfl) ?_; clear hf a; intro a hf
      refine o_v hf hh (y_ix (b := blk2) (off := off2) Tryd.se_22 (congrArg (fun z => some (Value.slice z d.r.length cb)) e2) rfl) ?_; clear hf a; intro a hf
      refine o_v hf hh (y_lds Tryd.ag_53 rfl) ?_; clear hf a; intro a hf
      refine o_alloc hf hh Tryd.ze_53 ?_; clear hf hh a; intro B10 a w hf hh
      refine o_v hf hh (yv_assign rfl) ?_; clear hf a; intro a hf
      refine o_store hf hh Tryd.sz_53 fun w hh => ?_
      refine o_end ?_
      refine sy_tail (C := Hp _ _ _) 11 Tryd.follows (by kernel_rfl) rfl rfl (hh.drawn _) ?_
      refine oq_v hf (yv_move rfl) ?_; clear hf a; intro a hf
      refine oq_v hf (yv_move rfl) ?_; clear hf a; intro a hf
      refine oq_v hf (yv_move rfl) ?_; clear hf a; intro a hf
      refine oq_v hf (yv_move rfl) ?_; clear hf a; intro a hf
      refine oq_v hf (yv_makeFunc rfl rfl) ?_; clear hf a; intro a hf
      refine oq_call hf Tryd.en_83 rfl rfl rfl (fun w hh => c83 x y B8 B10 _ (hh.at (i := 1) rfl) (hh.at (i := 0) rfl) d sa sb ca cb B1 B32 (hh.at (i := 4) rfl) hV.s1 hV.s2 hV.s3 (hV.ml x (List.mem_of_getElem? hx)) (hh.at (i := 2) rfl)) ?_; clear hf a; intro a hf
      refine oq_v hf (yv_not rfl) ?_; clear hf a; intro a hf
      refine oq_v hf (yv_nilCheck rfl) ?_; clear hf a; intro a hf
      refine oq_v hf (yv_fieldAddr Tryd.fo_73_1 rfl) ?_; clear hf a; intro a hf
      refine oq_v hf (y_ia Tryd.ae_71 rfl rfl) ?_; clear hf a; intro a hf
      refine oq_v hf (y_ia Tryd.ae_70 rfl rfl) ?_; clear hf a; intro a hf
      refine q_end fun w hh => ?_
      refine o_store hf hh Tryd.sz_4 fun w hh => ?_
      refine ops_end ?_
      refine blk_n ?_
      refine then_n ?_
      refine sy_ops ?_
      refine o_v hf hh (y_add rfl rfl) ?_; clear hf a; intro a hf
      refine o_v hf hh (yv_move rfl) ?_; clear hf a; intro a hf
      refine ops_end ?_
      refine then_n ?_
      refine ⟨k + 1, ⟨⟨by omega, _, ?_, hh.less (.cons _ (List.Sublist.refl _))⟩, (hf.head (by repeat' (first | exact True.intro | refine And.intro rfl ?_)) (Keep.cons rfl (Keep.cons rfl (Keep.cons rfl (Keep.cons rfl (Keep.cons rfl (Keep.cons rfl (Keep.cons rfl (Keep.cons rfl (Keep.cons rfl (Keep.cons rfl (Keep.cons rfl (Keep.cons rfl (Keep.cons rfl (Keep.cons rfl (Keep.cons rfl (Keep.cons rfl (Keep.cons rfl (Keep.cons rfl (Keep.cons rfl (Keep.app rfl (Keep.rm rfl Keep.base))))))))))))))))))))))⟩, by omega⟩
      rw [← procF_next]
      exact RowA_spl hR2 (by omega) (by omega) (by first | (simp; done) | (simp; omega)) (by rw [fitD_eq hx hy]; exact brk_fit (hV.ml x (List.mem_of_getElem? hx)) (hV.mr y (List.mem_of_getElem? hy)) hV.s2)
     ·have hG6 := hg6; try simp only [gS] at hG6
      refine sy_exit ?_
      refine then_e ?_
      refine then_e ?_
      refine blk_e ?_
      refine blk_n ?_
      refine then_n ?_
      refine sy_ops ?_
      refine o_v hf hh (y_add rfl rfl) ?_; clear hf a; intro a hf
      refine o_v hf hh (yv_move rfl) ?_; clear hf a; intro a hf
      refine ops_end ?_
      refine then_n ?_
      exact ⟨i + 1, ⟨⟨by omega, cs2, by rw [← procF_row, ← (show k = d.r.length by omega)]; exact hR2, hh.less (.cons _ (List.Sublist.refl _))⟩, (hf.head (by repeat' (first | exact True.intro | refine And.intro rfl ?_)) (Keep.cons rfl (Keep.cons rfl (Keep.cons rfl (Keep.app rfl (Keep.rm rfl (Keep.cons rfl (Keep.cons rfl (Keep.cons rfl (Keep.cons rfl (Keep.cons rfl (Keep.cons rfl (Keep.cons rfl (Keep.cons rfl (Keep.cons rfl (Keep.cons rfl (Keep.app rfl (Keep.rm rfl Keep.base))))))))))))))))))⟩, by omega⟩
   ·have hG3 := hg3; try simp only [gS] at hG3
    refine sy_exit ?_
    refine then_e ?_
    refine then_e ?_
    refine blk_e ?_
    refine then_n ?_
    refine sy_sq ?_
    refine o_v hf hh (yv_move rfl) ?_; clear hf a; intro a hf
    refine o_v hf hh (yv_assign rfl) ?_; clear hf a; intro a hf
    refine o_end ?_
    refine sy_ret ?_
    refine ret_r hf rfl rfl ?_
    have hie : i = d.l.length := by omega
    subst hie
    exact ⟨B25, cs, rfl, procF_all ▸ hR, hh.less (.cons _ (.cons_cons _ (.cons _ .slnil)))⟩
end Go.Proofs.YtemmhdgaagaglaaDoor
namespace Go.MatM
theorem len_of_mem {α : Type} [DecidableEq α] : ∀ {l m : List α}, l.Nodup → m.Nodup → (∀ x, x ∈ l ↔ x ∈ m) → l.length = m.length
  | [], m, _, _, h => by
    have : m = [] := List.eq_nil_iff_forall_not_mem.2 fun x hx => by have := (h x).2 hx; simp at this
    rw [this]
  | a :: l, m, hl, hm, h => by
    have ha : a ∈ m := (h a).1 (.head _)
    rw [List.nodup_cons] at hl
    have ih := len_of_mem (l := l) (m := m.erase a) hl.2 (hm.erase a) fun x => by
      rw [hm.mem_erase_iff, ← h x, List.mem_cons]
      constructor
      · intro hx; exact ⟨fun e => hl.1 (e ▸ hx), .inr hx⟩
      · rintro ⟨h1, h2 | h2⟩
        · exact absurd h2 h1
        · exact h2
    have := List.length_erase_of_mem ha
    have := List.length_pos_of_mem ha
    rw [List.length_cons]; omega
theorem countP_two {α : Type} {p q r : α → Bool} : ∀ {l : List α}, (∀ c ∈ l, p c = (q c || r c)) → (∀ c ∈ l, q c = true → r c = true → False) → l.countP p = l.countP q + l.countP r
  | [], _, _ => rfl
  | c :: l, h, h2 => by
    rw [List.countP_cons, List.countP_cons, List.countP_cons, countP_two (l := l) (fun x hx => h x (.tail _ hx)) (fun x hx => h2 x (.tail _ hx))]
    have e := h c (.head _)
    have e2 := h2 c (.head _)
    cases hq : q c <;> cases hr : r c <;> simp_all <;> omega
/-- How many ways there are with a pair, and in which a left mark is hidden. -/
def wP (F : Nat → Nat → Bool) (L R i k n : Nat) : Nat := (chs F L R 0 0).countP fun c => decide (n ≤ c.length) && decide ((i, k) ∈ c)
def wH (F : Nat → Nat → Bool) (L R i n : Nat) : Nat := (chs F L R 0 0).countP fun c => decide (n ≤ c.length) && c.all fun p => !decide (p.1 = i)
theorem wH_eq {F : Nat → Nat → Bool} {L R i n : Nat} : cnt (fun a b => F a b && !decide (a = i)) L R 0 0 n = wH F L R i n := by
  unfold cnt wH
  rw [chs_filter F (fun a _ => !decide (a = i)), List.countP_filter]
theorem Ch_same {F : Nat → Nat → Bool} {L R i0 k0 : Nat} {c : List Pr} (hc : Ch F L R i0 k0 c) {p q : Pr} (hp : p ∈ c) (hq : q ∈ c) (h : p.1 = q.1) : p = q := by
  have := okP_iff.1 (pair_ok hc hp hq)
  obtain ⟨a, b⟩ := p
  obtain ⟨x, y⟩ := q
  simp only at this h
  simp only [Prod.mk.injEq]
  omega
theorem wHP_eq {F : Nat → Nat → Bool} {L R i k n : Nat} : cnt (fun a b => F a b && !(decide (a = i) && !decide (b = k))) L R 0 0 n = wH F L R i n + wP F L R i k n := by
  unfold cnt wH wP
  rw [chs_filter F (fun a b => !(decide (a = i) && !decide (b = k))), List.countP_filter]
  refine countP_two (fun c hc => ?_) (fun c hc => ?_)
  · rw [← Bool.and_or_distrib_left]
    congr 1
    rw [Bool.eq_iff_iff]
    simp only [List.all_eq_true, Bool.or_eq_true, decide_eq_true_eq, Bool.not_eq_true', Bool.and_eq_false_iff, decide_eq_false_iff_not, Bool.not_eq_false', decide_eq_true_eq]
    constructor
    · intro h
      by_cases h1 : ∃ p ∈ c, p.1 = i
      · obtain ⟨p, hp, e⟩ := h1
        right
        rcases h p hp with h2 | h2
        · exact absurd e h2
        · rw [← e, ← h2]; exact hp
      · left; intro p hp e; exact h1 ⟨p, hp, e⟩
    · rintro (h | h) p hp
      · exact .inl (h p hp)
      · by_cases e : p.1 = i
        · right; rw [Ch_same (mem_chs.1 hc) hp h e]
        · exact .inl e
  · simp only [Bool.and_eq_true, decide_eq_true_eq, List.all_eq_true, Bool.not_eq_true', decide_eq_false_iff_not]
    intro h1 h2
    exact h1.2 _ h2.2 rfl
theorem sum_ind : ∀ (R k0 : Nat), ((List.range R).map fun k => if k = k0 then 1 else 0).sum = if k0 < R then 1 else 0
  | 0, _ => by simp
  | R + 1, k0 => by
    rw [List.range_succ, List.map_append, List.sum_append, sum_ind R k0]
    simp only [List.map_cons, List.map_nil, List.sum_cons, List.sum_nil]
    by_cases h : k0 < R
    · rw [if_pos h, if_neg (by omega), if_pos (by omega)]; rfl
    · by_cases h2 : R = k0
      · rw [if_neg h, if_pos h2, if_pos (by omega)]; rfl
      · rw [if_neg h, if_neg h2, if_neg (by omega)]; rfl
theorem sum_add' {α : Type} {f g : α → Nat} : ∀ {l : List α}, (l.map fun x => f x + g x).sum = (l.map f).sum + (l.map g).sum
  | [] => rfl
  | a :: l => by simp only [List.map_cons, List.sum_cons, sum_add' (l := l)]; omega
theorem one_partner {F : Nat → Nat → Bool} {L R i n : Nat} {c : List Pr} (hc : Ch F L R 0 0 c) : (if decide (n ≤ c.length) = true then 1 else 0) =
    (if (decide (n ≤ c.length) && c.all fun p => !decide (p.1 = i)) = true then 1 else 0) + ((List.range R).map fun k => if (decide (n ≤ c.length) && decide ((i, k) ∈ c)) = true then 1 else 0).sum := by
  by_cases hn : n ≤ c.length
  · simp only [hn, decide_true, Bool.true_and, if_true, decide_eq_true_eq]
    by_cases h1 : ∃ p ∈ c, p.1 = i
    · obtain ⟨p, hp, e⟩ := h1
      have e1 : (c.all fun p => !decide (p.1 = i)) = false := by
        rw [Bool.eq_false_iff]; intro h
        have := List.all_eq_true.1 h p hp
        simp [e] at this
      have e2 : ((List.range R).map fun k => if (i, k) ∈ c then 1 else 0) = (List.range R).map fun k => if k = p.2 then 1 else 0 := by
        refine List.map_congr_left fun k _ => ?_
        by_cases hk : k = p.2
        · rw [if_pos hk, if_pos]; rw [← e, hk]; exact hp
        · rw [if_neg hk, if_neg]
          intro h
          have := Ch_same hc h hp e.symm
          exact hk (by rw [← this])
      rw [e1, e2, sum_ind, if_pos ((Ch_iff.1 hc).1 p hp).2.2.2.1]
      simp
    · have e1 : (c.all fun p => !decide (p.1 = i)) = true := by
        rw [List.all_eq_true]; intro p hp
        simp only [Bool.not_eq_true', decide_eq_false_iff_not]
        exact fun e => h1 ⟨p, hp, e⟩
      have e2 : ((List.range R).map fun k => if (i, k) ∈ c then 1 else 0) = (List.range R).map fun k => if k = R then 1 else 0 := by
        refine List.map_congr_left fun k hk => ?_
        rw [List.mem_range] at hk
        rw [if_neg (show ¬ k = R by omega), if_neg]
        exact fun h => h1 ⟨_, h, rfl⟩
      rw [e1, e2, sum_ind]
      simp
  · simp only [hn, decide_false, Bool.false_and, if_neg (by decide : ¬ false = true)]
    rw [List.sum_eq_zero_iff_forall_eq_nat.2 (by intro x hx; obtain ⟨k, _, rfl⟩ := List.mem_map.1 hx; rfl)]
theorem cnt_parts {F : Nat → Nat → Bool} {L R i n : Nat} : cnt F L R 0 0 n = wH F L R i n + ((List.range R).map fun k => wP F L R i k n).sum := by
  unfold cnt wH wP
  have hm : ∀ c ∈ chs F L R 0 0, Ch F L R 0 0 c := fun c h => mem_chs.1 h
  generalize chs F L R 0 0 = l at hm
  induction l with
  | nil =>
    simp only [List.countP_nil]
    rw [List.sum_eq_zero_iff_forall_eq_nat.2 (by intro x hx; obtain ⟨k, _, rfl⟩ := List.mem_map.1 hx; rfl)]
  | cons c l ih =>
    have ih := ih fun x hx => hm x (.tail _ hx)
    have h1 := one_partner (i := i) (n := n) (hm c (.head _))
    simp only [List.countP_cons]
    rw [ih, sum_add', h1]
    omega
/-- A row's marks without one of them. -/
def sk (i a : Nat) : Nat := if a < i then a else a + 1
theorem Ch_map {F G : Nat → Nat → Bool} {L R L' R' i k i' k' : Nat} {f g : Nat → Nat} (hf : ∀ a b, a < b → f a < f b) (hg : ∀ a b, a < b → g a < g b) {c : List Pr} (h : Ch F L R i k c)
    (hF : ∀ a b, i ≤ a → a < L → k ≤ b → b < R → F a b = true → i' ≤ f a ∧ f a < L' ∧ k' ≤ g b ∧ g b < R' ∧ G (f a) (g b) = true) : Ch G L' R' i' k' (c.map fun p => (f p.1, g p.2)) := by
  rw [Ch_iff] at h ⊢
  constructor
  · intro p hp
    obtain ⟨q, hq, rfl⟩ := List.mem_map.1 hp
    have := h.1 q hq
    exact hF _ _ this.1 this.2.1 this.2.2.1 this.2.2.2.1 this.2.2.2.2
  · rw [List.pairwise_map]
    exact h.2.imp fun {a b} hab => ⟨hf _ _ hab.1, hg _ _ hab.2⟩
theorem nodup_map_inj {α β : Type} {f : α → β} {l : List α} (hf : ∀ x ∈ l, ∀ y ∈ l, f x = f y → x = y) (h : l.Nodup) : (l.map f).Nodup := by
  unfold List.Nodup
  rw [List.pairwise_map]
  refine List.Pairwise.imp_of_mem ?_ h
  intro a b ha hb hab e
  exact hab (hf a ha b hb e)
theorem countP_len {α : Type} {p : α → Bool} {l : List α} : l.countP p = (l.filter p).length := List.countP_eq_length_filter
theorem map_inj_list {f g : Nat → Nat} (hf : ∀ a b, f a = f b → a = b) (hg : ∀ a b, g a = g b → a = b) : ∀ (x y : List Pr), (x.map fun p => (f p.1, g p.2)) = (y.map fun p => (f p.1, g p.2)) → x = y
  | [], [], _ => rfl
  | p :: x, q :: y, h => by
    simp only [List.map_cons, List.cons.injEq, Prod.mk.injEq] at h
    rw [map_inj_list hf hg x y h.2, show p = q from Prod.ext (hf _ _ h.1.1) (hg _ _ h.1.2)]
  | [], _ :: _, h => by simp at h
  | _ :: _, [], h => by simp at h
theorem sk_inj {i : Nat} : ∀ a b, sk i a = sk i b → a = b := fun a b h => by unfold sk at h; split at h <;> split at h <;> omega
theorem wH_sk {F : Nat → Nat → Bool} {L R i n : Nat} (hi : i < L) : cnt (fun a b => F (sk i a) b) (L - 1) R 0 0 n = wH F L R i n := by
  unfold cnt wH
  rw [countP_len, countP_len, ← List.length_map (fun c : List Pr => c.map fun p => (sk i p.1, p.2))]
  refine len_of_mem (nodup_map_inj (fun x _ y _ h => map_inj_list sk_inj (fun _ _ h => h) x y h) (List.Pairwise.filter _ (chs_nodup ..))) (List.Pairwise.filter _ (chs_nodup ..)) fun c => ?_
  simp only [List.mem_map, List.mem_filter, mem_chs, Bool.and_eq_true, decide_eq_true_eq, List.all_eq_true, Bool.not_eq_true', decide_eq_false_iff_not]
  constructor
  · rintro ⟨d, ⟨hd, hn⟩, rfl⟩
    refine ⟨Ch_map (f := sk i) (g := fun b => b) (fun a b h => by unfold sk; split <;> split <;> omega) (fun a b h => h) hd fun a b _ h1 _ h2 h3 => ⟨by omega, by unfold sk; split <;> omega, by omega, h2, h3⟩, by rw [List.length_map]; exact hn, fun p hp => ?_⟩
    obtain ⟨q, _, rfl⟩ := List.mem_map.1 hp
    show sk i q.1 ≠ i
    unfold sk; split <;> omega
  · rintro ⟨hc, hn, hi'⟩
    refine ⟨c.map fun p => ((fun a => if a < i then a else a - 1) p.1, (fun b => b) p.2), ⟨?_, by rw [List.length_map]; exact hn⟩, ?_⟩
    · rw [Ch_iff] at hc ⊢
      constructor
      · intro p hp
        obtain ⟨q, hq, rfl⟩ := List.mem_map.1 hp
        have h1 := hc.1 q hq
        have h2 := hi' q hq
        have e : sk i (if q.1 < i then q.1 else q.1 - 1) = q.1 := by
          unfold sk
          by_cases hq : q.1 < i
          · simp only [if_pos hq]
          · simp only [if_neg hq]; rw [if_neg (by omega)]; omega
        refine ⟨by omega, by show (if q.1 < i then q.1 else q.1 - 1) < L - 1; split <;> omega, by omega, h1.2.2.2.1, ?_⟩
        show F (sk i (if q.1 < i then q.1 else q.1 - 1)) q.2 = true
        rw [e]; exact h1.2.2.2.2
      · rw [List.pairwise_map]
        refine List.Pairwise.imp_of_mem ?_ hc.2
        intro a b ha hb hab
        have h1 := hi' a ha
        have h2 := hi' b hb
        refine ⟨?_, hab.2⟩
        show (if a.1 < i then a.1 else a.1 - 1) < (if b.1 < i then b.1 else b.1 - 1)
        split <;> split <;> omega
    · rw [List.map_map]
      conv => rhs; rw [← List.map_id c]
      refine List.map_congr_left fun q hq => ?_
      have h2 := hi' q hq
      show (sk i (if q.1 < i then q.1 else q.1 - 1), q.2) = q
      have e : sk i (if q.1 < i then q.1 else q.1 - 1) = q.1 := by
          unfold sk
          by_cases hq : q.1 < i
          · simp only [if_pos hq]
          · simp only [if_neg hq]; rw [if_neg (by omega)]; omega
      rw [e]
theorem cnt_shift {F : Nat → Nat → Bool} {L R i k n : Nat} : cnt (fun a b => F (a + i) (b + k)) (L - i) (R - k) 0 0 n = cnt F L R i k n := by
  unfold cnt
  rw [countP_len, countP_len, ← List.length_map (fun c : List Pr => c.map fun p => ((fun a => a + i) p.1, (fun b => b + k) p.2))]
  refine len_of_mem (nodup_map_inj (fun x _ y _ h => map_inj_list (f := fun a => a + i) (g := fun b => b + k) (fun a b h => by omega) (fun a b h => by omega) x y h) (List.Pairwise.filter _ (chs_nodup ..))) (List.Pairwise.filter _ (chs_nodup ..)) fun c => ?_
  simp only [List.mem_map, List.mem_filter, mem_chs, decide_eq_true_eq]
  constructor
  · rintro ⟨d, ⟨hd, hn⟩, rfl⟩
    exact ⟨Ch_map (f := fun a => a + i) (g := fun b => b + k) (fun a b h => by omega) (fun a b h => by omega) hd fun a b _ h1 _ h2 h3 => ⟨by omega, by omega, by omega, by omega, h3⟩, by rw [List.length_map]; exact hn⟩
  · rintro ⟨hc, hn⟩
    refine ⟨c.map fun p => ((fun a => a - i) p.1, (fun b => b - k) p.2), ⟨?_, by rw [List.length_map]; exact hn⟩, ?_⟩
    · rw [Ch_iff] at hc ⊢
      constructor
      · intro p hp
        obtain ⟨q, hq, rfl⟩ := List.mem_map.1 hp
        have h1 := hc.1 q hq
        refine ⟨by omega, by show q.1 - i < L - i; omega, by omega, by show q.2 - k < R - k; omega, ?_⟩
        show F (q.1 - i + i) (q.2 - k + k) = true
        rw [Nat.sub_add_cancel h1.1, Nat.sub_add_cancel h1.2.2.1]; exact h1.2.2.2.2
      · rw [List.pairwise_map]
        refine List.Pairwise.imp_of_mem ?_ hc.2
        intro a b ha hb hab
        have h1 := hc.1 a ha
        have h2 := hc.1 b hb
        exact ⟨by show a.1 - i < b.1 - i; omega, by show a.2 - k < b.2 - k; omega⟩
    · rw [List.map_map]
      conv => rhs; rw [← List.map_id c]
      refine List.map_congr_left fun q hq => ?_
      have h2 := (Ch_iff.1 hc).1 q hq
      show (q.1 - i + i, q.2 - k + k) = q
      rw [Nat.sub_add_cancel h2.1, Nat.sub_add_cancel h2.2.2.1]
theorem Ch_congr {F G : Nat → Nat → Bool} {L R i k : Nat} {c : List Pr} (h : ∀ a b, a < L → b < R → F a b = G a b) : Ch F L R i k c ↔ Ch G L R i k c := by
  rw [Ch_iff, Ch_iff]
  refine and_congr_left fun _ => forall_congr' fun p => ?_
  constructor
  · intro hp hm; have := hp hm; exact ⟨this.1, this.2.1, this.2.2.1, this.2.2.2.1, by rw [← h _ _ this.2.1 this.2.2.2.1]; exact this.2.2.2.2⟩
  · intro hp hm; have := hp hm; exact ⟨this.1, this.2.1, this.2.2.1, this.2.2.2.1, by rw [h _ _ this.2.1 this.2.2.2.1]; exact this.2.2.2.2⟩
theorem prs_congr {F G : Nat → Nat → Bool} {L R : Nat} (h : ∀ a b, a < L → b < R → F a b = G a b) (i k : Nat) : prs F L R i k = prs G L R i k := by
  unfold prs
  refine flatMap_congr' fun a ha => ?_
  rw [List.mem_range'_1] at ha
  have hb : ∀ b ∈ List.range' k (R - k), (if F a b then some (a, b) else none) = (if G a b then some (a, b) else none : Option Pr) := fun b hb => by
    rw [List.mem_range'_1] at hb
    rw [h a b (by omega) (by omega)]
  revert hb
  generalize List.range' k (R - k) = l
  intro hb
  induction l with
  | nil => rfl
  | cons b l ih =>
    rw [List.filterMap_cons, List.filterMap_cons, hb b (.head _), ih fun x hx => hb x (.tail _ hx)]
theorem chF_congr {F G : Nat → Nat → Bool} {L R : Nat} (h : ∀ a b, a < L → b < R → F a b = G a b) : ∀ (f i k : Nat), chF F L R f i k = chF G L R f i k
  | 0, _, _ => rfl
  | f + 1, i, k => by
    simp only [chF]
    rw [prs_congr h]
    congr 1
    exact flatMap_congr' fun p _ => by rw [chF_congr h f]
theorem chs_congr {F G : Nat → Nat → Bool} {L R : Nat} (h : ∀ a b, a < L → b < R → F a b = G a b) (i k : Nat) : chs F L R i k = chs G L R i k := chF_congr h L i k
theorem cnt_congr {F G : Nat → Nat → Bool} {L R : Nat} (h : ∀ a b, a < L → b < R → F a b = G a b) (i k n : Nat) : cnt F L R i k n = cnt G L R i k n := by unfold cnt; rw [chs_congr h]
theorem mos_congr {F G : Nat → Nat → Bool} {L R : Nat} (h : ∀ a b, a < L → b < R → F a b = G a b) (i k : Nat) : mos F L R i k = mos G L R i k := by unfold mos; rw [chs_congr h]
/-- Ways with a pair are what both sides allow together. -/
theorem wP_split {F : Nat → Nat → Bool} {L R i k n : Nat} (hi : i < L) (hk : k < R) (hF : F i k = true) :
    wP F L R i k n = ((chs F i k 0 0).map fun c => cnt F L R (i + 1) (k + 1) (n - 1 - c.length)).sum := by
  have e : ∀ c : List Pr, cnt F L R (i + 1) (k + 1) (n - 1 - c.length) = (((chs F L R (i + 1) (k + 1)).map fun d => c ++ (i, k) :: d).filter fun d => decide (n ≤ d.length)).length := fun c => by
    rw [← countP_len, List.countP_map]
    unfold cnt
    congr 1
    funext d
    simp only [Function.comp, List.length_append, List.length_cons, decide_eq_decide]
    omega
  simp only [e]
  have e2 : ((chs F i k 0 0).map fun c => (((chs F L R (i + 1) (k + 1)).map fun d => c ++ (i, k) :: d).filter fun d => decide (n ≤ d.length)).length).sum =
      ((chs F i k 0 0).flatMap fun c => ((chs F L R (i + 1) (k + 1)).map fun d => c ++ (i, k) :: d).filter fun d => decide (n ≤ d.length)).length := by
    rw [List.length_flatMap]
  rw [e2]
  unfold wP
  rw [countP_len]
  have hins : ∀ c d : List Pr, Ch F i k 0 0 c → Ch F L R (i + 1) (k + 1) d → Ch F L R 0 0 (c ++ (i, k) :: d) := fun c d hc hd => by
    rw [Ch_iff] at *
    constructor
    · intro p hp
      rcases List.mem_append.1 hp with hp | hp
      · have := hc.1 p hp; exact ⟨this.1, by omega, this.2.2.1, by omega, this.2.2.2.2⟩
      · rcases List.mem_cons.1 hp with rfl | hp
        · exact ⟨Nat.zero_le _, hi, Nat.zero_le _, hk, hF⟩
        · have := hd.1 p hp; exact ⟨by omega, this.2.1, by omega, this.2.2.2.1, this.2.2.2.2⟩
    · rw [List.pairwise_append, List.pairwise_cons]
      refine ⟨hc.2, ⟨fun q hq => by have := hd.1 q hq; exact ⟨by show i < q.1; omega, by show k < q.2; omega⟩, hd.2⟩, fun p hp q hq => ?_⟩
      have h1 := hc.1 p hp
      rcases List.mem_cons.1 hq with rfl | hq
      · exact ⟨h1.2.1, h1.2.2.2.1⟩
      · have h2 := hd.1 q hq; exact ⟨by omega, by omega⟩
  have hsame : ∀ c d c' d' : List Pr, Ch F i k 0 0 c → Ch F i k 0 0 c' → c ++ (i, k) :: d = c' ++ (i, k) :: d' → c = c' ∧ d = d' := fun c d c' d' hc hc' he => by
    have key : ∀ (c c' : List Pr), (∀ p ∈ c, p.1 < i) → (∀ p ∈ c', p.1 < i) → c ++ (i, k) :: d = c' ++ (i, k) :: d' → c = c' ∧ d = d' := by
      intro c
      induction c with
      | nil =>
        intro c' _ h2 h3
        cases c' with
        | nil => simp at h3; exact ⟨rfl, h3⟩
        | cons p c' => simp at h3; have := h2 p (.head _); rw [← h3.1] at this; simp at this
      | cons p c ih =>
        intro c' h1 h2 h3
        cases c' with
        | nil => simp at h3; have := h1 p (.head _); rw [h3.1] at this; simp at this
        | cons q c' =>
          simp only [List.cons_append, List.cons.injEq] at h3
          obtain ⟨h4, h5⟩ := ih c' (fun x hx => h1 x (.tail _ hx)) (fun x hx => h2 x (.tail _ hx)) h3.2
          exact ⟨by rw [h3.1, h4], h5⟩
    exact key c c' (fun p hp => ((Ch_iff.1 hc).1 p hp).2.1) (fun p hp => ((Ch_iff.1 hc').1 p hp).2.1) he
  refine len_of_mem (List.Pairwise.filter _ (chs_nodup ..)) ?_ fun c => ?_
  · unfold List.Nodup
    rw [List.pairwise_flatMap]
    constructor
    · intro c hc
      refine List.Pairwise.filter _ (nodup_map_inj (fun x _ y _ h => ?_) (chs_nodup ..))
      exact (hsame c x c y (mem_chs.1 hc) (mem_chs.1 hc) h).2
    · refine List.Pairwise.imp_of_mem ?_ (chs_nodup F i k 0 0)
      intro c c' hc hc' hne x hx y hy e
      obtain ⟨d, _, rfl⟩ := List.mem_map.1 (List.mem_filter.1 hx).1
      obtain ⟨d', _, rfl⟩ := List.mem_map.1 (List.mem_filter.1 hy).1
      exact hne (hsame c d c' d' (mem_chs.1 hc) (mem_chs.1 hc') e).1
  · simp only [List.mem_filter, List.mem_flatMap, List.mem_map, mem_chs, Bool.and_eq_true, decide_eq_true_eq]
    constructor
    · rintro ⟨hc, hn, hm⟩
      obtain ⟨x, y, rfl⟩ := List.append_of_mem hm
      have h := Ch_iff.1 hc
      rw [List.pairwise_append, List.pairwise_cons] at h
      refine ⟨x, Ch_iff.2 ⟨fun p hp => ?_, h.2.1⟩, ⟨y, Ch_iff.2 ⟨fun p hp => ?_, h.2.2.1.2⟩, rfl⟩, hn⟩
      · have h1 := h.1 p (List.mem_append.2 (.inl hp))
        have h2 := h.2.2.2 p hp (i, k) (.head _)
        exact ⟨h1.1, h2.1, h1.2.2.1, h2.2, h1.2.2.2.2⟩
      · have h1 := h.1 p (List.mem_append.2 (.inr (.tail _ hp)))
        have h2 := h.2.2.1.1 p hp
        exact ⟨h2.1, h1.2.1, h2.2, h1.2.2.2.1, h1.2.2.2.2⟩
    · rintro ⟨x, hx, ⟨y, hy, rfl⟩, hn⟩
      exact ⟨hins x y hx hy, hn, by simp⟩
end Go.MatM
namespace Go.Proofs.YtemmhdgaagaglaaDoor
open Go Go.Sy Go.MatM
/-- Rows that are looked at lie in memory. -/
structure RowO (w : World) (rb : Nat) (d : RowsD) (sa sb : Option Addr) (ca cb : Nat) (F : Nat → Nat → Bool) : Prop where
  ex : ∃ cs, w.heap[rb]? = some (.cells cs 73 (0, 0)) ∧ RowA d sa sb ca cb F cs
  nl : d.l.length ≤ 10
  nr : d.r.length ≤ 10
theorem RowO.ext {w w' : World} {rb : Nat} {d : RowsD} {sa sb : Option Addr} {ca cb : Nat} {F : Nat → Nat → Bool} (h : RowO w rb d sa sb ca cb F) (e : Ext [] w w') : RowO w' rb d sa sb ca cb F :=
  ⟨let ⟨cs, h1, h2⟩ := h.ex; ⟨cs, e.get h1, h2⟩, h.nl, h.nr⟩
theorem RowO.extM {w w' : World} {M : List Nat} {rb : Nat} {d : RowsD} {sa sb : Option Addr} {ca cb : Nat} {F : Nat → Nat → Bool} (h : RowO w rb d sa sb ca cb F) (e : Ext M w w') (hm : rb ∉ M) : RowO w' rb d sa sb ca cb F :=
  ⟨let ⟨cs, h1, h2⟩ := h.ex; ⟨cs, e.getM h1 hm, h2⟩, h.nl, h.nr⟩
/-- One row of the pairs that fit, from a right mark on. -/
def rowP (F : Nat → Nat → Bool) (R x y : Nat) : List Pr := (List.range' y (R - y)).filterMap fun b => if F x b then some (x, b) else none
theorem prs_step {F : Nat → Nat → Bool} {L R x k : Nat} (h : x < L) : prs F L R x k = rowP F R x k ++ prs F L R (x + 1) k := by
  unfold prs rowP
  rw [show L - x = (L - (x + 1)) + 1 by omega, List.range'_succ, List.flatMap_cons]
theorem rowP_end {F : Nat → Nat → Bool} {R x y : Nat} (h : R ≤ y) : rowP F R x y = [] := by
  unfold rowP; rw [show R - y = 0 by omega]; rfl
theorem rowP_next {F : Nat → Nat → Bool} {R x y : Nat} (h : y < R) : rowP F R x y = (if F x y then [(x, y)] else []) ++ rowP F R x (y + 1) := by
  unfold rowP
  rw [show R - y = (R - (y + 1)) + 1 by omega, List.range'_succ, List.filterMap_cons]
  cases F x y <;> rfl
def tp (p : Pr) : Array Value := #[.agg #[.int .i64 p.1, .int .i64 p.2]]
theorem at_donep {L D R : List Pr} {x : Pr} (h : L = D ++ x :: R) : (L.map tp)[D.length]? = some (tp x) := by
  subst h; simp
/-- What the iterator of pairs looks at. -/
def MemP (d : RowsD) (sa sb : Option Addr) (ca cb : Nat) (F : Nat → Nat → Bool) (rb i k B3 B4 B5 : Nat) (w : World) : Prop :=
  w.heap[B3]? = some (.cells #[ptr rb 0] 74 (0, 0)) ∧ w.heap[B4]? = some (.cells #[.int .i64 i] 3 (0, 0)) ∧ w.heap[B5]? = some (.cells #[.int .i64 k] 3 (0, 0)) ∧ RowO w rb d sa sb ca cb F
theorem c51 (rb i k : Nat) (u : World) : Calls Tryd.prog 51 #[ptr rb 0, .int .i64 i, .int .i64 k] u
    (Ret fun v w' => ∃ B3 B4 B5, v = .func (.func 89) #[] #[ptr B4 0, ptr B3 0, ptr B5 0] ∧ Hp u [] [(B5, .cells #[.int .i64 k] 3), (B4, .cells #[.int .i64 i] 3), (B3, .cells #[ptr rb 0] 74)] w') := by
  refine calls_of Tryd.func51 rfl rfl (fun a hf => ?_)
  have hh := Hp.init u []
  refine sy_sq ?_
  refine o_box hf hh ?_; clear hf hh a; intro B3 a w hf hh
  refine o_box hf hh ?_; clear hf hh a; intro B4 a w hf hh
  refine o_box hf hh ?_; clear hf hh a; intro B5 a w hf hh
  refine o_v hf hh (yv_assign rfl) ?_; clear hf a; intro a hf
  refine o_end ?_
  refine sy_sq ?_
  refine o_v hf hh (yv_makeFunc rfl rfl) ?_; clear hf a; intro a hf
  refine o_v hf hh (yv_assign rfl) ?_; clear hf a; intro a hf
  refine o_end ?_
  refine sy_ret ?_
  refine ret_r hf rfl rfl ?_
  exact ⟨B3, B4, B5, rfl, hh⟩
theorem it89 (d : RowsD) (sa sb : Option Addr) (ca cb : Nat) (F : Nat → Nat → Bool) (rb i k B3 B4 B5 : Nat) : IterSpec Tryd.prog 89 #[] #[ptr B4 0, ptr B3 0, ptr B5 0] ((prs F d.l.length d.r.length i k).map tp) (MemP d sa sb ca cb F rb i k B3 B4 B5) := by
  intro l J K u hJM hJe hKe hy hJ0
  show Calls Tryd.prog 89 #[.func (.yield l) #[] #[], ptr B4 0, ptr B3 0, ptr B5 0] u _
  refine calls_of Tryd.func89 rfl rfl (fun a hf => ?_)
  have hh := Hp.init u []
  obtain ⟨m1, m2, m3, ⟨cs, hb, hcs⟩, hnl, hnr⟩ := hJM _ _ hJ0
  have c0 := hcs.l; have c1 := hcs.r
  have hh := Hp.init u []
  refine sy_sq ?_
  refine o_v hf hh (y_ld Tryd.sc_3 rfl) ?_; clear hf a; intro a hf
  refine o_v hf hh (yv_assign rfl) ?_; clear hf a; intro a hf
  refine o_end ?_
  refine sy_block ?_
  refine sy_loopH (σ := Nat) [5, 6, 8, 9, 10, 11, 12, 13, 14, 15, 16, 17, 18, 19, 20, 21, 22, 23, 24, 25, 26, 27, 28, 29, 30, 31, 32, 33, 34, 35, 36, 37, 38, 39, 40, 41, 42, 43, 44] (fun x => [(5, .int .i64 x)]) (fun x => fun w' => ∃ done, prs F d.l.length d.r.length i k = done ++ prs F d.l.length d.r.length x k ∧ J done.length w') (fun x => d.l.length - x) (i) hf ?_ ?_ ?_
  · repeat' (first | exact True.intro | refine And.intro rfl ?_)
  · exact ⟨[], rfl, hJe _ _ _ hJ0 hh.ext⟩
  ·rintro x a w ⟨done, hx, hJ⟩ hf
   obtain ⟨m1, m2, m3, ⟨cs, hb, hcs⟩, hnl, hnr⟩ := hJM _ _ hJ
   have c0 := hcs.l; have c1 := hcs.r
   have hh := Hp.init w []
   refine sy_seq ?_
   refine sy_sq ?_
   refine o_v hf hh (yv_move rfl) ?_; clear hf a; intro a hf
   refine o_v hf hh (y_ld Tryd.sc_74 rfl) ?_; clear hf a; intro a hf
   refine o_v hf hh (yv_nilCheck rfl) ?_; clear hf a; intro a hf
   refine o_v hf hh (yv_fieldAddr Tryd.fo_73_0 rfl) ?_; clear hf a; intro a hf
   refine o_v hf hh (yv_fieldAddr Tryd.fo_26_0 rfl) ?_; clear hf a; intro a hf
   refine o_v hf hh (y_ld Tryd.sc_22 rfl) ?_; clear hf a; intro a hf
   refine o_v hf hh (yv_len Tryd.se_22 rfl) ?_; clear hf a; intro a hf
   refine o_v hf hh (yv_bin rfl rfl rfl) ?_; clear hf a; intro a hf
   refine o_end ?_
   refine sy_cond hf rfl (fun hg2 => ?_) (fun hg2 => ?_)
   ·have hG2 := hg2; try simp only [gS] at hG2
    refine sy_skip ?_
    refine then_n ?_
    refine sy_seq ?_
    refine sy_block ?_
    refine sy_sq ?_
    refine o_v hf hh (y_ld Tryd.sc_3 rfl) ?_; clear hf a; intro a hf
    refine o_v hf hh (yv_assign rfl) ?_; clear hf a; intro a hf
    refine o_end ?_
    refine sy_block ?_
    refine sy_loopH (σ := Nat) [6, 19, 20, 21, 22, 23, 24, 25, 26, 27, 28, 29, 30, 31, 32, 33, 34, 35, 36, 37, 38, 39, 40, 41, 42, 43, 44] (fun y => [(6, .int .i64 y)]) (fun y => fun w' => ∃ done, prs F d.l.length d.r.length i k = done ++ (rowP F d.r.length x y ++ prs F d.l.length d.r.length (x + 1) k) ∧ J done.length w') (fun y => d.r.length - y) (k) hf ?_ ?_ ?_
    · repeat' (first | exact True.intro | refine And.intro rfl ?_)
    · exact ⟨done, by rw [hx, prs_step (by omega)], hJe _ _ _ hJ hh.ext⟩
    ·rintro y a w ⟨done2, hx2, hJ2⟩ hf
     obtain ⟨m1, m2, m3, ⟨cs, hb, hcs⟩, hnl, hnr⟩ := hJM _ _ hJ2
     have c0 := hcs.l; have c1 := hcs.r
     have hh := Hp.init w []
     refine sy_seq ?_
     refine sy_sq ?_
     refine o_v hf hh (yv_move rfl) ?_; clear hf a; intro a hf
     refine o_v hf hh (y_ld Tryd.sc_74 rfl) ?_; clear hf a; intro a hf
     refine o_v hf hh (yv_nilCheck rfl) ?_; clear hf a; intro a hf
     refine o_v hf hh (yv_fieldAddr Tryd.fo_73_0 rfl) ?_; clear hf a; intro a hf
     refine o_v hf hh (yv_fieldAddr Tryd.fo_26_1 rfl) ?_; clear hf a; intro a hf
     refine o_v hf hh (y_ld Tryd.sc_22 rfl) ?_; clear hf a; intro a hf
     refine o_v hf hh (yv_len Tryd.se_22 rfl) ?_; clear hf a; intro a hf
     refine o_v hf hh (yv_bin rfl rfl rfl) ?_; clear hf a; intro a hf
     refine o_end ?_
     refine sy_cond hf rfl (fun hg4 => ?_) (fun hg4 => ?_)
     ·have hG4 := hg4; try simp only [gS] at hG4
      refine sy_skip ?_
      refine then_n ?_
      refine sy_seq ?_
      refine sy_block ?_
      refine sy_seq ?_
      have hft := hcs.fitA (i := x) (k := y) (by omega) (by omega)
      refine sy_ops ?_
      refine o_v hf hh (y_ld Tryd.sc_74 rfl) ?_; clear hf a; intro a hf
      refine o_v hf hh (yv_move rfl) ?_; clear hf a; intro a hf
      refine o_v hf hh (yv_move rfl) ?_; clear hf a; intro a hf
      refine o_v hf hh (yv_nilCheck rfl) ?_; clear hf a; intro a hf
      refine o_v hf hh (yv_fieldAddr Tryd.fo_73_1 rfl) ?_; clear hf a; intro a hf
      refine o_v hf hh (y_ia Tryd.ae_71 rfl rfl) ?_; clear hf a; intro a hf
      refine o_v hf hh (y_ia Tryd.ae_70 rfl rfl) ?_; clear hf a; intro a hf
      refine o_v hf hh (y_ld Tryd.sc_4 rfl) ?_; clear hf a; intro a hf
      refine o_v hf hh (yv_move rfl) ?_; clear hf a; intro a hf
      refine guard_split hf (t := 37) rfl (fun hg6 => ?_) (fun hg6 => ?_)
      ·have hG6 := hg6; try simp only [gS] at hG6
       refine o_v hf hh (yv_move rfl) ?_; clear hf a; intro a hf
       refine o_v hf hh (yv_move rfl) ?_; clear hf a; intro a hf
       refine o_v hf hh (yv_move rfl) ?_; clear hf a; intro a hf
       refine o_v hf hh (yv_buildA Tryd.ba_45 rfl rfl) ?_; clear hf a; intro a hf
       have hxy : prs F d.l.length d.r.length i k = done2 ++ (x, y) :: (rowP F d.r.length x (y + 1) ++ prs F d.l.length d.r.length (x + 1) k) := by
         rw [hx2, rowP_next (by omega), if_pos (by assumption)]; rfl
       refine ops_yield hf rfl rfl (gon rfl rfl rfl (by first | assumption | rfl | (simp; done) | (simp; omega))) rfl (hy _ _ _ (at_donep hxy) (hJe _ _ _ hJ2 hh.ext)) ?_; clear hf; clear a; intro v a w hR hf
       have hR2 : ∃ o : Bool, v = .bool o ∧ (o = true → J (done2.length + 1) w) ∧ (o = false → K done2.length w) := by
         rcases hR with ⟨rfl, h⟩ | ⟨rfl, h⟩
         · exact ⟨true, rfl, fun _ => h, fun h => by cases h⟩
         · exact ⟨false, rfl, (fun h => by cases h), fun _ => h⟩
       clear hR
       obtain ⟨o, rfl, ho1, ho2⟩ := hR2
       clear hh; have hh := Hp.init w []
       refine o_v hf hh (yv_not rfl) ?_; clear hf a; intro a hf
       refine o_v hf hh (y_pt rfl rfl) ?_; clear hf a; intro a hf
       refine o_end ?_
       refine sy_cond hf rfl (fun hg8 => ?_) (fun hg8 => ?_)
       ·have hG8 := hg8; try simp only [gS] at hG8
        refine sy_ret ?_
        refine blk_r ?_
        refine then_r ?_
        refine then_r ?_
        refine blk_r ?_
        refine blk_r ?_
        refine then_r ?_
        refine then_r ?_
        refine blk_r ?_
        refine ret_r hf rfl rfl ?_
        first
          | exact .inr ⟨_, hKe _ _ _ (ho2 (by assumption)) hh.ext⟩
          | (refine .inl ?_
             have hle : prs F d.l.length d.r.length i k = done := by rw [hx, prs_nil (.inl (by omega)), List.append_nil]
             rw [hle, List.length_map]
             exact hJe _ _ _ hJ hh.ext)
       ·have hG8 := hg8; try simp only [gS] at hG8
        refine sy_skip ?_
        refine blk_n ?_
        refine then_n ?_
        refine sy_ops ?_
        refine o_v hf hh (yv_move rfl) ?_; clear hf a; intro a hf
        refine o_v hf hh (y_add rfl rfl) ?_; clear hf a; intro a hf
        refine o_v hf hh (yv_assign rfl) ?_; clear hf a; intro a hf
        refine ops_end ?_
        refine then_n ?_
        first
          | (refine ⟨y + 1, ⟨⟨done2 ++ [(x, y)], by rw [hxy, List.append_assoc]; rfl, ?_⟩, (hf.head (by repeat' (first | exact True.intro | refine And.intro rfl ?_)) (Keep.cons rfl (Keep.cons rfl (Keep.cons rfl (Keep.cons rfl (Keep.cons rfl (Keep.cons rfl (Keep.cons rfl (Keep.cons rfl (Keep.cons rfl (Keep.cons rfl (Keep.cons rfl (Keep.cons rfl (Keep.cons rfl (Keep.cons rfl (Keep.cons rfl (Keep.cons rfl (Keep.cons rfl (Keep.cons rfl (Keep.cons rfl (Keep.cons rfl (Keep.cons rfl (Keep.cons rfl (Keep.cons rfl (Keep.cons rfl (Keep.cons rfl (Keep.cons rfl (Keep.cons rfl (Keep.app rfl (Keep.rm rfl Keep.base))))))))))))))))))))))))))))))⟩, by omega⟩
             rw [List.length_append]
             exact hJe _ _ _ (ho1 (by assumption)) hh.ext)
          | exact ⟨y + 1, ⟨⟨done2, by rw [hx2, rowP_next (by omega), if_neg (by simp_all)]; rfl, hJe _ _ _ hJ2 hh.ext⟩, (hf.head (by repeat' (first | exact True.intro | refine And.intro rfl ?_)) (Keep.cons rfl (Keep.cons rfl (Keep.cons rfl (Keep.cons rfl (Keep.cons rfl (Keep.cons rfl (Keep.cons rfl (Keep.cons rfl (Keep.cons rfl (Keep.cons rfl (Keep.cons rfl (Keep.cons rfl (Keep.cons rfl (Keep.cons rfl (Keep.cons rfl (Keep.cons rfl (Keep.cons rfl (Keep.cons rfl (Keep.cons rfl (Keep.cons rfl (Keep.cons rfl (Keep.cons rfl (Keep.cons rfl (Keep.cons rfl (Keep.cons rfl (Keep.cons rfl (Keep.cons rfl (Keep.app rfl (Keep.rm rfl Keep.base))))))))))))))))))))))))))))))⟩, by omega⟩
      ·have hG6 := hg6; try simp only [gS] at hG6
       refine o_off hf ?_; clear hf a; intro a hf
       refine o_off hf ?_; clear hf a; intro a hf
       refine o_off hf ?_; clear hf a; intro a hf
       refine o_off hf ?_; clear hf a; intro a hf
       refine o_off hf ?_; clear hf a; intro a hf
       refine o_off hf ?_; clear hf a; intro a hf
       refine o_v hf hh (y_pf rfl rfl) ?_; clear hf a; intro a hf
       refine o_end ?_
       refine c_f hf ?_
       refine sy_skip ?_
       refine blk_n ?_
       refine then_n ?_
       refine sy_ops ?_
       refine o_v hf hh (yv_move rfl) ?_; clear hf a; intro a hf
       refine o_v hf hh (y_add rfl rfl) ?_; clear hf a; intro a hf
       refine o_v hf hh (yv_assign rfl) ?_; clear hf a; intro a hf
       refine ops_end ?_
       refine then_n ?_
       first
         | (refine ⟨y + 1, ⟨⟨done2 ++ [(x, y)], by rw [hxy, List.append_assoc]; rfl, ?_⟩, (hf.head (by repeat' (first | exact True.intro | refine And.intro rfl ?_)) (Keep.cons rfl (Keep.cons rfl (Keep.cons rfl (Keep.cons rfl (Keep.cons rfl (Keep.cons rfl (Keep.cons rfl (Keep.cons rfl (Keep.cons rfl (Keep.cons rfl (Keep.cons rfl (Keep.cons rfl (Keep.cons rfl (Keep.cons rfl (Keep.cons rfl (Keep.cons rfl (Keep.cons rfl (Keep.cons rfl (Keep.cons rfl (Keep.cons rfl (Keep.cons rfl (Keep.cons rfl (Keep.cons rfl (Keep.cons rfl (Keep.cons rfl (Keep.cons rfl (Keep.cons rfl (Keep.app rfl (Keep.rm rfl Keep.base))))))))))))))))))))))))))))))⟩, by omega⟩
            rw [List.length_append]
            exact hJe _ _ _ (ho1 (by assumption)) hh.ext)
         | exact ⟨y + 1, ⟨⟨done2, by rw [hx2, rowP_next (by omega), if_neg (by simp_all)]; rfl, hJe _ _ _ hJ2 hh.ext⟩, (hf.head (by repeat' (first | exact True.intro | refine And.intro rfl ?_)) (Keep.cons rfl (Keep.cons rfl (Keep.cons rfl (Keep.cons rfl (Keep.cons rfl (Keep.cons rfl (Keep.cons rfl (Keep.cons rfl (Keep.cons rfl (Keep.cons rfl (Keep.cons rfl (Keep.cons rfl (Keep.cons rfl (Keep.cons rfl (Keep.cons rfl (Keep.cons rfl (Keep.cons rfl (Keep.cons rfl (Keep.cons rfl (Keep.cons rfl (Keep.cons rfl (Keep.cons rfl (Keep.cons rfl (Keep.cons rfl (Keep.cons rfl (Keep.cons rfl (Keep.cons rfl (Keep.app rfl (Keep.rm rfl Keep.base))))))))))))))))))))))))))))))⟩, by omega⟩
     ·have hG4 := hg4; try simp only [gS] at hG4
      refine sy_exit ?_
      refine then_e ?_
      refine then_e ?_
      refine blk_e ?_
      refine blk_n ?_
      refine then_n ?_
      refine sy_ops ?_
      refine o_v hf hh (yv_move rfl) ?_; clear hf a; intro a hf
      refine o_v hf hh (y_add rfl rfl) ?_; clear hf a; intro a hf
      refine o_v hf hh (yv_assign rfl) ?_; clear hf a; intro a hf
      refine ops_end ?_
      refine then_n ?_
      refine ⟨x + 1, ⟨⟨done2, ?_, hJe _ _ _ hJ2 hh.ext⟩, (hf.head (by repeat' (first | exact True.intro | refine And.intro rfl ?_)) (Keep.cons rfl (Keep.cons rfl (Keep.cons rfl (Keep.cons rfl (Keep.cons rfl (Keep.cons rfl (Keep.cons rfl (Keep.cons rfl (Keep.cons rfl (Keep.cons rfl (Keep.cons rfl (Keep.app rfl (Keep.rm rfl (Keep.cons rfl (Keep.cons rfl (Keep.cons rfl (Keep.cons rfl (Keep.cons rfl (Keep.cons rfl (Keep.cons rfl (Keep.cons rfl (Keep.cons rfl (Keep.cons rfl (Keep.app rfl (Keep.rm rfl Keep.base))))))))))))))))))))))))))⟩, by omega⟩
      rw [hx2, rowP_end (by omega)]; rfl
   ·have hG2 := hg2; try simp only [gS] at hG2
    refine sy_exit ?_
    refine then_e ?_
    refine then_e ?_
    refine blk_e ?_
    refine ret_n hf rfl rfl ?_
    first
      | exact .inr ⟨_, hKe _ _ _ (ho2 (by assumption)) hh.ext⟩
      | (refine .inl ?_
         have hle : prs F d.l.length d.r.length i k = done := by rw [hx, prs_nil (.inl (by omega)), List.append_nil]
         rw [hle, List.length_map]
         exact hJe _ _ _ hJ hh.ext)
end Go.Proofs.YtemmhdgaagaglaaDoor
