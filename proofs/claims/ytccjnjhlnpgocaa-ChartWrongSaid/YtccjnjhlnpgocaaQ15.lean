/- Lemmas, in order: Draw. Idle. The document's charts; small functions of the laws. The document's examples. Sights in memory; a chart's part, sight by sight. The document's examples; a chart's part. The document's examples hold. The document's powers, sets, axes. Charts as they are handed in; what Draw tells. What Why and Drop tell of a chart, and of its parts. What Drop tells of a chart, and of its parts. What Idle tells of a chart; a chart without one sight. A chart with a sight more, or a narrower one. The document's bounds in memory: 64 numbers, 64 marks. A bound that is lower. How great numbers are on the document's way. The document's tightest bounds. Whether sights of a set can all be right. The document's Why and Drop, set by set.. -/
import Derived.Test.YtccjnjhlnpgocaaQ14
namespace Go.Proofs.Ytccjnjhlnpgocaa
open Go Go.Sy Go.ChaM
set_option maxRecDepth 100000 in
set_option maxHeartbeats 4000000 in
theorem p19 (c : ChD) (sa : Option Addr) (cp : Nat) (u : World) (hA : ChAt u c sa) : Calls Try.prog 19 #[.agg (chC c sa cp)] u (Ret fun v w' => ∃ so co, v = .tuple #[.slice so (drwL c).length co, .int .i64 (drwE c)] ∧ TAt 2 spC w' so (drwL c) ∧ Ext [] u w') := by
  refine calls_ofM Try.func19 rfl rfl (fun a hf => ?_)
  have hh := Hp.init u []
  refine sy_sq ?_
  refine o_box hf hh ?_; clear hf hh a; intro B1 a w hf hh
  refine o_v hf hh (yv_assign rfl) ?_; clear hf a; intro a hf
  refine o_alloc hf hh Try.ze_29 ?_; clear hf hh a; intro B3 a w hf hh
  refine o_end ?_
  refine sy_sq ?_
  refine o_defer hf ?_; clear hf a; intro a hf
  refine o_end ?_
  refine sy_sq ?_
  refine o_v hf hh (y_lds Try.ag_24 rfl) ?_; clear hf a; intro a hf
  refine o_callX hf Try.en_42 rfl rfl rfl (p42 c sa cp [] none 0 0 _ (hA.ext hh.ext) (fun i z hz => by simp at hz) rfl (by simp)) ?_ ?_
  ·clear hf a; intro v a w hR hf
   obtain ⟨Bv, XV, rfl, hcb, hall, hVof, hx⟩ := hR; replace hh := (hh.join hx).perm List.perm_append_comm; clear hx
   have hO := chB_iff.1 hcb
   have hn1 := hO.n1; have hn2 := hO.n2
   refine o_v hf hh (yv_assign rfl) ?_; clear hf a; intro a hf
   refine o_end ?_
   refine sy_sq ?_
   refine o_v hf hh (yv_move rfl) ?_; clear hf a; intro a hf
   refine o_callX hf Try.en_43 rfl rfl rfl (p43 Bv c sa cp _ (hVof _ (fun q hq => hh.get q (by simp [hq])) (hA.ext hh.ext)) hO) ?_ ?_
   ·clear hf a; intro v a w hR hf
    obtain ⟨hwr, hx⟩ := hR; replace hh := hh.more hx; clear hx
    refine o_end ?_
    refine sy_sq ?_
    refine o_call hf Try.en_44 rfl rfl rfl (p44 _) ?_; clear hf a; intro v a w hR hf
    obtain ⟨rfl, hx⟩ := hR; replace hh := hh.more hx; clear hx
    refine o_alloc hf hh Try.ze_70 ?_; clear hf hh a; intro B5 a w hf hh
    refine o_store hf hh Try.sz_70 fun w hh => ?_
    refine o_end ?_
    refine sy_seq ?_
    replace hh : Hp u [] ([(B5, .cells #[.func (.func 63) #[] #[], .func (.func 64) #[] #[]] 70), (B3, .cells #[.int .i64 0] 29), (B1, .cells (chC c sa cp) 24)] ++ XV) w := hh
    obtain ⟨bmv, esv, cmv, mv, hbv, _⟩ := hVof _ (fun q hq => hh.get q (by simp [hq])) (hA.ext hh.ext)
    have hcn : c.n = ((c.n.toNat : Nat) : Int) := by omega
    refine sy_ops ?_
    refine o_v hf hh (yv_move rfl) ?_; clear hf a; intro a hf
    refine o_v hf hh (yv_nilCheck rfl) ?_; clear hf a; intro a hf
    refine o_v hf hh (yv_fieldAddr Try.fo_86_0 rfl) ?_; clear hf a; intro a hf
    refine o_v hf hh (yv_fieldAddr Try.fo_24_0 rfl) ?_; clear hf a; intro a hf
    refine o_w hf (yv_cast (yv_ldw Try.sc_3 rfl hbv rfl) (show Value.int IntKind.i64 c.n = Value.int .i64 ((c.n.toNat : Nat) : Int) by rw [← hcn])) ?_; clear hf a; intro a hf
    refine ops_make0 hf hh Try.eb_33 rfl rfl (by omega) (by simp only [maxLen]; omega) (.inl rfl) rfl ?_; clear hf hh a; intro v18 X a w hO18 hf hh
    replace hh : Hp u [] ([(B5, .cells #[.func (.func 63) #[] #[], .func (.func 64) #[] #[]] 70), (B3, .cells #[.int .i64 0] 29), (B1, .cells (chC c sa cp) 24)] ++ XV ++ X) w := hh.perm List.perm_append_comm
    refine o_v hf hh (yv_assign rfl) ?_; clear hf a; intro a hf
    refine o_end ?_
    refine sy_seq ?_
    refine sy_seq ?_
    obtain ⟨bmv, esv, cmv, mv, hbv, _⟩ := hVof _ (fun q hq => hh.get q (by simp [hq])) (hA.ext hh.ext)
    refine sy_ops ?_
    refine o_v hf hh (yv_move rfl) ?_; clear hf a; intro a hf
    refine o_v hf hh (yv_nilCheck rfl) ?_; clear hf a; intro a hf
    refine o_v hf hh (yv_fieldAddr Try.fo_86_0 rfl) ?_; clear hf a; intro a hf
    refine o_v hf hh (yv_fieldAddr Try.fo_24_0 rfl) ?_; clear hf a; intro a hf
    refine o_w hf (yv_ldw Try.sc_3 rfl hbv rfl) ?_; clear hf a; intro a hf
    refine o_v hf hh (yv_move rfl) ?_; clear hf a; intro a hf
    refine o_end ?_
    refine sy_block ?_
    refine sy_loopH (σ := Nat × Value × List (Nat × Obj)) [6, 7, 24, 25, 26, 27, 28, 29, 30, 31, 32, 33, 34, 35, 36, 37, 38, 39, 40, 41, 42, 43] (fun q => [(24, .int .i64 (q.1 : Nat)), (6, q.2.1)]) (fun q => fun w' => q.1 ≤ c.n.toNat ∧ drwG c q.1 = 0 ∧ OwnSl 39 2 q.2.1 q.1 (((List.range q.1).map (drwP c)).flatMap spC) q.2.2 ∧ Hp u [] ([(B5, .cells #[.func (.func 63) #[] #[], .func (.func 64) #[] #[]] 70), (B3, .cells #[.int .i64 0] 29), (B1, .cells (chC c sa cp) 24)] ++ XV ++ q.2.2) w') (fun q => c.n.toNat - q.1) ((0, v18, X)) hf ?_ ?_ ?_
    · repeat' (first | exact True.intro | refine And.intro rfl ?_)
    · exact ⟨Nat.zero_le _, rfl, hO18, hh⟩
    ·rintro q a w ⟨hi, hG0, hO6, hh⟩ hf
     obtain ⟨i, v6, X⟩ := q; simp only at hi hG0 hO6 hh hf ⊢
     refine sy_sq ?_
     refine o_v hf hh (yv_bin rfl rfl rfl) ?_; clear hf a; intro a hf
     refine o_end ?_
     refine sy_seq ?_
     refine sy_cond hf rfl (fun hg8 => ?_) (fun hg8 => ?_)
     ·have hG8 := hg8; try simp only [gS] at hG8
      refine sy_skip ?_
      refine then_n ?_
      refine sy_seq ?_
      refine sy_block ?_
      refine sy_sq ?_
      refine o_v hf hh (yv_move rfl) ?_; clear hf a; intro a hf
      refine o_v hf hh (yv_assign rfl) ?_; clear hf a; intro a hf
      refine o_end ?_
      refine sy_treeX1 (.p 0 (.p 1 (.p 2 (.p 3 (.q 0 4 (.p 7 (.p 8 (.p 9 (.q 0 10 (.e1 5 (.p 6 (.e1 11 (.p 12 (.p 13 (.e1 14 (.e1 15 (.p 16 (.fin)))))))))))))))))) [15] (fun ch w => bndV c false noneS 0 i = none ∧ ch = misfit 12 ∧ Hp u [] [(B3, .cells #[.int .i64 0] 29)] w) ([(2, .slice none 0 0), (3, ptr B3 0)]) Try.follows (by kernel_rfl) hf (by repeat' (first | exact True.intro | refine And.intro rfl ?_)) (by rfl) hh ?_ (fun w hh => ?_)
      ·intro ch a w hX hf
       obtain ⟨hnn, rfl, hh⟩ := hX
       refine blk_p ?_
       refine then_p ?_
       refine then_p ?_
       refine blk_p ?_
       refine then_p ?_
       have hst : (stB c 0 && stB c (i : Int)) = true := by unfold stB inC; simp only [Bool.and_eq_true, decide_eq_true_eq]; omega
       have ev : drwE c = 12 := drwE_at hcb (by omega) hG0 (betE12 hcb hst hwr hnn) (by decide)
       exact pan_da (Ds := []) hf hh Try.en_41 (fun w' hh => d41p B3 12 0 w' (hh.at (i := 0) rfl)) fun w' w'' hh h2 => by
         replace hh := hh.turn (i := 0) rfl h2.ext (h2.at (i := 0) rfl)
         exact ⟨[.slice none 0 0, .int .i64 12], ⟨rfl, ⟨B3, 0, _, _, _, rfl, hh.at (i := 0) rfl, .inl ⟨Try.sc_29, rfl⟩⟩, True.intro⟩, none, 0, by rw [ev, drwL_no ev (by decide)]; rfl, (fun i s hi => by rw [drwL_no ev (by decide)] at hi; simp at hi), hh.ext⟩
      refine mz_p rfl   hf (yv_move rfl) (.inl rfl) rfl rfl ?_; clear hf a; intro a hf
      refine mz_p rfl   hf (yv_move rfl) (.inl rfl) rfl rfl ?_; clear hf a; intro a hf
      refine mz_p rfl   hf (yv_move rfl) (.inl rfl) rfl rfl ?_; clear hf a; intro a hf
      refine mz_p rfl   hf (y_ia Try.ae_70 rfl rfl) (.inl rfl) rfl rfl ?_; clear hf a; intro a hf
      refine mz_q rfl rfl hh hf (y_lds Try.ag_69 rfl) (.inl rfl) rfl rfl ?_; clear hf a; intro a hf
      refine mz_p rfl   hf (yv_move rfl) (.inl rfl) rfl rfl ?_; clear hf a; intro a hf
      refine mz_p rfl   hf (yv_move rfl) (.inl rfl) rfl rfl ?_; clear hf a; intro a hf
      refine mz_p rfl   hf (y_ia Try.ae_70 rfl rfl) (.inl rfl) rfl rfl ?_; clear hf a; intro a hf
      refine mz_q rfl rfl hh hf (y_lds Try.ag_69 rfl) (.inl rfl) rfl rfl ?_; clear hf a; intro a hf
      refine mz_e rfl ?_
      refine o_callX hf Try.en_45 rfl rfl rfl (p45 Bv c sa cp 0 i false 0 noneS _ (hVof _ (fun q hq => hh.get q (by simp [hq])) (hA.ext hh.ext)) hO (by omega) (by omega) (fun i _ => zero_out i) (by omega)) ?_ ?_
      ·clear hf a; intro v a w hR hf
       obtain ⟨rfl, hnn, hx⟩ := hR; replace hh := hh.more hx; clear hx
       refine ops_end ?_
       refine qx_n ⟨hf.sub (by repeat' (first | exact True.intro | refine And.intro rfl ?_)), ⟨fun _ _ => hh, trivial⟩, ?_⟩
       refine mz_p rfl   hf (yv_fieldS Try.fs_28_0 rfl rfl) (.inl rfl) rfl rfl ?_; clear hf a; intro a hf
       refine mz_e rfl ?_
       refine o_callX hf Try.en_45 rfl rfl rfl (p45 Bv c sa cp 0 i true 0 noneS _ (hVof _ (fun q hq => hh.get q (by simp [hq])) (hA.ext hh.ext)) hO (by omega) (by omega) (fun i _ => zero_out i) (by omega)) ?_ ?_
       ·clear hf a; intro v a w hR hf
        obtain ⟨rfl, hnn2, hx⟩ := hR; replace hh := hh.more hx; clear hx
        refine ops_end ?_
        refine qx_n ⟨hf.sub (by repeat' (first | exact True.intro | refine And.intro rfl ?_)), ⟨fun _ _ => hh, trivial⟩, ?_⟩
        refine mz_p rfl   hf (yv_fieldS Try.fs_28_0 rfl rfl) (.inl rfl) rfl rfl ?_; clear hf a; intro a hf
        refine mz_p rfl   hf (yv_buildS Try.bs_39 rfl rfl) (.inl rfl) rfl rfl ?_; clear hf a; intro a hf
        refine mz_e rfl ?_
        refine ops_buildSl hf hh Try.bl_33_1 rfl rfl (.inl rfl) rfl ?_; clear hf hh; clear a; intro B41 a w hf hh
        refine ops_end ?_
        refine qx_n ⟨hf.sub (by repeat' (first | exact True.intro | refine And.intro rfl ?_)), ⟨fun _ _ => (hh.less (.cons _ (List.Sublist.refl _))), trivial⟩, ?_⟩
        refine mz_e rfl ?_
        refine ops_append (e := 39) (size := 2) (xs := ((List.range i).map (drwP c)).flatMap spC) (X := X) (Z := [(B5, Obj.cells #[.func (.func 63) #[] #[], .func (.func 64) #[] #[]] 70), (B3, Obj.cells #[.int .i64 0] 29), (B1, Obj.cells (chC c sa cp) 24)] ++ XV) (m := i) (q := 1) hf (hh.perm (.cons _ (List.perm_append_comm (l₁ := [(B5, Obj.cells #[.func (.func 63) #[] #[], .func (.func 64) #[] #[]] 70), (B3, Obj.cells #[.int .i64 0] 29), (B1, Obj.cells (chC c sa cp) 24)] ++ XV) (l₂ := X)))) Try.eb_33 rfl rfl hO6 rfl rfl rfl (by simp only [maxLen]; omega) (by omega) (.inl rfl) rfl ?_; clear hf hh a; intro v7 X7 a w hO7 hf hh
        replace hh : Hp u [] ([(B5, Obj.cells #[.func (.func 63) #[] #[], .func (.func 64) #[] #[]] 70), (B3, Obj.cells #[.int .i64 0] 29), (B1, Obj.cells (chC c sa cp) 24)] ++ XV ++ X7) w := hh.perm List.perm_append_comm
        replace hO7 : OwnSl 39 2 v7 (i + 1) (((List.range i).map (drwP c)).flatMap spC ++ spC (-(bndV c false noneS i 0).getD 0, -(bndV c true noneS i 0).getD 0)) X7 := hO7
        obtain ⟨oa7, cp7, rfl⟩ := own_val hO7
        refine ops_end ?_
        refine qx_n ⟨hf.sub (by repeat' (first | exact True.intro | refine And.intro rfl ?_)), ⟨fun h => Bool.noConfusion (show true = false from h), trivial⟩, ?_⟩
        refine mz_p rfl   hf (yv_assign rfl) (.inl rfl) rfl rfl ?_; clear hf a; intro a hf
        refine mz_end ?_
        refine blk_n ?_
        refine then_n ?_
        refine sy_ops ?_
        refine o_v hf hh (y_add rfl rfl) ?_; clear hf a; intro a hf
        refine o_v hf hh (yv_move rfl) ?_; clear hf a; intro a hf
        refine ops_end ?_
        refine then_n ?_
        have hst : (stB c 0 && stB c (i : Int)) = true := by unfold stB inC; simp only [Bool.and_eq_true, decide_eq_true_eq]; omega
        have ev : betE c 0 (i : Int) = 0 := betE0 hcb hst hwr hnn
        exact ⟨(i + 1, _, X7), ⟨⟨by simp only; omega, by simp only; rw [drwG, if_pos hG0]; exact ev, by simp only; rw [List.range_succ, List.map_append, List.flatMap_append, List.map_cons, List.map_nil, drwP_of ev]; simpa using hO7, hh⟩, (hf.head (by repeat' (first | exact True.intro | refine And.intro rfl ?_)) (Keep.cons rfl (Keep.cons rfl (Keep.cons rfl (Keep.cons rfl (Keep.cons rfl (Keep.cons rfl (Keep.cons rfl (Keep.cons rfl (Keep.cons rfl (Keep.cons rfl (Keep.cons rfl (Keep.cons rfl (Keep.cons rfl (Keep.cons rfl (Keep.cons rfl (Keep.cons rfl (Keep.cons rfl (Keep.cons rfl (Keep.cons rfl (Keep.cons rfl (Keep.cons rfl (Keep.cons rfl (Keep.app rfl (Keep.rm rfl Keep.base)))))))))))))))))))))))))⟩, by simp only; omega⟩
       ·intro ch w hX hf
        exact absurd (bnd_axis hO hwr (by omega) true false hX.1) hnn
      ·intro ch w hX hf
       obtain ⟨hnn, rfl, hx⟩ := hX; exact qx_p ⟨hnn, rfl, (hh.more hx).less (.cons _ (.cons_cons _ (List.nil_sublist _)))⟩
     ·have hG8 := hg8; try simp only [gS] at hG8
      refine sy_exit ?_
      refine then_e ?_
      refine then_e ?_
      refine blk_e ?_
      refine then_n ?_
      refine sy_sq ?_
      refine o_v hf hh (yv_move rfl) ?_; clear hf a; intro a hf
      refine o_v hf hh (yv_assign rfl) ?_; clear hf a; intro a hf
      refine o_store hf hh Try.sz_29 fun w hh => ?_
      refine o_end ?_
      refine sy_ret ?_
      obtain rfl : i = c.n.toNat := by omega
      have ev := drwE0 hcb hG0
      have eL := drwL_ok ev
      have el : (drwL c).length = c.n.toNat := by rw [eL]; simp
      obtain ⟨oa6, cp6, rfl⟩ := own_val hO6
      exact ret_da (Ds := []) hf hh Try.en_41 (fun w' => d41r B3 w') fun w' hh => ⟨[.slice oa6 c.n.toNat cp6, .int .i64 0], ⟨rfl, ⟨B3, 0, _, _, _, rfl, hh.at (i := 1) rfl, .inl ⟨Try.sc_29, rfl⟩⟩, True.intro⟩, oa6, cp6, by rw [el, ev]; rfl, by rw [eL]; exact own_tat spC_len hO6 (by simp) (fun q hq => hh.get q (by simp [hq])), hh.ext⟩
   ·intro ch w hX hf
    obtain ⟨hwr, rfl, hx⟩ := hX; replace hh := hh.more hx; clear hx
    refine then_p ?_
    have hst : (stB c 0 && stB c ((0 : Nat) : Int)) = true := by unfold stB inC; simp only [Bool.and_eq_true, decide_eq_true_eq]; omega
    have ev : drwE c = 4 := drwE_at hcb (by omega) rfl (betE4 hcb hst hwr) (by decide)
    exact pan_da (Ds := []) hf hh Try.en_41 (fun w' hh => d41p B3 4 0 w' (hh.at (i := 0) rfl)) fun w' w'' hh h2 => by
      replace hh := hh.turn (i := 0) rfl h2.ext (h2.at (i := 0) rfl)
      exact ⟨[.slice none 0 0, .int .i64 4], ⟨rfl, ⟨B3, 0, _, _, _, rfl, hh.at (i := 0) rfl, .inl ⟨Try.sc_29, rfl⟩⟩, True.intro⟩, none, 0, by rw [ev, drwL_no ev (by decide)]; rfl, (fun i s hi => by rw [drwL_no ev (by decide)] at hi; simp at hi), hh.ext⟩
  ·intro ch w hX hf
   obtain ⟨e, rfl, hx, he⟩ := hX; replace hh := hh.more hx; clear hx
   refine then_p ?_
   rcases he with ⟨hcb, rfl⟩ | ⟨hcb, hal, rfl⟩
   · have ev : drwE c = 1 := drwE1 hcb
     exact pan_da (Ds := []) hf hh Try.en_41 (fun w' hh => d41p B3 1 0 w' (hh.at (i := 0) rfl)) fun w' w'' hh h2 => by
       replace hh := hh.turn (i := 0) rfl h2.ext (h2.at (i := 0) rfl)
       exact ⟨[.slice none 0 0, .int .i64 1], ⟨rfl, ⟨B3, 0, _, _, _, rfl, hh.at (i := 0) rfl, .inl ⟨Try.sc_29, rfl⟩⟩, True.intro⟩, none, 0, by rw [ev, drwL_no ev (by decide)]; rfl, (fun i s hi => by rw [drwL_no ev (by decide)] at hi; simp at hi), hh.ext⟩
   · simp at hal
end Go.Proofs.Ytccjnjhlnpgocaa
namespace Go.Proofs.Ytccjnjhlnpgocaa
open Go Go.Sy Go.ChaM
set_option maxRecDepth 100000 in
set_option maxHeartbeats 4000000 in
theorem p21 (c : ChD) (sa : Option Addr) (cp : Nat) (u : World) (hA : ChAt u c sa) : Calls Try.prog 21 #[.agg (chC c sa cp)] u (Ret fun v w' => v = .tuple #[.int .i64 (idlV c : Nat), .int .i64 (idlE c)] ∧ Ext [] u w') := by
  refine calls_ofM Try.func21 rfl rfl (fun a hf => ?_)
  have hh := Hp.init u []
  refine sy_sq ?_
  refine o_box hf hh ?_; clear hf hh a; intro B1 a w hf hh
  refine o_v hf hh (yv_assign rfl) ?_; clear hf a; intro a hf
  refine o_alloc hf hh Try.ze_29 ?_; clear hf hh a; intro B3 a w hf hh
  refine o_end ?_
  refine sy_sq ?_
  refine o_defer hf ?_; clear hf a; intro a hf
  refine o_end ?_
  refine sy_sq ?_
  refine o_v hf hh (y_lds Try.ag_24 rfl) ?_; clear hf a; intro a hf
  refine o_callX hf Try.en_42 rfl rfl rfl (p42 c sa cp [] none 0 0 _ (hA.ext hh.ext) (fun i z hz => by simp at hz) rfl (by simp)) ?_ ?_
  ·clear hf a; intro v a w hR hf
   obtain ⟨Bv, XV, rfl, hcb, hall, hVof, hx⟩ := hR; replace hh := (hh.join hx).perm List.perm_append_comm; clear hx
   have hO := chB_iff.1 hcb
   have hn1 := hO.n1; have hn2 := hO.n2; have hl10 := hO.l
   refine o_v hf hh (yv_assign rfl) ?_; clear hf a; intro a hf
   refine o_end ?_
   refine sy_sq ?_
   refine o_v hf hh (yv_move rfl) ?_; clear hf a; intro a hf
   refine o_callX hf Try.en_43 rfl rfl rfl (p43 Bv c sa cp _ (hVof _ (fun q hq => hh.get q (by simp [hq])) (hA.ext hh.ext)) hO) ?_ ?_
   ·clear hf a; intro v a w hR hf
    obtain ⟨hwr, hx⟩ := hR; replace hh := hh.more hx; clear hx
    refine o_end ?_
    refine sy_seq ?_
    refine sy_seq ?_
    replace hh : Hp u [] ([(B3, .cells #[.int .i64 0] 29), (B1, .cells (chC c sa cp) 24)] ++ XV) w := hh
    obtain ⟨bmv, esv, cmv, mv, hbv, _⟩ := hVof _ (fun q hq => hh.get q (by simp [hq])) (hA.ext hh.ext)
    refine sy_ops ?_
    refine o_v hf hh (yv_move rfl) ?_; clear hf a; intro a hf
    refine o_v hf hh (yv_nilCheck rfl) ?_; clear hf a; intro a hf
    refine o_v hf hh (yv_fieldAddr Try.fo_86_0 rfl) ?_; clear hf a; intro a hf
    refine o_v hf hh (yv_fieldAddr Try.fo_24_1 rfl) ?_; clear hf a; intro a hf
    refine o_w hf (yv_ldw Try.sc_22 rfl hbv rfl) ?_; clear hf a; intro a hf
    refine o_v hf hh (yv_len Try.se_22 rfl) ?_; clear hf a; intro a hf
    refine o_v hf hh (yv_move rfl) ?_; clear hf a; intro a hf
    refine o_end ?_
    refine sy_block ?_
    refine sy_loopH (σ := Nat) [2, 5, 6, 7, 9, 10, 11, 22, 23, 24, 25, 26, 27, 28, 29, 30, 31, 32, 33, 34, 35, 36, 37, 38, 39, 40, 41, 42, 43, 44, 45, 46, 47, 48, 49, 50, 51, 52, 53, 54, 55, 56, 57, 58, 59, 60, 61, 62, 63, 64, 65, 66, 67, 68, 69, 70, 71, 72, 73, 74, 75, 76, 77, 78, 79, 80] (fun i => [(22, .int .i64 (i : Nat)), (2, .int .i64 (bitN (idlB c) i : Nat))]) (fun i => fun w' => i ≤ c.si.length ∧ Hp u [] ([(B3, .cells #[.int .i64 0] 29), (B1, .cells (chC c sa cp) 24)] ++ XV) w') (fun i => c.si.length - i) (0) hf ?_ ?_ ?_
    · repeat' (first | exact True.intro | refine And.intro rfl ?_)
    · exact ⟨Nat.zero_le _, hh⟩
    ·rintro i a w ⟨hi, hh⟩ hf
     refine sy_sq ?_
     refine o_v hf hh (yv_bin rfl rfl rfl) ?_; clear hf a; intro a hf
     refine o_end ?_
     refine sy_seq ?_
     refine sy_cond hf rfl (fun hg5 => ?_) (fun hg5 => ?_)
     ·have hG5 := hg5; try simp only [gS] at hG5
      refine sy_skip ?_
      refine then_n ?_
      refine sy_seq ?_
      refine sy_block ?_
      refine sy_seq ?_
      obtain ⟨s, hs⟩ := ex_of (l := c.si) (i := i) (by omega)
      obtain ⟨blk, off, cc, T, fr, esa, hb2, hc⟩ := hA.at_ i s hs
      have hso := hO.s s (List.mem_of_getElem? hs)
      obtain ⟨f, t, el, eh, nl, nh⟩ := s
      have hf0 := hso.f0; have hf1 := hso.f1; have ht0 := hso.t0; have ht1 := hso.t1
      dsimp only at hf0 hf1 ht0 ht1
      obtain ⟨kf, rfl⟩ : ∃ k : Nat, f = k := ⟨f.toNat, by omega⟩
      obtain ⟨kt, rfl⟩ : ∃ k : Nat, t = k := ⟨t.toNat, by omega⟩
      have hil := len_of hs
      have hp2 : 2 ^ i ≤ 2 ^ 9 := Nat.pow_le_pow_right (by omega) (by omega)
      obtain ⟨q2, hq2⟩ : ∃ q, q = 2 ^ i := ⟨_, rfl⟩
      have hbl := bitN_lt (idlB c) i
      have hnx : bitN (idlB c) (i + 1) = bitN (idlB c) i ||| if idlB c i then 2 ^ i else 0 := rfl
      have hid2 := idP_two c i ⟨(kf : Int), (kt : Int), el, eh, nl, nh⟩ hs
      refine sy_ops ?_
      refine o_v hf hh (yv_move rfl) ?_; clear hf a; intro a hf
      refine o_v hf hh (y_ix Try.se_22 (congrArg (fun z => some (Value.slice z c.si.length cp)) esa) rfl) ?_; clear hf a; intro a hf
      refine o_v hf hh (y_lds Try.ag_46 rfl) ?_; clear hf a; intro a hf
      refine o_alloc hf hh Try.ze_46 ?_; clear hf hh a; intro B6 a w hf hh
      refine o_v hf hh (yv_assign rfl) ?_; clear hf a; intro a hf
      refine o_store hf hh Try.sz_46 fun w hh => ?_
      refine o_end ?_
      refine sy_sq ?_
      refine o_v hf hh (yv_assign rfl) ?_; clear hf a; intro a hf
      refine o_end ?_
      refine sy_seq ?_
      refine sy_seq ?_
      replace hh : Hp u [] ((B6, .cells #[.int .i64 (kf : Nat), .int .i64 (kt : Nat), .int .i64 el, .int .i64 eh, .int .i64 nl, .int .i64 nh] 46) :: ([(B3, .cells #[.int .i64 0] 29), (B1, .cells (chC c sa cp) 24)] ++ XV)) w := hh
      refine sy_ops ?_
      refine o_call hf Try.en_44 rfl rfl rfl (p44 _) ?_; clear hf a; intro v a w hR hf
      obtain ⟨rfl, hx⟩ := hR; replace hh := hh.more hx; clear hx
      refine o_v hf hh (yv_move rfl) ?_; clear hf a; intro a hf
      refine o_end ?_
      refine sy_block ?_
      refine sy_loopH (σ := Nat) [7, 9, 10, 11, 28, 29, 30, 31, 32, 33, 34, 35, 36, 37, 38, 39, 40, 41, 42, 43, 44, 45, 46, 47, 48, 49, 50, 51, 52, 53, 54, 55, 56, 57, 58, 59, 60, 61, 62, 63, 64, 65, 66, 67, 68, 69, 70, 71, 72, 73, 74] (fun k => [(28, .int .i64 (k : Nat)), (7, .bool (idP c i ⟨(kf : Int), (kt : Int), el, eh, nl, nh⟩ k))]) (fun k => fun w' => k ≤ 2 ∧ Hp u [] ((B6, .cells #[.int .i64 (kf : Nat), .int .i64 (kt : Nat), .int .i64 el, .int .i64 eh, .int .i64 nl, .int .i64 nh] 46) :: ([(B3, .cells #[.int .i64 0] 29), (B1, .cells (chC c sa cp) 24)] ++ XV)) w') (fun k => 2 - k) (0) hf ?_ ?_ ?_
      · repeat' (first | exact True.intro | refine And.intro rfl ?_)
      · exact ⟨Nat.zero_le _, hh⟩
      ·rintro k a w ⟨hk, hh⟩ hf
       refine sy_sq ?_
       refine o_v hf hh (yv_bin rfl rfl rfl) ?_; clear hf a; intro a hf
       refine o_end ?_
       refine sy_seq ?_
       refine sy_cond hf rfl (fun hg9 => ?_) (fun hg9 => ?_)
       ·have hG9 := hg9; try simp only [gS] at hG9
        refine sy_skip ?_
        refine then_n ?_
        refine sy_seq ?_
        refine sy_block ?_
        refine sy_seq ?_
        have hk2 : k < 2 := by omega
        have hax := aix_eq hO hwr hs (axB k)
        have hb1 := bndV_bd hO (axB k) (dk i) kf kt
        have hb3 := bndV_bd hO (axB k) (dk i) kt kf
        rw [show (⟨(kf : Int), (kt : Int), el, eh, nl, nh⟩ : SiD).fr.toNat = kf from rfl, show (⟨(kf : Int), (kt : Int), el, eh, nl, nh⟩ : SiD).to.toNat = kt from rfl] at hax
        refine sy_ops ?_
        refine o_v hf hh (yv_cast (yv_idxA Try.ae_70 Try.ag_69 rfl rfl) (axs_at k hk2)) ?_; clear hf a; intro a hf
        refine o_alloc hf hh Try.ze_69 ?_; clear hf hh a; intro B9 a w hf hh
        refine o_store hf hh Try.sz_69 fun w hh => ?_
        refine o_end ?_
        refine sy_seq ?_
        replace hh : Hp u [] ((B9, .cells (axC (axB k)) 69) :: (B6, .cells #[.int .i64 (kf : Nat), .int .i64 (kt : Nat), .int .i64 el, .int .i64 eh, .int .i64 nl, .int .i64 nh] 46) :: ([(B3, .cells #[.int .i64 0] 29), (B1, .cells (chC c sa cp) 24)] ++ XV)) w := hh
        refine sy_treeC (.p 0 (.p 1 (.q 0 2 (.q 0 3 (.p 4 (.p 5 (.p 7 (.q 0 8 (.e1 6 (.e1 9 (.p 10 (.p 11 (.p 12 (.p 13 (.p 14 (.fin)))))))))))))))) [[]] [(AtE u [] [(B9, .cells (axC (axB k)) 69), (B6, .cells #[.int .i64 (kf : Nat), .int .i64 (kt : Nat), .int .i64 el, .int .i64 eh, .int .i64 nl, .int .i64 nh] 46)], [])] Try.follows (by kernel_rfl) rfl hh (fun w hh => ?_)
        refine mc_p rfl   hf (yv_move rfl) (.inl rfl) rfl rfl ?_; clear hf a; intro a hf
        refine mc_p rfl   hf (yv_fieldAddr Try.fo_46_0 rfl) (.inl rfl) rfl rfl ?_; clear hf a; intro a hf
        refine mc_q rfl rfl (AtE.of hh (by intro p hp; simp only [List.mem_cons, List.not_mem_nil, or_false] at hp; rcases hp with h | h <;> simp [h])) hf (y_ld Try.sc_3 rfl) (.inl rfl) rfl rfl ?_; clear hf a; intro a hf
        refine mc_q rfl rfl (AtE.of hh (by intro p hp; simp only [List.mem_cons, List.not_mem_nil, or_false] at hp; rcases hp with h | h <;> simp [h])) hf (y_lds Try.ag_69 rfl) (.inl rfl) rfl rfl ?_; clear hf a; intro a hf
        refine mc_p rfl   hf (yv_move rfl) (.inl rfl) rfl rfl ?_; clear hf a; intro a hf
        refine mc_p rfl   hf (yv_cast (yv_shl1 (.inr rfl) rfl rfl (by omega) (by omega)) (intv (b := ((2 ^ i : Nat) : Int)) (by rw [Int.toNat_natCast]))) (.inl rfl) rfl rfl ?_; clear hf a; intro a hf
        refine mc_p rfl   hf (yv_fieldAddr Try.fo_46_1 rfl) (.inl rfl) rfl rfl ?_; clear hf a; intro a hf
        refine mc_q rfl rfl (AtE.of hh (by intro p hp; simp only [List.mem_cons, List.not_mem_nil, or_false] at hp; rcases hp with h | h <;> simp [h])) hf (y_ld Try.sc_3 rfl) (.inl rfl) rfl rfl ?_; clear hf a; intro a hf
        refine mc_e rfl fun Q1 => ?_
        refine o_call hf Try.en_50 rfl rfl rfl (p50 Bv c sa cp kf (axB k) (2 ^ i) (dk i) _ (hVof _ (fun q hq => hh.get q (by simp [hq])) (hA.ext hh.ext)) hO (by omega) (fun j _ => dk_bit i j) (by omega)) ?_; clear hf a; intro v a w hR hf
        obtain ⟨bm1, es1, cm1, rfl, hM1, hx⟩ := hR; replace hh := hh.join hx; clear hx
        refine ops_end ?_
        refine then_n ⟨⟨fun _ _ => (AtE.of hh (by intro p hp; simp only [List.mem_cons, List.not_mem_nil, or_false] at hp; rcases hp with h | h <;> simp [h])), trivial⟩, ?_⟩
        refine mc_e rfl fun Q1 => ?_
        refine o_v hf hh (yv_cast (yv_getI2 Try.mt_89 Try.ze_3 rfl rfl (fun _ h => h.at (i := 0) rfl) hM1) (show _ = Value.tuple #[.int .i64 ((bndV c (axB k) (dk i) kf kt).getD 0), .bool (bndV c (axB k) (dk i) kf kt).isSome] by rw [(encM_get (bndV c (axB k) (dk i) kf) kt).1, (encM_get (bndV c (axB k) (dk i) kf) kt).2])) ?_; clear hf a; intro a hf
        refine ops_end ?_
        refine then_n ⟨⟨fun _ _ => (AtE.of hh (by intro p hp; simp only [List.mem_cons, List.not_mem_nil, or_false] at hp; rcases hp with h | h <;> simp [h])), trivial⟩, ?_⟩
        refine mc_p rfl   hf (yv_move rfl) (.inl rfl) rfl rfl ?_; clear hf a; intro a hf
        refine mc_p rfl   hf (yv_extract rfl rfl) (.inl rfl) rfl rfl ?_; clear hf a; intro a hf
        refine mc_p rfl   hf (yv_extract rfl rfl) (.inl rfl) rfl rfl ?_; clear hf a; intro a hf
        refine mc_p rfl   hf (yv_assign rfl) (.inl rfl) rfl rfl ?_; clear hf a; intro a hf
        refine mc_p rfl   hf (yv_assign rfl) (.inl rfl) rfl rfl ?_; clear hf a; intro a hf
        refine mc_end ?_
        refine then_n ?_
        refine sy_seq ?_
        replace hh : Hp u [] ((B9, .cells (axC (axB k)) 69) :: (B6, .cells #[.int .i64 (kf : Nat), .int .i64 (kt : Nat), .int .i64 el, .int .i64 eh, .int .i64 nl, .int .i64 nh] 46) :: ([(B3, .cells #[.int .i64 0] 29), (B1, .cells (chC c sa cp) 24)] ++ XV)) w := hh.less (.cons _ (.refl _))
        refine sy_treeC (.p 0 (.p 1 (.p 2 (.p 3 (.p 4 (.q 0 5 (.q 0 6 (.e1 7 (.p 8 (.p 9 (.p 10 (.p 11 (.p 12 (.p 13 (.q 0 14 (.q 0 15 (.p 16 (.p 17 (.p 19 (.q 0 20 (.p 23 (.q 0 24 (.q 0 25 (.e1 18 (.e2 21 (.p 22 (.e1 26 (.p 27 (.p 28 (.p 29 (.fin)))))) 26 (.p 27 (.e1 21 (.p 22 (.p 28 (.p 29 (.fin))))))))))))))))))))))))))))))) [[]] [(AtE u [] [(B9, .cells (axC (axB k)) 69), (B6, .cells #[.int .i64 (kf : Nat), .int .i64 (kt : Nat), .int .i64 el, .int .i64 eh, .int .i64 nl, .int .i64 nh] 46)], [])] Try.follows (by kernel_rfl) rfl hh (fun w hh => ?_)
        refine mc_p rfl   hf (yv_move rfl) (.inl rfl) rfl rfl ?_; clear hf a; intro a hf
        refine mc_p rfl   hf (yv_not rfl) (.inl rfl) rfl rfl ?_; clear hf a; intro a hf
        refine mc_p rfl   hf (yv_move rfl) (.inl rfl) rfl rfl ?_; clear hf a; intro a hf
        refine guard_any hf (t := 46) rfl (fun hg16 => ?_) (fun hg16 => ?_)
        ·have hG16 := hg16; try simp only [gS] at hG16
         refine mc_off rfl hf (goff rfl rfl rfl (by first | assumption | rfl | (simp; done) | (simp; omega))) rfl rfl ?_; clear hf a; intro a hf
         refine mc_off rfl hf (goff rfl rfl rfl (by first | assumption | rfl | (simp; done) | (simp; omega))) rfl rfl ?_; clear hf a; intro a hf
         refine mc_offq rfl rfl (AtE.of hh (by intro p hp; simp only [List.mem_cons, List.not_mem_nil, or_false] at hp; rcases hp with h | h <;> simp [h])) hf (goff rfl rfl rfl (by first | assumption | rfl | (simp; done) | (simp; omega))) rfl rfl ?_; clear hf a; intro a hf
         refine mc_offq rfl rfl (AtE.of hh (by intro p hp; simp only [List.mem_cons, List.not_mem_nil, or_false] at hp; rcases hp with h | h <;> simp [h])) hf (goff rfl rfl rfl (by first | assumption | rfl | (simp; done) | (simp; omega))) rfl rfl ?_; clear hf a; intro a hf
         refine mc_e rfl fun Q1 => ?_
         refine o_off hf ?_; clear hf a; intro a hf
         refine ops_end ?_
         refine then_n ⟨⟨fun _ _ => (AtE.of hh (by intro p hp; simp only [List.mem_cons, List.not_mem_nil, or_false] at hp; rcases hp with h | h <;> simp [h])), trivial⟩, ?_⟩
         refine mc_off rfl hf (goff rfl rfl rfl (by first | assumption | rfl | (simp; done) | (simp; omega))) rfl rfl ?_; clear hf a; intro a hf
         refine mc_off rfl hf (goff rfl rfl rfl (by first | assumption | rfl | (simp; done) | (simp; omega))) rfl rfl ?_; clear hf a; intro a hf
         refine mc_p rfl   hf (y_pt rfl rfl) (.inl rfl) rfl rfl ?_; clear hf a; intro a hf
         refine mc_p rfl   hf (yv_move rfl) (.inl rfl) rfl rfl ?_; clear hf a; intro a hf
         refine mc_off rfl hf (goff rfl rfl rfl (by first | assumption | rfl | (simp; done) | (simp; omega))) rfl rfl ?_; clear hf a; intro a hf
         refine mc_off rfl hf (goff rfl rfl rfl (by first | assumption | rfl | (simp; done) | (simp; omega))) rfl rfl ?_; clear hf a; intro a hf
         refine mc_offq rfl rfl (AtE.of hh (by intro p hp; simp only [List.mem_cons, List.not_mem_nil, or_false] at hp; rcases hp with h | h <;> simp [h])) hf (goff rfl rfl rfl (by first | assumption | rfl | (simp; done) | (simp; omega))) rfl rfl ?_; clear hf a; intro a hf
         refine mc_offq rfl rfl (AtE.of hh (by intro p hp; simp only [List.mem_cons, List.not_mem_nil, or_false] at hp; rcases hp with h | h <;> simp [h])) hf (goff rfl rfl rfl (by first | assumption | rfl | (simp; done) | (simp; omega))) rfl rfl ?_; clear hf a; intro a hf
         refine mc_off rfl hf (goff rfl rfl rfl (by first | assumption | rfl | (simp; done) | (simp; omega))) rfl rfl ?_; clear hf a; intro a hf
         refine mc_off rfl hf (goff rfl rfl rfl (by first | assumption | rfl | (simp; done) | (simp; omega))) rfl rfl ?_; clear hf a; intro a hf
         refine mc_off rfl hf (goff rfl rfl rfl (by first | assumption | rfl | (simp; done) | (simp; omega))) rfl rfl ?_; clear hf a; intro a hf
         refine mc_offq rfl rfl (AtE.of hh (by intro p hp; simp only [List.mem_cons, List.not_mem_nil, or_false] at hp; rcases hp with h | h <;> simp [h])) hf (goff rfl rfl rfl (by first | assumption | rfl | (simp; done) | (simp; omega))) rfl rfl ?_; clear hf a; intro a hf
         refine mc_off rfl hf (goff rfl rfl rfl (by first | assumption | rfl | (simp; done) | (simp; omega))) rfl rfl ?_; clear hf a; intro a hf
         refine mc_offq rfl rfl (AtE.of hh (by intro p hp; simp only [List.mem_cons, List.not_mem_nil, or_false] at hp; rcases hp with h | h <;> simp [h])) hf (goff rfl rfl rfl (by first | assumption | rfl | (simp; done) | (simp; omega))) rfl rfl ?_; clear hf a; intro a hf
         refine mc_offq rfl rfl (AtE.of hh (by intro p hp; simp only [List.mem_cons, List.not_mem_nil, or_false] at hp; rcases hp with h | h <;> simp [h])) hf (goff rfl rfl rfl (by first | assumption | rfl | (simp; done) | (simp; omega))) rfl rfl ?_; clear hf a; intro a hf
         refine mc_e rfl fun Q1 => ?_
         refine o_off hf ?_; clear hf a; intro a hf
         refine ops_end ?_
         refine then_n ⟨⟨fun _ _ => (AtE.of hh (by intro p hp; simp only [List.mem_cons, List.not_mem_nil, or_false] at hp; rcases hp with h | h <;> simp [h])), trivial⟩, ?_⟩
         refine ⟨?_, ?_⟩
         ·refine mc_e rfl fun Q1 => ?_
          refine o_off hf ?_; clear hf a; intro a hf
          refine ops_end ?_
          refine then_n ⟨⟨fun _ _ => (AtE.of hh (by intro p hp; simp only [List.mem_cons, List.not_mem_nil, or_false] at hp; rcases hp with h | h <;> simp [h])), trivial⟩, ?_⟩
          refine mc_off rfl hf (goff rfl rfl rfl (by first | assumption | rfl | (simp; done) | (simp; omega))) rfl rfl ?_; clear hf a; intro a hf
          refine mc_e rfl fun Q1 => ?_
          refine o_off hf ?_; clear hf a; intro a hf
          refine ops_end ?_
          refine then_n ⟨⟨fun _ _ => (AtE.of hh (by intro p hp; simp only [List.mem_cons, List.not_mem_nil, or_false] at hp; rcases hp with h | h <;> simp [h])), trivial⟩, ?_⟩
          refine mc_off rfl hf (goff rfl rfl rfl (by first | assumption | rfl | (simp; done) | (simp; omega))) rfl rfl ?_; clear hf a; intro a hf
          refine mc_off rfl hf (goff rfl rfl rfl (by first | assumption | rfl | (simp; done) | (simp; omega))) rfl rfl ?_; clear hf a; intro a hf
          refine mc_p rfl   hf (y_pt rfl rfl) (.inl rfl) rfl rfl ?_; clear hf a; intro a hf
          refine mc_end ?_
          refine then_n ?_
          refine c_t hf ?_
          refine sy_ops ?_
          refine o_v hf hh (yv_assign rfl) ?_; clear hf a; intro a hf
          refine ops_end ?_
          refine blk_n ?_
          refine then_n ?_
          refine sy_ops ?_
          refine o_v hf hh (y_add rfl rfl) ?_; clear hf a; intro a hf
          refine o_v hf hh (yv_move rfl) ?_; clear hf a; intro a hf
          refine ops_end ?_
          refine then_n ?_
          replace hh : Hp u [] ((B6, .cells #[.int .i64 (kf : Nat), .int .i64 (kt : Nat), .int .i64 el, .int .i64 eh, .int .i64 nl, .int .i64 nh] 46) :: ([(B3, .cells #[.int .i64 0] 29), (B1, .cells (chC c sa cp) 24)] ++ XV)) w := by
            first
            | exact hh.less (.cons _ (.refl _))
            | exact hh.less (.cons _ (.cons _ (.refl _)))
          first
            | (have hy : aixB c (axB k) i ⟨(kf : Int), (kt : Int), el, eh, nl, nh⟩ = false := by first | exact ax3_0 hax (by assumption) | exact ax3_1 hax (by assumption) | exact ax3_2 hax (by assumption)
               exact ⟨k + 1, ⟨⟨by omega, hh⟩, hf.head ⟨rfl, congrArg (fun z => some (Value.bool z)) (idP_no hk2 hy).symm, True.intro⟩ (Keep.cons rfl (Keep.cons rfl (Keep.cons rfl (Keep.cons rfl (Keep.cons rfl (Keep.cons rfl (Keep.cons rfl (Keep.cons rfl (Keep.cons rfl (Keep.cons rfl (Keep.cons rfl (Keep.cons rfl (Keep.cons rfl (Keep.cons rfl (Keep.cons rfl (Keep.cons rfl (Keep.cons rfl (Keep.cons rfl (Keep.cons rfl (Keep.cons rfl (Keep.cons rfl (Keep.cons rfl (Keep.cons rfl (Keep.cons rfl (Keep.cons rfl (Keep.cons rfl (Keep.cons rfl (Keep.cons rfl (Keep.cons rfl (Keep.cons rfl (Keep.cons rfl (Keep.cons rfl (Keep.cons rfl (Keep.cons rfl (Keep.cons rfl (Keep.cons rfl (Keep.cons rfl (Keep.cons rfl (Keep.cons rfl (Keep.cons rfl (Keep.cons rfl (Keep.cons rfl (Keep.cons rfl (Keep.cons rfl (Keep.cons rfl (Keep.cons rfl (Keep.cons rfl (Keep.cons rfl (Keep.cons rfl (Keep.cons rfl (Keep.cons rfl (Keep.app rfl (Keep.rm rfl Keep.base)))))))))))))))))))))))))))))))))))))))))))))))))))))⟩, by omega⟩)
            | (have hy : aixB c (axB k) i ⟨(kf : Int), (kt : Int), el, eh, nl, nh⟩ = true := ax3_y hax (by assumption) (by assumption) (by assumption)
               exact ⟨k + 1, ⟨⟨by omega, hh⟩, hf.head ⟨rfl, congrArg (fun z => some (Value.bool z)) (idP_yes hk2 hy).symm, True.intro⟩ (Keep.cons rfl (Keep.cons rfl (Keep.cons rfl (Keep.cons rfl (Keep.cons rfl (Keep.cons rfl (Keep.cons rfl (Keep.cons rfl (Keep.cons rfl (Keep.cons rfl (Keep.cons rfl (Keep.cons rfl (Keep.cons rfl (Keep.cons rfl (Keep.cons rfl (Keep.cons rfl (Keep.cons rfl (Keep.cons rfl (Keep.cons rfl (Keep.cons rfl (Keep.cons rfl (Keep.cons rfl (Keep.cons rfl (Keep.cons rfl (Keep.cons rfl (Keep.cons rfl (Keep.cons rfl (Keep.cons rfl (Keep.cons rfl (Keep.cons rfl (Keep.cons rfl (Keep.cons rfl (Keep.cons rfl (Keep.cons rfl (Keep.cons rfl (Keep.cons rfl (Keep.cons rfl (Keep.cons rfl (Keep.cons rfl (Keep.cons rfl (Keep.cons rfl (Keep.cons rfl (Keep.cons rfl (Keep.cons rfl (Keep.cons rfl (Keep.cons rfl (Keep.cons rfl (Keep.cons rfl (Keep.cons rfl (Keep.cons rfl (Keep.cons rfl (Keep.app rfl (Keep.rm rfl Keep.base)))))))))))))))))))))))))))))))))))))))))))))))))))))⟩, by omega⟩)
            | omega
         ·refine mc_e rfl fun Q1 => ?_
          refine o_off hf ?_; clear hf a; intro a hf
          refine ops_end ?_
          refine then_n ⟨⟨fun _ _ => (AtE.of hh (by intro p hp; simp only [List.mem_cons, List.not_mem_nil, or_false] at hp; rcases hp with h | h <;> simp [h])), trivial⟩, ?_⟩
          refine mc_off rfl hf (goff rfl rfl rfl (by first | assumption | rfl | (simp; done) | (simp; omega))) rfl rfl ?_; clear hf a; intro a hf
          refine mc_e rfl fun Q1 => ?_
          refine o_off hf ?_; clear hf a; intro a hf
          refine ops_end ?_
          refine then_n ⟨⟨fun _ _ => (AtE.of hh (by intro p hp; simp only [List.mem_cons, List.not_mem_nil, or_false] at hp; rcases hp with h | h <;> simp [h])), trivial⟩, ?_⟩
          refine mc_off rfl hf (goff rfl rfl rfl (by first | assumption | rfl | (simp; done) | (simp; omega))) rfl rfl ?_; clear hf a; intro a hf
          refine mc_off rfl hf (goff rfl rfl rfl (by first | assumption | rfl | (simp; done) | (simp; omega))) rfl rfl ?_; clear hf a; intro a hf
          refine mc_p rfl   hf (y_pt rfl rfl) (.inl rfl) rfl rfl ?_; clear hf a; intro a hf
          refine mc_end ?_
          refine then_n ?_
          refine c_t hf ?_
          refine sy_ops ?_
          refine o_v hf hh (yv_assign rfl) ?_; clear hf a; intro a hf
          refine ops_end ?_
          refine blk_n ?_
          refine then_n ?_
          refine sy_ops ?_
          refine o_v hf hh (y_add rfl rfl) ?_; clear hf a; intro a hf
          refine o_v hf hh (yv_move rfl) ?_; clear hf a; intro a hf
          refine ops_end ?_
          refine then_n ?_
          replace hh : Hp u [] ((B6, .cells #[.int .i64 (kf : Nat), .int .i64 (kt : Nat), .int .i64 el, .int .i64 eh, .int .i64 nl, .int .i64 nh] 46) :: ([(B3, .cells #[.int .i64 0] 29), (B1, .cells (chC c sa cp) 24)] ++ XV)) w := by
            first
            | exact hh.less (.cons _ (.refl _))
            | exact hh.less (.cons _ (.cons _ (.refl _)))
          first
            | (have hy : aixB c (axB k) i ⟨(kf : Int), (kt : Int), el, eh, nl, nh⟩ = false := by first | exact ax3_0 hax (by assumption) | exact ax3_1 hax (by assumption) | exact ax3_2 hax (by assumption)
               exact ⟨k + 1, ⟨⟨by omega, hh⟩, hf.head ⟨rfl, congrArg (fun z => some (Value.bool z)) (idP_no hk2 hy).symm, True.intro⟩ (Keep.cons rfl (Keep.cons rfl (Keep.cons rfl (Keep.cons rfl (Keep.cons rfl (Keep.cons rfl (Keep.cons rfl (Keep.cons rfl (Keep.cons rfl (Keep.cons rfl (Keep.cons rfl (Keep.cons rfl (Keep.cons rfl (Keep.cons rfl (Keep.cons rfl (Keep.cons rfl (Keep.cons rfl (Keep.cons rfl (Keep.cons rfl (Keep.cons rfl (Keep.cons rfl (Keep.cons rfl (Keep.cons rfl (Keep.cons rfl (Keep.cons rfl (Keep.cons rfl (Keep.cons rfl (Keep.cons rfl (Keep.cons rfl (Keep.cons rfl (Keep.cons rfl (Keep.cons rfl (Keep.cons rfl (Keep.cons rfl (Keep.cons rfl (Keep.cons rfl (Keep.cons rfl (Keep.cons rfl (Keep.cons rfl (Keep.cons rfl (Keep.cons rfl (Keep.cons rfl (Keep.cons rfl (Keep.cons rfl (Keep.cons rfl (Keep.cons rfl (Keep.cons rfl (Keep.cons rfl (Keep.cons rfl (Keep.cons rfl (Keep.cons rfl (Keep.app rfl (Keep.rm rfl Keep.base)))))))))))))))))))))))))))))))))))))))))))))))))))))⟩, by omega⟩)
            | (have hy : aixB c (axB k) i ⟨(kf : Int), (kt : Int), el, eh, nl, nh⟩ = true := ax3_y hax (by assumption) (by assumption) (by assumption)
               exact ⟨k + 1, ⟨⟨by omega, hh⟩, hf.head ⟨rfl, congrArg (fun z => some (Value.bool z)) (idP_yes hk2 hy).symm, True.intro⟩ (Keep.cons rfl (Keep.cons rfl (Keep.cons rfl (Keep.cons rfl (Keep.cons rfl (Keep.cons rfl (Keep.cons rfl (Keep.cons rfl (Keep.cons rfl (Keep.cons rfl (Keep.cons rfl (Keep.cons rfl (Keep.cons rfl (Keep.cons rfl (Keep.cons rfl (Keep.cons rfl (Keep.cons rfl (Keep.cons rfl (Keep.cons rfl (Keep.cons rfl (Keep.cons rfl (Keep.cons rfl (Keep.cons rfl (Keep.cons rfl (Keep.cons rfl (Keep.cons rfl (Keep.cons rfl (Keep.cons rfl (Keep.cons rfl (Keep.cons rfl (Keep.cons rfl (Keep.cons rfl (Keep.cons rfl (Keep.cons rfl (Keep.cons rfl (Keep.cons rfl (Keep.cons rfl (Keep.cons rfl (Keep.cons rfl (Keep.cons rfl (Keep.cons rfl (Keep.cons rfl (Keep.cons rfl (Keep.cons rfl (Keep.cons rfl (Keep.cons rfl (Keep.cons rfl (Keep.cons rfl (Keep.cons rfl (Keep.cons rfl (Keep.cons rfl (Keep.app rfl (Keep.rm rfl Keep.base)))))))))))))))))))))))))))))))))))))))))))))))))))))⟩, by omega⟩)
            | omega
        ·have hG16 := hg16; try simp only [gS] at hG16
         refine mc_p rfl   hf (yv_move rfl) (gon rfl rfl rfl (by first | assumption | rfl | (simp; done) | (simp; omega))) rfl rfl ?_; clear hf a; intro a hf
         refine mc_p rfl   hf (yv_fieldAddr Try.fo_69_0 rfl) (gon rfl rfl rfl (by first | assumption | rfl | (simp; done) | (simp; omega))) rfl rfl ?_; clear hf a; intro a hf
         refine mc_q rfl rfl (AtE.of hh (by intro p hp; simp only [List.mem_cons, List.not_mem_nil, or_false] at hp; rcases hp with h | h <;> simp [h])) hf (y_ld Try.sc_67 rfl) (gon rfl rfl rfl (by first | assumption | rfl | (simp; done) | (simp; omega))) rfl rfl ?_; clear hf a; intro a hf
         refine mc_q rfl rfl (AtE.of hh (by intro p hp; simp only [List.mem_cons, List.not_mem_nil, or_false] at hp; rcases hp with h | h <;> simp [h])) hf (y_lds Try.ag_46 rfl) (gon rfl rfl rfl (by first | assumption | rfl | (simp; done) | (simp; omega))) rfl rfl ?_; clear hf a; intro a hf
         refine mc_e rfl fun Q1 => ?_
         refine o_call hf (en_ax (axB k)) rfl rfl rfl (pax (axB k) ⟨(kf : Int), (kt : Int), el, eh, nl, nh⟩ _) ?_; clear hf a; intro v a w hR hf
         obtain ⟨rfl, hx⟩ := hR; replace hh := hh.more hx; clear hx
         refine ops_end ?_
         refine then_n ⟨⟨fun _ _ => (AtE.of hh (by intro p hp; simp only [List.mem_cons, List.not_mem_nil, or_false] at hp; rcases hp with h | h <;> simp [h])), trivial⟩, ?_⟩
         refine mc_p rfl   hf (yv_fieldS Try.fs_28_1 rfl rfl) (gon rfl rfl rfl (by first | assumption | rfl | (simp; done) | (simp; omega))) rfl rfl ?_; clear hf a; intro a hf
         refine mc_p rfl   hf (yv_bin rfl rfl rfl) (gon rfl rfl rfl (by first | assumption | rfl | (simp; done) | (simp; omega))) rfl rfl ?_; clear hf a; intro a hf
         refine mc_p rfl   hf (y_pf rfl rfl) (.inl rfl) rfl rfl ?_; clear hf a; intro a hf
         refine mc_p rfl   hf (yv_move rfl) (.inl rfl) rfl rfl ?_; clear hf a; intro a hf
         refine guard_any hf (t := 55) rfl (fun hg19 => ?_) (fun hg19 => ?_)
         ·have hG19 := hg19; try simp only [gS] at hG19
          refine mc_off rfl hf (goff rfl rfl rfl (by first | assumption | rfl | (simp; done) | (simp; omega))) rfl rfl ?_; clear hf a; intro a hf
          refine mc_off rfl hf (goff rfl rfl rfl (by first | assumption | rfl | (simp; done) | (simp; omega))) rfl rfl ?_; clear hf a; intro a hf
          refine mc_offq rfl rfl (AtE.of hh (by intro p hp; simp only [List.mem_cons, List.not_mem_nil, or_false] at hp; rcases hp with h | h <;> simp [h])) hf (goff rfl rfl rfl (by first | assumption | rfl | (simp; done) | (simp; omega))) rfl rfl ?_; clear hf a; intro a hf
          refine mc_offq rfl rfl (AtE.of hh (by intro p hp; simp only [List.mem_cons, List.not_mem_nil, or_false] at hp; rcases hp with h | h <;> simp [h])) hf (goff rfl rfl rfl (by first | assumption | rfl | (simp; done) | (simp; omega))) rfl rfl ?_; clear hf a; intro a hf
          refine mc_off rfl hf (goff rfl rfl rfl (by first | assumption | rfl | (simp; done) | (simp; omega))) rfl rfl ?_; clear hf a; intro a hf
          refine mc_off rfl hf (goff rfl rfl rfl (by first | assumption | rfl | (simp; done) | (simp; omega))) rfl rfl ?_; clear hf a; intro a hf
          refine mc_off rfl hf (goff rfl rfl rfl (by first | assumption | rfl | (simp; done) | (simp; omega))) rfl rfl ?_; clear hf a; intro a hf
          refine mc_offq rfl rfl (AtE.of hh (by intro p hp; simp only [List.mem_cons, List.not_mem_nil, or_false] at hp; rcases hp with h | h <;> simp [h])) hf (goff rfl rfl rfl (by first | assumption | rfl | (simp; done) | (simp; omega))) rfl rfl ?_; clear hf a; intro a hf
          refine mc_off rfl hf (goff rfl rfl rfl (by first | assumption | rfl | (simp; done) | (simp; omega))) rfl rfl ?_; clear hf a; intro a hf
          refine mc_offq rfl rfl (AtE.of hh (by intro p hp; simp only [List.mem_cons, List.not_mem_nil, or_false] at hp; rcases hp with h | h <;> simp [h])) hf (goff rfl rfl rfl (by first | assumption | rfl | (simp; done) | (simp; omega))) rfl rfl ?_; clear hf a; intro a hf
          refine mc_offq rfl rfl (AtE.of hh (by intro p hp; simp only [List.mem_cons, List.not_mem_nil, or_false] at hp; rcases hp with h | h <;> simp [h])) hf (goff rfl rfl rfl (by first | assumption | rfl | (simp; done) | (simp; omega))) rfl rfl ?_; clear hf a; intro a hf
          refine mc_e rfl fun Q1 => ?_
          refine o_off hf ?_; clear hf a; intro a hf
          refine ops_end ?_
          refine then_n ⟨⟨fun _ _ => (AtE.of hh (by intro p hp; simp only [List.mem_cons, List.not_mem_nil, or_false] at hp; rcases hp with h | h <;> simp [h])), trivial⟩, ?_⟩
          refine ⟨?_, ?_⟩
          ·refine mc_e rfl fun Q1 => ?_
           refine o_off hf ?_; clear hf a; intro a hf
           refine ops_end ?_
           refine then_n ⟨⟨fun _ _ => (AtE.of hh (by intro p hp; simp only [List.mem_cons, List.not_mem_nil, or_false] at hp; rcases hp with h | h <;> simp [h])), trivial⟩, ?_⟩
           refine mc_off rfl hf (goff rfl rfl rfl (by first | assumption | rfl | (simp; done) | (simp; omega))) rfl rfl ?_; clear hf a; intro a hf
           refine mc_e rfl fun Q1 => ?_
           refine o_off hf ?_; clear hf a; intro a hf
           refine ops_end ?_
           refine then_n ⟨⟨fun _ _ => (AtE.of hh (by intro p hp; simp only [List.mem_cons, List.not_mem_nil, or_false] at hp; rcases hp with h | h <;> simp [h])), trivial⟩, ?_⟩
           refine mc_off rfl hf (goff rfl rfl rfl (by first | assumption | rfl | (simp; done) | (simp; omega))) rfl rfl ?_; clear hf a; intro a hf
           refine mc_off rfl hf (goff rfl rfl rfl (by first | assumption | rfl | (simp; done) | (simp; omega))) rfl rfl ?_; clear hf a; intro a hf
           refine mc_p rfl   hf (y_pt rfl rfl) (.inl rfl) rfl rfl ?_; clear hf a; intro a hf
           refine mc_end ?_
           refine then_n ?_
           refine c_t hf ?_
           refine sy_ops ?_
           refine o_v hf hh (yv_assign rfl) ?_; clear hf a; intro a hf
           refine ops_end ?_
           refine blk_n ?_
           refine then_n ?_
           refine sy_ops ?_
           refine o_v hf hh (y_add rfl rfl) ?_; clear hf a; intro a hf
           refine o_v hf hh (yv_move rfl) ?_; clear hf a; intro a hf
           refine ops_end ?_
           refine then_n ?_
           replace hh : Hp u [] ((B6, .cells #[.int .i64 (kf : Nat), .int .i64 (kt : Nat), .int .i64 el, .int .i64 eh, .int .i64 nl, .int .i64 nh] 46) :: ([(B3, .cells #[.int .i64 0] 29), (B1, .cells (chC c sa cp) 24)] ++ XV)) w := by
             first
             | exact hh.less (.cons _ (.refl _))
             | exact hh.less (.cons _ (.cons _ (.refl _)))
           first
             | (have hy : aixB c (axB k) i ⟨(kf : Int), (kt : Int), el, eh, nl, nh⟩ = false := by first | exact ax3_0 hax (by assumption) | exact ax3_1 hax (by assumption) | exact ax3_2 hax (by assumption)
                exact ⟨k + 1, ⟨⟨by omega, hh⟩, hf.head ⟨rfl, congrArg (fun z => some (Value.bool z)) (idP_no hk2 hy).symm, True.intro⟩ (Keep.cons rfl (Keep.cons rfl (Keep.cons rfl (Keep.cons rfl (Keep.cons rfl (Keep.cons rfl (Keep.cons rfl (Keep.cons rfl (Keep.cons rfl (Keep.cons rfl (Keep.cons rfl (Keep.cons rfl (Keep.cons rfl (Keep.cons rfl (Keep.cons rfl (Keep.cons rfl (Keep.cons rfl (Keep.cons rfl (Keep.cons rfl (Keep.cons rfl (Keep.cons rfl (Keep.cons rfl (Keep.cons rfl (Keep.cons rfl (Keep.cons rfl (Keep.cons rfl (Keep.cons rfl (Keep.cons rfl (Keep.cons rfl (Keep.cons rfl (Keep.cons rfl (Keep.cons rfl (Keep.cons rfl (Keep.cons rfl (Keep.cons rfl (Keep.cons rfl (Keep.cons rfl (Keep.cons rfl (Keep.cons rfl (Keep.cons rfl (Keep.cons rfl (Keep.cons rfl (Keep.cons rfl (Keep.cons rfl (Keep.cons rfl (Keep.cons rfl (Keep.cons rfl (Keep.cons rfl (Keep.cons rfl (Keep.cons rfl (Keep.cons rfl (Keep.app rfl (Keep.rm rfl Keep.base)))))))))))))))))))))))))))))))))))))))))))))))))))))⟩, by omega⟩)
             | (have hy : aixB c (axB k) i ⟨(kf : Int), (kt : Int), el, eh, nl, nh⟩ = true := ax3_y hax (by assumption) (by assumption) (by assumption)
                exact ⟨k + 1, ⟨⟨by omega, hh⟩, hf.head ⟨rfl, congrArg (fun z => some (Value.bool z)) (idP_yes hk2 hy).symm, True.intro⟩ (Keep.cons rfl (Keep.cons rfl (Keep.cons rfl (Keep.cons rfl (Keep.cons rfl (Keep.cons rfl (Keep.cons rfl (Keep.cons rfl (Keep.cons rfl (Keep.cons rfl (Keep.cons rfl (Keep.cons rfl (Keep.cons rfl (Keep.cons rfl (Keep.cons rfl (Keep.cons rfl (Keep.cons rfl (Keep.cons rfl (Keep.cons rfl (Keep.cons rfl (Keep.cons rfl (Keep.cons rfl (Keep.cons rfl (Keep.cons rfl (Keep.cons rfl (Keep.cons rfl (Keep.cons rfl (Keep.cons rfl (Keep.cons rfl (Keep.cons rfl (Keep.cons rfl (Keep.cons rfl (Keep.cons rfl (Keep.cons rfl (Keep.cons rfl (Keep.cons rfl (Keep.cons rfl (Keep.cons rfl (Keep.cons rfl (Keep.cons rfl (Keep.cons rfl (Keep.cons rfl (Keep.cons rfl (Keep.cons rfl (Keep.cons rfl (Keep.cons rfl (Keep.cons rfl (Keep.cons rfl (Keep.cons rfl (Keep.cons rfl (Keep.cons rfl (Keep.app rfl (Keep.rm rfl Keep.base)))))))))))))))))))))))))))))))))))))))))))))))))))))⟩, by omega⟩)
             | omega
          ·refine mc_e rfl fun Q1 => ?_
           refine o_off hf ?_; clear hf a; intro a hf
           refine ops_end ?_
           refine then_n ⟨⟨fun _ _ => (AtE.of hh (by intro p hp; simp only [List.mem_cons, List.not_mem_nil, or_false] at hp; rcases hp with h | h <;> simp [h])), trivial⟩, ?_⟩
           refine mc_off rfl hf (goff rfl rfl rfl (by first | assumption | rfl | (simp; done) | (simp; omega))) rfl rfl ?_; clear hf a; intro a hf
           refine mc_e rfl fun Q1 => ?_
           refine o_off hf ?_; clear hf a; intro a hf
           refine ops_end ?_
           refine then_n ⟨⟨fun _ _ => (AtE.of hh (by intro p hp; simp only [List.mem_cons, List.not_mem_nil, or_false] at hp; rcases hp with h | h <;> simp [h])), trivial⟩, ?_⟩
           refine mc_off rfl hf (goff rfl rfl rfl (by first | assumption | rfl | (simp; done) | (simp; omega))) rfl rfl ?_; clear hf a; intro a hf
           refine mc_off rfl hf (goff rfl rfl rfl (by first | assumption | rfl | (simp; done) | (simp; omega))) rfl rfl ?_; clear hf a; intro a hf
           refine mc_p rfl   hf (y_pt rfl rfl) (.inl rfl) rfl rfl ?_; clear hf a; intro a hf
           refine mc_end ?_
           refine then_n ?_
           refine c_t hf ?_
           refine sy_ops ?_
           refine o_v hf hh (yv_assign rfl) ?_; clear hf a; intro a hf
           refine ops_end ?_
           refine blk_n ?_
           refine then_n ?_
           refine sy_ops ?_
           refine o_v hf hh (y_add rfl rfl) ?_; clear hf a; intro a hf
           refine o_v hf hh (yv_move rfl) ?_; clear hf a; intro a hf
           refine ops_end ?_
           refine then_n ?_
           replace hh : Hp u [] ((B6, .cells #[.int .i64 (kf : Nat), .int .i64 (kt : Nat), .int .i64 el, .int .i64 eh, .int .i64 nl, .int .i64 nh] 46) :: ([(B3, .cells #[.int .i64 0] 29), (B1, .cells (chC c sa cp) 24)] ++ XV)) w := by
             first
             | exact hh.less (.cons _ (.refl _))
             | exact hh.less (.cons _ (.cons _ (.refl _)))
           first
             | (have hy : aixB c (axB k) i ⟨(kf : Int), (kt : Int), el, eh, nl, nh⟩ = false := by first | exact ax3_0 hax (by assumption) | exact ax3_1 hax (by assumption) | exact ax3_2 hax (by assumption)
                exact ⟨k + 1, ⟨⟨by omega, hh⟩, hf.head ⟨rfl, congrArg (fun z => some (Value.bool z)) (idP_no hk2 hy).symm, True.intro⟩ (Keep.cons rfl (Keep.cons rfl (Keep.cons rfl (Keep.cons rfl (Keep.cons rfl (Keep.cons rfl (Keep.cons rfl (Keep.cons rfl (Keep.cons rfl (Keep.cons rfl (Keep.cons rfl (Keep.cons rfl (Keep.cons rfl (Keep.cons rfl (Keep.cons rfl (Keep.cons rfl (Keep.cons rfl (Keep.cons rfl (Keep.cons rfl (Keep.cons rfl (Keep.cons rfl (Keep.cons rfl (Keep.cons rfl (Keep.cons rfl (Keep.cons rfl (Keep.cons rfl (Keep.cons rfl (Keep.cons rfl (Keep.cons rfl (Keep.cons rfl (Keep.cons rfl (Keep.cons rfl (Keep.cons rfl (Keep.cons rfl (Keep.cons rfl (Keep.cons rfl (Keep.cons rfl (Keep.cons rfl (Keep.cons rfl (Keep.cons rfl (Keep.cons rfl (Keep.cons rfl (Keep.cons rfl (Keep.cons rfl (Keep.cons rfl (Keep.cons rfl (Keep.cons rfl (Keep.cons rfl (Keep.cons rfl (Keep.cons rfl (Keep.cons rfl (Keep.app rfl (Keep.rm rfl Keep.base)))))))))))))))))))))))))))))))))))))))))))))))))))))⟩, by omega⟩)
             | (have hy : aixB c (axB k) i ⟨(kf : Int), (kt : Int), el, eh, nl, nh⟩ = true := ax3_y hax (by assumption) (by assumption) (by assumption)
                exact ⟨k + 1, ⟨⟨by omega, hh⟩, hf.head ⟨rfl, congrArg (fun z => some (Value.bool z)) (idP_yes hk2 hy).symm, True.intro⟩ (Keep.cons rfl (Keep.cons rfl (Keep.cons rfl (Keep.cons rfl (Keep.cons rfl (Keep.cons rfl (Keep.cons rfl (Keep.cons rfl (Keep.cons rfl (Keep.cons rfl (Keep.cons rfl (Keep.cons rfl (Keep.cons rfl (Keep.cons rfl (Keep.cons rfl (Keep.cons rfl (Keep.cons rfl (Keep.cons rfl (Keep.cons rfl (Keep.cons rfl (Keep.cons rfl (Keep.cons rfl (Keep.cons rfl (Keep.cons rfl (Keep.cons rfl (Keep.cons rfl (Keep.cons rfl (Keep.cons rfl (Keep.cons rfl (Keep.cons rfl (Keep.cons rfl (Keep.cons rfl (Keep.cons rfl (Keep.cons rfl (Keep.cons rfl (Keep.cons rfl (Keep.cons rfl (Keep.cons rfl (Keep.cons rfl (Keep.cons rfl (Keep.cons rfl (Keep.cons rfl (Keep.cons rfl (Keep.cons rfl (Keep.cons rfl (Keep.cons rfl (Keep.cons rfl (Keep.cons rfl (Keep.cons rfl (Keep.cons rfl (Keep.cons rfl (Keep.app rfl (Keep.rm rfl Keep.base)))))))))))))))))))))))))))))))))))))))))))))))))))))⟩, by omega⟩)
             | omega
         ·have hG19 := hg19; try simp only [gS] at hG19
          refine mc_p rfl   hf (yv_move rfl) (gon rfl rfl rfl (by first | assumption | rfl | (simp; done) | (simp; omega))) rfl rfl ?_; clear hf a; intro a hf
          refine mc_p rfl   hf (yv_fieldAddr Try.fo_46_1 rfl) (gon rfl rfl rfl (by first | assumption | rfl | (simp; done) | (simp; omega))) rfl rfl ?_; clear hf a; intro a hf
          refine mc_q rfl rfl (AtE.of hh (by intro p hp; simp only [List.mem_cons, List.not_mem_nil, or_false] at hp; rcases hp with h | h <;> simp [h])) hf (y_ld Try.sc_3 rfl) (gon rfl rfl rfl (by first | assumption | rfl | (simp; done) | (simp; omega))) rfl rfl ?_; clear hf a; intro a hf
          refine mc_q rfl rfl (AtE.of hh (by intro p hp; simp only [List.mem_cons, List.not_mem_nil, or_false] at hp; rcases hp with h | h <;> simp [h])) hf (y_lds Try.ag_69 rfl) (gon rfl rfl rfl (by first | assumption | rfl | (simp; done) | (simp; omega))) rfl rfl ?_; clear hf a; intro a hf
          refine mc_p rfl   hf (yv_move rfl) (gon rfl rfl rfl (by first | assumption | rfl | (simp; done) | (simp; omega))) rfl rfl ?_; clear hf a; intro a hf
          refine mc_p rfl   hf (yv_cast (yv_shl1 (.inr rfl) rfl rfl (by omega) (by omega)) (intv (b := ((2 ^ i : Nat) : Int)) (by rw [Int.toNat_natCast]))) (gon rfl rfl rfl (by first | assumption | rfl | (simp; done) | (simp; omega))) rfl rfl ?_; clear hf a; intro a hf
          refine mc_p rfl   hf (yv_fieldAddr Try.fo_46_0 rfl) (gon rfl rfl rfl (by first | assumption | rfl | (simp; done) | (simp; omega))) rfl rfl ?_; clear hf a; intro a hf
          refine mc_q rfl rfl (AtE.of hh (by intro p hp; simp only [List.mem_cons, List.not_mem_nil, or_false] at hp; rcases hp with h | h <;> simp [h])) hf (y_ld Try.sc_3 rfl) (gon rfl rfl rfl (by first | assumption | rfl | (simp; done) | (simp; omega))) rfl rfl ?_; clear hf a; intro a hf
          refine mc_p rfl   hf (yv_fieldAddr Try.fo_69_0 rfl) (gon rfl rfl rfl (by first | assumption | rfl | (simp; done) | (simp; omega))) rfl rfl ?_; clear hf a; intro a hf
          refine mc_q rfl rfl (AtE.of hh (by intro p hp; simp only [List.mem_cons, List.not_mem_nil, or_false] at hp; rcases hp with h | h <;> simp [h])) hf (y_ld Try.sc_67 rfl) (gon rfl rfl rfl (by first | assumption | rfl | (simp; done) | (simp; omega))) rfl rfl ?_; clear hf a; intro a hf
          refine mc_q rfl rfl (AtE.of hh (by intro p hp; simp only [List.mem_cons, List.not_mem_nil, or_false] at hp; rcases hp with h | h <;> simp [h])) hf (y_lds Try.ag_46 rfl) (gon rfl rfl rfl (by first | assumption | rfl | (simp; done) | (simp; omega))) rfl rfl ?_; clear hf a; intro a hf
          refine mc_e rfl fun Q1 => ?_
          refine o_call hf Try.en_50 rfl rfl rfl (p50 Bv c sa cp kt (axB k) (2 ^ i) (dk i) _ (hVof _ (fun q hq => hh.get q (by simp [hq])) (hA.ext hh.ext)) hO (by omega) (fun j _ => dk_bit i j) (by omega)) ?_; clear hf a; intro v a w hR hf
          obtain ⟨bm2, es2, cm2, rfl, hM2, hx⟩ := hR; replace hh := hh.join hx; clear hx
          refine ops_end ?_
          refine then_n ⟨⟨fun _ _ => (AtE.of hh (by intro p hp; simp only [List.mem_cons, List.not_mem_nil, or_false] at hp; rcases hp with h | h <;> simp [h])), trivial⟩, ?_⟩
          refine ⟨?_, ?_⟩
          ·refine mc_e rfl fun Q1 => ?_
           refine o_v hf hh (yv_cast (yv_getI Try.mt_89 Try.ze_3 rfl rfl (fun _ h => h.at (i := 0) rfl) hM2) (encM_get (bndV c (axB k) (dk i) kt) kf).1) ?_; clear hf a; intro a hf
           refine ops_end ?_
           refine then_n ⟨⟨fun _ _ => (AtE.of hh (by intro p hp; simp only [List.mem_cons, List.not_mem_nil, or_false] at hp; rcases hp with h | h <;> simp [h])), trivial⟩, ?_⟩
           refine mc_p rfl   hf (yv_neg rfl (by omega) (by omega)) (gon rfl rfl rfl (by first | assumption | rfl | (simp; done) | (simp; omega))) rfl rfl ?_; clear hf a; intro a hf
           refine mc_e rfl fun Q1 => ?_
           refine o_call hf (en_ax (axB k)) rfl rfl rfl (pax (axB k) ⟨(kf : Int), (kt : Int), el, eh, nl, nh⟩ _) ?_; clear hf a; intro v a w hR hf
           obtain ⟨rfl, hx⟩ := hR; replace hh := hh.more hx; clear hx
           refine ops_end ?_
           refine then_n ⟨⟨fun _ _ => (AtE.of hh (by intro p hp; simp only [List.mem_cons, List.not_mem_nil, or_false] at hp; rcases hp with h | h <;> simp [h])), trivial⟩, ?_⟩
           refine mc_p rfl   hf (yv_fieldS Try.fs_28_0 rfl rfl) (gon rfl rfl rfl (by first | assumption | rfl | (simp; done) | (simp; omega))) rfl rfl ?_; clear hf a; intro a hf
           refine mc_p rfl   hf (yv_bin rfl rfl rfl) (gon rfl rfl rfl (by first | assumption | rfl | (simp; done) | (simp; omega))) rfl rfl ?_; clear hf a; intro a hf
           refine mc_p rfl   hf (y_pf rfl rfl) (.inl rfl) rfl rfl ?_; clear hf a; intro a hf
           refine mc_end ?_
           refine then_n ?_
           refine sy_cond hf rfl (fun hg25 => ?_) (fun hg25 => ?_)
           ·have hG25 := hg25; try simp only [gS] at hG25
            refine sy_ops ?_
            refine o_v hf hh (yv_assign rfl) ?_; clear hf a; intro a hf
            refine ops_end ?_
            refine blk_n ?_
            refine then_n ?_
            refine sy_ops ?_
            refine o_v hf hh (y_add rfl rfl) ?_; clear hf a; intro a hf
            refine o_v hf hh (yv_move rfl) ?_; clear hf a; intro a hf
            refine ops_end ?_
            refine then_n ?_
            replace hh : Hp u [] ((B6, .cells #[.int .i64 (kf : Nat), .int .i64 (kt : Nat), .int .i64 el, .int .i64 eh, .int .i64 nl, .int .i64 nh] 46) :: ([(B3, .cells #[.int .i64 0] 29), (B1, .cells (chC c sa cp) 24)] ++ XV)) w := by
              first
              | exact hh.less (.cons _ (.refl _))
              | exact hh.less (.cons _ (.cons _ (.refl _)))
            first
              | (have hy : aixB c (axB k) i ⟨(kf : Int), (kt : Int), el, eh, nl, nh⟩ = false := by first | exact ax3_0 hax (by assumption) | exact ax3_1 hax (by assumption) | exact ax3_2 hax (by assumption)
                 exact ⟨k + 1, ⟨⟨by omega, hh⟩, hf.head ⟨rfl, congrArg (fun z => some (Value.bool z)) (idP_no hk2 hy).symm, True.intro⟩ (Keep.cons rfl (Keep.cons rfl (Keep.cons rfl (Keep.cons rfl (Keep.cons rfl (Keep.cons rfl (Keep.cons rfl (Keep.cons rfl (Keep.cons rfl (Keep.cons rfl (Keep.cons rfl (Keep.cons rfl (Keep.cons rfl (Keep.cons rfl (Keep.cons rfl (Keep.cons rfl (Keep.cons rfl (Keep.cons rfl (Keep.cons rfl (Keep.cons rfl (Keep.cons rfl (Keep.cons rfl (Keep.cons rfl (Keep.cons rfl (Keep.cons rfl (Keep.cons rfl (Keep.cons rfl (Keep.cons rfl (Keep.cons rfl (Keep.cons rfl (Keep.cons rfl (Keep.cons rfl (Keep.cons rfl (Keep.cons rfl (Keep.cons rfl (Keep.cons rfl (Keep.cons rfl (Keep.cons rfl (Keep.cons rfl (Keep.cons rfl (Keep.cons rfl (Keep.cons rfl (Keep.cons rfl (Keep.cons rfl (Keep.cons rfl (Keep.cons rfl (Keep.cons rfl (Keep.cons rfl (Keep.cons rfl (Keep.cons rfl (Keep.cons rfl (Keep.app rfl (Keep.rm rfl Keep.base)))))))))))))))))))))))))))))))))))))))))))))))))))))⟩, by omega⟩)
              | (have hy : aixB c (axB k) i ⟨(kf : Int), (kt : Int), el, eh, nl, nh⟩ = true := ax3_y hax (by assumption) (by assumption) (by assumption)
                 exact ⟨k + 1, ⟨⟨by omega, hh⟩, hf.head ⟨rfl, congrArg (fun z => some (Value.bool z)) (idP_yes hk2 hy).symm, True.intro⟩ (Keep.cons rfl (Keep.cons rfl (Keep.cons rfl (Keep.cons rfl (Keep.cons rfl (Keep.cons rfl (Keep.cons rfl (Keep.cons rfl (Keep.cons rfl (Keep.cons rfl (Keep.cons rfl (Keep.cons rfl (Keep.cons rfl (Keep.cons rfl (Keep.cons rfl (Keep.cons rfl (Keep.cons rfl (Keep.cons rfl (Keep.cons rfl (Keep.cons rfl (Keep.cons rfl (Keep.cons rfl (Keep.cons rfl (Keep.cons rfl (Keep.cons rfl (Keep.cons rfl (Keep.cons rfl (Keep.cons rfl (Keep.cons rfl (Keep.cons rfl (Keep.cons rfl (Keep.cons rfl (Keep.cons rfl (Keep.cons rfl (Keep.cons rfl (Keep.cons rfl (Keep.cons rfl (Keep.cons rfl (Keep.cons rfl (Keep.cons rfl (Keep.cons rfl (Keep.cons rfl (Keep.cons rfl (Keep.cons rfl (Keep.cons rfl (Keep.cons rfl (Keep.cons rfl (Keep.cons rfl (Keep.cons rfl (Keep.cons rfl (Keep.cons rfl (Keep.app rfl (Keep.rm rfl Keep.base)))))))))))))))))))))))))))))))))))))))))))))))))))))⟩, by omega⟩)
              | omega
           ·have hG25 := hg25; try simp only [gS] at hG25
            refine sy_skip ?_
            refine blk_n ?_
            refine then_n ?_
            refine sy_ops ?_
            refine o_v hf hh (y_add rfl rfl) ?_; clear hf a; intro a hf
            refine o_v hf hh (yv_move rfl) ?_; clear hf a; intro a hf
            refine ops_end ?_
            refine then_n ?_
            replace hh : Hp u [] ((B6, .cells #[.int .i64 (kf : Nat), .int .i64 (kt : Nat), .int .i64 el, .int .i64 eh, .int .i64 nl, .int .i64 nh] 46) :: ([(B3, .cells #[.int .i64 0] 29), (B1, .cells (chC c sa cp) 24)] ++ XV)) w := by
              first
              | exact hh.less (.cons _ (.refl _))
              | exact hh.less (.cons _ (.cons _ (.refl _)))
            first
              | (have hy : aixB c (axB k) i ⟨(kf : Int), (kt : Int), el, eh, nl, nh⟩ = false := by first | exact ax3_0 hax (by assumption) | exact ax3_1 hax (by assumption) | exact ax3_2 hax (by assumption)
                 exact ⟨k + 1, ⟨⟨by omega, hh⟩, hf.head ⟨rfl, congrArg (fun z => some (Value.bool z)) (idP_no hk2 hy).symm, True.intro⟩ (Keep.cons rfl (Keep.cons rfl (Keep.cons rfl (Keep.cons rfl (Keep.cons rfl (Keep.cons rfl (Keep.cons rfl (Keep.cons rfl (Keep.cons rfl (Keep.cons rfl (Keep.cons rfl (Keep.cons rfl (Keep.cons rfl (Keep.cons rfl (Keep.cons rfl (Keep.cons rfl (Keep.cons rfl (Keep.cons rfl (Keep.cons rfl (Keep.cons rfl (Keep.cons rfl (Keep.cons rfl (Keep.cons rfl (Keep.cons rfl (Keep.cons rfl (Keep.cons rfl (Keep.cons rfl (Keep.cons rfl (Keep.cons rfl (Keep.cons rfl (Keep.cons rfl (Keep.cons rfl (Keep.cons rfl (Keep.cons rfl (Keep.cons rfl (Keep.cons rfl (Keep.cons rfl (Keep.cons rfl (Keep.cons rfl (Keep.cons rfl (Keep.cons rfl (Keep.cons rfl (Keep.cons rfl (Keep.cons rfl (Keep.cons rfl (Keep.cons rfl (Keep.cons rfl (Keep.cons rfl (Keep.cons rfl (Keep.cons rfl (Keep.app rfl (Keep.rm rfl Keep.base))))))))))))))))))))))))))))))))))))))))))))))))))))⟩, by omega⟩)
              | (have hy : aixB c (axB k) i ⟨(kf : Int), (kt : Int), el, eh, nl, nh⟩ = true := ax3_y hax (by assumption) (by assumption) (by assumption)
                 exact ⟨k + 1, ⟨⟨by omega, hh⟩, hf.head ⟨rfl, congrArg (fun z => some (Value.bool z)) (idP_yes hk2 hy).symm, True.intro⟩ (Keep.cons rfl (Keep.cons rfl (Keep.cons rfl (Keep.cons rfl (Keep.cons rfl (Keep.cons rfl (Keep.cons rfl (Keep.cons rfl (Keep.cons rfl (Keep.cons rfl (Keep.cons rfl (Keep.cons rfl (Keep.cons rfl (Keep.cons rfl (Keep.cons rfl (Keep.cons rfl (Keep.cons rfl (Keep.cons rfl (Keep.cons rfl (Keep.cons rfl (Keep.cons rfl (Keep.cons rfl (Keep.cons rfl (Keep.cons rfl (Keep.cons rfl (Keep.cons rfl (Keep.cons rfl (Keep.cons rfl (Keep.cons rfl (Keep.cons rfl (Keep.cons rfl (Keep.cons rfl (Keep.cons rfl (Keep.cons rfl (Keep.cons rfl (Keep.cons rfl (Keep.cons rfl (Keep.cons rfl (Keep.cons rfl (Keep.cons rfl (Keep.cons rfl (Keep.cons rfl (Keep.cons rfl (Keep.cons rfl (Keep.cons rfl (Keep.cons rfl (Keep.cons rfl (Keep.cons rfl (Keep.cons rfl (Keep.cons rfl (Keep.app rfl (Keep.rm rfl Keep.base))))))))))))))))))))))))))))))))))))))))))))))))))))⟩, by omega⟩)
              | omega
          ·refine mc_e rfl fun Q1 => ?_
           refine o_call hf (en_ax (axB k)) rfl rfl rfl (pax (axB k) ⟨(kf : Int), (kt : Int), el, eh, nl, nh⟩ _) ?_; clear hf a; intro v a w hR hf
           obtain ⟨rfl, hx⟩ := hR; replace hh := hh.more hx; clear hx
           refine ops_end ?_
           refine then_n ⟨⟨fun _ _ => (AtE.of hh (by intro p hp; simp only [List.mem_cons, List.not_mem_nil, or_false] at hp; rcases hp with h | h <;> simp [h])), trivial⟩, ?_⟩
           refine mc_p rfl   hf (yv_fieldS Try.fs_28_0 rfl rfl) (gon rfl rfl rfl (by first | assumption | rfl | (simp; done) | (simp; omega))) rfl rfl ?_; clear hf a; intro a hf
           refine mc_e rfl fun Q1 => ?_
           refine o_v hf hh (yv_cast (yv_getI Try.mt_89 Try.ze_3 rfl rfl (fun _ h => h.at (i := 0) rfl) hM2) (encM_get (bndV c (axB k) (dk i) kt) kf).1) ?_; clear hf a; intro a hf
           refine ops_end ?_
           refine then_n ⟨⟨fun _ _ => (AtE.of hh (by intro p hp; simp only [List.mem_cons, List.not_mem_nil, or_false] at hp; rcases hp with h | h <;> simp [h])), trivial⟩, ?_⟩
           refine mc_p rfl   hf (yv_neg rfl (by omega) (by omega)) (gon rfl rfl rfl (by first | assumption | rfl | (simp; done) | (simp; omega))) rfl rfl ?_; clear hf a; intro a hf
           refine mc_p rfl   hf (yv_bin rfl rfl rfl) (gon rfl rfl rfl (by first | assumption | rfl | (simp; done) | (simp; omega))) rfl rfl ?_; clear hf a; intro a hf
           refine mc_p rfl   hf (y_pf rfl rfl) (.inl rfl) rfl rfl ?_; clear hf a; intro a hf
           refine mc_end ?_
           refine then_n ?_
           refine sy_cond hf rfl (fun hg29 => ?_) (fun hg29 => ?_)
           ·have hG29 := hg29; try simp only [gS] at hG29
            refine sy_ops ?_
            refine o_v hf hh (yv_assign rfl) ?_; clear hf a; intro a hf
            refine ops_end ?_
            refine blk_n ?_
            refine then_n ?_
            refine sy_ops ?_
            refine o_v hf hh (y_add rfl rfl) ?_; clear hf a; intro a hf
            refine o_v hf hh (yv_move rfl) ?_; clear hf a; intro a hf
            refine ops_end ?_
            refine then_n ?_
            replace hh : Hp u [] ((B6, .cells #[.int .i64 (kf : Nat), .int .i64 (kt : Nat), .int .i64 el, .int .i64 eh, .int .i64 nl, .int .i64 nh] 46) :: ([(B3, .cells #[.int .i64 0] 29), (B1, .cells (chC c sa cp) 24)] ++ XV)) w := by
              first
              | exact hh.less (.cons _ (.refl _))
              | exact hh.less (.cons _ (.cons _ (.refl _)))
            first
              | (have hy : aixB c (axB k) i ⟨(kf : Int), (kt : Int), el, eh, nl, nh⟩ = false := by first | exact ax3_0 hax (by assumption) | exact ax3_1 hax (by assumption) | exact ax3_2 hax (by assumption)
                 exact ⟨k + 1, ⟨⟨by omega, hh⟩, hf.head ⟨rfl, congrArg (fun z => some (Value.bool z)) (idP_no hk2 hy).symm, True.intro⟩ (Keep.cons rfl (Keep.cons rfl (Keep.cons rfl (Keep.cons rfl (Keep.cons rfl (Keep.cons rfl (Keep.cons rfl (Keep.cons rfl (Keep.cons rfl (Keep.cons rfl (Keep.cons rfl (Keep.cons rfl (Keep.cons rfl (Keep.cons rfl (Keep.cons rfl (Keep.cons rfl (Keep.cons rfl (Keep.cons rfl (Keep.cons rfl (Keep.cons rfl (Keep.cons rfl (Keep.cons rfl (Keep.cons rfl (Keep.cons rfl (Keep.cons rfl (Keep.cons rfl (Keep.cons rfl (Keep.cons rfl (Keep.cons rfl (Keep.cons rfl (Keep.cons rfl (Keep.cons rfl (Keep.cons rfl (Keep.cons rfl (Keep.cons rfl (Keep.cons rfl (Keep.cons rfl (Keep.cons rfl (Keep.cons rfl (Keep.cons rfl (Keep.cons rfl (Keep.cons rfl (Keep.cons rfl (Keep.cons rfl (Keep.cons rfl (Keep.cons rfl (Keep.cons rfl (Keep.cons rfl (Keep.cons rfl (Keep.cons rfl (Keep.cons rfl (Keep.app rfl (Keep.rm rfl Keep.base)))))))))))))))))))))))))))))))))))))))))))))))))))))⟩, by omega⟩)
              | (have hy : aixB c (axB k) i ⟨(kf : Int), (kt : Int), el, eh, nl, nh⟩ = true := ax3_y hax (by assumption) (by assumption) (by assumption)
                 exact ⟨k + 1, ⟨⟨by omega, hh⟩, hf.head ⟨rfl, congrArg (fun z => some (Value.bool z)) (idP_yes hk2 hy).symm, True.intro⟩ (Keep.cons rfl (Keep.cons rfl (Keep.cons rfl (Keep.cons rfl (Keep.cons rfl (Keep.cons rfl (Keep.cons rfl (Keep.cons rfl (Keep.cons rfl (Keep.cons rfl (Keep.cons rfl (Keep.cons rfl (Keep.cons rfl (Keep.cons rfl (Keep.cons rfl (Keep.cons rfl (Keep.cons rfl (Keep.cons rfl (Keep.cons rfl (Keep.cons rfl (Keep.cons rfl (Keep.cons rfl (Keep.cons rfl (Keep.cons rfl (Keep.cons rfl (Keep.cons rfl (Keep.cons rfl (Keep.cons rfl (Keep.cons rfl (Keep.cons rfl (Keep.cons rfl (Keep.cons rfl (Keep.cons rfl (Keep.cons rfl (Keep.cons rfl (Keep.cons rfl (Keep.cons rfl (Keep.cons rfl (Keep.cons rfl (Keep.cons rfl (Keep.cons rfl (Keep.cons rfl (Keep.cons rfl (Keep.cons rfl (Keep.cons rfl (Keep.cons rfl (Keep.cons rfl (Keep.cons rfl (Keep.cons rfl (Keep.cons rfl (Keep.cons rfl (Keep.app rfl (Keep.rm rfl Keep.base)))))))))))))))))))))))))))))))))))))))))))))))))))))⟩, by omega⟩)
              | omega
           ·have hG29 := hg29; try simp only [gS] at hG29
            refine sy_skip ?_
            refine blk_n ?_
            refine then_n ?_
            refine sy_ops ?_
            refine o_v hf hh (y_add rfl rfl) ?_; clear hf a; intro a hf
            refine o_v hf hh (yv_move rfl) ?_; clear hf a; intro a hf
            refine ops_end ?_
            refine then_n ?_
            replace hh : Hp u [] ((B6, .cells #[.int .i64 (kf : Nat), .int .i64 (kt : Nat), .int .i64 el, .int .i64 eh, .int .i64 nl, .int .i64 nh] 46) :: ([(B3, .cells #[.int .i64 0] 29), (B1, .cells (chC c sa cp) 24)] ++ XV)) w := by
              first
              | exact hh.less (.cons _ (.refl _))
              | exact hh.less (.cons _ (.cons _ (.refl _)))
            first
              | (have hy : aixB c (axB k) i ⟨(kf : Int), (kt : Int), el, eh, nl, nh⟩ = false := by first | exact ax3_0 hax (by assumption) | exact ax3_1 hax (by assumption) | exact ax3_2 hax (by assumption)
                 exact ⟨k + 1, ⟨⟨by omega, hh⟩, hf.head ⟨rfl, congrArg (fun z => some (Value.bool z)) (idP_no hk2 hy).symm, True.intro⟩ (Keep.cons rfl (Keep.cons rfl (Keep.cons rfl (Keep.cons rfl (Keep.cons rfl (Keep.cons rfl (Keep.cons rfl (Keep.cons rfl (Keep.cons rfl (Keep.cons rfl (Keep.cons rfl (Keep.cons rfl (Keep.cons rfl (Keep.cons rfl (Keep.cons rfl (Keep.cons rfl (Keep.cons rfl (Keep.cons rfl (Keep.cons rfl (Keep.cons rfl (Keep.cons rfl (Keep.cons rfl (Keep.cons rfl (Keep.cons rfl (Keep.cons rfl (Keep.cons rfl (Keep.cons rfl (Keep.cons rfl (Keep.cons rfl (Keep.cons rfl (Keep.cons rfl (Keep.cons rfl (Keep.cons rfl (Keep.cons rfl (Keep.cons rfl (Keep.cons rfl (Keep.cons rfl (Keep.cons rfl (Keep.cons rfl (Keep.cons rfl (Keep.cons rfl (Keep.cons rfl (Keep.cons rfl (Keep.cons rfl (Keep.cons rfl (Keep.cons rfl (Keep.cons rfl (Keep.cons rfl (Keep.cons rfl (Keep.cons rfl (Keep.app rfl (Keep.rm rfl Keep.base))))))))))))))))))))))))))))))))))))))))))))))))))))⟩, by omega⟩)
              | (have hy : aixB c (axB k) i ⟨(kf : Int), (kt : Int), el, eh, nl, nh⟩ = true := ax3_y hax (by assumption) (by assumption) (by assumption)
                 exact ⟨k + 1, ⟨⟨by omega, hh⟩, hf.head ⟨rfl, congrArg (fun z => some (Value.bool z)) (idP_yes hk2 hy).symm, True.intro⟩ (Keep.cons rfl (Keep.cons rfl (Keep.cons rfl (Keep.cons rfl (Keep.cons rfl (Keep.cons rfl (Keep.cons rfl (Keep.cons rfl (Keep.cons rfl (Keep.cons rfl (Keep.cons rfl (Keep.cons rfl (Keep.cons rfl (Keep.cons rfl (Keep.cons rfl (Keep.cons rfl (Keep.cons rfl (Keep.cons rfl (Keep.cons rfl (Keep.cons rfl (Keep.cons rfl (Keep.cons rfl (Keep.cons rfl (Keep.cons rfl (Keep.cons rfl (Keep.cons rfl (Keep.cons rfl (Keep.cons rfl (Keep.cons rfl (Keep.cons rfl (Keep.cons rfl (Keep.cons rfl (Keep.cons rfl (Keep.cons rfl (Keep.cons rfl (Keep.cons rfl (Keep.cons rfl (Keep.cons rfl (Keep.cons rfl (Keep.cons rfl (Keep.cons rfl (Keep.cons rfl (Keep.cons rfl (Keep.cons rfl (Keep.cons rfl (Keep.cons rfl (Keep.cons rfl (Keep.cons rfl (Keep.cons rfl (Keep.cons rfl (Keep.app rfl (Keep.rm rfl Keep.base))))))))))))))))))))))))))))))))))))))))))))))))))))⟩, by omega⟩)
              | omega
       ·have hG9 := hg9; try simp only [gS] at hG9
        refine sy_exit ?_
        refine then_e ?_
        refine then_e ?_
        refine blk_e ?_
        refine then_n ?_
        refine sy_sq ?_
        refine o_v hf hh (yv_move rfl) ?_; clear hf a; intro a hf
        refine o_end ?_
        refine sy_cond hf rfl (fun hg31 => ?_) (fun hg31 => ?_)
        ·have hG31 := hg31; try simp only [gS] at hG31
         refine sy_ops ?_
         refine o_v hf hh (yv_move rfl) ?_; clear hf a; intro a hf
         refine o_v hf hh (yv_move rfl) ?_; clear hf a; intro a hf
         refine ops_v hf hh (yv_cast (yv_shl1 (.inl rfl) rfl rfl (by omega) (by omega)) (intv (b := ((2 ^ i : Nat) : Int)) (by rw [Int.toNat_natCast]))) (.inl rfl) rfl rfl rfl ?_; clear hf a; intro a hf
         refine o_v hf hh (yv_orI rfl rfl (by omega) (by omega)) ?_; clear hf a; intro a hf
         refine o_v hf hh (yv_assign rfl) ?_; clear hf a; intro a hf
         refine ops_end ?_
         refine blk_n ?_
         refine then_n ?_
         refine sy_ops ?_
         refine o_v hf hh (y_add rfl rfl) ?_; clear hf a; intro a hf
         refine o_v hf hh (yv_move rfl) ?_; clear hf a; intro a hf
         refine ops_end ?_
         refine then_n ?_
         obtain rfl : k = 2 := by omega
         first
           | (have hy : idlB c i = true := by rw [← hid2]; assumption
              exact ⟨i + 1, ⟨⟨by omega, hh.less (.cons _ (.refl _))⟩, hf.head ⟨rfl, congrArg (fun z => some (Value.int IntKind.i64 ((z : Nat) : Int))) (by rw [hnx, if_pos hy]), True.intro⟩ (Keep.cons rfl (Keep.cons rfl (Keep.cons rfl (Keep.cons rfl (Keep.cons rfl (Keep.cons rfl (Keep.cons rfl (Keep.cons rfl (Keep.cons rfl (Keep.app rfl (Keep.rm rfl (Keep.cons rfl (Keep.cons rfl (Keep.cons rfl (Keep.cons rfl (Keep.cons rfl (Keep.cons rfl (Keep.cons rfl (Keep.cons rfl (Keep.cons rfl (Keep.app rfl (Keep.rm rfl Keep.base))))))))))))))))))))))⟩, by omega⟩)
           | (have hy : idlB c i = false := by rw [← hid2]; assumption
              exact ⟨i + 1, ⟨⟨by omega, hh.less (.cons _ (.refl _))⟩, hf.head ⟨rfl, congrArg (fun z => some (Value.int IntKind.i64 ((z : Nat) : Int))) (by rw [hnx, hy]; simp), True.intro⟩ (Keep.cons rfl (Keep.cons rfl (Keep.cons rfl (Keep.cons rfl (Keep.cons rfl (Keep.cons rfl (Keep.cons rfl (Keep.cons rfl (Keep.cons rfl (Keep.app rfl (Keep.rm rfl (Keep.cons rfl (Keep.cons rfl (Keep.cons rfl (Keep.cons rfl (Keep.cons rfl (Keep.cons rfl (Keep.cons rfl (Keep.cons rfl (Keep.cons rfl (Keep.app rfl (Keep.rm rfl Keep.base))))))))))))))))))))))⟩, by omega⟩)
           | omega
        ·have hG31 := hg31; try simp only [gS] at hG31
         refine sy_skip ?_
         refine blk_n ?_
         refine then_n ?_
         refine sy_ops ?_
         refine o_v hf hh (y_add rfl rfl) ?_; clear hf a; intro a hf
         refine o_v hf hh (yv_move rfl) ?_; clear hf a; intro a hf
         refine ops_end ?_
         refine then_n ?_
         obtain rfl : k = 2 := by omega
         first
           | (have hy : idlB c i = true := by rw [← hid2]; assumption
              exact ⟨i + 1, ⟨⟨by omega, hh.less (.cons _ (.refl _))⟩, hf.head ⟨rfl, congrArg (fun z => some (Value.int IntKind.i64 ((z : Nat) : Int))) (by rw [hnx, if_pos hy]), True.intro⟩ (Keep.cons rfl (Keep.cons rfl (Keep.cons rfl (Keep.cons rfl (Keep.app rfl (Keep.rm rfl (Keep.cons rfl (Keep.cons rfl (Keep.cons rfl (Keep.cons rfl (Keep.cons rfl (Keep.cons rfl (Keep.cons rfl (Keep.cons rfl (Keep.cons rfl (Keep.app rfl (Keep.rm rfl Keep.base)))))))))))))))))⟩, by omega⟩)
           | (have hy : idlB c i = false := by rw [← hid2]; assumption
              exact ⟨i + 1, ⟨⟨by omega, hh.less (.cons _ (.refl _))⟩, hf.head ⟨rfl, congrArg (fun z => some (Value.int IntKind.i64 ((z : Nat) : Int))) (by rw [hnx, hy]; simp), True.intro⟩ (Keep.cons rfl (Keep.cons rfl (Keep.cons rfl (Keep.cons rfl (Keep.app rfl (Keep.rm rfl (Keep.cons rfl (Keep.cons rfl (Keep.cons rfl (Keep.cons rfl (Keep.cons rfl (Keep.cons rfl (Keep.cons rfl (Keep.cons rfl (Keep.cons rfl (Keep.app rfl (Keep.rm rfl Keep.base)))))))))))))))))⟩, by omega⟩)
           | omega
     ·have hG5 := hg5; try simp only [gS] at hG5
      refine sy_exit ?_
      refine then_e ?_
      refine then_e ?_
      refine blk_e ?_
      refine then_n ?_
      refine sy_sq ?_
      refine o_v hf hh (yv_move rfl) ?_; clear hf a; intro a hf
      refine o_v hf hh (yv_assign rfl) ?_; clear hf a; intro a hf
      refine o_store hf hh Try.sz_29 fun w hh => ?_
      refine o_end ?_
      refine sy_ret ?_
      obtain rfl : i = c.si.length := by omega
      have ev := idlE0 hcb hwr
      rw [ev, idlV_ok ev]
      exact ret_da (Ds := []) hf hh Try.en_41 (fun w' => d41r B3 w') fun w' hh => ⟨[.int .i64 (bitN (idlB c) c.si.length : Nat), .int .i64 0], ⟨rfl, ⟨B3, 0, _, _, _, rfl, hh.at (i := 0) rfl, .inl ⟨Try.sc_29, rfl⟩⟩, True.intro⟩, rfl, hh.ext⟩
   ·intro ch w hX hf
    obtain ⟨hwr, rfl, hx⟩ := hX; replace hh := hh.more hx; clear hx
    refine then_p ?_
    have ev : idlE c = 4 := idlE4 hcb hwr
    rw [ev, idlV_no ev (by decide)]
    exact pan_da (Ds := []) hf hh Try.en_41 (fun w' hh => d41p B3 4 0 w' (hh.at (i := 0) rfl)) fun w' w'' hh h2 => by
      replace hh := hh.turn (i := 0) rfl h2.ext (h2.at (i := 0) rfl)
      exact ⟨[.int .i64 0, .int .i64 4], ⟨rfl, ⟨B3, 0, _, _, _, rfl, hh.at (i := 0) rfl, .inl ⟨Try.sc_29, rfl⟩⟩, True.intro⟩, rfl, hh.ext⟩
  ·intro ch w hX hf
   obtain ⟨e, rfl, hx, he⟩ := hX; replace hh := hh.more hx; clear hx
   refine then_p ?_
   rcases he with ⟨hcb, rfl⟩ | ⟨hcb, hal, rfl⟩
   · have ev : idlE c = 1 := idlE1 hcb
     rw [ev, idlV_no ev (by decide)]
     exact pan_da (Ds := []) hf hh Try.en_41 (fun w' hh => d41p B3 1 0 w' (hh.at (i := 0) rfl)) fun w' w'' hh h2 => by
       replace hh := hh.turn (i := 0) rfl h2.ext (h2.at (i := 0) rfl)
       exact ⟨[.int .i64 0, .int .i64 1], ⟨rfl, ⟨B3, 0, _, _, _, rfl, hh.at (i := 0) rfl, .inl ⟨Try.sc_29, rfl⟩⟩, True.intro⟩, rfl, hh.ext⟩
   · simp at hal
end Go.Proofs.Ytccjnjhlnpgocaa
namespace Go.Proofs.Ytccjnjhlnpgocaa
open Go Go.Sy Go.ChaM
theorem tat_at {α : Type} {n : Nat} {enc : α → List Value} {w : World} {sa : Option Addr} {l : List α} {i : Nat} {s : α} (h : TAt n enc w sa l) (hs : l[i]? = some s) : ∃ blk off c T fr, sa = some ⟨blk, off, none⟩ ∧ w.heap[blk]? = some (.cells c T fr) ∧ cellsAt c (off + ((i : Nat) : Int).toNat * n) n = some (enc s) := h i s hs
def sgB (m : Int) (s : SiD) : Bool := inC s.fr 0 m && (inC s.to 0 m && (!decide (s.fr = s.to) && (spB s.el s.eh && spB s.nl s.nh)))
theorem sgB_eq (n : Int) (s : SiD) : siB n s = sgB (n - 1) s := siB_eq n s
theorem chB_n {c : ChD} (h : inC c.n 1 8 = true) : IntKind.i64.wrap (c.n - 1) = c.n - 1 := by
  unfold inC at h
  simp only [Bool.and_eq_true, decide_eq_true_eq] at h
  exact wrap_i64 (by omega) (by omega)
theorem chB_bad {c : ChD} {m : Int} {i : Nat} {s : SiD} (hm : m = IntKind.i64.wrap (c.n - 1)) (hs : c.si[i]? = some s) (h : sgB m s = false) : chB c = false := by
  rw [chB_eq]
  cases hn : inC c.n 1 8 with
  | false => rfl
  | true =>
    rw [hm, chB_n hn, ← sgB_eq] at h
    have : c.si.all (siB c.n) = false := by
      rw [List.all_eq_false]
      exact ⟨s, List.mem_of_getElem? hs, by rw [h]; simp⟩
    rw [this, Bool.and_false, Bool.and_false]
theorem chB_end {c : ChD} {m : Int} (hm : m = IntKind.i64.wrap (c.n - 1)) (h : ∀ s ∈ c.si, sgB m s = true) : chB c = (inC c.n 1 8 && decide (c.si.length ≤ 10)) := by
  rw [chB_eq]
  cases hn : inC c.n 1 8 with
  | false => rfl
  | true =>
    have : c.si.all (siB c.n) = true := by
      rw [List.all_eq_true]
      intro s hs
      rw [sgB_eq, ← chB_n hn, ← hm]
      exact h s hs
    rw [this, Bool.and_true]
theorem all_take {c : ChD} {m : Int} {i : Nat} {s : SiD} (h : ∀ s ∈ c.si.take i, sgB m s = true) (hs : c.si[i]? = some s) (hy : sgB m s = true) : ∀ s ∈ c.si.take (i + 1), sgB m s = true := fun x hx => by
  rw [List.take_add_one, hs, List.mem_append] at hx
  rcases hx with hx | hx
  · exact h x hx
  · have e : x = s := by simpa using hx
    rw [e]; exact hy
theorem p58 (n l h : Int) (w : World) : Calls Try.prog 58 #[.int .i64 n, .int .i64 l, .int .i64 h] w (Ret fun v w' => v = .bool (inC n l h) ∧ Ext [] w w') := by
  refine calls_of Try.func58 rfl rfl (fun a hf => ?_)
  have hh := Hp.init w []
  unfold inC
  refine sy_sq ?_
  refine o_v hf hh (yv_assign rfl) ?_; clear hf a; intro a hf
  refine o_end ?_
  refine sy_sq ?_
  refine o_v hf hh (yv_move rfl) ?_; clear hf a; intro a hf
  refine o_v hf hh (yv_move rfl) ?_; clear hf a; intro a hf
  refine o_v hf hh (yv_bin rfl rfl rfl) ?_; clear hf a; intro a hf
  refine o_v hf hh (yv_move rfl) ?_; clear hf a; intro a hf
  refine guard_split hf (t := 10) rfl (fun hg2 => ?_) (fun hg2 => ?_)
  ·have hG2 := hg2; try simp only [gS] at hG2
   refine o_v hf hh (yv_move rfl) ?_; clear hf a; intro a hf
   refine o_v hf hh (yv_move rfl) ?_; clear hf a; intro a hf
   refine o_v hf hh (yv_bin rfl rfl rfl) ?_; clear hf a; intro a hf
   refine o_v hf hh (y_pt rfl rfl) ?_; clear hf a; intro a hf
   refine o_v hf hh (yv_assign rfl) ?_; clear hf a; intro a hf
   refine o_end ?_
   refine sy_ret ?_
   refine ret_r hf rfl rfl ?_
   exact ⟨by simp [tup, *], hh.ext⟩
  ·have hG2 := hg2; try simp only [gS] at hG2
   refine o_off hf ?_; clear hf a; intro a hf
   refine o_off hf ?_; clear hf a; intro a hf
   refine o_off hf ?_; clear hf a; intro a hf
   refine o_v hf hh (y_pf rfl rfl) ?_; clear hf a; intro a hf
   refine o_v hf hh (yv_assign rfl) ?_; clear hf a; intro a hf
   refine o_end ?_
   refine sy_ret ?_
   refine ret_r hf rfl rfl ?_
   exact ⟨by simp [tup, *], hh.ext⟩
theorem p59 (lo hi : Int) (w : World) : Calls Try.prog 59 #[.agg #[.int .i64 lo, .int .i64 hi]] w (Ret fun v w' => v = .bool (spB lo hi) ∧ Ext [] w w') := by
  refine calls_of Try.func59 rfl rfl (fun a hf => ?_)
  have hh := Hp.init w []
  have e0 : spB lo hi = (inC lo (-1073741824) hi && decide (hi ≤ 1073741824)) := rfl
  unfold inC at e0
  rw [e0]; clear e0
  refine sy_sq ?_
  refine o_box hf hh ?_; clear hf hh a; intro B1 a w hf hh
  refine o_v hf hh (yv_assign rfl) ?_; clear hf a; intro a hf
  refine o_end ?_
  refine sy_sq ?_
  refine o_v hf hh (yv_fieldAddr Try.fo_28_0 rfl) ?_; clear hf a; intro a hf
  refine o_v hf hh (y_ld Try.sc_3 rfl) ?_; clear hf a; intro a hf
  refine o_v hf hh (yv_bin rfl rfl rfl) ?_; clear hf a; intro a hf
  refine o_v hf hh (yv_move rfl) ?_; clear hf a; intro a hf
  refine guard_split hf (t := 6) rfl (fun hg2 => ?_) (fun hg2 => ?_)
  ·have hG2 := hg2; try simp only [gS] at hG2
   refine o_v hf hh (yv_fieldAddr Try.fo_28_0 rfl) ?_; clear hf a; intro a hf
   refine o_v hf hh (y_ld Try.sc_3 rfl) ?_; clear hf a; intro a hf
   refine o_v hf hh (yv_fieldAddr Try.fo_28_1 rfl) ?_; clear hf a; intro a hf
   refine o_v hf hh (y_ld Try.sc_3 rfl) ?_; clear hf a; intro a hf
   refine o_v hf hh (yv_bin rfl rfl rfl) ?_; clear hf a; intro a hf
   refine o_v hf hh (y_pt rfl rfl) ?_; clear hf a; intro a hf
   refine o_v hf hh (yv_move rfl) ?_; clear hf a; intro a hf
   refine guard_split hf (t := 13) rfl (fun hg4 => ?_) (fun hg4 => ?_)
   ·have hG4 := hg4; try simp only [gS] at hG4
    refine o_v hf hh (yv_fieldAddr Try.fo_28_1 rfl) ?_; clear hf a; intro a hf
    refine o_v hf hh (y_ld Try.sc_3 rfl) ?_; clear hf a; intro a hf
    refine o_v hf hh (yv_bin rfl rfl rfl) ?_; clear hf a; intro a hf
    refine o_v hf hh (y_pt rfl rfl) ?_; clear hf a; intro a hf
    refine o_v hf hh (yv_assign rfl) ?_; clear hf a; intro a hf
    refine o_end ?_
    refine sy_ret ?_
    refine ret_r hf rfl rfl ?_
    refine ⟨congrArg Value.bool ?_, hh.ext⟩
    clear hf hh
    first
      | (simp_all; done)
      | (simp only [*, Bool.false_and, Bool.and_false, Bool.true_and, Bool.and_true, Bool.not_true, Bool.not_false]; done)
      | (rw [Bool.eq_iff_iff]; simp_all <;> omega)
      | omega
   ·have hG4 := hg4; try simp only [gS] at hG4
    refine o_off hf ?_; clear hf a; intro a hf
    refine o_off hf ?_; clear hf a; intro a hf
    refine o_off hf ?_; clear hf a; intro a hf
    refine o_v hf hh (y_pf rfl rfl) ?_; clear hf a; intro a hf
    refine o_v hf hh (yv_assign rfl) ?_; clear hf a; intro a hf
    refine o_end ?_
    refine sy_ret ?_
    refine ret_r hf rfl rfl ?_
    refine ⟨congrArg Value.bool ?_, hh.ext⟩
    clear hf hh
    first
      | (simp_all; done)
      | (simp only [*, Bool.false_and, Bool.and_false, Bool.true_and, Bool.and_true, Bool.not_true, Bool.not_false]; done)
      | (rw [Bool.eq_iff_iff]; simp_all <;> omega)
      | omega
  ·have hG2 := hg2; try simp only [gS] at hG2
   refine o_off hf ?_; clear hf a; intro a hf
   refine o_off hf ?_; clear hf a; intro a hf
   refine o_off hf ?_; clear hf a; intro a hf
   refine o_off hf ?_; clear hf a; intro a hf
   refine o_off hf ?_; clear hf a; intro a hf
   refine o_v hf hh (y_pf rfl rfl) ?_; clear hf a; intro a hf
   refine o_v hf hh (yv_move rfl) ?_; clear hf a; intro a hf
   refine o_off hf ?_; clear hf a; intro a hf
   refine o_off hf ?_; clear hf a; intro a hf
   refine o_off hf ?_; clear hf a; intro a hf
   refine o_v hf hh (y_pf rfl rfl) ?_; clear hf a; intro a hf
   refine o_v hf hh (yv_assign rfl) ?_; clear hf a; intro a hf
   refine o_end ?_
   refine sy_ret ?_
   refine ret_r hf rfl rfl ?_
   refine ⟨congrArg Value.bool ?_, hh.ext⟩
   clear hf hh
   first
     | (simp_all; done)
     | (simp only [*, Bool.false_and, Bool.and_false, Bool.true_and, Bool.and_true, Bool.not_true, Bool.not_false]; done)
     | (rw [Bool.eq_iff_iff]; simp_all <;> omega)
     | omega
theorem p30 (lo hi n : Int) (w : World) : Calls Try.prog 30 #[.agg #[.int .i64 lo, .int .i64 hi], .int .i64 n] w (Ret fun v w' => v = .bool (inC n lo hi) ∧ Ext [] w w') := by
  refine calls_of Try.func30 rfl rfl (fun a hf => ?_)
  have hh := Hp.init w []
  unfold inC
  refine sy_sq ?_
  refine o_box hf hh ?_; clear hf hh a; intro B2 a w hf hh
  refine o_v hf hh (yv_assign rfl) ?_; clear hf a; intro a hf
  refine o_end ?_
  refine sy_sq ?_
  refine o_v hf hh (yv_fieldAddr Try.fo_28_0 rfl) ?_; clear hf a; intro a hf
  refine o_v hf hh (y_ld Try.sc_3 rfl) ?_; clear hf a; intro a hf
  refine o_v hf hh (yv_move rfl) ?_; clear hf a; intro a hf
  refine o_v hf hh (yv_bin rfl rfl rfl) ?_; clear hf a; intro a hf
  refine o_v hf hh (yv_move rfl) ?_; clear hf a; intro a hf
  refine guard_split hf (t := 9) rfl (fun hg2 => ?_) (fun hg2 => ?_)
  ·have hG2 := hg2; try simp only [gS] at hG2
   refine o_v hf hh (yv_move rfl) ?_; clear hf a; intro a hf
   refine o_v hf hh (yv_fieldAddr Try.fo_28_1 rfl) ?_; clear hf a; intro a hf
   refine o_v hf hh (y_ld Try.sc_3 rfl) ?_; clear hf a; intro a hf
   refine o_v hf hh (yv_bin rfl rfl rfl) ?_; clear hf a; intro a hf
   refine o_v hf hh (y_pt rfl rfl) ?_; clear hf a; intro a hf
   refine o_v hf hh (yv_assign rfl) ?_; clear hf a; intro a hf
   refine o_end ?_
   refine sy_ret ?_
   refine ret_r hf rfl rfl ?_
   refine ⟨congrArg Value.bool ?_, hh.ext⟩
   clear hf hh
   first
     | (simp_all; done)
     | (simp only [*, Bool.false_and, Bool.and_false, Bool.true_and, Bool.and_true, Bool.not_true, Bool.not_false]; done)
     | (rw [Bool.eq_iff_iff]; simp_all <;> omega)
     | omega
  ·have hG2 := hg2; try simp only [gS] at hG2
   refine o_off hf ?_; clear hf a; intro a hf
   refine o_off hf ?_; clear hf a; intro a hf
   refine o_off hf ?_; clear hf a; intro a hf
   refine o_off hf ?_; clear hf a; intro a hf
   refine o_v hf hh (y_pf rfl rfl) ?_; clear hf a; intro a hf
   refine o_v hf hh (yv_assign rfl) ?_; clear hf a; intro a hf
   refine o_end ?_
   refine sy_ret ?_
   refine ret_r hf rfl rfl ?_
   refine ⟨congrArg Value.bool ?_, hh.ext⟩
   clear hf hh
   first
     | (simp_all; done)
     | (simp only [*, Bool.false_and, Bool.and_false, Bool.true_and, Bool.and_true, Bool.not_true, Bool.not_false]; done)
     | (rw [Bool.eq_iff_iff]; simp_all <;> omega)
     | omega
theorem p37 (a b : Int × Int) (w : World) : Calls Try.prog 37 #[spV a, spV b] w (Ret fun v w' => v = .bool (decide (b.1 ≤ a.1) && decide (a.2 ≤ b.2)) ∧ Ext [] w w') := by
  refine calls_of Try.func37 rfl rfl (fun a hf => ?_)
  have hh := Hp.init w []
  refine sy_sq ?_
  refine o_box hf hh ?_; clear hf hh a; intro B2 a w hf hh
  refine o_box hf hh ?_; clear hf hh a; intro B3 a w hf hh
  refine o_v hf hh (yv_assign rfl) ?_; clear hf a; intro a hf
  refine o_end ?_
  refine sy_sq ?_
  refine o_v hf hh (yv_fieldAddr Try.fo_28_0 rfl) ?_; clear hf a; intro a hf
  refine o_v hf hh (y_ld Try.sc_3 rfl) ?_; clear hf a; intro a hf
  refine o_v hf hh (yv_fieldAddr Try.fo_28_0 rfl) ?_; clear hf a; intro a hf
  refine o_v hf hh (y_ld Try.sc_3 rfl) ?_; clear hf a; intro a hf
  refine o_v hf hh (yv_bin rfl rfl rfl) ?_; clear hf a; intro a hf
  refine o_v hf hh (yv_move rfl) ?_; clear hf a; intro a hf
  refine guard_split hf (t := 10) rfl (fun hg2 => ?_) (fun hg2 => ?_)
  ·have hG2 := hg2; try simp only [gS] at hG2
   refine o_v hf hh (yv_fieldAddr Try.fo_28_1 rfl) ?_; clear hf a; intro a hf
   refine o_v hf hh (y_ld Try.sc_3 rfl) ?_; clear hf a; intro a hf
   refine o_v hf hh (yv_fieldAddr Try.fo_28_1 rfl) ?_; clear hf a; intro a hf
   refine o_v hf hh (y_ld Try.sc_3 rfl) ?_; clear hf a; intro a hf
   refine o_v hf hh (yv_bin rfl rfl rfl) ?_; clear hf a; intro a hf
   refine o_v hf hh (y_pt rfl rfl) ?_; clear hf a; intro a hf
   refine o_v hf hh (yv_assign rfl) ?_; clear hf a; intro a hf
   refine o_end ?_
   refine sy_ret ?_
   refine ret_r hf rfl rfl ?_
   refine ⟨congrArg Value.bool ?_, hh.ext⟩
   clear hf hh
   first
     | (simp_all; done)
     | (simp only [*, Bool.false_and, Bool.and_false, Bool.true_and, Bool.and_true, Bool.not_true, Bool.not_false]; done)
     | (rw [Bool.eq_iff_iff]; simp_all <;> omega)
     | omega
  ·have hG2 := hg2; try simp only [gS] at hG2
   refine o_off hf ?_; clear hf a; intro a hf
   refine o_off hf ?_; clear hf a; intro a hf
   refine o_off hf ?_; clear hf a; intro a hf
   refine o_off hf ?_; clear hf a; intro a hf
   refine o_off hf ?_; clear hf a; intro a hf
   refine o_v hf hh (y_pf rfl rfl) ?_; clear hf a; intro a hf
   refine o_v hf hh (yv_assign rfl) ?_; clear hf a; intro a hf
   refine o_end ?_
   refine sy_ret ?_
   refine ret_r hf rfl rfl ?_
   refine ⟨congrArg Value.bool ?_, hh.ext⟩
   clear hf hh
   first
     | (simp_all; done)
     | (simp only [*, Bool.false_and, Bool.and_false, Bool.true_and, Bool.and_true, Bool.not_true, Bool.not_false]; done)
     | (rw [Bool.eq_iff_iff]; simp_all <;> omega)
     | omega
theorem p33 (lo hi : Int) (w : World) : Calls Try.prog 33 #[.int .i64 lo, .int .i64 hi] w (Ret fun v w' => v = .agg #[.int .i64 lo, .int .i64 hi] ∧ Ext [] w w') := by
  refine calls_of Try.func33 rfl rfl (fun a hf => ?_)
  have hh := Hp.init w []
  refine sy_sq ?_
  refine o_alloc hf hh Try.ze_28 ?_; clear hf hh a; intro B4 a w hf hh
  refine o_end ?_
  refine sy_sq ?_
  refine o_v hf hh (yv_move rfl) ?_; clear hf a; intro a hf
  refine o_v hf hh (yv_move rfl) ?_; clear hf a; intro a hf
  refine o_v hf hh (yv_buildS Try.bs_28 rfl rfl) ?_; clear hf a; intro a hf
  refine o_store hf hh Try.sz_28 fun w hh => ?_
  refine o_end ?_
  refine sy_ret ?_
  refine ret_c (vs := [.agg #[.int .i64 lo, .int .i64 hi]]) hf ?_ ?_
  · exact ⟨⟨B4, 0, _, _, _, rfl, hh.at (i := 0) rfl, .inr ⟨2, _, Try.ag_28, rfl, rfl⟩⟩, True.intro⟩
  · exact ⟨rfl, hh.ext⟩
theorem p29 (x1 x2 x3 x4 x5 x6 : Int) (w : World) : Calls Try.prog 29 #[.int .i64 x1, .int .i64 x2, .int .i64 x3, .int .i64 x4, .int .i64 x5, .int .i64 x6] w (Ret fun v w' => v = siV ⟨x1, x2, x3, x4, x5, x6⟩ ∧ Ext [] w w') := by
  refine calls_of Try.func29 rfl rfl (fun a hf => ?_)
  have hh := Hp.init w []
  refine sy_sq ?_
  refine o_alloc hf hh Try.ze_46 ?_; clear hf hh a; intro B12 a w hf hh
  refine o_end ?_
  refine sy_sq ?_
  refine o_v hf hh (yv_move rfl) ?_; clear hf a; intro a hf
  refine o_v hf hh (yv_move rfl) ?_; clear hf a; intro a hf
  refine o_v hf hh (yv_move rfl) ?_; clear hf a; intro a hf
  refine o_v hf hh (yv_move rfl) ?_; clear hf a; intro a hf
  refine o_call hf Try.en_33 rfl rfl rfl (p33 _ _ _) ?_; clear hf a; intro v a w hR hf
  obtain ⟨rfl, hx⟩ := hR; replace hh := hh.more hx; clear hx
  refine o_v hf hh (yv_move rfl) ?_; clear hf a; intro a hf
  refine o_v hf hh (yv_move rfl) ?_; clear hf a; intro a hf
  refine o_call hf Try.en_33 rfl rfl rfl (p33 _ _ _) ?_; clear hf a; intro v a w hR hf
  obtain ⟨rfl, hx⟩ := hR; replace hh := hh.more hx; clear hx
  refine o_v hf hh (yv_buildS Try.bs_46 rfl rfl) ?_; clear hf a; intro a hf
  refine o_store hf hh Try.sz_46 fun w hh => ?_
  refine o_end ?_
  refine sy_ret ?_
  refine ret_c (vs := [siV ⟨x1, x2, x3, x4, x5, x6⟩]) hf ?_ ?_
  · exact ⟨⟨B12, 0, _, _, _, rfl, hh.at (i := 0) rfl, .inr ⟨6, _, Try.ag_46, rfl, rfl⟩⟩, True.intro⟩
  · exact ⟨rfl, hh.ext⟩
theorem p36 (s : Nat) (hs : s ≤ 9223372036854775807) (w : World) : Calls Try.prog 36 #[.int .i64 (s : Nat)] w (Ret fun v w' => v = .int .i64 (pc s : Nat) ∧ Ext [] w w') := by
  refine calls_of Try.func36 rfl rfl (fun a hf => ?_)
  have hh := Hp.init w []
  have hle := pc_le s
  refine sy_sq ?_
  refine o_v hf hh (yv_assign rfl) ?_; clear hf a; intro a hf
  refine o_end ?_
  refine sy_sq ?_
  refine o_v hf hh (yv_assign rfl) ?_; clear hf a; intro a hf
  refine o_end ?_
  refine sy_seq ?_
  refine sy_block ?_
  refine sy_loopF (σ := Nat × Nat) [0, 3, 4, 5, 6, 7, 8, 9, 10, 11] (fun k => [(3, .int .i64 k.2), (0, .int .i64 k.1)]) (fun k => k.2 + pc k.1 = pc s ∧ k.1 ≤ s) (fun k => k.1) ((s, 0)) hf hh ?_ ?_ ?_
  · repeat' (first | exact True.intro | refine And.intro rfl ?_)
  · exact ⟨by simp, Nat.le_refl _⟩
  ·rintro k a w ⟨hp1, hp2⟩ hf hh
   obtain ⟨t, m⟩ := k
   simp only at hp1 hp2
   have hst := pc_step (n := t) (by omega)
   have hr0 : (0 : Int) ≤ (t : Int) % 2 := Int.emod_nonneg _ (by omega)
   have hr2 : (t : Int) % 2 < 2 := Int.emod_lt_of_pos _ (by omega)
   refine sy_seq ?_
   refine sy_sq ?_
   refine o_v hf hh (yv_move rfl) ?_; clear hf a; intro a hf
   refine o_v hf hh (yv_bin rfl rfl rfl) ?_; clear hf a; intro a hf
   refine o_end ?_
   refine sy_cond hf rfl (fun hg2 => ?_) (fun hg2 => ?_)
   ·have hG2 := hg2; try simp only [gS] at hG2
    refine sy_skip ?_
    refine then_n ?_
    refine sy_block ?_
    refine sy_sq ?_
    refine o_v hf hh (yv_move rfl) ?_; clear hf a; intro a hf
    refine o_v hf hh (yv_move rfl) ?_; clear hf a; intro a hf
    refine o_v hf hh (yv_rem rfl rfl (by omega) (by omega)) ?_; clear hf a; intro a hf
    refine o_v hf hh (y_add rfl rfl) ?_; clear hf a; intro a hf
    refine o_v hf hh (yv_assign rfl) ?_; clear hf a; intro a hf
    refine o_end ?_
    refine sy_ops ?_
    refine o_v hf hh (yv_move rfl) ?_; clear hf a; intro a hf
    refine o_v hf hh (yv_quo rfl rfl (by omega) (by omega) (by omega)) ?_; clear hf a; intro a hf
    refine o_v hf hh (yv_assign rfl) ?_; clear hf a; intro a hf
    refine ops_end ?_
    refine blk_n ?_
    refine then_n ?_
    refine ⟨(t / 2, m + t % 2), ⟨⟨by simp only; omega, by simp only; omega⟩, hf.head ⟨congrArg (fun z => some (Value.int IntKind.i64 z)) (by push_cast; omega), congrArg (fun z => some (Value.int IntKind.i64 z)) (by push_cast; omega), True.intro⟩ (Keep.cons rfl (Keep.cons rfl (Keep.cons rfl (Keep.cons rfl (Keep.cons rfl (Keep.cons rfl (Keep.cons rfl (Keep.cons rfl (Keep.cons rfl (Keep.cons rfl (Keep.app rfl (Keep.rm rfl Keep.base)))))))))))), hh⟩, by simp only; omega⟩
   ·have hG2 := hg2; try simp only [gS] at hG2
    refine sy_exit ?_
    refine then_e ?_
    refine then_e ?_
    refine blk_e ?_
    refine then_n ?_
    refine sy_sq ?_
    refine o_v hf hh (yv_move rfl) ?_; clear hf a; intro a hf
    refine o_v hf hh (yv_assign rfl) ?_; clear hf a; intro a hf
    refine o_end ?_
    refine sy_ret ?_
    refine ret_r hf rfl rfl ?_
    refine ⟨?_, hh.ext⟩
    have : t = 0 := by omega
    subst this
    rw [pc_zero] at hp1
    exact congrArg (Value.int IntKind.i64) (by omega)
theorem p13 (c : ChD) (sa : Option Addr) (cp : Nat) (u : World) : Calls Try.prog 13 #[.agg (chC c sa cp)] u (Ret fun v w' => v = .bool (decide (40 < c.si.length)) ∧ Ext [] u w') := by
  refine calls_of Try.func13 rfl rfl (fun a hf => ?_)
  have hh := Hp.init u []
  refine sy_sq ?_
  refine o_box hf hh ?_; clear hf hh a; intro B1 a w hf hh
  refine o_v hf hh (yv_assign rfl) ?_; clear hf a; intro a hf
  refine o_end ?_
  refine sy_sq ?_
  refine o_v hf hh (yv_fieldAddr Try.fo_24_1 rfl) ?_; clear hf a; intro a hf
  refine o_v hf hh (y_ld Try.sc_22 rfl) ?_; clear hf a; intro a hf
  refine o_v hf hh (yv_len Try.se_22 rfl) ?_; clear hf a; intro a hf
  refine o_v hf hh (yv_bin rfl rfl rfl) ?_; clear hf a; intro a hf
  refine o_v hf hh (yv_assign rfl) ?_; clear hf a; intro a hf
  refine o_end ?_
  refine sy_ret ?_
  refine ret_r hf rfl rfl ?_
  exact ⟨congrArg Value.bool (decide_eq_decide.2 (by omega)), hh.ext⟩
set_option maxRecDepth 100000 in
theorem p31 (c : ChD) (sa : Option Addr) (cp : Nat) (u : World) (hA : ChAt u c sa) : Calls Try.prog 31 #[.agg (chC c sa cp)] u (Ret fun v w' => v = .bool (chB c) ∧ Ext [] u w') := by
  refine calls_of Try.func31 rfl rfl (fun a hf => ?_)
  have hh := Hp.init u []
  have hl := hA.len
  obtain ⟨m, hm⟩ : ∃ m, m = IntKind.i64.wrap (c.n - 1) := ⟨_, rfl⟩
  refine sy_sq ?_
  refine o_box hf hh ?_; clear hf hh a; intro B1 a w hf hh
  refine o_v hf hh (yv_assign rfl) ?_; clear hf a; intro a hf
  refine o_end ?_
  refine sy_seq ?_
  refine sy_sq ?_
  refine o_v hf hh (yv_assign rfl) ?_; clear hf a; intro a hf
  refine o_end ?_
  refine sy_block ?_
  refine sy_loopH (σ := Nat) [2, 3, 4, 5, 6, 7, 8, 9, 10, 11, 12, 13, 14, 15, 16, 17, 18, 19, 20, 21, 22, 23, 24, 25, 26, 27, 28, 29, 30, 31, 32, 33, 34, 35, 36, 37, 38, 39, 40, 41, 42, 43, 44, 45, 46, 47, 48, 49, 50, 51] (fun i => [(3, .int .i64 (i : Nat))]) (fun i => fun w' => i ≤ c.si.length ∧ (∀ s ∈ c.si.take i, sgB m s = true) ∧ Hp u [] [(B1, .cells (chC c sa cp) 24)] w') (fun i => c.si.length - i) (0) hf ?_ ?_ ?_
  · repeat' (first | exact True.intro | refine And.intro rfl ?_)
  · exact ⟨Nat.zero_le _, (fun x hx => by simp at hx), hh⟩
  ·rintro i a w ⟨hi, hq, hh⟩ hf
   refine sy_seq ?_
   refine sy_sq ?_
   refine o_v hf hh (yv_move rfl) ?_; clear hf a; intro a hf
   refine o_v hf hh (yv_fieldAddr Try.fo_24_1 rfl) ?_; clear hf a; intro a hf
   refine o_v hf hh (y_ld Try.sc_22 rfl) ?_; clear hf a; intro a hf
   refine o_v hf hh (yv_len Try.se_22 rfl) ?_; clear hf a; intro a hf
   refine o_v hf hh (yv_bin rfl rfl rfl) ?_; clear hf a; intro a hf
   refine o_end ?_
   refine sy_cond hf rfl (fun hg2 => ?_) (fun hg2 => ?_)
   ·have hG2 := hg2; try simp only [gS] at hG2
    refine sy_skip ?_
    refine then_n ?_
    refine sy_seq ?_
    refine sy_block ?_
    refine sy_seq ?_
    obtain ⟨s, hs⟩ := ex_of (l := c.si) (i := i) (by omega)
    obtain ⟨blk, off, cc, T, fr, esa, hb2, hc⟩ := hA.at_ i s hs
    refine sy_ops ?_
    refine o_v hf hh (yv_fieldAddr Try.fo_24_1 rfl) ?_; clear hf a; intro a hf
    refine o_v hf hh (y_ld Try.sc_22 rfl) ?_; clear hf a; intro a hf
    refine o_v hf hh (yv_move rfl) ?_; clear hf a; intro a hf
    refine o_v hf hh (y_ix Try.se_22 (congrArg (fun z => some (Value.slice z c.si.length cp)) esa) rfl) ?_; clear hf a; intro a hf
    refine o_v hf hh (y_lds Try.ag_46 rfl) ?_; clear hf a; intro a hf
    refine o_alloc hf hh Try.ze_46 ?_; clear hf hh a; intro B4 a w hf hh
    refine o_store hf hh Try.sz_46 fun w hh => ?_
    refine o_end ?_
    refine sy_sq ?_
    refine o_v hf hh (yv_fieldAddr Try.fo_46_0 rfl) ?_; clear hf a; intro a hf
    refine o_v hf hh (y_ld Try.sc_3 rfl) ?_; clear hf a; intro a hf
    refine o_v hf hh (yv_fieldAddr Try.fo_24_0 rfl) ?_; clear hf a; intro a hf
    refine o_v hf hh (y_ld Try.sc_3 rfl) ?_; clear hf a; intro a hf
    refine o_v hf hh (yv_cast (yv_bin rfl rfl rfl) (show Value.int .i64 (IntKind.i64.wrap (c.n - 1)) = Value.int .i64 m by rw [hm])) ?_; clear hf a; intro a hf
    refine o_call hf Try.en_58 rfl rfl rfl (p58 _ _ _ _) ?_; clear hf a; intro v a w hR hf
    obtain ⟨rfl, hx⟩ := hR; replace hh := hh.more hx; clear hx
    refine o_v hf hh (yv_not rfl) ?_; clear hf a; intro a hf
    refine o_v hf hh (yv_move rfl) ?_; clear hf a; intro a hf
    refine guard_split hf (t := 24) rfl (fun hg6 => ?_) (fun hg6 => ?_)
    ·have hG6 := hg6; try simp only [gS] at hG6
     refine o_off hf ?_; clear hf a; intro a hf
     refine o_off hf ?_; clear hf a; intro a hf
     refine o_off hf ?_; clear hf a; intro a hf
     refine o_off hf ?_; clear hf a; intro a hf
     refine o_off hf ?_; clear hf a; intro a hf
     refine o_off hf ?_; clear hf a; intro a hf
     refine o_off hf ?_; clear hf a; intro a hf
     refine o_v hf hh (y_pt rfl rfl) ?_; clear hf a; intro a hf
     refine o_v hf hh (yv_move rfl) ?_; clear hf a; intro a hf
     refine o_off hf ?_; clear hf a; intro a hf
     refine o_off hf ?_; clear hf a; intro a hf
     refine o_off hf ?_; clear hf a; intro a hf
     refine o_off hf ?_; clear hf a; intro a hf
     refine o_off hf ?_; clear hf a; intro a hf
     refine o_v hf hh (y_pt rfl rfl) ?_; clear hf a; intro a hf
     refine o_v hf hh (yv_move rfl) ?_; clear hf a; intro a hf
     refine o_off hf ?_; clear hf a; intro a hf
     refine o_off hf ?_; clear hf a; intro a hf
     refine o_off hf ?_; clear hf a; intro a hf
     refine o_off hf ?_; clear hf a; intro a hf
     refine o_v hf hh (y_pt rfl rfl) ?_; clear hf a; intro a hf
     refine o_v hf hh (yv_move rfl) ?_; clear hf a; intro a hf
     refine o_off hf ?_; clear hf a; intro a hf
     refine o_off hf ?_; clear hf a; intro a hf
     refine o_off hf ?_; clear hf a; intro a hf
     refine o_off hf ?_; clear hf a; intro a hf
     refine o_v hf hh (y_pt rfl rfl) ?_; clear hf a; intro a hf
     refine o_end ?_
     refine c_t hf ?_
     refine sy_sq ?_
     refine o_v hf hh (yv_assign rfl) ?_; clear hf a; intro a hf
     refine o_end ?_
     refine sy_ret ?_
     refine blk_r ?_
     refine then_r ?_
     refine then_r ?_
     refine blk_r ?_
     refine then_r ?_
     refine ret_r hf rfl rfl ?_
     first
       | (have hy : sgB m s = false := by clear hf hh; unfold sgB; simp_all
          exact ⟨congrArg Value.bool (chB_bad hm hs hy).symm, hh.ext⟩)
       | (have ev := chB_end hm (fun s hs => hq s (by rw [List.take_of_length_le (by omega)]; exact hs))
          refine ⟨congrArg Value.bool ?_, hh.ext⟩
          rw [ev]
          clear hf hh ev
          first
            | (simp_all; done)
            | (rw [Bool.eq_iff_iff]; simp_all <;> omega))
    ·have hG6 := hg6; try simp only [gS] at hG6
     refine o_v hf hh (yv_fieldAddr Try.fo_46_1 rfl) ?_; clear hf a; intro a hf
     refine o_v hf hh (y_ld Try.sc_3 rfl) ?_; clear hf a; intro a hf
     refine o_v hf hh (yv_fieldAddr Try.fo_24_0 rfl) ?_; clear hf a; intro a hf
     refine o_v hf hh (y_ld Try.sc_3 rfl) ?_; clear hf a; intro a hf
     refine o_v hf hh (yv_cast (yv_bin rfl rfl rfl) (show Value.int .i64 (IntKind.i64.wrap (c.n - 1)) = Value.int .i64 m by rw [hm])) ?_; clear hf a; intro a hf
     refine o_call hf Try.en_58 rfl rfl rfl (p58 _ _ _ _) ?_; clear hf a; intro v a w hR hf
     obtain ⟨rfl, hx⟩ := hR; replace hh := hh.more hx; clear hx
     refine o_v hf hh (yv_not rfl) ?_; clear hf a; intro a hf
     refine o_v hf hh (y_pf rfl rfl) ?_; clear hf a; intro a hf
     refine o_v hf hh (yv_move rfl) ?_; clear hf a; intro a hf
     refine guard_split hf (t := 33) rfl (fun hg9 => ?_) (fun hg9 => ?_)
     ·have hG9 := hg9; try simp only [gS] at hG9
      refine o_off hf ?_; clear hf a; intro a hf
      refine o_off hf ?_; clear hf a; intro a hf
      refine o_off hf ?_; clear hf a; intro a hf
      refine o_off hf ?_; clear hf a; intro a hf
      refine o_off hf ?_; clear hf a; intro a hf
      refine o_v hf hh (y_pt rfl rfl) ?_; clear hf a; intro a hf
      refine o_v hf hh (yv_move rfl) ?_; clear hf a; intro a hf
      refine o_off hf ?_; clear hf a; intro a hf
      refine o_off hf ?_; clear hf a; intro a hf
      refine o_off hf ?_; clear hf a; intro a hf
      refine o_off hf ?_; clear hf a; intro a hf
      refine o_v hf hh (y_pt rfl rfl) ?_; clear hf a; intro a hf
      refine o_v hf hh (yv_move rfl) ?_; clear hf a; intro a hf
      refine o_off hf ?_; clear hf a; intro a hf
      refine o_off hf ?_; clear hf a; intro a hf
      refine o_off hf ?_; clear hf a; intro a hf
      refine o_off hf ?_; clear hf a; intro a hf
      refine o_v hf hh (y_pt rfl rfl) ?_; clear hf a; intro a hf
      refine o_end ?_
      refine c_t hf ?_
      refine sy_sq ?_
      refine o_v hf hh (yv_assign rfl) ?_; clear hf a; intro a hf
      refine o_end ?_
      refine sy_ret ?_
      refine blk_r ?_
      refine then_r ?_
      refine then_r ?_
      refine blk_r ?_
      refine then_r ?_
      refine ret_r hf rfl rfl ?_
      first
        | (have hy : sgB m s = false := by clear hf hh; unfold sgB; simp_all
           exact ⟨congrArg Value.bool (chB_bad hm hs hy).symm, hh.ext⟩)
        | (have ev := chB_end hm (fun s hs => hq s (by rw [List.take_of_length_le (by omega)]; exact hs))
           refine ⟨congrArg Value.bool ?_, hh.ext⟩
           rw [ev]
           clear hf hh ev
           first
             | (simp_all; done)
             | (rw [Bool.eq_iff_iff]; simp_all <;> omega))
     ·have hG9 := hg9; try simp only [gS] at hG9
      refine o_v hf hh (yv_fieldAddr Try.fo_46_0 rfl) ?_; clear hf a; intro a hf
      refine o_v hf hh (y_ld Try.sc_3 rfl) ?_; clear hf a; intro a hf
      refine o_v hf hh (yv_fieldAddr Try.fo_46_1 rfl) ?_; clear hf a; intro a hf
      refine o_v hf hh (y_ld Try.sc_3 rfl) ?_; clear hf a; intro a hf
      refine o_v hf hh (yv_bin rfl rfl rfl) ?_; clear hf a; intro a hf
      refine o_v hf hh (y_pf rfl rfl) ?_; clear hf a; intro a hf
      refine o_v hf hh (yv_move rfl) ?_; clear hf a; intro a hf
      refine guard_split hf (t := 40) rfl (fun hg11 => ?_) (fun hg11 => ?_)
      ·have hG11 := hg11; try simp only [gS] at hG11
       refine o_off hf ?_; clear hf a; intro a hf
       refine o_off hf ?_; clear hf a; intro a hf
       refine o_off hf ?_; clear hf a; intro a hf
       refine o_off hf ?_; clear hf a; intro a hf
       refine o_v hf hh (y_pt rfl rfl) ?_; clear hf a; intro a hf
       refine o_v hf hh (yv_move rfl) ?_; clear hf a; intro a hf
       refine o_off hf ?_; clear hf a; intro a hf
       refine o_off hf ?_; clear hf a; intro a hf
       refine o_off hf ?_; clear hf a; intro a hf
       refine o_off hf ?_; clear hf a; intro a hf
       refine o_v hf hh (y_pt rfl rfl) ?_; clear hf a; intro a hf
       refine o_end ?_
       refine c_t hf ?_
       refine sy_sq ?_
       refine o_v hf hh (yv_assign rfl) ?_; clear hf a; intro a hf
       refine o_end ?_
       refine sy_ret ?_
       refine blk_r ?_
       refine then_r ?_
       refine then_r ?_
       refine blk_r ?_
       refine then_r ?_
       refine ret_r hf rfl rfl ?_
       first
         | (have hy : sgB m s = false := by clear hf hh; unfold sgB; simp_all
            exact ⟨congrArg Value.bool (chB_bad hm hs hy).symm, hh.ext⟩)
         | (have ev := chB_end hm (fun s hs => hq s (by rw [List.take_of_length_le (by omega)]; exact hs))
            refine ⟨congrArg Value.bool ?_, hh.ext⟩
            rw [ev]
            clear hf hh ev
            first
              | (simp_all; done)
              | (rw [Bool.eq_iff_iff]; simp_all <;> omega))
      ·have hG11 := hg11; try simp only [gS] at hG11
       refine o_v hf hh (yv_fieldAddr Try.fo_46_2 rfl) ?_; clear hf a; intro a hf
       refine o_v hf hh (y_lds Try.ag_28 rfl) ?_; clear hf a; intro a hf
       refine o_call hf Try.en_59 rfl rfl rfl (p59 _ _ _) ?_; clear hf a; intro v a w hR hf
       obtain ⟨rfl, hx⟩ := hR; replace hh := hh.more hx; clear hx
       refine o_v hf hh (yv_not rfl) ?_; clear hf a; intro a hf
       refine o_v hf hh (y_pf rfl rfl) ?_; clear hf a; intro a hf
       refine o_v hf hh (yv_move rfl) ?_; clear hf a; intro a hf
       refine guard_split hf (t := 46) rfl (fun hg13 => ?_) (fun hg13 => ?_)
       ·have hG13 := hg13; try simp only [gS] at hG13
        refine o_off hf ?_; clear hf a; intro a hf
        refine o_off hf ?_; clear hf a; intro a hf
        refine o_off hf ?_; clear hf a; intro a hf
        refine o_off hf ?_; clear hf a; intro a hf
        refine o_v hf hh (y_pt rfl rfl) ?_; clear hf a; intro a hf
        refine o_end ?_
        refine c_t hf ?_
        refine sy_sq ?_
        refine o_v hf hh (yv_assign rfl) ?_; clear hf a; intro a hf
        refine o_end ?_
        refine sy_ret ?_
        refine blk_r ?_
        refine then_r ?_
        refine then_r ?_
        refine blk_r ?_
        refine then_r ?_
        refine ret_r hf rfl rfl ?_
        first
          | (have hy : sgB m s = false := by clear hf hh; unfold sgB; simp_all
             exact ⟨congrArg Value.bool (chB_bad hm hs hy).symm, hh.ext⟩)
          | (have ev := chB_end hm (fun s hs => hq s (by rw [List.take_of_length_le (by omega)]; exact hs))
             refine ⟨congrArg Value.bool ?_, hh.ext⟩
             rw [ev]
             clear hf hh ev
             first
               | (simp_all; done)
               | (rw [Bool.eq_iff_iff]; simp_all <;> omega))
       ·have hG13 := hg13; try simp only [gS] at hG13
        refine o_v hf hh (yv_fieldAddr Try.fo_46_3 rfl) ?_; clear hf a; intro a hf
        refine o_v hf hh (y_lds Try.ag_28 rfl) ?_; clear hf a; intro a hf
        refine o_call hf Try.en_59 rfl rfl rfl (p59 _ _ _) ?_; clear hf a; intro v a w hR hf
        obtain ⟨rfl, hx⟩ := hR; replace hh := hh.more hx; clear hx
        refine o_v hf hh (yv_not rfl) ?_; clear hf a; intro a hf
        refine o_v hf hh (y_pf rfl rfl) ?_; clear hf a; intro a hf
        refine o_end ?_
        refine sy_cond hf rfl (fun hg15 => ?_) (fun hg15 => ?_)
        ·have hG15 := hg15; try simp only [gS] at hG15
         refine sy_sq ?_
         refine o_v hf hh (yv_assign rfl) ?_; clear hf a; intro a hf
         refine o_end ?_
         refine sy_ret ?_
         refine blk_r ?_
         refine then_r ?_
         refine then_r ?_
         refine blk_r ?_
         refine then_r ?_
         refine ret_r hf rfl rfl ?_
         first
           | (have hy : sgB m s = false := by clear hf hh; unfold sgB; simp_all
              exact ⟨congrArg Value.bool (chB_bad hm hs hy).symm, hh.ext⟩)
           | (have ev := chB_end hm (fun s hs => hq s (by rw [List.take_of_length_le (by omega)]; exact hs))
              refine ⟨congrArg Value.bool ?_, hh.ext⟩
              rw [ev]
              clear hf hh ev
              first
                | (simp_all; done)
                | (rw [Bool.eq_iff_iff]; simp_all <;> omega))
        ·have hG15 := hg15; try simp only [gS] at hG15
         refine sy_skip ?_
         refine blk_n ?_
         refine then_n ?_
         refine sy_ops ?_
         refine o_v hf hh (yv_move rfl) ?_; clear hf a; intro a hf
         refine o_v hf hh (y_add rfl rfl) ?_; clear hf a; intro a hf
         refine o_v hf hh (yv_assign rfl) ?_; clear hf a; intro a hf
         refine ops_end ?_
         refine then_n ?_
         have hy : sgB m s = true := by clear hf hh; unfold sgB; simp_all
         exact ⟨i + 1, ⟨⟨by omega, all_take hq hs hy, hh.less (.cons _ (.refl _))⟩, (hf.head (by repeat' (first | exact True.intro | refine And.intro rfl ?_)) (Keep.cons rfl (Keep.cons rfl (Keep.cons rfl (Keep.cons rfl (Keep.cons rfl (Keep.cons rfl (Keep.cons rfl (Keep.cons rfl (Keep.cons rfl (Keep.cons rfl (Keep.cons rfl (Keep.cons rfl (Keep.cons rfl (Keep.cons rfl (Keep.cons rfl (Keep.cons rfl (Keep.cons rfl (Keep.cons rfl (Keep.cons rfl (Keep.cons rfl (Keep.cons rfl (Keep.cons rfl (Keep.cons rfl (Keep.cons rfl (Keep.cons rfl (Keep.cons rfl (Keep.cons rfl (Keep.cons rfl (Keep.cons rfl (Keep.cons rfl (Keep.cons rfl (Keep.cons rfl (Keep.cons rfl (Keep.cons rfl (Keep.cons rfl (Keep.cons rfl (Keep.cons rfl (Keep.cons rfl (Keep.cons rfl (Keep.cons rfl (Keep.cons rfl (Keep.cons rfl (Keep.cons rfl (Keep.cons rfl (Keep.cons rfl (Keep.cons rfl (Keep.cons rfl (Keep.cons rfl (Keep.cons rfl (Keep.app rfl (Keep.rm rfl Keep.base))))))))))))))))))))))))))))))))))))))))))))))))))))⟩, by omega⟩
   ·have hG2 := hg2; try simp only [gS] at hG2
    refine sy_exit ?_
    refine then_e ?_
    refine then_e ?_
    refine blk_e ?_
    refine then_n ?_
    refine sy_sq ?_
    refine o_v hf hh (yv_fieldAddr Try.fo_24_0 rfl) ?_; clear hf a; intro a hf
    refine o_v hf hh (y_ld Try.sc_3 rfl) ?_; clear hf a; intro a hf
    refine o_call hf Try.en_58 rfl rfl rfl (p58 _ _ _ _) ?_; clear hf a; intro v a w hR hf
    obtain ⟨rfl, hx⟩ := hR; replace hh := hh.more hx; clear hx
    refine o_v hf hh (yv_move rfl) ?_; clear hf a; intro a hf
    refine guard_split hf (t := 55) rfl (fun hg17 => ?_) (fun hg17 => ?_)
    ·have hG17 := hg17; try simp only [gS] at hG17
     refine o_v hf hh (yv_fieldAddr Try.fo_24_1 rfl) ?_; clear hf a; intro a hf
     refine o_v hf hh (y_ld Try.sc_22 rfl) ?_; clear hf a; intro a hf
     refine o_v hf hh (yv_len Try.se_22 rfl) ?_; clear hf a; intro a hf
     refine o_v hf hh (yv_bin rfl rfl rfl) ?_; clear hf a; intro a hf
     refine o_v hf hh (y_pt rfl rfl) ?_; clear hf a; intro a hf
     refine o_v hf hh (yv_assign rfl) ?_; clear hf a; intro a hf
     refine o_end ?_
     refine sy_ret ?_
     refine ret_r hf rfl rfl ?_
     first
       | (have hy : sgB m s = false := by clear hf hh; unfold sgB; simp_all
          exact ⟨congrArg Value.bool (chB_bad hm hs hy).symm, hh.ext⟩)
       | (have ev := chB_end hm (fun s hs => hq s (by rw [List.take_of_length_le (by omega)]; exact hs))
          refine ⟨congrArg Value.bool ?_, hh.ext⟩
          rw [ev]
          clear hf hh ev
          first
            | (simp_all; done)
            | (rw [Bool.eq_iff_iff]; simp_all <;> omega))
    ·have hG17 := hg17; try simp only [gS] at hG17
     refine o_off hf ?_; clear hf a; intro a hf
     refine o_off hf ?_; clear hf a; intro a hf
     refine o_off hf ?_; clear hf a; intro a hf
     refine o_off hf ?_; clear hf a; intro a hf
     refine o_v hf hh (y_pf rfl rfl) ?_; clear hf a; intro a hf
     refine o_v hf hh (yv_assign rfl) ?_; clear hf a; intro a hf
     refine o_end ?_
     refine sy_ret ?_
     refine ret_r hf rfl rfl ?_
     first
       | (have hy : sgB m s = false := by clear hf hh; unfold sgB; simp_all
          exact ⟨congrArg Value.bool (chB_bad hm hs hy).symm, hh.ext⟩)
       | (have ev := chB_end hm (fun s hs => hq s (by rw [List.take_of_length_le (by omega)]; exact hs))
          refine ⟨congrArg Value.bool ?_, hh.ext⟩
          rw [ev]
          clear hf hh ev
          first
            | (simp_all; done)
            | (rw [Bool.eq_iff_iff]; simp_all <;> omega))
theorem p23 (c : ChD) (sa : Option Addr) (cp : Nat) (n : Int) (u : World) (hA : ChAt u c sa) : Calls Try.prog 23 #[.agg (chC c sa cp), .int .i64 n] u (Ret fun v w' => v = .bool (decide (n < c.si.length) && chB c) ∧ Ext [] u w') := by
  refine calls_of Try.func23 rfl rfl (fun a hf => ?_)
  have hh := Hp.init u []
  have hl := hA.len
  refine sy_sq ?_
  refine o_box hf hh ?_; clear hf hh a; intro B2 a w hf hh
  refine o_v hf hh (yv_assign rfl) ?_; clear hf a; intro a hf
  refine o_end ?_
  refine sy_sq ?_
  refine o_v hf hh (yv_fieldAddr Try.fo_24_1 rfl) ?_; clear hf a; intro a hf
  refine o_v hf hh (y_ld Try.sc_22 rfl) ?_; clear hf a; intro a hf
  refine o_v hf hh (yv_len Try.se_22 rfl) ?_; clear hf a; intro a hf
  refine o_v hf hh (yv_move rfl) ?_; clear hf a; intro a hf
  refine o_v hf hh (yv_bin rfl rfl rfl) ?_; clear hf a; intro a hf
  refine o_v hf hh (yv_move rfl) ?_; clear hf a; intro a hf
  refine guard_split hf (t := 10) rfl (fun hg2 => ?_) (fun hg2 => ?_)
  ·have hG2 := hg2; try simp only [gS] at hG2
   refine o_v hf hh (y_lds Try.ag_24 rfl) ?_; clear hf a; intro a hf
   refine o_call hf Try.en_31 rfl rfl rfl (p31 c sa cp _ (hA.ext hh.ext)) ?_; clear hf a; intro v a w hR hf
   obtain ⟨rfl, hx⟩ := hR; replace hh := hh.more hx; clear hx
   refine o_v hf hh (y_pt rfl rfl) ?_; clear hf a; intro a hf
   refine o_v hf hh (yv_assign rfl) ?_; clear hf a; intro a hf
   refine o_end ?_
   refine sy_ret ?_
   refine ret_r hf rfl rfl ?_
   refine ⟨congrArg Value.bool ?_, hh.ext⟩
   clear hf hh
   first
     | (simp_all; done)
     | (simp only [*, Bool.false_and, Bool.and_false, Bool.true_and, Bool.and_true, Bool.not_true, Bool.not_false]; done)
     | (rw [Bool.eq_iff_iff]; simp_all <;> omega)
     | omega
  ·have hG2 := hg2; try simp only [gS] at hG2
   refine o_off hf ?_; clear hf a; intro a hf
   refine o_off hf ?_; clear hf a; intro a hf
   refine o_v hf hh (y_pf rfl rfl) ?_; clear hf a; intro a hf
   refine o_v hf hh (yv_assign rfl) ?_; clear hf a; intro a hf
   refine o_end ?_
   refine sy_ret ?_
   refine ret_r hf rfl rfl ?_
   refine ⟨congrArg Value.bool ?_, hh.ext⟩
   clear hf hh
   first
     | (simp_all; done)
     | (simp only [*, Bool.false_and, Bool.and_false, Bool.true_and, Bool.and_true, Bool.not_true, Bool.not_false]; done)
     | (rw [Bool.eq_iff_iff]; simp_all <;> omega)
     | omega
end Go.Proofs.Ytccjnjhlnpgocaa
namespace Go.ChaM
open Go Go.Sy
def smpL : List SiD := [⟨0, 1, 100, 104, 0, 2⟩, ⟨1, 2, 50, 52, -10, -8⟩, ⟨0, 2, 153, 160, -9, -5⟩]
def smp (n : Int) (l : List SiD) : ChD := ⟨n, smpL ++ l⟩
def smpX : ChD := ⟨4, [⟨0, 1, 100, 104, 0, 2⟩, ⟨1, 2, 50, 52, -10, -8⟩, ⟨0, 2, 140, 170, -20, 0⟩]⟩
theorem sm1 : betE (smp 4 []) 0 2 = 0 := by kernel_rfl
theorem sm2 : betV (smp 4 []) false 0 2 = (153, 156) := by kernel_rfl
theorem sm3 : betV (smp 4 []) true 0 2 = (-9, -6) := by kernel_rfl
theorem sm4 : betE (smp 4 []) 2 1 = 0 := by kernel_rfl
theorem sm5 : betV (smp 4 []) false 2 1 = (-52, -50) := by kernel_rfl
theorem sm6 : betV (smp 4 []) true 2 1 = (8, 10) := by kernel_rfl
theorem sm7 : drwE (smp 3 []) = 0 := by kernel_rfl
theorem sm8 : drwL (smp 3 []) = [(0, 0), (101, 0), (153, -9)] := by kernel_rfl
theorem sm9 : whyE (smp 4 [⟨2, 1, -49, -45, 0, 20⟩]) = 11 := by kernel_rfl
theorem sm10 : whyV (smp 4 [⟨2, 1, -49, -45, 0, 20⟩]) = 10 := by kernel_rfl
theorem sm11 : drpE (smp 4 [⟨2, 1, -49, -45, 0, 20⟩]) = 0 := by kernel_rfl
theorem sm12 : drpV (smp 4 [⟨2, 1, -49, -45, 0, 20⟩]) = 2 := by kernel_rfl
theorem sm13 : idlE smpX = 0 := by kernel_rfl
theorem sm14 : idlV smpX = 4 := by kernel_rfl
end Go.ChaM
namespace Go.ChaM
open Go Go.Sy
theorem siC_len (s : SiD) : (siC s).length = 6 := rfl
theorem flat_get {α : Type} {enc : α → List Value} {n : Nat} (hn : ∀ x, (enc x).length = n) : ∀ {l : List α} {j : Nat} {v : Value}, (l.flatMap enc)[j]? = some v → ∃ i y r, l[i]? = some y ∧ (enc y)[r]? = some v ∧ j = i * n + r
  | [], j, v, h => by simp at h
  | x :: l, j, v, h => by
    rw [List.flatMap_cons] at h
    by_cases hj : j < n
    · rw [List.getElem?_append_left (by rw [hn]; exact hj)] at h
      exact ⟨0, x, j, rfl, h, by simp⟩
    · rw [List.getElem?_append_right (by rw [hn]; omega), hn] at h
      obtain ⟨i, y, r, h1, h2, h3⟩ := flat_get hn h
      exact ⟨i + 1, y, r, h1, h2, by rw [Nat.add_mul]; omega⟩
theorem flatn_len {α : Type} {enc : α → List Value} {n : Nat} (hn : ∀ x, (enc x).length = n) : ∀ l : List α, (l.flatMap enc).length = l.length * n
  | [] => by simp
  | y :: l => by rw [List.flatMap_cons, List.length_append, hn y, flatn_len hn l, List.length_cons, Nat.add_mul, Nat.one_mul]; omega
theorem vals_of {α : Type} {enc : α → List Value} {n : Nat} (hn : ∀ x, (enc x).length = n) {w : World} {sa : Option Addr} {l : List α} (h : TAt n enc w sa l) : ValsIn w sa (l.flatMap enc) := by
  match l, h with
  | [], _ => exact .inl rfl
  | x :: l, h =>
    obtain ⟨blk, off, c, T, fr, h1, h2, _⟩ := h 0 x rfl
    refine .inr ⟨blk, off, c, T, fr, h1, h2, fun j v hj => ?_⟩
    obtain ⟨i, y, r, h3, h4, h5⟩ := flat_get hn hj
    obtain ⟨blk', off', c', T', fr', k1, k2, k3⟩ := h i y h3
    rw [h1] at k1; cases k1
    rw [h2] at k2; cases k2
    have := (cellsAt_get n _ _ k3).2 r v h4
    rw [Int.toNat_natCast] at this
    rw [h5, ← Nat.add_assoc]; exact this
theorem si_one (l : List SiD) : (l.flatMap siC).all (·.oneCell') = true := by
  rw [List.all_eq_true]
  intro v hv
  obtain ⟨x, _, hx⟩ := List.mem_flatMap.1 hv
  simp only [siC, List.mem_cons, List.not_mem_nil, or_false] at hx
  rcases hx with rfl | rfl | rfl | rfl | rfl | rfl <;> rfl
/-- The part's first sights. -/
def prtL (c : ChD) (S : Nat → Bool) (i : Nat) : List SiD := (ixL S i).map fun i => c.si.getD i ⟨0, 0, 0, 0, 0, 0⟩
theorem prtL_zero (c : ChD) (S : Nat → Bool) : prtL c S 0 = [] := rfl
theorem prtL_all (c : ChD) (S : Nat → Bool) : prtL c S c.si.length = (partC c S).si := rfl
theorem prtL_yes {c : ChD} {S : Nat → Bool} {i : Nat} {s : SiD} (hs : c.si[i]? = some s) (h : S i = true) : prtL c S (i + 1) = prtL c S i ++ [s] := by
  unfold prtL ixL
  rw [List.range_succ, List.filter_append, List.filter_cons, if_pos h, List.filter_nil, List.map_append, List.map_cons, List.map_nil, getD_at hs]
theorem prtL_no {c : ChD} {S : Nat → Bool} {i : Nat} (h : S i = false) : prtL c S (i + 1) = prtL c S i := by
  unfold prtL ixL
  rw [List.range_succ, List.filter_append, List.filter_cons, if_neg (by rw [h]; decide), List.filter_nil, List.append_nil]
theorem prtL_len (c : ChD) (S : Nat → Bool) (i : Nat) : (prtL c S i).length ≤ i := by
  unfold prtL ixL
  rw [List.length_map]
  exact Nat.le_trans (List.length_filter_le _ _) (by simp)
theorem ok_si {c : ChD} (hO : ChOk c) : ∀ s ∈ c.si, SiI s := fun s hs => by
  have h := hO.s s hs
  have h1 := hO.n1; have h2 := hO.n2
  have f0 := h.f0; have f1 := h.f1; have t0 := h.t0; have t1 := h.t1
  have a1 := h.l false; have a2 := h.l true; have a3 := h.m false; have a4 := h.m true; have a5 := h.h false; have a6 := h.h true
  simp only [loA, hiA, if_true, Bool.false_eq_true, if_false] at a1 a2 a3 a4 a5 a6
  exact ⟨⟨by omega, by omega⟩, ⟨by omega, by omega⟩, ⟨by omega, by omega⟩, ⟨by omega, by omega⟩, ⟨by omega, by omega⟩, ⟨by omega, by omega⟩⟩
theorem ok_at {c : ChD} (hO : ChOk c) {w : World} {so : Option Addr} (h : TAt 6 siC w so c.si) : ChAt w c so := ⟨h, ⟨by have := hO.n1; omega, by have := hO.n2; omega⟩, by have := hO.l; omega, ok_si hO⟩
theorem own_pos {e size m : Nat} {oa : Option Addr} {c : Nat} {xs : List Value} {X : List (Nat × Obj)} (h : OwnSl e size (.slice oa m c) m xs X) (hm : 0 < m) : ∃ B cur, oa = some ⟨B, 0, none⟩ ∧ X = [(B, .cells cur e (0, 0))] ∧ m ≤ c ∧ cur.size = c * size ∧ cur.toList.take (m * size) = xs := by
  rcases h.2 with ⟨_, h2, _⟩ | ⟨B, cap, cur, h1, h2, h3, _, h5, h6⟩
  · omega
  · cases h1; exact ⟨B, cur, rfl, h2, h3, h5, h6⟩
theorem cur_split {cur : Array Value} {k : Nat} {xs : List Value} (h : cur.toList.take k = xs) : ∃ r, cur = (xs ++ r).toArray := ⟨cur.toList.drop k, by rw [← h, List.take_append_drop]⟩
theorem own_chat {e : Nat} {c : ChD} (hO : ChOk c) {oa : Option Addr} {cx : Nat} {X : List (Nat × Obj)} {w : World} (h : OwnSl e 6 (.slice oa c.si.length cx) c.si.length (c.si.flatMap siC) X) (hX : ∀ q ∈ X, w.heap[q.1]? = some q.2) : ChAt w c oa := ok_at hO (own_tat siC_len h rfl hX)
theorem smx_at {w : World} {B : Nat} {r : List Value} (h : w.heap[B]? = some (.cells (spl (smpL.flatMap siC ++ r).toArray (0 + ((2 : Nat) : Int).toNat * 6) (siC ⟨0, 2, 140, 170, -20, 0⟩)) 46 (0, 0))) : TAt 6 siC w (some ⟨B, 0, none⟩) smpX.si := fun i s hi => by
  refine ⟨B, 0, _, _, _, rfl, h, ?_⟩
  match i, hi with
  | 0, hi => cases hi; rfl
  | 1, hi => cases hi; rfl
  | 2, hi => cases hi; rfl
theorem smpX_ok : ChOk smpX := chB_iff.1 (by kernel_rfl)
theorem smp3_ok : ChOk (smp 3 []) := chB_iff.1 (by kernel_rfl)
theorem smp4_ok : ChOk (smp 4 []) := chB_iff.1 (by kernel_rfl)
theorem smpB_ok : ChOk (smp 4 [⟨2, 1, -49, -45, 0, 20⟩]) := chB_iff.1 (by kernel_rfl)
end Go.ChaM
namespace Go.Proofs.Ytccjnjhlnpgocaa
open Go Go.Sy Go.ChaM
set_option maxRecDepth 100000 in
theorem p40 (n : Int) (l : List SiD) (sb : Option Addr) (cb : Nat) (u : World) (hM : TAt 6 siC u sb l) (hl : l.length ≤ 1) : Calls Try.prog 40 #[.int .i64 n, .slice sb l.length cb] u (Ret fun v w' => ∃ oa cp X, v = .agg (chC (smp n l) oa cp) ∧ OwnSl 46 6 (.slice oa (smp n l).si.length cp) (smp n l).si.length ((smp n l).si.flatMap siC) X ∧ Hp u [] X w') := by
  refine calls_of Try.func40 rfl rfl (fun a hf => ?_)
  have hh := Hp.init u []
  refine sy_sq ?_
  refine o_alloc hf hh Try.ze_24 ?_; clear hf hh a; intro B4 a w hf hh
  refine o_end ?_
  refine sy_sq ?_
  refine o_call hf Try.en_29 rfl rfl rfl (p29 _ _ _ _ _ _ _) ?_; clear hf a; intro v a w hR hf
  obtain ⟨rfl, hx⟩ := hR; replace hh := hh.more hx; clear hx
  refine o_call hf Try.en_29 rfl rfl rfl (p29 _ _ _ _ _ _ _) ?_; clear hf a; intro v a w hR hf
  obtain ⟨rfl, hx⟩ := hR; replace hh := hh.more hx; clear hx
  refine o_call hf Try.en_29 rfl rfl rfl (p29 _ _ _ _ _ _ _) ?_; clear hf a; intro v a w hR hf
  obtain ⟨rfl, hx⟩ := hR; replace hh := hh.more hx; clear hx
  refine ops_buildSl hf hh Try.bl_22_3 rfl rfl (.inl rfl) rfl ?_; clear hf hh; clear a; intro B9 a w hf hh
  refine o_v hf hh (yv_assign rfl) ?_; clear hf a; intro a hf
  refine o_end ?_
  refine sy_seq ?_
  replace hh : Hp u [] [(B9, .cells (smpL.flatMap siC).toArray 46), (B4, .cells #[.int .i64 0, .slice none 0 0] 24)] w := hh
  refine sy_ops ?_
  refine o_v hf hh (yv_move rfl) ?_; clear hf a; intro a hf
  refine o_v hf hh (yv_move rfl) ?_; clear hf a; intro a hf
  refine o_v hf hh (yv_move rfl) ?_; clear hf a; intro a hf
  refine ops_appendV (e := 46) (size := 6) (xs := smpL.flatMap siC) (news := l.flatMap siC) (X := [(B9, Obj.cells (smpL.flatMap siC).toArray 46)]) (Z := [(B4, .cells #[.int .i64 0, .slice none 0 0] 24)]) (m := 3) hf hh Try.eb_22 rfl rfl ⟨rfl, .inr ⟨B9, 3, _, rfl, rfl, Nat.le_refl _, by simp only [maxLen]; omega, rfl, rfl⟩⟩ (vals_of (enc := siC) (n := 6) siC_len (hM.ext hh.ext)) (flatn_len (enc := siC) (n := 6) siC_len l) (by omega) (si_one l) (by simp only [maxLen]; omega) (by omega) (.inl rfl) rfl ?_
  clear hf hh a; intro v13 X a w hO hf hh
  rw [← List.flatMap_append, show 3 + l.length = (smp n l).si.length from Nat.add_comm _ _] at hO
  obtain ⟨oa, cp, rfl⟩ := own_val hO
  replace hh := hh.perm List.perm_append_comm
  refine o_v hf hh (yv_buildS Try.bs_24 rfl rfl) ?_; clear hf a; intro a hf
  refine o_store hf hh Try.sz_24 fun w hh => ?_
  refine o_end ?_
  refine sy_ret ?_
  refine ret_c (vs := [.agg (chC (smp n l) oa cp)]) hf ?_ ?_
  · exact ⟨⟨B4, 0, _, _, _, rfl, hh.at (i := 0) rfl, .inr ⟨2, _, Try.ag_24, rfl, rfl⟩⟩, True.intro⟩
  · exact ⟨oa, cp, X, rfl, hO, hh.less (.cons _ (.refl _))⟩
set_option maxRecDepth 100000 in
theorem p35 (c : ChD) (sa : Option Addr) (cp : Nat) (s0 : Nat) (u : World) (hA : ChAt u c sa) (hO : ChOk c) (hs0 : s0 ≤ 9223372036854775807) : Calls Try.prog 35 #[.agg (chC c sa cp), .int .i64 (s0 : Nat)] u (Ret fun v w' => ∃ so co X, v = .agg (chC (partC c s0.testBit) so co) ∧ (∀ w2 : World, (∀ q ∈ X, w2.heap[q.1]? = some q.2) → ChAt w2 (partC c s0.testBit) so) ∧ Hp u [] X w') := by
  refine calls_of Try.func35 rfl rfl (fun a hf => ?_)
  have hh := Hp.init u []
  have hl10 := hO.l
  refine sy_sq ?_
  refine o_box hf hh ?_; clear hf hh a; intro B2 a w hf hh
  refine o_alloc hf hh Try.ze_24 ?_; clear hf hh a; intro B4 a w hf hh
  refine o_end ?_
  refine sy_sq ?_
  refine o_v hf hh (y_lds Try.ag_24 rfl) ?_; clear hf a; intro a hf
  refine o_alloc hf hh Try.ze_24 ?_; clear hf hh a; intro B5 a w hf hh
  refine o_store hf hh Try.sz_24 fun w hh => ?_
  refine o_end ?_
  refine sy_sq ?_
  refine o_v hf hh (yv_fieldAddr Try.fo_24_1 rfl) ?_; clear hf a; intro a hf
  refine o_store hf hh Try.sz_22 fun w hh => ?_
  refine o_end ?_
  refine sy_seq ?_
  refine sy_sq ?_
  refine o_v hf hh (yv_fieldAddr Try.fo_24_1 rfl) ?_; clear hf a; intro a hf
  refine o_v hf hh (y_ld Try.sc_22 rfl) ?_; clear hf a; intro a hf
  refine o_v hf hh (yv_len Try.se_22 rfl) ?_; clear hf a; intro a hf
  refine o_v hf hh (yv_move rfl) ?_; clear hf a; intro a hf
  refine o_end ?_
  refine sy_block ?_
  refine sy_loopH (σ := Nat × Option Addr × Nat × List (Nat × Obj)) [6, 7, 13, 14, 15, 16, 17, 18, 19, 20, 21, 22, 23, 24, 25, 26, 27, 28, 29] (fun q => [(13, .int .i64 (q.1 : Nat))]) (fun q => fun w' => q.1 ≤ c.si.length ∧ OwnSl 46 6 (.slice q.2.1 (prtL c s0.testBit q.1).length q.2.2.1) (prtL c s0.testBit q.1).length ((prtL c s0.testBit q.1).flatMap siC) q.2.2.2 ∧ Hp u [] ([(B5, .cells #[.int .i64 c.n, .slice q.2.1 (prtL c s0.testBit q.1).length q.2.2.1] 24), (B4, .cells #[.int .i64 0, .slice none 0 0] 24), (B2, .cells (chC c sa cp) 24)] ++ q.2.2.2) w') (fun q => c.si.length - q.1) ((0, none, 0, [])) hf ?_ ?_ ?_
  · repeat' (first | exact True.intro | refine And.intro rfl ?_)
  · exact ⟨Nat.zero_le _, OwnSl.nil _ _, hh⟩
  ·rintro q a w ⟨hi, hOw, hh⟩ hf
   obtain ⟨i, oa, cx, X⟩ := q; simp only at hi hOw hh hf ⊢
   refine sy_sq ?_
   refine o_v hf hh (yv_bin rfl rfl rfl) ?_; clear hf a; intro a hf
   refine o_end ?_
   refine sy_seq ?_
   refine sy_cond hf rfl (fun hg2 => ?_) (fun hg2 => ?_)
   ·have hG2 := hg2; try simp only [gS] at hG2
    refine sy_skip ?_
    refine then_n ?_
    refine sy_seq ?_
    refine sy_block ?_
    refine sy_seq ?_
    obtain ⟨s, hs⟩ := ex_of (l := c.si) (i := i) (by omega)
    obtain ⟨blk, off, cc, T, fr, esa, hb2, hc⟩ := hA.at_ i s hs
    have hpl := prtL_len c s0.testBit i
    refine sy_ops ?_
    refine o_v hf hh (yv_move rfl) ?_; clear hf a; intro a hf
    refine o_v hf hh (y_ix Try.se_22 (congrArg (fun z => some (Value.slice z c.si.length cp)) esa) rfl) ?_; clear hf a; intro a hf
    refine o_v hf hh (y_lds Try.ag_46 rfl) ?_; clear hf a; intro a hf
    refine o_alloc hf hh Try.ze_46 ?_; clear hf hh a; intro B7 a w hf hh
    refine o_v hf hh (yv_assign rfl) ?_; clear hf a; intro a hf
    refine o_store hf hh Try.sz_46 fun w hh => ?_
    refine o_end ?_
    refine sy_sq ?_
    refine o_v hf hh (yv_move rfl) ?_; clear hf a; intro a hf
    refine o_v hf hh (yv_move rfl) ?_; clear hf a; intro a hf
    refine o_v hf hh (yv_shrN rfl rfl) ?_; clear hf a; intro a hf
    refine o_v hf hh (yv_and1 rfl rfl (by omega)) ?_; clear hf a; intro a hf
    refine o_v hf hh (yv_cast (yv_bin rfl rfl rfl) (show Value.bool (decide (((s0 >>> i &&& 1 : Nat) : Int) = 1)) = Value.bool (s0.testBit i) by rw [bit1]; cases s0.testBit i <;> rfl)) ?_; clear hf a; intro a hf
    refine o_end ?_
    refine sy_cond hf rfl (fun hg7 => ?_) (fun hg7 => ?_)
    ·have hG7 := hg7; try simp only [gS] at hG7
     replace hh : Hp u [] ((B7, .cells (siC s).toArray 46) :: ([(B5, .cells #[.int .i64 c.n, .slice oa (prtL c s0.testBit i).length cx] 24), (B4, .cells #[.int .i64 0, .slice none 0 0] 24), (B2, .cells (chC c sa cp) 24)] ++ X)) w := hh
     refine sy_ops ?_
     refine o_v hf hh (yv_fieldAddr Try.fo_24_1 rfl) ?_; clear hf a; intro a hf
     refine o_v hf hh (y_ld Try.sc_22 rfl) ?_; clear hf a; intro a hf
     refine o_v hf hh (y_lds Try.ag_46 rfl) ?_; clear hf a; intro a hf
     refine ops_buildSl hf hh Try.bl_22_1 rfl rfl (.inl rfl) rfl ?_; clear hf hh; clear a; intro B26 a w hf hh
     refine ops_append (e := 46) (size := 6) (xs := (prtL c s0.testBit i).flatMap siC) (X := X) (Z := (B7, Obj.cells (siC s).toArray 46) :: [(B5, Obj.cells #[.int .i64 c.n, .slice oa (prtL c s0.testBit i).length cx] 24), (B4, Obj.cells #[.int .i64 0, .slice none 0 0] 24), (B2, Obj.cells (chC c sa cp) 24)]) (m := (prtL c s0.testBit i).length) (q := 1) hf (hh.perm (.cons _ (List.perm_append_comm (l₁ := (B7, Obj.cells (siC s).toArray 46) :: [(B5, Obj.cells #[.int .i64 c.n, .slice oa (prtL c s0.testBit i).length cx] 24), (B4, Obj.cells #[.int .i64 0, .slice none 0 0] 24), (B2, Obj.cells (chC c sa cp) 24)]) (l₂ := X)))) Try.eb_22 rfl rfl hOw rfl rfl rfl (by simp only [maxLen]; omega) (by omega) (.inl rfl) rfl ?_; clear hf hh a; intro v2 X2 a w hO2 hf hh
     obtain ⟨oa2, cx2, rfl⟩ := own_val hO2
     replace hh : Hp u [] ((B7, Obj.cells (siC s).toArray 46) :: ([(B5, Obj.cells #[.int .i64 c.n, .slice oa (prtL c s0.testBit i).length cx] 24), (B4, Obj.cells #[.int .i64 0, .slice none 0 0] 24), (B2, Obj.cells (chC c sa cp) 24)] ++ X2)) w := hh.perm List.perm_append_comm
     refine o_v hf hh (yv_fieldAddr Try.fo_24_1 rfl) ?_; clear hf a; intro a hf
     refine o_store hf hh Try.sz_22 fun w hh => ?_
     refine ops_end ?_
     refine blk_n ?_
     refine then_n ?_
     refine sy_ops ?_
     refine o_v hf hh (y_add rfl rfl) ?_; clear hf a; intro a hf
     refine o_v hf hh (yv_move rfl) ?_; clear hf a; intro a hf
     refine ops_end ?_
     refine then_n ?_
     first
       | (have hy : s0.testBit i = true := by assumption
          have ep := prtL_yes hs hy
          have el : (prtL c s0.testBit (i + 1)).length = (prtL c s0.testBit i).length + 1 := by rw [ep, List.length_append]; rfl
          exact ⟨(i + 1, oa2, cx2, X2), ⟨⟨by simp only; omega, by simp only; rw [el, ep, List.flatMap_append]; exact hO2, by simp only; rw [el]; exact hh.less (.cons _ (.refl _))⟩, (hf.head (by repeat' (first | exact True.intro | refine And.intro rfl ?_)) (Keep.cons rfl (Keep.cons rfl (Keep.cons rfl (Keep.cons rfl (Keep.cons rfl (Keep.cons rfl (Keep.cons rfl (Keep.cons rfl (Keep.cons rfl (Keep.cons rfl (Keep.cons rfl (Keep.cons rfl (Keep.cons rfl (Keep.cons rfl (Keep.cons rfl (Keep.cons rfl (Keep.cons rfl (Keep.cons rfl (Keep.cons rfl (Keep.app rfl (Keep.rm rfl Keep.base))))))))))))))))))))))⟩, by simp only; omega⟩)
       | (have hy : s0.testBit i = false := by assumption
          have ep := prtL_no (c := c) hy
          exact ⟨(i + 1, oa, cx, X), ⟨⟨by simp only; omega, by simp only; rw [ep]; exact hOw, by simp only; rw [ep]; exact hh.less (.cons _ (.refl _))⟩, (hf.head (by repeat' (first | exact True.intro | refine And.intro rfl ?_)) (Keep.cons rfl (Keep.cons rfl (Keep.cons rfl (Keep.cons rfl (Keep.cons rfl (Keep.cons rfl (Keep.cons rfl (Keep.cons rfl (Keep.cons rfl (Keep.cons rfl (Keep.cons rfl (Keep.cons rfl (Keep.cons rfl (Keep.cons rfl (Keep.cons rfl (Keep.cons rfl (Keep.cons rfl (Keep.cons rfl (Keep.cons rfl (Keep.app rfl (Keep.rm rfl Keep.base))))))))))))))))))))))⟩, by simp only; omega⟩)
    ·have hG7 := hg7; try simp only [gS] at hG7
     refine sy_skip ?_
     refine blk_n ?_
     refine then_n ?_
     refine sy_ops ?_
     refine o_v hf hh (y_add rfl rfl) ?_; clear hf a; intro a hf
     refine o_v hf hh (yv_move rfl) ?_; clear hf a; intro a hf
     refine ops_end ?_
     refine then_n ?_
     first
       | (have hy : s0.testBit i = true := by assumption
          have ep := prtL_yes hs hy
          have el : (prtL c s0.testBit (i + 1)).length = (prtL c s0.testBit i).length + 1 := by rw [ep, List.length_append]; rfl
          exact ⟨(i + 1, oa2, cx2, X2), ⟨⟨by simp only; omega, by simp only; rw [el, ep, List.flatMap_append]; exact hO2, by simp only; rw [el]; exact hh.less (.cons _ (.refl _))⟩, (hf.head (by repeat' (first | exact True.intro | refine And.intro rfl ?_)) (Keep.cons rfl (Keep.cons rfl (Keep.cons rfl (Keep.cons rfl (Keep.cons rfl (Keep.cons rfl (Keep.cons rfl (Keep.cons rfl (Keep.cons rfl (Keep.cons rfl (Keep.cons rfl (Keep.cons rfl (Keep.cons rfl (Keep.app rfl (Keep.rm rfl Keep.base))))))))))))))))⟩, by simp only; omega⟩)
       | (have hy : s0.testBit i = false := by assumption
          have ep := prtL_no (c := c) hy
          exact ⟨(i + 1, oa, cx, X), ⟨⟨by simp only; omega, by simp only; rw [ep]; exact hOw, by simp only; rw [ep]; exact hh.less (.cons _ (.refl _))⟩, (hf.head (by repeat' (first | exact True.intro | refine And.intro rfl ?_)) (Keep.cons rfl (Keep.cons rfl (Keep.cons rfl (Keep.cons rfl (Keep.cons rfl (Keep.cons rfl (Keep.cons rfl (Keep.cons rfl (Keep.cons rfl (Keep.cons rfl (Keep.cons rfl (Keep.cons rfl (Keep.cons rfl (Keep.app rfl (Keep.rm rfl Keep.base))))))))))))))))⟩, by simp only; omega⟩)
   ·have hG2 := hg2; try simp only [gS] at hG2
    refine sy_exit ?_
    refine then_e ?_
    refine then_e ?_
    refine blk_e ?_
    refine then_n ?_
    refine sy_sq ?_
    refine o_v hf hh (y_lds Try.ag_24 rfl) ?_; clear hf a; intro a hf
    refine o_store hf hh Try.sz_24 fun w hh => ?_
    refine o_end ?_
    refine sy_ret ?_
    refine ret_c (vs := [.agg (chC (partC c s0.testBit) oa cx)]) hf ?_ ?_
    obtain rfl : i = c.si.length := by omega
    · exact ⟨⟨B4, 0, _, _, _, rfl, hh.at (i := 1) rfl, .inr ⟨2, _, Try.ag_24, rfl, rfl⟩⟩, True.intro⟩
    · obtain rfl : i = c.si.length := by omega
      exact ⟨oa, cx, X, rfl, fun w2 hw2 => ok_at (part_ok hO _) (own_tat siC_len hOw rfl hw2), hh.less (.cons _ (.cons _ (.cons _ (.refl _))))⟩
end Go.Proofs.Ytccjnjhlnpgocaa
namespace Go.Proofs.Ytccjnjhlnpgocaa
open Go Go.Sy Go.ChaM
theorem fl28 : flatB Try.prog 28 = some 2 := by kernel_rfl
theorem fl39 : flatB Try.prog 39 = some 2 := by kernel_rfl
set_option maxRecDepth 100000 in
set_option maxHeartbeats 4000000 in
theorem p14 (u : World) : Calls Try.prog 14 #[] u (Ret fun v w' => v = .bool true ∧ Ext [] u w') := by
  refine calls_of Try.func14 rfl rfl (fun a hf => ?_)
  have hh := Hp.init u []
  refine sy_sq ?_
  refine o_v hf hh (yv_assign rfl) ?_; clear hf a; intro a hf
  refine o_end ?_
  refine sy_sq ?_
  refine o_call hf Try.en_40 rfl rfl rfl (p40 4 [] none 0 _ (fun i s h => by simp at h) (by simp)) ?_; clear hf a; intro v a w hR hf
  obtain ⟨oa1, cp1, X1, rfl, hO1, hx⟩ := hR; replace hh := (hh.join hx).perm List.perm_append_comm; clear hx
  have hA1 := own_chat smp4_ok hO1 (w := w) (fun q hq => hh.get q (by simp [hq]))
  refine o_call hf Try.en_15 rfl rfl rfl (p15 (smp 4 []) oa1 cp1 2 _ hA1) ?_; clear hf a; intro v a w hR hf
  rw [sm1, sm2, sm3] at hR
  obtain ⟨rfl, hx⟩ := hR; replace hh := hh.more hx; clear hx
  refine o_v hf hh (yv_move rfl) ?_; clear hf a; intro a hf
  refine o_v hf hh (yv_extract rfl rfl) ?_; clear hf a; intro a hf
  refine o_v hf hh (yv_extract rfl rfl) ?_; clear hf a; intro a hf
  refine o_v hf hh (yv_extract rfl rfl) ?_; clear hf a; intro a hf
  refine o_alloc hf hh Try.ze_28 ?_; clear hf hh a; intro B1 a w hf hh
  refine o_alloc hf hh Try.ze_28 ?_; clear hf hh a; intro B2 a w hf hh
  refine o_store hf hh Try.sz_28 fun w hh => ?_
  refine o_store hf hh Try.sz_28 fun w hh => ?_
  refine o_v hf hh (yv_assign rfl) ?_; clear hf a; intro a hf
  refine o_end ?_
  refine sy_sq ?_
  refine o_call hf Try.en_40 rfl rfl rfl (p40 4 [] none 0 _ (fun i s h => by simp at h) (by simp)) ?_; clear hf a; intro v a w hR hf
  obtain ⟨oa2, cp2, X2, rfl, hO2, hx⟩ := hR; replace hh := (hh.join hx).perm List.perm_append_comm; clear hx
  have hA2 := own_chat smp4_ok hO2 (w := w) (fun q hq => hh.get q (by simp [hq]))
  refine o_call hf Try.en_17 rfl rfl rfl (p17 (smp 4 []) oa2 cp2 2 1 _ hA2) ?_; clear hf a; intro v a w hR hf
  rw [sm4, sm5, sm6] at hR
  obtain ⟨rfl, hx⟩ := hR; replace hh := hh.more hx; clear hx
  refine o_v hf hh (yv_move rfl) ?_; clear hf a; intro a hf
  refine o_v hf hh (yv_extract rfl rfl) ?_; clear hf a; intro a hf
  refine o_v hf hh (yv_extract rfl rfl) ?_; clear hf a; intro a hf
  refine o_v hf hh (yv_extract rfl rfl) ?_; clear hf a; intro a hf
  refine o_alloc hf hh Try.ze_28 ?_; clear hf hh a; intro B4 a w hf hh
  refine o_alloc hf hh Try.ze_28 ?_; clear hf hh a; intro B5 a w hf hh
  refine o_store hf hh Try.sz_28 fun w hh => ?_
  refine o_store hf hh Try.sz_28 fun w hh => ?_
  refine o_v hf hh (yv_assign rfl) ?_; clear hf a; intro a hf
  refine o_end ?_
  refine sy_sq ?_
  refine o_call hf Try.en_40 rfl rfl rfl (p40 3 [] none 0 _ (fun i s h => by simp at h) (by simp)) ?_; clear hf a; intro v a w hR hf
  obtain ⟨oa3, cp3, X3, rfl, hO3, hx⟩ := hR; replace hh := (hh.join hx).perm List.perm_append_comm; clear hx
  have hA3 := own_chat smp3_ok hO3 (w := w) (fun q hq => hh.get q (by simp [hq]))
  refine o_call hf Try.en_19 rfl rfl rfl (p19 (smp 3 []) oa3 cp3 _ hA3) ?_; clear hf a; intro v a w hR hf
  rw [sm7, sm8] at hR
  obtain ⟨so, co, rfl, hT, hx⟩ := hR; replace hh := hh.more hx; clear hx
  refine o_v hf hh (yv_move rfl) ?_; clear hf a; intro a hf
  refine o_v hf hh (yv_extract rfl rfl) ?_; clear hf a; intro a hf
  refine o_v hf hh (yv_extract rfl rfl) ?_; clear hf a; intro a hf
  refine o_v hf hh (yv_assign rfl) ?_; clear hf a; intro a hf
  refine o_v hf hh (yv_assign rfl) ?_; clear hf a; intro a hf
  refine o_end ?_
  refine sy_seq ?_
  have q1 := hh.at (i := 3) rfl; have q2 := hh.at (i := 2) rfl; have q4 := hh.at (i := 1) rfl; have q5 := hh.at (i := 0) rfl
  have e3 := hh.ext
  obtain ⟨blk, off, cc, TT, fr, rfl, hb, hc0⟩ := hT 0 _ rfl
  obtain ⟨_, _, _, _, _, e1, hb1, hc1⟩ := hT 1 _ rfl; cases e1; rw [hb] at hb1; cases hb1
  obtain ⟨_, _, _, _, _, e1, hb1, hc2⟩ := hT 2 _ rfl; cases e1; rw [hb] at hb1; cases hb1
  clear hT
  have hl8 : ([(0, 0), (101, 0), (153, -9)] : List (Int × Int)).length = 3 := rfl
  obtain ⟨u3, rfl⟩ : ∃ z, z = w := ⟨_, rfl⟩
  replace hh := Hp.init u3 []
  refine sy_ops ?_
  refine o_call hf Try.en_29 rfl rfl rfl (p29 _ _ _ _ _ _ _) ?_; clear hf a; intro v a w hR hf
  obtain ⟨rfl, hx⟩ := hR; replace hh := hh.more hx; clear hx
  refine ops_buildSl hf hh Try.bl_22_1 rfl rfl (.inl rfl) rfl ?_; clear hf hh; clear a; intro B35 a w hf hh
  refine o_call hf Try.en_40 rfl rfl rfl (p40 4 [⟨2, 1, -49, -45, 0, 20⟩] (some ⟨B35, 0, none⟩) 1 _ (fun i s hi => match i, hi with | 0, hi => by cases hi; exact ⟨B35, 0, _, _, _, rfl, hh.at (i := 0) rfl, rfl⟩) (by simp)) ?_; clear hf a; intro v a w hR hf
  obtain ⟨oa4, cp4, X4, rfl, hO4, hx⟩ := hR; replace hh := (hh.join hx).perm List.perm_append_comm; clear hx
  refine o_alloc hf hh Try.ze_24 ?_; clear hf hh a; intro B9 a w hf hh
  refine o_store hf hh Try.sz_24 fun w hh => ?_
  refine o_end ?_
  refine sy_seq ?_
  replace hh : Hp u3 [] ((B9, .cells (chC (smp 4 [⟨2, 1, -49, -45, 0, 20⟩]) oa4 cp4) 24) :: X4) w := hh.less (.cons_cons _ (.cons _ (.refl _)))
  have hA4 : ∀ {w2}, Hp u3 [] ((B9, Obj.cells (chC (smp 4 [⟨2, 1, -49, -45, 0, 20⟩]) oa4 cp4) 24) :: X4) w2 → ChAt w2 (smp 4 [⟨2, 1, -49, -45, 0, 20⟩]) oa4 := fun h => own_chat smpB_ok hO4 (fun q hq => h.get q (by simp [hq]))
  refine sy_ops ?_
  refine o_v hf hh (y_lds Try.ag_24 rfl) ?_; clear hf a; intro a hf
  refine o_call hf Try.en_24 rfl rfl rfl (p24 (smp 4 [⟨2, 1, -49, -45, 0, 20⟩]) oa4 cp4 _ (hA4 hh)) ?_; clear hf a; intro v a w hR hf
  rw [sm9, sm10] at hR
  obtain ⟨rfl, hx⟩ := hR; replace hh := hh.more hx; clear hx
  refine o_v hf hh (yv_move rfl) ?_; clear hf a; intro a hf
  refine o_v hf hh (yv_extract rfl rfl) ?_; clear hf a; intro a hf
  refine o_v hf hh (yv_extract rfl rfl) ?_; clear hf a; intro a hf
  refine o_v hf hh (yv_assign rfl) ?_; clear hf a; intro a hf
  refine o_v hf hh (yv_assign rfl) ?_; clear hf a; intro a hf
  refine o_end ?_
  refine sy_sq ?_
  refine o_v hf hh (y_lds Try.ag_24 rfl) ?_; clear hf a; intro a hf
  refine o_call hf Try.en_26 rfl rfl rfl (p26 (smp 4 [⟨2, 1, -49, -45, 0, 20⟩]) oa4 cp4 _ (hA4 hh)) ?_; clear hf a; intro v a w hR hf
  rw [sm11, sm12] at hR
  obtain ⟨rfl, hx⟩ := hR; replace hh := hh.more hx; clear hx
  refine o_v hf hh (yv_move rfl) ?_; clear hf a; intro a hf
  refine o_v hf hh (yv_extract rfl rfl) ?_; clear hf a; intro a hf
  refine o_v hf hh (yv_extract rfl rfl) ?_; clear hf a; intro a hf
  refine o_v hf hh (yv_assign rfl) ?_; clear hf a; intro a hf
  refine o_v hf hh (yv_assign rfl) ?_; clear hf a; intro a hf
  refine o_end ?_
  refine sy_seq ?_
  replace hh : Hp u3 [] [] w := hh.less (List.nil_sublist _)
  refine sy_ops ?_
  refine o_call hf Try.en_40 rfl rfl rfl (p40 4 [] none 0 _ (fun i s h => by simp at h) (by simp)) ?_; clear hf a; intro v a w hR hf
  obtain ⟨oa7, cp7, X7, rfl, hO7, hx⟩ := hR; replace hh := (hh.join hx).perm List.perm_append_comm; clear hx
  have hA7 := own_chat smp4_ok hO7 (w := w) (fun q hq => hh.get q (by simp [hq]))
  obtain ⟨B77, cur, rfl, rfl, hc7, hz7, ht7⟩ := own_pos hO7 (by decide)
  obtain ⟨r7, rfl⟩ := cur_split ht7
  have hcp7 : 3 ≤ cp7 := hc7
  have hl7 : (smp 4 []).si.length = 3 := rfl
  refine o_alloc hf hh Try.ze_24 ?_; clear hf hh a; intro B14 a w hf hh
  refine o_store hf hh Try.sz_24 fun w hh => ?_
  refine o_end ?_
  refine sy_seq ?_
  refine sy_tree1 (.p 0 (.q 0 1 (.e1 2 (.p 3 (.e1 4 (.fin)))))) [4] Try.follows (by kernel_rfl) hh (fun w hh => ?_)
  refine mc_p rfl   hf (yv_fieldAddr Try.fo_24_1 rfl) (.inl rfl) rfl rfl ?_; clear hf a; intro a hf
  refine mc_q rfl rfl hh hf (y_ld Try.sc_22 rfl) (.inl rfl) rfl rfl ?_; clear hf a; intro a hf
  refine mc_e rfl fun Q1 => ?_
  refine o_call hf Try.en_29 rfl rfl rfl (p29 _ _ _ _ _ _ _) ?_; clear hf a; intro v a w hR hf
  obtain ⟨rfl, hx⟩ := hR; replace hh := hh.more hx; clear hx
  refine ops_end ?_
  refine then_n ⟨⟨fun _ _ => hh, trivial⟩, ?_⟩
  refine mc_p rfl   hf (y_ix Try.se_22 rfl rfl) (.inl rfl) rfl rfl ?_; clear hf a; intro a hf
  refine mc_e rfl fun Q1 => ?_
  refine o_store (i := 1) hf hh Try.sz_46 (hx := rfl) (hi := atI (i := 1) rfl) (hy := rfl) (hl := Nat.ble_eq_true_of_le (by rw [hz7]; show 12 + 6 ≤ cp7 * 6; omega)) fun w hh => ?_
  refine ops_end ?_
  refine then_n ⟨⟨fun h => Bool.noConfusion (show true = false from h), trivial⟩, ?_⟩
  refine mc_end ?_
  refine then_n ?_
  refine sy_sq ?_
  refine o_v hf hh (y_lds Try.ag_24 rfl) ?_; clear hf a; intro a hf
  refine o_call hf Try.en_21 rfl rfl rfl (p21 smpX (some ⟨B77, 0, none⟩) cp7 _ (ok_at smpX_ok (smx_at (hh.at (i := 1) rfl)))) ?_; clear hf a; intro v a w hR hf
  rw [sm13, sm14] at hR
  obtain ⟨rfl, hx⟩ := hR; replace hh := hh.more hx; clear hx
  refine o_v hf hh (yv_move rfl) ?_; clear hf a; intro a hf
  refine o_v hf hh (yv_extract rfl rfl) ?_; clear hf a; intro a hf
  refine o_v hf hh (yv_extract rfl rfl) ?_; clear hf a; intro a hf
  refine o_v hf hh (yv_assign rfl) ?_; clear hf a; intro a hf
  refine o_v hf hh (yv_assign rfl) ?_; clear hf a; intro a hf
  refine o_end ?_
  refine sy_seq ?_
  refine sy_sq ?_
  refine o_v hf hh (yv_move rfl) ?_; clear hf a; intro a hf
  refine o_v hf hh (yv_len Try.se_33 rfl) ?_; clear hf a; intro a hf
  refine o_v hf hh (yv_cast (yv_bin rfl rfl rfl) (show _ = Value.bool false from rfl)) ?_; clear hf a; intro a hf
  refine o_v hf hh (yv_move rfl) ?_; clear hf a; intro a hf
  refine o_v hf hh (yv_move rfl) ?_; clear hf a; intro a hf
  refine o_v hf hh (y_ix Try.se_33 rfl rfl) ?_; clear hf a; intro a hf
  refine o_v hf hh (y_lds Try.ag_39 rfl) ?_; clear hf a; intro a hf
  refine o_v hf hh (yv_buildS Try.bs_39 rfl rfl) ?_; clear hf a; intro a hf
  refine o_v hf hh (yv_cast (yv_neF [0, 0] [0, 0] fl39 rfl rfl) (congrArg Value.bool (show _ = false by simp))) ?_; clear hf a; intro a hf
  refine o_v hf hh (y_pf rfl rfl) ?_; clear hf a; intro a hf
  refine o_v hf hh (yv_move rfl) ?_; clear hf a; intro a hf
  refine o_v hf hh (yv_move rfl) ?_; clear hf a; intro a hf
  refine o_v hf hh (y_ix Try.se_33 rfl rfl) ?_; clear hf a; intro a hf
  refine o_v hf hh (y_lds Try.ag_39 rfl) ?_; clear hf a; intro a hf
  refine o_v hf hh (yv_buildS Try.bs_39 rfl rfl) ?_; clear hf a; intro a hf
  refine o_v hf hh (yv_cast (yv_neF [101, 0] [101, 0] fl39 rfl rfl) (congrArg Value.bool (show _ = false by simp))) ?_; clear hf a; intro a hf
  refine o_v hf hh (y_pf rfl rfl) ?_; clear hf a; intro a hf
  refine o_v hf hh (yv_move rfl) ?_; clear hf a; intro a hf
  refine o_v hf hh (yv_move rfl) ?_; clear hf a; intro a hf
  refine o_v hf hh (y_ix Try.se_33 rfl rfl) ?_; clear hf a; intro a hf
  refine o_v hf hh (y_lds Try.ag_39 rfl) ?_; clear hf a; intro a hf
  refine o_v hf hh (yv_buildS Try.bs_39 rfl rfl) ?_; clear hf a; intro a hf
  refine o_v hf hh (yv_cast (yv_neF [153, -9] [153, -9] fl39 rfl rfl) (congrArg Value.bool (show _ = false by simp))) ?_; clear hf a; intro a hf
  refine o_v hf hh (y_pf rfl rfl) ?_; clear hf a; intro a hf
  refine o_v hf hh (yv_move rfl) ?_; clear hf a; intro a hf
  refine o_v hf hh (yv_move rfl) ?_; clear hf a; intro a hf
  refine o_v hf hh (yv_cast (yv_bin rfl rfl rfl) (show _ = Value.bool false from rfl)) ?_; clear hf a; intro a hf
  refine o_v hf hh (y_pf rfl rfl) ?_; clear hf a; intro a hf
  refine o_end ?_
  refine c_f hf ?_
  refine sy_skip ?_
  refine then_n ?_
  refine sy_seq ?_
  refine sy_treeC (.q 0 0 (.e1 1 (.p 2 (.p 3 (.q 0 4 (.e1 5 (.p 6 (.p 7 (.p 8 (.p 9 (.p 10 (.p 11 (.p 12 (.q 0 13 (.e1 14 (.p 15 (.p 16 (.p 17 (.q 0 18 (.e1 19 (.p 20 (.p 21 (.p 22 (.p 23 (.p 24 (.p 25 (.p 26 (.p 27 (.p 28 (.p 29 (.p 30 (.p 31 (.p 32 (.p 33 (.p 34 (.p 35 (.p 36 (.p 37 (.p 38 (.p 39 (.p 40 (.p 41 (.p 42 (.p 43 (.p 44 (.p 45 (.p 46 (.p 47 (.p 48 (.p 49 (.p 50 (.fin)))))))))))))))))))))))))))))))))))))))))))))))))))) [[]] [(AtE u3 [] [], [])] Try.follows (by kernel_rfl) rfl hh (fun w hh => ?_)
  refine mc_q rfl rfl (AtE.of hh (List.nil_subset _)) hf (y_lds Try.ag_28 rfl) (.inl rfl) rfl rfl ?_; clear hf a; intro a hf
  refine mc_e rfl fun Q1 => ?_
  refine o_call hf Try.en_33 rfl rfl rfl (p33 _ _ _) ?_; clear hf a; intro v a w hR hf
  obtain ⟨rfl, hx⟩ := hR; replace hh := hh.more hx; clear hx
  refine ops_end ?_
  refine then_n ⟨⟨fun _ _ => (AtE.of hh (List.nil_subset _)), trivial⟩, ?_⟩
  refine mc_p rfl   hf (yv_cast (yv_eqF [153, 156] [153, 156] fl28 rfl rfl) (congrArg Value.bool (show _ = true by simp))) (.inl rfl) rfl rfl ?_; clear hf a; intro a hf
  refine mc_p rfl   hf (yv_move rfl) (.inl rfl) rfl rfl ?_; clear hf a; intro a hf
  refine mc_q rfl rfl (AtE.of hh (List.nil_subset _)) hf (y_lds Try.ag_28 rfl) (gon rfl rfl rfl (by first | assumption | rfl | (simp; done) | (simp; omega))) rfl rfl ?_; clear hf a; intro a hf
  refine mc_e rfl fun Q1 => ?_
  refine o_call hf Try.en_33 rfl rfl rfl (p33 _ _ _) ?_; clear hf a; intro v a w hR hf
  obtain ⟨rfl, hx⟩ := hR; replace hh := hh.more hx; clear hx
  refine ops_end ?_
  refine then_n ⟨⟨fun _ _ => (AtE.of hh (List.nil_subset _)), trivial⟩, ?_⟩
  refine mc_p rfl   hf (yv_cast (yv_eqF [-9, -6] [-9, -6] fl28 rfl rfl) (congrArg Value.bool (show _ = true by simp))) (gon rfl rfl rfl (by first | assumption | rfl | (simp; done) | (simp; omega))) rfl rfl ?_; clear hf a; intro a hf
  refine mc_p rfl   hf (y_pt rfl rfl) (.inl rfl) rfl rfl ?_; clear hf a; intro a hf
  refine mc_p rfl   hf (yv_move rfl) (.inl rfl) rfl rfl ?_; clear hf a; intro a hf
  refine mc_p rfl   hf (yv_move rfl) (gon rfl rfl rfl (by first | assumption | rfl | (simp; done) | (simp; omega))) rfl rfl ?_; clear hf a; intro a hf
  refine mc_p rfl   hf (yv_cast (yv_bin rfl rfl rfl) (show _ = Value.bool true from rfl)) (gon rfl rfl rfl (by first | assumption | rfl | (simp; done) | (simp; omega))) rfl rfl ?_; clear hf a; intro a hf
  refine mc_p rfl   hf (y_pt rfl rfl) (.inl rfl) rfl rfl ?_; clear hf a; intro a hf
  refine mc_p rfl   hf (yv_move rfl) (.inl rfl) rfl rfl ?_; clear hf a; intro a hf
  refine mc_q rfl rfl (AtE.of hh (List.nil_subset _)) hf (y_lds Try.ag_28 rfl) (gon rfl rfl rfl (by first | assumption | rfl | (simp; done) | (simp; omega))) rfl rfl ?_; clear hf a; intro a hf
  refine mc_e rfl fun Q1 => ?_
  refine o_call hf Try.en_33 rfl rfl rfl (p33 _ _ _) ?_; clear hf a; intro v a w hR hf
  obtain ⟨rfl, hx⟩ := hR; replace hh := hh.more hx; clear hx
  refine ops_end ?_
  refine then_n ⟨⟨fun _ _ => (AtE.of hh (List.nil_subset _)), trivial⟩, ?_⟩
  refine mc_p rfl   hf (yv_cast (yv_eqF [-52, -50] [-52, -50] fl28 rfl rfl) (congrArg Value.bool (show _ = true by simp))) (gon rfl rfl rfl (by first | assumption | rfl | (simp; done) | (simp; omega))) rfl rfl ?_; clear hf a; intro a hf
  refine mc_p rfl   hf (y_pt rfl rfl) (.inl rfl) rfl rfl ?_; clear hf a; intro a hf
  refine mc_p rfl   hf (yv_move rfl) (.inl rfl) rfl rfl ?_; clear hf a; intro a hf
  refine mc_q rfl rfl (AtE.of hh (List.nil_subset _)) hf (y_lds Try.ag_28 rfl) (gon rfl rfl rfl (by first | assumption | rfl | (simp; done) | (simp; omega))) rfl rfl ?_; clear hf a; intro a hf
  refine mc_e rfl fun Q1 => ?_
  refine o_call hf Try.en_33 rfl rfl rfl (p33 _ _ _) ?_; clear hf a; intro v a w hR hf
  obtain ⟨rfl, hx⟩ := hR; replace hh := hh.more hx; clear hx
  refine ops_end ?_
  refine then_n ⟨⟨fun _ _ => (AtE.of hh (List.nil_subset _)), trivial⟩, ?_⟩
  refine mc_p rfl   hf (yv_cast (yv_eqF [8, 10] [8, 10] fl28 rfl rfl) (congrArg Value.bool (show _ = true by simp))) (gon rfl rfl rfl (by first | assumption | rfl | (simp; done) | (simp; omega))) rfl rfl ?_; clear hf a; intro a hf
  refine mc_p rfl   hf (y_pt rfl rfl) (.inl rfl) rfl rfl ?_; clear hf a; intro a hf
  refine mc_p rfl   hf (yv_move rfl) (.inl rfl) rfl rfl ?_; clear hf a; intro a hf
  refine mc_p rfl   hf (yv_move rfl) (gon rfl rfl rfl (by first | assumption | rfl | (simp; done) | (simp; omega))) rfl rfl ?_; clear hf a; intro a hf
  refine mc_p rfl   hf (yv_cast (yv_bin rfl rfl rfl) (show _ = Value.bool true from rfl)) (gon rfl rfl rfl (by first | assumption | rfl | (simp; done) | (simp; omega))) rfl rfl ?_; clear hf a; intro a hf
  refine mc_p rfl   hf (y_pt rfl rfl) (.inl rfl) rfl rfl ?_; clear hf a; intro a hf
  refine mc_p rfl   hf (yv_move rfl) (.inl rfl) rfl rfl ?_; clear hf a; intro a hf
  refine mc_p rfl   hf (yv_move rfl) (gon rfl rfl rfl (by first | assumption | rfl | (simp; done) | (simp; omega))) rfl rfl ?_; clear hf a; intro a hf
  refine mc_p rfl   hf (yv_cast (yv_bin rfl rfl rfl) (show _ = Value.bool true from rfl)) (gon rfl rfl rfl (by first | assumption | rfl | (simp; done) | (simp; omega))) rfl rfl ?_; clear hf a; intro a hf
  refine mc_p rfl   hf (y_pt rfl rfl) (.inl rfl) rfl rfl ?_; clear hf a; intro a hf
  refine mc_p rfl   hf (yv_move rfl) (.inl rfl) rfl rfl ?_; clear hf a; intro a hf
  refine mc_p rfl   hf (yv_move rfl) (gon rfl rfl rfl (by first | assumption | rfl | (simp; done) | (simp; omega))) rfl rfl ?_; clear hf a; intro a hf
  refine mc_p rfl   hf (yv_cast (yv_bin rfl rfl rfl) (show _ = Value.bool true from rfl)) (gon rfl rfl rfl (by first | assumption | rfl | (simp; done) | (simp; omega))) rfl rfl ?_; clear hf a; intro a hf
  refine mc_p rfl   hf (y_pt rfl rfl) (.inl rfl) rfl rfl ?_; clear hf a; intro a hf
  refine mc_p rfl   hf (yv_move rfl) (.inl rfl) rfl rfl ?_; clear hf a; intro a hf
  refine mc_p rfl   hf (yv_move rfl) (gon rfl rfl rfl (by first | assumption | rfl | (simp; done) | (simp; omega))) rfl rfl ?_; clear hf a; intro a hf
  refine mc_p rfl   hf (yv_cast (yv_bin rfl rfl rfl) (show _ = Value.bool true from rfl)) (gon rfl rfl rfl (by first | assumption | rfl | (simp; done) | (simp; omega))) rfl rfl ?_; clear hf a; intro a hf
  refine mc_p rfl   hf (y_pt rfl rfl) (.inl rfl) rfl rfl ?_; clear hf a; intro a hf
  refine mc_p rfl   hf (yv_move rfl) (.inl rfl) rfl rfl ?_; clear hf a; intro a hf
  refine mc_p rfl   hf (yv_move rfl) (gon rfl rfl rfl (by first | assumption | rfl | (simp; done) | (simp; omega))) rfl rfl ?_; clear hf a; intro a hf
  refine mc_p rfl   hf (yv_cast (yv_bin rfl rfl rfl) (show _ = Value.bool true from rfl)) (gon rfl rfl rfl (by first | assumption | rfl | (simp; done) | (simp; omega))) rfl rfl ?_; clear hf a; intro a hf
  refine mc_p rfl   hf (y_pt rfl rfl) (.inl rfl) rfl rfl ?_; clear hf a; intro a hf
  refine mc_p rfl   hf (yv_move rfl) (.inl rfl) rfl rfl ?_; clear hf a; intro a hf
  refine mc_p rfl   hf (yv_move rfl) (gon rfl rfl rfl (by first | assumption | rfl | (simp; done) | (simp; omega))) rfl rfl ?_; clear hf a; intro a hf
  refine mc_p rfl   hf (yv_cast (yv_bin rfl rfl rfl) (show _ = Value.bool true from rfl)) (gon rfl rfl rfl (by first | assumption | rfl | (simp; done) | (simp; omega))) rfl rfl ?_; clear hf a; intro a hf
  refine mc_p rfl   hf (y_pt rfl rfl) (.inl rfl) rfl rfl ?_; clear hf a; intro a hf
  refine mc_p rfl   hf (yv_move rfl) (.inl rfl) rfl rfl ?_; clear hf a; intro a hf
  refine mc_p rfl   hf (yv_move rfl) (gon rfl rfl rfl (by first | assumption | rfl | (simp; done) | (simp; omega))) rfl rfl ?_; clear hf a; intro a hf
  refine mc_p rfl   hf (yv_cast (yv_bin rfl rfl rfl) (show _ = Value.bool true from rfl)) (gon rfl rfl rfl (by first | assumption | rfl | (simp; done) | (simp; omega))) rfl rfl ?_; clear hf a; intro a hf
  refine mc_p rfl   hf (y_pt rfl rfl) (.inl rfl) rfl rfl ?_; clear hf a; intro a hf
  refine mc_p rfl   hf (yv_assign rfl) (.inl rfl) rfl rfl ?_; clear hf a; intro a hf
  refine mc_end ?_
  refine then_n ?_
  refine sy_ret ?_
  refine ret_r hf rfl rfl ?_
  exact ⟨rfl, e3.trans hh.ext⟩
end Go.Proofs.Ytccjnjhlnpgocaa
namespace Go.Proofs.Ytccjnjhlnpgocaa
open Go Go.Sy Go.ChaM
theorem p51 (n : Nat) (hn : n ≤ 60) (u : World) : Calls Try.prog 51 #[.int .i64 (n : Nat)] u (Ret fun v w' => v = .int .i64 ((2 ^ n : Nat) : Int) ∧ Ext [] u w') := by
  refine calls_of Try.func51 rfl rfl (fun a hf => ?_)
  have hh := Hp.init u []
  refine sy_sq ?_
  refine o_v hf hh (yv_assign rfl) ?_; clear hf a; intro a hf
  refine o_end ?_
  refine sy_sq ?_
  refine o_v hf hh (yv_assign rfl) ?_; clear hf a; intro a hf
  refine o_end ?_
  refine sy_seq ?_
  refine sy_sq ?_
  refine o_v hf hh (yv_assign rfl) ?_; clear hf a; intro a hf
  refine o_end ?_
  refine sy_block ?_
  refine sy_loopF (σ := Nat) [3, 4, 5, 6, 7, 8, 9, 10, 11] (fun i => [(4, .int .i64 (i : Nat)), (3, .int .i64 ((2 ^ i : Nat) : Int))]) (fun i => i ≤ n) (fun i => n - i) (0) hf hh ?_ ?_ ?_
  · repeat' (first | exact True.intro | refine And.intro rfl ?_)
  · exact Nat.zero_le _
  ·rintro i a w hi hf hh
   refine sy_seq ?_
   refine sy_sq ?_
   refine o_v hf hh (yv_move rfl) ?_; clear hf a; intro a hf
   refine o_v hf hh (yv_move rfl) ?_; clear hf a; intro a hf
   refine o_v hf hh (yv_bin rfl rfl rfl) ?_; clear hf a; intro a hf
   refine o_end ?_
   refine sy_cond hf rfl (fun hg2 => ?_) (fun hg2 => ?_)
   ·have hG2 := hg2; try simp only [gS] at hG2
    refine sy_skip ?_
    refine then_n ?_
    refine sy_seq ?_
    refine sy_block ?_
    have hz2 : 2 ^ (i + 1) = 2 * 2 ^ i := by rw [Nat.pow_succ]; omega
    have hzb : 2 ^ i ≤ 2 ^ 60 := Nat.pow_le_pow_right (by decide) (by omega)
    obtain ⟨z, hz⟩ : ∃ z : Nat, z = 2 ^ i := ⟨_, rfl⟩
    rw [← hz] at hf hz2 hzb
    refine sy_ops ?_
    refine o_v hf hh (yv_move rfl) ?_; clear hf a; intro a hf
    refine ops_v hf hh (yv_cast (yv_mul rfl rfl (by omega) (by omega)) (intv (b := ((2 ^ (i + 1) : Nat) : Int)) (by rw [hz2]; omega))) (.inl rfl) rfl rfl rfl ?_; clear hf a; intro a hf
    refine o_v hf hh (yv_assign rfl) ?_; clear hf a; intro a hf
    refine ops_end ?_
    refine blk_n ?_
    refine then_n ?_
    refine sy_ops ?_
    refine o_v hf hh (yv_move rfl) ?_; clear hf a; intro a hf
    refine o_v hf hh (y_add rfl rfl) ?_; clear hf a; intro a hf
    refine o_v hf hh (yv_assign rfl) ?_; clear hf a; intro a hf
    refine ops_end ?_
    refine then_n ?_
    exact ⟨i + 1, ⟨by omega, (hf.head (by repeat' (first | exact True.intro | refine And.intro rfl ?_)) (Keep.cons rfl (Keep.cons rfl (Keep.cons rfl (Keep.cons rfl (Keep.cons rfl (Keep.cons rfl (Keep.cons rfl (Keep.cons rfl (Keep.cons rfl (Keep.app rfl (Keep.rm rfl Keep.base)))))))))))), hh⟩, by omega⟩
   ·have hG2 := hg2; try simp only [gS] at hG2
    refine sy_exit ?_
    refine then_e ?_
    refine then_e ?_
    refine blk_e ?_
    refine then_n ?_
    refine sy_sq ?_
    refine o_v hf hh (yv_move rfl) ?_; clear hf a; intro a hf
    refine o_v hf hh (yv_assign rfl) ?_; clear hf a; intro a hf
    refine o_end ?_
    refine sy_ret ?_
    refine ret_r hf rfl rfl ?_
    rw [show n = i by omega]
    exact ⟨rfl, hh.ext⟩
theorem has_bit (s i : Nat) : decide (((s / 2 ^ i % 2 : Nat) : Int) = 1) = s.testBit i := by
  rw [Nat.testBit_eq_decide_div_mod_eq, decide_eq_decide]; omega
theorem p66 (s i : Nat) (hs : s ≤ 9223372036854775807) (hi : i ≤ 60) (u : World) : Calls Try.prog 66 #[.int .i64 (s : Nat), .int .i64 (i : Nat)] u (Ret fun v w' => v = .bool (s.testBit i) ∧ Ext [] u w') := by
  refine calls_of Try.func66 rfl rfl (fun a hf => ?_)
  have hh := Hp.init u []
  have hp1 := Nat.one_le_two_pow (n := i)
  obtain ⟨q, hq⟩ : ∃ q : Nat, q = 2 ^ i := ⟨_, rfl⟩
  have k1 := fun w => p51 i hi w
  rw [← hq] at k1 hp1
  obtain ⟨r, hr⟩ : ∃ r : Nat, r = s / q := ⟨_, rfl⟩
  refine sy_sq ?_
  refine o_v hf hh (yv_assign rfl) ?_; clear hf a; intro a hf
  refine o_end ?_
  refine sy_sq ?_
  refine o_v hf hh (yv_move rfl) ?_; clear hf a; intro a hf
  refine o_v hf hh (yv_move rfl) ?_; clear hf a; intro a hf
  refine o_call hf Try.en_51 rfl rfl rfl (k1 _) ?_; clear hf a; intro v a w hR hf
  obtain ⟨rfl, hx⟩ := hR; replace hh := hh.more hx; clear hx
  refine ops_v hf hh (yv_cast (yv_quo rfl rfl (by omega) (by omega) (by omega)) (intv (b := ((r : Nat) : Int)) (by rw [hr, Int.natCast_ediv]))) (.inl rfl) rfl rfl rfl ?_; clear hf a; intro a hf
  refine ops_v hf hh (yv_cast (yv_rem rfl rfl (by omega) (by omega)) (intv (b := ((r % 2 : Nat) : Int)) (by omega))) (.inl rfl) rfl rfl rfl ?_; clear hf a; intro a hf
  refine o_v hf hh (yv_bin rfl rfl rfl) ?_; clear hf a; intro a hf
  refine o_v hf hh (yv_assign rfl) ?_; clear hf a; intro a hf
  refine o_end ?_
  refine sy_ret ?_
  refine ret_r hf rfl rfl ?_
  exact ⟨congrArg Value.bool (by rw [← has_bit, ← hq, ← hr]), hh.ext⟩
theorem p67 (s : SiD) (ax : Bool) (u : World) : Calls Try.prog 67 #[siV s, .bool ax] u (Ret fun v w' => v = spV (loA ax s, hiA ax s) ∧ Ext [] u w') := by
  refine calls_of Try.func67 rfl rfl (fun a hf => ?_)
  have hh := Hp.init u []
  refine sy_sq ?_
  refine o_box hf hh ?_; clear hf hh a; intro B2 a w hf hh
  refine o_alloc hf hh Try.ze_28 ?_; clear hf hh a; intro B4 a w hf hh
  refine o_end ?_
  refine sy_seq ?_
  refine sy_sq ?_
  refine o_v hf hh (yv_move rfl) ?_; clear hf a; intro a hf
  refine o_end ?_
  refine sy_cond hf rfl (fun hg2 => ?_) (fun hg2 => ?_)
  ·have hG2 := hg2; try simp only [gS] at hG2
   refine sy_sq ?_
   refine o_v hf hh (yv_fieldAddr Try.fo_46_3 rfl) ?_; clear hf a; intro a hf
   refine o_v hf hh (y_lds Try.ag_28 rfl) ?_; clear hf a; intro a hf
   refine o_store hf hh Try.sz_28 fun w hh => ?_
   refine o_end ?_
   refine sy_ret ?_
   refine then_r ?_
   refine ret_c (vs := [spV (loA ax s, hiA ax s)]) hf ?_ ?_
   first
     | (obtain rfl : ax = true := by assumption
        exact ⟨⟨B4, 0, _, _, _, rfl, hh.at (i := 0) rfl, .inr ⟨2, _, Try.ag_28, rfl, rfl⟩⟩, True.intro⟩)
     | (obtain rfl : ax = false := by assumption
        exact ⟨⟨B4, 0, _, _, _, rfl, hh.at (i := 0) rfl, .inr ⟨2, _, Try.ag_28, rfl, rfl⟩⟩, True.intro⟩)
   exact ⟨rfl, hh.ext⟩
  ·have hG2 := hg2; try simp only [gS] at hG2
   refine sy_skip ?_
   refine then_n ?_
   refine sy_sq ?_
   refine o_v hf hh (yv_fieldAddr Try.fo_46_2 rfl) ?_; clear hf a; intro a hf
   refine o_v hf hh (y_lds Try.ag_28 rfl) ?_; clear hf a; intro a hf
   refine o_store hf hh Try.sz_28 fun w hh => ?_
   refine o_end ?_
   refine sy_ret ?_
   refine ret_c (vs := [spV (loA ax s, hiA ax s)]) hf ?_ ?_
   first
     | (obtain rfl : ax = true := by assumption
        exact ⟨⟨B4, 0, _, _, _, rfl, hh.at (i := 0) rfl, .inr ⟨2, _, Try.ag_28, rfl, rfl⟩⟩, True.intro⟩)
     | (obtain rfl : ax = false := by assumption
        exact ⟨⟨B4, 0, _, _, _, rfl, hh.at (i := 0) rfl, .inr ⟨2, _, Try.ag_28, rfl, rfl⟩⟩, True.intro⟩)
   exact ⟨rfl, hh.ext⟩
theorem p48 (c : ChD) (sa : Option Addr) (cp : Nat) (hl : c.si.length ≤ 40) (u : World) : Calls Try.prog 48 #[.agg (chC c sa cp)] u (Ret fun v w' => v = .int .i64 ((2 ^ c.si.length - 1 : Nat) : Int) ∧ Ext [] u w') := by
  refine calls_of Try.func48 rfl rfl (fun a hf => ?_)
  have hh := Hp.init u []
  have hp1 := Nat.one_le_two_pow (n := c.si.length)
  have hp2 : 2 ^ c.si.length ≤ 2 ^ 40 := Nat.pow_le_pow_right (by omega) hl
  refine sy_sq ?_
  refine o_box hf hh ?_; clear hf hh a; intro B1 a w hf hh
  refine o_v hf hh (yv_assign rfl) ?_; clear hf a; intro a hf
  refine o_end ?_
  refine sy_sq ?_
  refine o_v hf hh (yv_fieldAddr Try.fo_24_1 rfl) ?_; clear hf a; intro a hf
  refine o_v hf hh (y_ld Try.sc_22 rfl) ?_; clear hf a; intro a hf
  refine o_v hf hh (yv_len Try.se_22 rfl) ?_; clear hf a; intro a hf
  refine o_call hf Try.en_51 rfl rfl rfl (p51 c.si.length (by omega) _) ?_; clear hf a; intro v a w hR hf
  obtain ⟨rfl, hx⟩ := hR; replace hh := hh.more hx; clear hx
  refine ops_v hf hh (yv_cast (yv_sub rfl rfl (by omega) (by omega)) (intv (b := ((2 ^ c.si.length - 1 : Nat) : Int)) (by omega))) (.inl rfl) rfl rfl rfl ?_; clear hf a; intro a hf
  refine o_v hf hh (yv_assign rfl) ?_; clear hf a; intro a hf
  refine o_end ?_
  refine sy_ret ?_
  refine ret_r hf rfl rfl ?_
  exact ⟨rfl, hh.ext⟩
theorem p46 (c : ChD) (sa : Option Addr) (cp : Nat) (x : Int) (hn : 1 ≤ c.n ∧ c.n ≤ 8) (u : World) : Calls Try.prog 46 #[.agg (chC c sa cp), .int .i64 x] u (Ret fun v w' => v = .bool (stB c x) ∧ Ext [] u w') := by
  refine calls_of Try.func46 rfl rfl (fun a hf => ?_)
  have hh := Hp.init u []
  refine sy_sq ?_
  refine o_box hf hh ?_; clear hf hh a; intro B2 a w hf hh
  refine o_v hf hh (yv_assign rfl) ?_; clear hf a; intro a hf
  refine o_end ?_
  refine sy_sq ?_
  refine o_v hf hh (yv_move rfl) ?_; clear hf a; intro a hf
  refine o_v hf hh (yv_fieldAddr Try.fo_24_0 rfl) ?_; clear hf a; intro a hf
  refine o_v hf hh (y_ld Try.sc_3 rfl) ?_; clear hf a; intro a hf
  refine o_v hf hh (y_sub rfl rfl) ?_; clear hf a; intro a hf
  refine o_call hf Try.en_58 rfl rfl rfl (p58 _ _ _ _) ?_; clear hf a; intro v a w hR hf
  obtain ⟨rfl, hx⟩ := hR; replace hh := hh.more hx; clear hx
  refine o_v hf hh (yv_assign rfl) ?_; clear hf a; intro a hf
  refine o_end ?_
  refine sy_ret ?_
  refine ret_r hf rfl rfl ?_
  exact ⟨rfl, hh.ext⟩
end Go.Proofs.Ytccjnjhlnpgocaa
namespace Go.ChaM
open Go Go.Sy
structure ChIn (w : World) (c : ChD) (sa : Option Addr) : Prop where
  at_ : TAt 6 siC w sa c.si
  n : I64 c.n
  s : ∀ s ∈ c.si, SiI s
theorem ChIn.at {w : World} {c : ChD} {sa : Option Addr} (h : ChIn w c sa) (hl : ¬ 40 < c.si.length) : ChAt w c sa := ⟨h.at_, h.n, by omega, h.s⟩
theorem st_of {c : ChD} (hO : ChOk c) {i : Nat} (hi : i < c.n.toNat) : (stB c 0 && stB c (i : Int)) = true := by
  have := hO.n1
  unfold stB inC; simp only [Bool.and_eq_true, decide_eq_true_eq]; omega
theorem drw_12 {c : ChD} (hO : ChOk c) (hw : wrL c = []) : ∀ k, k ≤ c.n.toNat → drwG c k = 0 ∨ drwG c k = 12
  | 0, _ => .inl rfl
  | k + 1, hk => by
    rw [drwG]
    split
    · unfold betE
      rw [if_neg (by rw [chB_iff.2 hO]; decide), if_neg (by rw [st_of hO (by omega)]; decide), if_neg (by rw [hw]; simp)]
      split
      · exact .inr rfl
      · exact .inl rfl
    · exact drw_12 hO hw k (by omega)
theorem why_e {c : ChD} (h : chB c = true) : whyE c = if wrL c = [] then 0 else 11 := by unfold whyE; rw [if_neg (by rw [h]; decide)]
theorem drw_bad {c : ChD} (h : drwE c ≠ 0) : (drwL c).length = 0 ∧ ((drwE c = 1 ∧ chB c = false ∧ whyE c = 1) ∨ (chB c = true ∧ drwE c = 4 ∧ whyE c = 11) ∨ (chB c = true ∧ drwE c = 12 ∧ whyE c = 0)) := by
  refine ⟨by rw [drwL_no rfl h]; rfl, ?_⟩
  cases hb : chB c with
  | false => exact .inl ⟨drwE1 hb, rfl, by unfold whyE; rw [if_pos hb]⟩
  | true =>
    right
    have hO := chB_iff.1 hb
    have h1 := hO.n1
    rw [why_e hb]
    by_cases hw : wrL c = []
    · right
      refine ⟨rfl, ?_, if_pos hw⟩
      have h2 : drwE c = drwG c c.n.toNat := by unfold drwE; rw [if_neg (by rw [hb]; decide)]
      rcases drw_12 hO hw c.n.toNat (Nat.le_refl _) with h3 | h3
      · exact absurd (h2.trans h3) h
      · exact h2.trans h3
    · left
      refine ⟨rfl, drwE_at hb (i := 0) (by omega) rfl ?_ (by decide), if_neg hw⟩
      unfold betE
      rw [if_neg (by rw [hb]; decide), if_neg (by rw [st_of hO (i := 0) (by omega)]; decide), if_pos hw]
theorem drw_good {c : ChD} (h : drwE c = 0) : chB c = true ∧ whyE c = 0 ∧ ChOk c ∧ wrL c = [] ∧ (∀ i : Nat, i < c.n.toNat → betE c 0 (i : Int) = 0) ∧ (drwL c).length = c.n.toNat ∧ (∀ i, i < c.n.toNat → (drwL c)[i]? = some (drwP c i)) ∧ drwP c 0 = (0, 0) := by
  have hb : chB c = true := by
    cases hb : chB c with
    | false => rw [drwE1 hb] at h; cases h
    | true => rfl
  have hO := chB_iff.1 hb
  have h1 := hO.n1
  have h2 : drwG c c.n.toNat = 0 := by unfold drwE at h; rw [if_neg (by rw [hb]; decide)] at h; exact h
  have h3 : ∀ i : Nat, i < c.n.toNat → betE c 0 (i : Int) = 0 := drwG_zero.1 h2
  obtain ⟨_, hw, _⟩ := bet_ok (h3 0 (by omega))
  refine ⟨hb, by rw [why_e hb, if_pos hw], hO, hw, h3, by rw [drwL_ok h]; simp, fun i hi => ?_, ?_⟩
  · rw [drwL_ok h, List.getElem?_map, List.getElem?_range hi]; rfl
  · have e := h3 0 (by omega)
    show ((betV c false 0 ((0 : Nat) : Int)).1, (betV c true 0 ((0 : Nat) : Int)).1) = (0, 0)
    rw [show ((0 : Nat) : Int) = 0 from rfl] at e ⊢
    rw [bet_self e, bet_self e]
theorem drwP_bd {c : ChD} (hO : ChOk c) {i : Nat} (h : betE c 0 (i : Int) = 0) : (-1099511627776 ≤ (drwP c i).1 ∧ (drwP c i).1 ≤ 1099511627776) ∧ -1099511627776 ≤ (drwP c i).2 ∧ (drwP c i).2 ≤ 1099511627776 := by
  have h1 := bndV_bd hO false noneS i 0
  have h2 := bndV_bd hO true noneS i 0
  rw [drwP_of h]
  simp only
  omega
theorem drw_in {c : ChD} (h : drwE c = 0) {s : SiD} (hs : s ∈ c.si) : inC ((drwP c s.to.toNat).1 - (drwP c s.fr.toNat).1) s.el s.eh = true ∧ inC ((drwP c s.to.toNat).2 - (drwP c s.fr.toNat).2) s.nl s.nh = true := by
  obtain ⟨_, _, hO, _, hB, _⟩ := drw_good h
  have h1 := drw_right hB hO false s hs
  have h2 := drw_right hB hO true s hs
  unfold Right at h1 h2
  unfold inC
  simp only [Bool.and_eq_true, decide_eq_true_eq]
  exact ⟨h1, h2⟩
theorem t_pick {α : Type} {n : Nat} {enc : α → List Value} {w : World} {B off : Nat} {l : List α} (h : TAt n enc w (some ⟨B, off, none⟩) l) {cc : Array Value} {T : TypeId} {fr : Nat × Nat} (hb : w.heap[B]? = some (.cells cc T fr)) {i : Nat} {s : α} (hs : l[i]? = some s) : cellsAt cc (off + ((i : Nat) : Int).toNat * n) n = some (enc s) := by
  obtain ⟨_, _, _, _, _, e1, hb1, hc1⟩ := h i s hs
  cases e1
  rw [hb] at hb1
  cases hb1
  exact hc1
theorem sp_pick {w : World} {B off : Nat} {l : List (Int × Int)} (h : TAt 2 spC w (some ⟨B, off, none⟩) l) {cc : Array Value} {T : TypeId} {fr : Nat × Nat} (hb : w.heap[B]? = some (.cells cc T fr)) {i : Nat} {s : Int × Int} (hs : l[i]? = some s) : cc[off + ((i : Nat) : Int).toNat * 2]? = some (.int .i64 s.1) ∧ cc[off + ((i : Nat) : Int).toNat * 2 + 1]? = some (.int .i64 s.2) := by
  have := (cellsAt_get 2 _ _ (t_pick h hb hs)).2
  exact ⟨this 0 _ rfl, this 1 _ rfl⟩
end Go.ChaM
namespace Go.ChaM
open Go Go.Sy
theorem why_bad {c : ChD} (h : chB c = false) : whyE c = 1 ∧ whyV c = 0 := by unfold whyE whyV; rw [if_pos h, if_pos h]; exact ⟨rfl, rfl⟩
theorem why_v {c : ChD} (h : chB c = true) : whyV c = bst (wrL c) := by unfold whyV; rw [if_neg (by rw [h]; decide)]
theorem why_two {c : ChD} (h : chB c = true) : (whyE c = 0 ∧ whyV c = 0 ∧ wrL c = []) ∨ (whyE c = 11 ∧ wrL c ≠ [] ∧ 0 < whyV c) := by
  rw [why_e h, why_v h]
  by_cases hw : wrL c = []
  · left; rw [if_pos hw, hw]; exact ⟨rfl, rfl, rfl⟩
  · right; rw [if_neg hw]; exact ⟨rfl, hw, Nat.pos_of_ne_zero (wr_lt (bst_mem hw)).2⟩
theorem why_lt {c : ChD} (h : chB c = true) : whyV c < 2 ^ c.si.length := by
  rw [why_v h]
  by_cases hw : wrL c = []
  · rw [hw]; exact Nat.two_pow_pos _
  · exact (wr_lt (bst_mem hw)).1
theorem part_chB {c : ChD} (h : chB c = true) (S : Nat → Bool) : chB (partC c S) = true := chB_iff.2 (part_ok (chB_iff.1 h) S)
theorem part_len2 {c : ChD} (h : chB c = true) {s : Nat} (hs : s < 2 ^ c.si.length) : (partC c s.testBit).si.length = pc s := by
  rw [(part_len c s.testBit).1, pc_count c.si.length (by have := (chB_iff.1 h).l; omega) hs]; rfl
theorem own_two {c : ChD} (h : chB c = true) (hw : wrL c ≠ []) : whyE (partC c (whyV c).testBit) = 11 ∧ whyV (partC c (whyV c).testBit) = 2 ^ pc (whyV c) - 1 := by
  have hO := chB_iff.1 h
  obtain ⟨h1, h2⟩ := why_own hO hw
  have h3 := part_chB h (whyV c).testBit
  have hs := why_lt h
  rw [why_e h3, why_v h3, ← part_len2 h hs]
  rw [why_v h]
  exact ⟨if_neg h1, h2⟩
theorem less_bit (s i k : Nat) : (s ^^^ (s &&& 2 ^ i)).testBit k = (s.testBit k && !decide (i = k)) := by
  rw [Nat.testBit_xor, Nat.testBit_and, Nat.testBit_two_pow]
  cases s.testBit k <;> cases decide (i = k) <;> rfl
theorem less_two {c : ChD} (h : chB c = true) (hw : wrL c ≠ []) {i : Nat} (hi : (whyV c).testBit i = true) : whyE (partC c (whyV c ^^^ (whyV c &&& 2 ^ i)).testBit) = 0 := by
  have hO := chB_iff.1 h
  rw [why_e (part_chB h _), if_pos]
  rw [why_v h] at hi ⊢
  refine (part_can hO).2 (why_less hO hw (fun k hk => ?_) hi ?_)
  · rw [less_bit] at hk
    simp only [Bool.and_eq_true] at hk
    exact hk.1
  · rw [less_bit]; simp
theorem some_two {c : ChD} (h : chB c = true) {s : Nat} (hs : s < 2 ^ c.si.length) : whyE (partC c s.testBit) = 0 ∨ (whyE (partC c s.testBit) = 11 ∧ whyE c = 11 ∧ (pc (whyV c) < pc s ∨ (pc (whyV c) = pc s ∧ whyV c ≤ s))) := by
  have hO := chB_iff.1 h
  rw [why_e (part_chB h _)]
  by_cases hp : wrL (partC c s.testBit) = []
  · left; rw [if_pos hp]
  · right
    obtain ⟨h1, h2⟩ := why_best hO hs (fun hC => hp ((part_can hO).2 hC))
    rw [if_neg hp, why_e h, if_neg h1, why_v h]
    refine ⟨rfl, rfl, ?_⟩
    rcases h2 with h2 | h2 | h2
    · right; rw [h2]; exact ⟨rfl, Nat.le_refl _⟩
    · exact .inl h2
    · exact .inr ⟨h2.1, by omega⟩
theorem pc_ten {c : ChD} (h : chB c = true) {s : Nat} (hs : s < 2 ^ c.si.length) : pc s ≤ 10 := by
  rw [← part_len2 h hs]
  have := (part_len c s.testBit); have := (chB_iff.1 h).l
  omega
theorem pow_ten {n : Nat} (h : n ≤ 10) : 2 ^ n ≤ 1024 ∧ 1 ≤ 2 ^ n := ⟨Nat.le_trans (Nat.pow_le_pow_right (by omega) h) (by decide), Nat.one_le_two_pow⟩
theorem and_all (z : Nat) (n : Nat) : z &&& (2 ^ n - 1) < 2 ^ n := Nat.lt_of_le_of_lt Nat.and_le_right (by have := Nat.one_le_two_pow (n := n); omega)
end Go.ChaM
namespace Go.ChaM
open Go Go.Sy
theorem wid_self (c : ChD) : Wid c c := ⟨rfl, Nat.le_refl _, fun _ s h => ⟨s, h, fun _ _ h => h⟩⟩
theorem can_congr2 {c : ChD} (hO : ChOk c) {S S' : Nat → Bool} (h : ∀ i, i < c.si.length → S i = S' i) : Can c S ↔ Can c S' :=
  ⟨wid_can hO hO (wid_self c) (fun i hi e => by rw [h i hi]; exact e), wid_can hO hO (wid_self c) (fun i hi e => by rw [← h i hi]; exact e)⟩
def offN (n s : Nat) : Nat := (2 ^ n - 1) ^^^ ((2 ^ n - 1) &&& s)
theorem off_bit {n s k : Nat} (h : k < n) : (offN n s).testBit k = !s.testBit k := by
  unfold offN
  rw [Nat.testBit_xor, Nat.testBit_and, Nat.testBit_two_pow_sub_one, decide_eq_true h]
  cases s.testBit k <;> rfl
theorem off_lt (n s : Nat) : offN n s < 2 ^ n := by
  have h : 2 ^ n - 1 < 2 ^ n := by have := Nat.one_le_two_pow (n := n); omega
  exact Nat.xor_lt_two_pow h (Nat.lt_of_le_of_lt Nat.and_le_left h)
theorem drp_bad {c : ChD} (h : chB c = false) : drpE c = 1 ∧ drpV c = 0 := by unfold drpE drpV; rw [if_pos h, if_pos h]; exact ⟨rfl, rfl⟩
theorem drp_good {c : ChD} (h : chB c = true) : drpE c = 0 ∧ drpV c = bst (drpL c) := by unfold drpE drpV; rw [if_neg (by rw [h]; decide), if_neg (by rw [h]; decide)]; exact ⟨rfl, rfl⟩
theorem drp_lt {c : ChD} (h : chB c = true) : drpV c < 2 ^ c.si.length := by rw [(drp_good h).2]; exact (drp_best (chB_iff.1 h)).1
theorem drp_iff {c : ChD} (h : chB c = true) : (drpV c = 0 ∧ whyE c = 0) ∨ (0 < drpV c ∧ whyE c = 11 ∧ drpV c &&& whyV c ≠ 0) := by
  have hO := chB_iff.1 h
  have hb := drp_best hO
  rcases why_two h with ⟨h1, h2, h3⟩ | ⟨h1, h2, h3⟩
  · exact .inl ⟨by rw [(drp_good h).2]; exact drp_zero h3, h1⟩
  · right
    have hz : drpV c ≠ 0 := fun e => by
      rw [(drp_good h).2] at e
      have := hb.2.1
      rw [e] at this
      exact h2 ((can_all hO).1 ((can_congr2 hO (fun i _ => by rw [Nat.zero_testBit]; rfl)).1 this))
    refine ⟨Nat.pos_of_ne_zero hz, h1, ?_⟩
    have hh := (hit_can hO).2 hb.2.1
    unfold hitB at hh
    rw [List.all_eq_true] at hh
    have := hh _ (bst_mem h2)
    rw [(drp_good h).2, why_v h, Nat.and_comm]
    simpa using this
theorem off_part {c : ChD} (h : chB c = true) (s : Nat) : whyE (partC c (offN c.si.length s).testBit) = 0 ↔ Can c (fun i => !s.testBit i) := by
  have hO := chB_iff.1 h
  rw [why_e (part_chB h _), ← can_congr2 hO (S := (offN c.si.length s).testBit) (fun i hi => off_bit hi), ← part_can hO]
  constructor
  · intro e
    split at e
    · assumption
    · cases e
  · intro e; rw [if_pos e]
theorem drp_own {c : ChD} (h : chB c = true) : whyE (partC c (offN c.si.length (drpV c)).testBit) = 0 := by
  rw [off_part h, (drp_good h).2]
  exact (drp_best (chB_iff.1 h)).2.1
theorem drp_some {c : ChD} (h : chB c = true) {s : Nat} (hs : s < 2 ^ c.si.length) (he : whyE (partC c (offN c.si.length s).testBit) = 0) : pc (drpV c) < pc s ∨ (pc (drpV c) = pc s ∧ drpV c ≤ s) := by
  rw [off_part h] at he
  rw [(drp_good h).2]
  rcases (drp_best (chB_iff.1 h)).2.2 s hs he with h1 | h1 | h1
  · right; rw [h1]; exact ⟨rfl, Nat.le_refl _⟩
  · exact .inl h1
  · exact .inr ⟨h1.1, by omega⟩
end Go.ChaM
namespace Go.ChaM
open Go Go.Sy
theorem part_congr {c : ChD} {S S' : Nat → Bool} (h : ∀ i, i < c.si.length → S i = S' i) : partC c S = partC c S' := by
  unfold partC ixL
  rw [List.filter_congr (q := S') fun i hi => h i (List.mem_range.1 hi)]
def lessC (c : ChD) (i : Nat) : ChD := partC c fun k => !decide (k = i)
theorem offp (c : ChD) (i : Nat) : partC c (offN c.si.length (2 ^ i)).testBit = lessC c i := part_congr fun k hk => by
  rw [off_bit hk, Nat.testBit_two_pow]
  by_cases h : i = k
  · subst h; simp
  · rw [decide_eq_false h, decide_eq_false (fun e => h e.symm)]
theorem idl_e {c : ChD} (h : idlE c ≠ 0) : idlV c = 0 ∧ ((chB c = false ∧ idlE c = 1 ∧ whyE c = 1) ∨ (chB c = true ∧ idlE c = 4 ∧ whyE c = 11)) := by
  refine ⟨by unfold idlV; rw [if_neg h], ?_⟩
  unfold idlE at h ⊢
  cases hb : chB c with
  | false => exact .inl ⟨rfl, if_pos rfl, (why_bad hb).1⟩
  | true =>
    right
    rw [hb] at h
    rw [if_neg (by decide)] at h ⊢
    by_cases hw : wrL c = []
    · rw [if_neg (by simp [hw])] at h; exact absurd rfl h
    · rw [if_pos hw, why_e hb, if_neg hw]; exact ⟨rfl, rfl, rfl⟩
theorem idl_v {c : ChD} (h : idlE c = 0) : chB c = true ∧ ChOk c ∧ wrL c = [] ∧ idlV c < 2 ^ c.si.length ∧ ∀ i, i < c.si.length → (idlV c).testBit i = idlB c i := by
  obtain ⟨hO, hw⟩ := idl_ok h
  have e : idlV c = bitN (idlB c) c.si.length := by unfold idlV; rw [if_pos h]
  refine ⟨chB_iff.2 hO, hO, hw, by rw [e]; exact bitN_lt _ _, fun i hi => ?_⟩
  rw [e, bitN_bit, decide_eq_true hi, Bool.true_and]
theorem bet_two {c : ChD} (hO : ChOk c) (hw : wrL c = []) {x y : Int} (hx : stB c x = true) (hy : stB c y = true) : betE c x y = 0 ∨ betE c x y = 12 := by
  unfold betE
  rw [if_neg (by rw [chB_iff.2 hO]; decide), if_neg (by rw [hx, hy]; decide), if_neg (by rw [hw]; simp)]
  split
  · exact .inr rfl
  · exact .inl rfl
theorem pair_dec (p q : Int × Int) : decide ([p.1, p.2] = [q.1, q.2]) = decide (p = q) := by
  rw [decide_eq_decide]
  constructor
  · intro h; injection h with h1 h2; injection h2 with h2; exact Prod.ext h1 h2
  · intro h; rw [h]
structure IdlS (c : ChD) (i : Nat) (s : SiD) : Prop where
  own : betE c s.fr s.to = 0
  e : (decide (s.el ≤ (betV c false s.fr s.to).1) && decide ((betV c false s.fr s.to).2 ≤ s.eh)) = true
  n : (decide (s.nl ≤ (betV c true s.fr s.to).1) && decide ((betV c true s.fr s.to).2 ≤ s.nh)) = true
  yes : idlB c i = true → betE (lessC c i) s.fr s.to = 0 ∧ ∀ x y, betE (lessC c i) x y = betE c x y ∧ ∀ a, betV (lessC c i) a x y = betV c a x y
  no : idlB c i = false → betE (lessC c i) s.fr s.to = 0 → betV (lessC c i) false s.fr s.to = betV c false s.fr s.to → betV (lessC c i) true s.fr s.to = betV c true s.fr s.to → False
  two : betE (lessC c i) s.fr s.to = 0 ∨ betE (lessC c i) s.fr s.to = 12
theorem idl_s {c : ChD} (hO : ChOk c) (hw : wrL c = []) {i : Nat} {s : SiD} (hs : c.si[i]? = some s) : IdlS c i s := by
  obtain ⟨h1, h2⟩ := own_span hO hw hs
  have e := h2 false; have n := h2 true
  have ho := hO.s s (List.mem_of_getElem? hs)
  have k1 := ho.f0; have k2 := ho.f1; have k3 := ho.t0; have k4 := ho.t1
  have hf : stB (lessC c i) s.fr = true := by show inC s.fr 0 (c.n - 1) = true; unfold inC; simp only [Bool.and_eq_true, decide_eq_true_eq]; omega
  have ht : stB (lessC c i) s.to = true := by show inC s.to 0 (c.n - 1) = true; unfold inC; simp only [Bool.and_eq_true, decide_eq_true_eq]; omega
  refine ⟨h1, by simp only [Bool.and_eq_true, decide_eq_true_eq]; exact e, by simp only [Bool.and_eq_true, decide_eq_true_eq]; exact n, fun hi => ?_, fun hi hz e1 e2 => ?_, bet_two (part_ok hO _) (less_wr hO hw) hf ht⟩
  · have hp := fun x y => idl_part hO hw hs ((idl_at hs).1 hi) x y
    exact ⟨by rw [← h1]; exact (hp s.fr s.to).1.symm, fun x y => ⟨(hp x y).1.symm, fun a => ((hp x y).2 a).symm⟩⟩
  · have := (idl_at hs).2 fun a => idl_not hO hw hs hz (fun a => by cases a; exact e1; exact e2) a
    rw [hi] at this; cases this
end Go.ChaM
namespace Go.ChaM
open Go Go.Sy
def nrw (q4 q8 : Int) (s : SiD) : SiD := ⟨s.fr, s.to, min s.eh (s.el + q4), s.eh, s.nl, max s.nl (s.nh - q8)⟩
def setC (c : ChD) (j : Nat) (t : SiD) : ChD := ⟨c.n, c.si.set j t⟩
structure MoreS (c d : ChD) : Prop where
  wid : Wid c d
  link : ∀ (i : Nat) (s : SiD), c.si[i]? = some s → ∃ s' : SiD, d.si[i]? = some s' ∧ s'.fr = s.fr ∧ s'.to = s.to
theorem more_add (c : ChD) (s : SiD) : MoreS c (addC c s) := by
  have h : ∀ (i : Nat) (x : SiD), c.si[i]? = some x → (addC c s).si[i]? = some x := fun i x hi => by
    show (c.si ++ [s])[i]? = some x
    rw [List.getElem?_append_left (len_of hi)]; exact hi
  exact ⟨⟨rfl, by show c.si.length ≤ (c.si ++ [s]).length; simp, fun i x hi => ⟨x, h i x hi, fun _ _ hr => hr⟩⟩, fun i x hi => ⟨x, h i x hi, rfl, rfl⟩⟩
theorem nrw_right {n : Int} {s : SiD} (ho : SiOk n s) {q4 q8 : Int} (h4 : 0 ≤ q4) (h8 : 0 ≤ q8) {a : Bool} {p : Nat → Int} (h : Right a p (nrw q4 q8 s)) : Right a p s := by
  have m1 := ho.m false; have m2 := ho.m true
  unfold Right at h ⊢
  cases a with
  | false =>
    simp only [loA, hiA, nrw, Bool.false_eq_true, if_false] at h m1 ⊢
    omega
  | true =>
    simp only [loA, hiA, nrw, if_true] at h m2 ⊢
    omega
theorem more_set {c : ChD} (hO : ChOk c) {j : Nat} {s : SiD} (hs : c.si[j]? = some s) {q4 q8 : Int} (h4 : 0 ≤ q4) (h8 : 0 ≤ q8) : MoreS c (setC c j (nrw q4 q8 s)) := by
  have key : ∀ (i : Nat) (x : SiD), c.si[i]? = some x → ∃ x' : SiD, (setC c j (nrw q4 q8 s)).si[i]? = some x' ∧ (x' = x ∨ (x = s ∧ x' = nrw q4 q8 s)) := fun i x hi => by
    show ∃ x' : SiD, (c.si.set j (nrw q4 q8 s))[i]? = some x' ∧ _
    by_cases h : j = i
    · subst h
      rw [hs] at hi; cases hi
      exact ⟨_, by rw [List.getElem?_set_self (len_of hs)], .inr ⟨rfl, rfl⟩⟩
    · exact ⟨x, by rw [List.getElem?_set_ne h]; exact hi, .inl rfl⟩
  refine ⟨⟨rfl, by show c.si.length ≤ (c.si.set j (nrw q4 q8 s)).length; rw [List.length_set]; exact Nat.le_refl _, fun i x hi => ?_⟩, fun i x hi => ?_⟩
  · obtain ⟨x', h1, h2⟩ := key i x hi
    refine ⟨x', h1, fun a p hr => ?_⟩
    rcases h2 with rfl | ⟨rfl, rfl⟩
    · exact hr
    · exact nrw_right (hO.s _ (List.mem_of_getElem? hs)) h4 h8 hr
  · obtain ⟨x', h1, h2⟩ := key i x hi
    rcases h2 with rfl | ⟨rfl, rfl⟩
    · exact ⟨x', h1, rfl, rfl⟩
    · exact ⟨_, h1, rfl, rfl⟩
theorem more_pc {c d : ChD} (hc : chB c = true) (hd : chB d = true) (hM : MoreS c d) : pc (drpV c) ≤ pc (drpV d) := by
  rw [(drp_good hc).2, (drp_good hd).2]
  exact wid_drop (chB_iff.1 hc) (chB_iff.1 hd) hM.wid
theorem more_bet {c d : ChD} (hc : chB c = true) (hd : chB d = true) (hM : MoreS c d) (x y : Int) : (betE c x y = 0 → betE d x y = 0 ∨ betE d x y = 4) ∧ (betE d x y = 0 → betE c x y = 0 ∨ betE c x y = 12) ∧ (betE c x y = 0 → betE d x y = 0 → ∀ a, (decide ((betV c a x y).1 ≤ (betV d a x y).1) && decide ((betV d a x y).2 ≤ (betV c a x y).2)) = true) := by
  have hO := chB_iff.1 hc; have hO' := chB_iff.1 hd
  have hn : c.n = d.n := hM.wid.1
  refine ⟨fun h => ?_, fun h => ?_, fun h h' a => ?_⟩
  · obtain ⟨_, _, hx, hy, _⟩ := bet_ok h
    by_cases hw : wrL d = []
    · exact .inl (link_bet hO' hn hM.link h hw)
    · right
      have hx' : stB d x = true := by unfold stB at hx ⊢; rw [← hn]; exact hx
      have hy' : stB d y = true := by unfold stB at hy ⊢; rw [← hn]; exact hy
      unfold betE
      rw [if_neg (by rw [hd]; decide), if_neg (by rw [hx', hy']; decide), if_pos hw]
  · obtain ⟨_, hw, hx, hy, _⟩ := bet_ok h
    exact bet_two hO (wid_wr hO hO' hM.wid hw) (by unfold stB at hx ⊢; rw [hn]; exact hx) (by unfold stB at hy ⊢; rw [hn]; exact hy)
  · simp only [Bool.and_eq_true, decide_eq_true_eq]
    exact wid_span hM.wid h h' a
theorem cells_mk : ∀ {vs : List Value} {c : Array Value} {o : Nat}, (∀ r v, vs[r]? = some v → c[o + r]? = some v) → cellsAt c o vs.length = some vs
  | [], _, _, _ => rfl
  | v :: vs, c, o, h => by
    have h0 := h 0 v rfl
    have ih := cells_mk (vs := vs) (c := c) (o := o + 1) (fun r x hr => by have := h (r + 1) x hr; rw [show o + 1 + r = o + (r + 1) by omega]; exact this)
    rw [Nat.add_zero] at h0
    show cellsAt c o (vs.length + 1) = _
    rw [cellsAt, h0, ih]
theorem spl_get {c : Array Value} {k : Nat} {v : Value} (h : k < c.size) (p : Nat) : (spl c k [v])[p]? = if p = k then some v else c[p]? := by
  rw [spl_one c v h, Array.getElem?_setIfInBounds]
  by_cases e : k = p
  · subst e; rw [if_pos rfl, if_pos rfl, if_pos h]
  · rw [if_neg e, if_neg (fun x => e x.symm)]
theorem spl_size {c : Array Value} {k : Nat} {v : Value} (h : k < c.size) : (spl c k [v]).size = c.size := by rw [spl_one c v h, Array.size_setIfInBounds]
theorem si_set {cur c2 c3 : Array Value} {l : List SiD} {j : Nat} {s t : SiD} (hs : l[j]? = some s) (hsz : l.length * 6 ≤ cur.size) (hT : ∀ (i : Nat) (x : SiD), l[i]? = some x → cellsAt cur (0 + ((i : Nat) : Int).toNat * 6) 6 = some (siC x))
    (h2 : c2 = spl cur (0 + ((j : Nat) : Int).toNat * 6 + 2) [.int .i64 t.el]) (h3 : c3 = spl c2 (0 + ((j : Nat) : Int).toNat * 6 + 4 + 1) [.int .i64 t.nh])
    (e1 : t.fr = s.fr) (e2 : t.to = s.to) (e3 : t.eh = s.eh) (e4 : t.nl = s.nl) {w : World} {B : Nat} {e : TypeId} (hw : w.heap[B]? = some (.cells c3 e (0, 0))) : TAt 6 siC w (some ⟨B, 0, none⟩) (l.set j t) := fun i x hi => by
  have hj := len_of hs
  rw [Int.toNat_natCast] at h2 h3
  have z2 : 0 + j * 6 + 2 < cur.size := by omega
  have z3 : 0 + j * 6 + 4 + 1 < c2.size := by rw [h2, spl_size z2]; omega
  have G : ∀ p, c3[p]? = if p = 0 + j * 6 + 4 + 1 then some (.int .i64 t.nh) else if p = 0 + j * 6 + 2 then some (.int .i64 t.el) else cur[p]? := fun p => by
    rw [h3, spl_get z3, h2, spl_get z2]
  refine ⟨B, 0, c3, e, (0, 0), rfl, hw, ?_⟩
  refine cells_mk (vs := siC x) fun r v hr => ?_
  have hr6 : r < 6 := len_of hr
  rw [Int.toNat_natCast, G]
  by_cases h : j = i
  · subst h
    rw [List.getElem?_set_self hj] at hi
    cases hi
    have hold := (cellsAt_get 6 _ _ (hT j s hs)).2 r
    rw [Int.toNat_natCast] at hold
    match r, hr, hold with
    | 0, hr, hold => rw [if_neg (by omega), if_neg (by omega), hold _ rfl, ← hr, ← e1]; rfl
    | 1, hr, hold => rw [if_neg (by omega), if_neg (by omega), hold _ rfl, ← hr, ← e2]; rfl
    | 2, hr, hold => rw [if_neg (by omega), if_pos (by omega), ← hr]; rfl
    | 3, hr, hold => rw [if_neg (by omega), if_neg (by omega), hold _ rfl, ← hr, ← e3]; rfl
    | 4, hr, hold => rw [if_neg (by omega), if_neg (by omega), hold _ rfl, ← hr, ← e4]; rfl
    | 5, hr, hold => rw [if_pos (by omega), ← hr]; rfl
  · rw [List.getElem?_set_ne h] at hi
    have hold := (cellsAt_get 6 _ _ (hT i x hi)).2 r v hr
    rw [Int.toNat_natCast] at hold
    rw [if_neg (by omega), if_neg (by omega)]
    exact hold
end Go.ChaM
namespace Go.ChaM
open Go Go.Sy
def bC2 (L : Nat → Nat → Int) (R : Nat → Nat → Bool) : Array Value := ((List.range 64).map (fun p => Value.int .i64 (L (p / 8) (p % 8))) ++ (List.range 64).map (fun p => Value.bool (R (p / 8) (p % 8)))).toArray
def bC (b : M2) : Array Value := bC2 (fun i k => (b i k).getD 0) (fun i k => (b i k).isSome)
theorem bC2_size (L : Nat → Nat → Int) (R : Nat → Nat → Bool) : (bC2 L R).size = 128 := by unfold bC2; simp
theorem bC2_get (L : Nat → Nat → Int) (R : Nat → Nat → Bool) (p : Nat) : (bC2 L R)[p]? = if p < 64 then some (.int .i64 (L (p / 8) (p % 8))) else if p < 128 then some (.bool (R ((p - 64) / 8) ((p - 64) % 8))) else none := by
  unfold bC2
  rw [List.getElem?_toArray]
  split
  · rename_i h
    rw [List.getElem?_append_left (by simpa using h), List.getElem?_map, List.getElem?_range h]; rfl
  · rename_i h
    rw [List.getElem?_append_right (by simpa using h)]
    simp only [List.length_map, List.length_range]
    rw [List.getElem?_map]
    split
    · rename_i h2
      rw [List.getElem?_range (by omega)]; rfl
    · rename_i h2
      rw [List.getElem?_eq_none (by simp; omega)]; rfl
theorem dm8 {i k : Nat} (hk : k < 8) : (i * 8 + k) / 8 = i ∧ (i * 8 + k) % 8 = k := by omega
theorem bC2_l (L : Nat → Nat → Int) (R : Nat → Nat → Bool) {i k : Nat} (hi : i < 8) (hk : k < 8) : (bC2 L R)[0 + ((i : Nat) : Int).toNat * 8 + ((k : Nat) : Int).toNat * 1]? = some (.int .i64 (L i k)) := by
  obtain ⟨h1, h2⟩ := dm8 (i := i) hk
  rw [Int.toNat_natCast, Int.toNat_natCast, show 0 + i * 8 + k * 1 = i * 8 + k by omega, bC2_get, if_pos (by omega), h1, h2]
theorem bC2_r (L : Nat → Nat → Int) (R : Nat → Nat → Bool) {i k : Nat} (hi : i < 8) (hk : k < 8) : (bC2 L R)[0 + 64 + ((i : Nat) : Int).toNat * 8 + ((k : Nat) : Int).toNat * 1]? = some (.bool (R i k)) := by
  obtain ⟨h1, h2⟩ := dm8 (i := i) hk
  rw [Int.toNat_natCast, Int.toNat_natCast, show 0 + 64 + i * 8 + k * 1 = 64 + (i * 8 + k) by omega, bC2_get, if_neg (by omega), if_pos (by omega), show 64 + (i * 8 + k) - 64 = i * 8 + k by omega, h1, h2]
theorem arr_ext {a b : Array Value} (h : ∀ p : Nat, a[p]? = b[p]?) : a = b := Array.ext_getElem? h
theorem bC2_putL (L : Nat → Nat → Int) (R : Nat → Nat → Bool) {i k : Nat} (hi : i < 8) (hk : k < 8) (n : Int) : spl (bC2 L R) (0 + ((i : Nat) : Int).toNat * 8 + ((k : Nat) : Int).toNat * 1) [.int .i64 n] = bC2 (fun x y => if x = i ∧ y = k then n else L x y) R := by
  refine arr_ext fun p => ?_
  rw [Int.toNat_natCast, Int.toNat_natCast, spl_get (by rw [bC2_size]; omega), bC2_get, bC2_get]
  by_cases e : p = 0 + i * 8 + k * 1
  · have h1 : p / 8 = i ∧ p % 8 = k := by omega
    rw [if_pos e, if_pos (show p < 64 by omega), if_pos h1]
  · rw [if_neg e]
    split
    · rename_i h
      rw [if_neg (show ¬ (p / 8 = i ∧ p % 8 = k) by omega)]
    · rfl
theorem bC2_putR (L : Nat → Nat → Int) (R : Nat → Nat → Bool) {i k : Nat} (hi : i < 8) (hk : k < 8) (v : Bool) : spl (bC2 L R) (0 + 64 + ((i : Nat) : Int).toNat * 8 + ((k : Nat) : Int).toNat * 1) [.bool v] = bC2 L (fun x y => if x = i ∧ y = k then v else R x y) := by
  refine arr_ext fun p => ?_
  rw [Int.toNat_natCast, Int.toNat_natCast, spl_get (by rw [bC2_size]; omega), bC2_get, bC2_get]
  by_cases e : p = 0 + 64 + i * 8 + k * 1
  · have h1 : (p - 64) / 8 = i ∧ (p - 64) % 8 = k := by omega
    rw [if_pos e, if_neg (show ¬ p < 64 by omega), if_pos (show p < 128 by omega), if_pos h1]
  · rw [if_neg e]
    split
    · rfl
    · split
      · rename_i h h2
        rw [if_neg (show ¬ ((p - 64) / 8 = i ∧ (p - 64) % 8 = k) by omega)]
      · rfl
theorem bC_put (b : M2) (i k : Nat) (n : Int) : bC2 (fun x y => if x = i ∧ y = k then n else (b x y).getD 0) (fun x y => if x = i ∧ y = k then true else (b x y).isSome) = bC (put2 b i k n) := by
  unfold bC put2
  congr 1
  · funext x y; split <;> rfl
  · funext x y; split <;> rfl
theorem bC_none : bC (fun _ _ => none) = bC2 (fun _ _ => 0) (fun _ _ => false) := rfl
end Go.ChaM
namespace Go.Proofs.Ytccjnjhlnpgocaa
open Go Go.Sy Go.ChaM
theorem cells81 (x : Array Value) (h : x.size = 128) : cellsAt x 0 128 = some x.toList := by
  have := cells_mk (vs := x.toList) (c := x) (o := 0) (fun r v hr => by rw [Nat.zero_add, ← Array.getElem?_toList]; exact hr)
  rw [Array.length_toList, h] at this
  exact this
theorem low_put {b : M2} {i k : Nat} {n : Int} (h : (b i k).isSome = false ∨ n < (b i k).getD 0) : low b i k n = put2 b i k n := by
  unfold low
  cases hb : b i k with
  | none => rfl
  | some o =>
    rw [hb] at h
    rcases h with h | h
    · cases h
    · exact if_pos h
theorem low_keep {b : M2} {i k : Nat} {n : Int} (h1 : (b i k).isSome = true) (h2 : (b i k).getD 0 ≤ n) : low b i k n = b := by
  unfold low
  cases hb : b i k with
  | none => rw [hb] at h1; cases h1
  | some o =>
    rw [hb] at h2
    have h3 : o ≤ n := h2
    exact if_neg (by omega)
theorem bC_size (b : M2) : (bC b).size = 128 := bC2_size _ _
set_option maxRecDepth 100000 in
theorem p65 (b : M2) (i k : Nat) (n : Int) (hi : i < 8) (hk : k < 8) (u : World) : Calls Try.prog 65 #[.agg (bC b), .int .i64 (i : Nat), .int .i64 (k : Nat), .int .i64 n] u (Ret fun v w' => v = .agg (bC (low b i k n)) ∧ Ext [] u w') := by
  refine calls_of Try.func65 rfl rfl (fun a hf => ?_)
  have hh := Hp.init u []
  refine sy_sq ?_
  refine o_box hf hh ?_; clear hf hh a; intro B4 a w hf hh
  refine o_alloc hf hh Try.ze_81 ?_; clear hf hh a; intro B8 a w hf hh
  refine o_end ?_
  refine sy_cut (σ := Array Value) [9, 10, 11, 12, 13, 14, 15, 16, 17, 18, 19, 20, 21, 22, 23, 24, 25, 26, 27, 28, 29, 30, 31, 32, 33, 34, 35, 36] (fun Z => []) (fun Z => fun w' => Z.size = 128 ∧ Hp u [] [(B8, .cells Z 81), (B4, .cells (bC (low b i k n)) 81)] w') hf ?_ ?_
  ·refine sy_seq ?_
   obtain ⟨Z, hZ⟩ : ∃ Z : Array Value, Z.size = 128 ∧ Hp u [] [(B8, .cells Z 81), (B4, .cells (bC b) 81)] w := ⟨_, rfl, hh⟩
   obtain ⟨hZs, hh'⟩ := hZ
   clear hh
   have hh := hh'
   clear hh'
   have hr : (bC b)[0 + 64 + ((i : Nat) : Int).toNat * 8 + ((k : Nat) : Int).toNat * 1]? = some (.bool (b i k).isSome) := bC2_r _ _ hi hk
   have hl : (bC b)[0 + ((i : Nat) : Int).toNat * 8 + ((k : Nat) : Int).toNat * 1]? = some (.int .i64 ((b i k).getD 0)) := bC2_l _ _ hi hk
   refine sy_ops ?_
   refine o_v hf hh (yv_move rfl) ?_; clear hf a; intro a hf
   refine o_v hf hh (yv_move rfl) ?_; clear hf a; intro a hf
   refine o_v hf hh (yv_fieldAddr Try.fo_81_1 rfl) ?_; clear hf a; intro a hf
   refine o_v hf hh (y_ia Try.ae_79 rfl rfl) ?_; clear hf a; intro a hf
   refine o_v hf hh (y_ia Try.ae_78 rfl rfl) ?_; clear hf a; intro a hf
   refine o_v hf hh (y_ld Try.sc_4 rfl) ?_; clear hf a; intro a hf
   refine o_v hf hh (yv_not rfl) ?_; clear hf a; intro a hf
   refine o_v hf hh (yv_move rfl) ?_; clear hf a; intro a hf
   refine guard_split hf (t := 16) rfl (fun hg2 => ?_) (fun hg2 => ?_)
   ·have hG2 := hg2; try simp only [gS] at hG2
    refine o_off hf ?_; clear hf a; intro a hf
    refine o_off hf ?_; clear hf a; intro a hf
    refine o_off hf ?_; clear hf a; intro a hf
    refine o_off hf ?_; clear hf a; intro a hf
    refine o_off hf ?_; clear hf a; intro a hf
    refine o_off hf ?_; clear hf a; intro a hf
    refine o_off hf ?_; clear hf a; intro a hf
    refine o_off hf ?_; clear hf a; intro a hf
    refine o_v hf hh (y_pt rfl rfl) ?_; clear hf a; intro a hf
    refine o_end ?_
    refine c_t hf ?_
    refine sy_sq ?_
    refine o_v hf hh (yv_move rfl) ?_; clear hf a; intro a hf
    refine o_v hf hh (yv_move rfl) ?_; clear hf a; intro a hf
    refine o_v hf hh (yv_fieldAddr Try.fo_81_1 rfl) ?_; clear hf a; intro a hf
    refine o_v hf hh (y_ia Try.ae_79 rfl rfl) ?_; clear hf a; intro a hf
    refine o_v hf hh (y_ia Try.ae_78 rfl rfl) ?_; clear hf a; intro a hf
    refine o_store (i := 1) hf hh Try.sz_4 (hx := rfl) (hi := atI (i := 1) rfl) (hy := rfl) (hl := Nat.ble_eq_true_of_le (by rw [bC_size, Int.toNat_natCast, Int.toNat_natCast]; omega)) fun w hh => ?_
    refine o_end ?_
    replace hh : Hp u [] [(B8, .cells Z 81), (B4, .cells (bC2 (fun x y => (b x y).getD 0) (fun x y => if x = i ∧ y = k then true else (b x y).isSome)) 81)] w := by
      rw [← bC2_putR _ _ hi hk]; exact hh
    refine sy_ops ?_
    refine o_v hf hh (yv_move rfl) ?_; clear hf a; intro a hf
    refine o_v hf hh (yv_move rfl) ?_; clear hf a; intro a hf
    refine o_v hf hh (yv_move rfl) ?_; clear hf a; intro a hf
    refine o_v hf hh (yv_fieldAddr Try.fo_81_0 rfl) ?_; clear hf a; intro a hf
    refine o_v hf hh (y_ia Try.ae_77 rfl rfl) ?_; clear hf a; intro a hf
    refine o_v hf hh (y_ia Try.ae_76 rfl rfl) ?_; clear hf a; intro a hf
    refine o_store (i := 1) hf hh Try.sz_3 (hx := rfl) (hi := atI (i := 1) rfl) (hy := rfl) (hl := Nat.ble_eq_true_of_le (by rw [bC2_size, Int.toNat_natCast, Int.toNat_natCast]; omega)) fun w hh => ?_
    refine ops_end ?_
    refine then_n ?_
    first
      | (have e := low_put (b := b) (i := i) (k := k) (n := n) (by first | exact .inl (by assumption) | exact .inr (by assumption))
         refine ⟨Z, ⟨hZs, ?_⟩, hf.head True.intro (Keep.cons rfl (Keep.cons rfl (Keep.cons rfl (Keep.cons rfl (Keep.cons rfl (Keep.cons rfl (Keep.cons rfl (Keep.cons rfl (Keep.cons rfl (Keep.cons rfl (Keep.cons rfl (Keep.cons rfl (Keep.cons rfl (Keep.cons rfl (Keep.cons rfl (Keep.cons rfl (Keep.cons rfl (Keep.cons rfl (Keep.cons rfl (Keep.cons rfl (Keep.cons rfl (Keep.cons rfl (Keep.cons rfl (Keep.cons rfl (Keep.cons rfl (Keep.cons rfl (Keep.cons rfl (Keep.cons rfl (Keep.base)))))))))))))))))))))))))))))⟩
         rw [e, ← bC_put, ← bC2_putL _ _ hi hk]; exact hh)
      | (have e := low_keep (b := b) (i := i) (k := k) (n := n) (by assumption) (by assumption)
         refine ⟨Z, ⟨hZs, ?_⟩, hf.head True.intro (Keep.cons rfl (Keep.cons rfl (Keep.cons rfl (Keep.cons rfl (Keep.cons rfl (Keep.cons rfl (Keep.cons rfl (Keep.cons rfl (Keep.cons rfl (Keep.cons rfl (Keep.cons rfl (Keep.cons rfl (Keep.cons rfl (Keep.cons rfl (Keep.cons rfl (Keep.cons rfl (Keep.cons rfl (Keep.cons rfl (Keep.cons rfl (Keep.cons rfl (Keep.cons rfl (Keep.cons rfl (Keep.cons rfl (Keep.cons rfl (Keep.cons rfl (Keep.cons rfl (Keep.cons rfl (Keep.cons rfl (Keep.base)))))))))))))))))))))))))))))⟩
         rw [e]; exact hh)
      | omega
   ·have hG2 := hg2; try simp only [gS] at hG2
    refine o_v hf hh (yv_move rfl) ?_; clear hf a; intro a hf
    refine o_v hf hh (yv_move rfl) ?_; clear hf a; intro a hf
    refine o_v hf hh (yv_move rfl) ?_; clear hf a; intro a hf
    refine o_v hf hh (yv_fieldAddr Try.fo_81_0 rfl) ?_; clear hf a; intro a hf
    refine o_v hf hh (y_ia Try.ae_77 rfl rfl) ?_; clear hf a; intro a hf
    refine o_v hf hh (y_ia Try.ae_76 rfl rfl) ?_; clear hf a; intro a hf
    refine o_v hf hh (y_ld Try.sc_3 rfl) ?_; clear hf a; intro a hf
    refine o_v hf hh (yv_bin rfl rfl rfl) ?_; clear hf a; intro a hf
    refine o_v hf hh (y_pf rfl rfl) ?_; clear hf a; intro a hf
    refine o_end ?_
    refine sy_cond hf rfl (fun hg4 => ?_) (fun hg4 => ?_)
    ·have hG4 := hg4; try simp only [gS] at hG4
     refine sy_sq ?_
     refine o_v hf hh (yv_move rfl) ?_; clear hf a; intro a hf
     refine o_v hf hh (yv_move rfl) ?_; clear hf a; intro a hf
     refine o_v hf hh (yv_fieldAddr Try.fo_81_1 rfl) ?_; clear hf a; intro a hf
     refine o_v hf hh (y_ia Try.ae_79 rfl rfl) ?_; clear hf a; intro a hf
     refine o_v hf hh (y_ia Try.ae_78 rfl rfl) ?_; clear hf a; intro a hf
     refine o_store (i := 1) hf hh Try.sz_4 (hx := rfl) (hi := atI (i := 1) rfl) (hy := rfl) (hl := Nat.ble_eq_true_of_le (by rw [bC_size, Int.toNat_natCast, Int.toNat_natCast]; omega)) fun w hh => ?_
     refine o_end ?_
     replace hh : Hp u [] [(B8, .cells Z 81), (B4, .cells (bC2 (fun x y => (b x y).getD 0) (fun x y => if x = i ∧ y = k then true else (b x y).isSome)) 81)] w := by
       rw [← bC2_putR _ _ hi hk]; exact hh
     refine sy_ops ?_
     refine o_v hf hh (yv_move rfl) ?_; clear hf a; intro a hf
     refine o_v hf hh (yv_move rfl) ?_; clear hf a; intro a hf
     refine o_v hf hh (yv_move rfl) ?_; clear hf a; intro a hf
     refine o_v hf hh (yv_fieldAddr Try.fo_81_0 rfl) ?_; clear hf a; intro a hf
     refine o_v hf hh (y_ia Try.ae_77 rfl rfl) ?_; clear hf a; intro a hf
     refine o_v hf hh (y_ia Try.ae_76 rfl rfl) ?_; clear hf a; intro a hf
     refine o_store (i := 1) hf hh Try.sz_3 (hx := rfl) (hi := atI (i := 1) rfl) (hy := rfl) (hl := Nat.ble_eq_true_of_le (by rw [bC2_size, Int.toNat_natCast, Int.toNat_natCast]; omega)) fun w hh => ?_
     refine ops_end ?_
     refine then_n ?_
     first
       | (have e := low_put (b := b) (i := i) (k := k) (n := n) (by first | exact .inl (by assumption) | exact .inr (by assumption))
          refine ⟨Z, ⟨hZs, ?_⟩, hf.head True.intro (Keep.cons rfl (Keep.cons rfl (Keep.cons rfl (Keep.cons rfl (Keep.cons rfl (Keep.cons rfl (Keep.cons rfl (Keep.cons rfl (Keep.cons rfl (Keep.cons rfl (Keep.cons rfl (Keep.cons rfl (Keep.cons rfl (Keep.cons rfl (Keep.cons rfl (Keep.cons rfl (Keep.cons rfl (Keep.cons rfl (Keep.cons rfl (Keep.cons rfl (Keep.cons rfl (Keep.cons rfl (Keep.cons rfl (Keep.cons rfl (Keep.cons rfl (Keep.cons rfl (Keep.cons rfl (Keep.cons rfl (Keep.base)))))))))))))))))))))))))))))⟩
          rw [e, ← bC_put, ← bC2_putL _ _ hi hk]; exact hh)
       | (have e := low_keep (b := b) (i := i) (k := k) (n := n) (by assumption) (by assumption)
          refine ⟨Z, ⟨hZs, ?_⟩, hf.head True.intro (Keep.cons rfl (Keep.cons rfl (Keep.cons rfl (Keep.cons rfl (Keep.cons rfl (Keep.cons rfl (Keep.cons rfl (Keep.cons rfl (Keep.cons rfl (Keep.cons rfl (Keep.cons rfl (Keep.cons rfl (Keep.cons rfl (Keep.cons rfl (Keep.cons rfl (Keep.cons rfl (Keep.cons rfl (Keep.cons rfl (Keep.cons rfl (Keep.cons rfl (Keep.cons rfl (Keep.cons rfl (Keep.cons rfl (Keep.cons rfl (Keep.cons rfl (Keep.cons rfl (Keep.cons rfl (Keep.cons rfl (Keep.base)))))))))))))))))))))))))))))⟩
          rw [e]; exact hh)
       | omega
    ·have hG4 := hg4; try simp only [gS] at hG4
     refine sy_skip ?_
     refine then_n ?_
     first
       | (have e := low_put (b := b) (i := i) (k := k) (n := n) (by first | exact .inl (by assumption) | exact .inr (by assumption))
          refine ⟨Z, ⟨hZs, ?_⟩, hf.head True.intro (Keep.cons rfl (Keep.cons rfl (Keep.cons rfl (Keep.cons rfl (Keep.cons rfl (Keep.cons rfl (Keep.cons rfl (Keep.cons rfl (Keep.cons rfl (Keep.cons rfl (Keep.cons rfl (Keep.cons rfl (Keep.cons rfl (Keep.cons rfl (Keep.cons rfl (Keep.cons rfl (Keep.cons rfl (Keep.base))))))))))))))))))⟩
          rw [e, ← bC_put, ← bC2_putL _ _ hi hk]; exact hh)
       | (have e := low_keep (b := b) (i := i) (k := k) (n := n) (by assumption) (by assumption)
          refine ⟨Z, ⟨hZs, ?_⟩, hf.head True.intro (Keep.cons rfl (Keep.cons rfl (Keep.cons rfl (Keep.cons rfl (Keep.cons rfl (Keep.cons rfl (Keep.cons rfl (Keep.cons rfl (Keep.cons rfl (Keep.cons rfl (Keep.cons rfl (Keep.cons rfl (Keep.cons rfl (Keep.cons rfl (Keep.cons rfl (Keep.cons rfl (Keep.cons rfl (Keep.base))))))))))))))))))⟩
          rw [e]; exact hh)
       | omega
  ·rintro Z a w ⟨hZs, hh⟩ hf
   refine sy_sq ?_
   refine o_v hf hh (yv_cast (y_lds Try.ag_81 rfl (hv := cells81 (bC (low b i k n)) (bC_size _))) (show Value.agg (bC (low b i k n)).toList.toArray = Value.agg (bC (low b i k n)) by rw [Array.toArray_toList])) ?_; clear hf a; intro a hf
   refine o_store (i := 0) hf hh Try.sz_81 (hx := rfl) (hi := atI (i := 0) rfl) (hy := rfl) (hl := Nat.ble_eq_true_of_le (by rw [hZs]; omega)) fun w hh => ?_
   refine o_end ?_
   refine sy_ret ?_
   refine ret_c (vs := [.agg (bC (low b i k n))]) hf ?_ ?_
   have e8 : spl Z 0 (bC (low b i k n)).toList = bC (low b i k n) := spl_all (by rw [bC_size, hZs])
   replace hh : Hp u [] [(B8, .cells (spl Z 0 (bC (low b i k n)).toList) 81), (B4, .cells (bC (low b i k n)) 81)] w := hh
   rw [e8] at hh
   · exact ⟨⟨B8, 0, _, _, _, rfl, hh.at (i := 0) rfl, .inr ⟨128, _, Try.ag_81, cells81 _ (bC_size _), by rw [Array.toArray_toList]⟩⟩, True.intro⟩
   · exact ⟨rfl, hh.ext⟩
end Go.Proofs.Ytccjnjhlnpgocaa
namespace Go.ChaM
open Go Go.Sy
def MB (b : M2) (B : Int) : Prop := ∀ i k m, b i k = some m → -B ≤ m ∧ m ≤ B
theorem MB.low {b : M2} {B : Int} (h : MB b B) {i k : Nat} {n : Int} (hn : -B ≤ n ∧ n ≤ B) : MB (low b i k n) B := fun x y m hm => by
  rcases low_cases b i k n with ⟨h4, _⟩ | ⟨h4, _⟩
  · rw [h4] at hm
    unfold put2 at hm
    split at hm
    · cases hm; exact hn
    · exact h _ _ _ hm
  · rw [h4] at hm; exact h _ _ _ hm
theorem begI_mb {B : Int} (hB : 0 ≤ B) : ∀ i, MB (begI i) B
  | 0 => fun _ _ _ h => by cases h
  | i + 1 => (begI_mb hB i).low (by omega)
theorem begS_mb {c : ChD} (hO : ChOk c) (a : Bool) (S : Nat → Bool) : ∀ i, MB (begS c a S i) 1073741824
  | 0 => begI_mb (by omega) _
  | i + 1 => by
    have ih := begS_mb hO a S i
    rw [begS]
    split
    · split
      · rename_i s hs
        have ho := hO.s s (List.mem_of_getElem? hs)
        have h1 := ho.l a; have h2 := ho.m a; have h3 := ho.h a
        exact (ih.low (by omega)).low (by omega)
      · exact ih
    · exact ih
theorem VB.weak {b : M2} {y : Nat} {B : Int} {dn dn' : Nat → Nat → Prop} (h : VB b y B dn) (hd : ∀ i k, dn i k → dn' i k) : VB b y B dn' := ⟨h.al, fun i k m hn hm => h.un i k m (fun h' => hn (hd i k h')) hm, h.yy, h.iy, h.yk⟩
theorem vb_k {b : M2} {y i : Nat} {B : Int} (h : VB b y B fun i' _ => i' < i) : ∀ k, VB (viaK y i b k) y B fun i' k' => i' < i ∨ (i' = i ∧ k' < k)
  | 0 => h.weak fun _ _ h => .inl h
  | k + 1 => ((vb_k h k).step (i := i) (k := k) (by omega)).weak fun i' k' h => by omega
theorem vb_i {b : M2} {y : Nat} {B : Int} (n : Nat) (hB : 0 ≤ B) (h : MB b B) : ∀ i, VB (viaI n y b i) y B fun i' _ => i' < i
  | 0 => (VB.beg hB y h).weak fun _ _ h => h.elim
  | i + 1 => (vb_k (vb_i n hB h i) n).weak fun i' k' h => by omega
/-- What numbers can be ahead of a stage. -/
def six : Nat → Int
  | 0 => 1073741824
  | y + 1 => 6 * six y
theorem six_pos : ∀ y, 0 ≤ six y
  | 0 => by decide
  | y + 1 => by have := six_pos y; show 0 ≤ 6 * six y; omega
theorem mb_y {b : M2} (n : Nat) (h : MB b 1073741824) : ∀ y, MB (viaY n b y) (six y)
  | 0 => h
  | y + 1 => (vb_i n (six_pos y) (mb_y n h y) n).al
theorem six_le {y : Nat} (h : y ≤ 8) : six y ≤ 2000000000000000 := by
  have e : y = 0 ∨ y = 1 ∨ y = 2 ∨ y = 3 ∨ y = 4 ∨ y = 5 ∨ y = 6 ∨ y = 7 ∨ y = 8 := by omega
  rcases e with rfl | rfl | rfl | rfl | rfl | rfl | rfl | rfl | rfl <;> decide
/-- The number of one place, while a stage goes on. -/
theorem cur_bd {b : M2} {n y i k : Nat} (h : MB b 1073741824) (hy : y < 8) (i' k' : Nat) : -12000000000000000 ≤ (viaK y i (viaI n y (viaY n b y) i) k i' k').getD 0 ∧ (viaK y i (viaI n y (viaY n b y) i) k i' k').getD 0 ≤ 12000000000000000 := by
  have hv := (vb_k (vb_i (y := y) n (six_pos y) (mb_y n h y) i) k).al i' k'
  have h6 := six_le (y := y) (by omega)
  have h0 := six_pos y
  cases e : viaK y i (viaI n y (viaY n b y) i) k i' k' with
  | none => exact ⟨by decide, by decide⟩
  | some m =>
    have := hv m e
    show -12000000000000000 ≤ m ∧ m ≤ 12000000000000000
    omega
theorem via_yes {b : M2} {y i k : Nat} (h1 : (b i y).isSome = true) (h2 : (b y k).isSome = true) : via b y i k = low b i k ((b i y).getD 0 + (b y k).getD 0) := by
  unfold via
  cases e1 : b i y with
  | none => rw [e1] at h1; cases h1
  | some p =>
    cases e2 : b y k with
    | none => rw [e2] at h2; cases h2
    | some q => rfl
theorem via_no {b : M2} {y i k : Nat} (h : (b i y).isSome = false ∨ (b y k).isSome = false) : via b y i k = b := by
  unfold via
  cases e1 : b i y with
  | none => rfl
  | some p =>
    cases e2 : b y k with
    | none => rfl
    | some q => rw [e1, e2] at h; rcases h with h | h <;> cases h
end Go.ChaM
namespace Go.Proofs.Ytccjnjhlnpgocaa
open Go Go.Sy Go.ChaM
theorem z81 : (Value.agg #[(.int .i64 0), (.int .i64 0), (.int .i64 0), (.int .i64 0), (.int .i64 0), (.int .i64 0), (.int .i64 0), (.int .i64 0), (.int .i64 0), (.int .i64 0), (.int .i64 0), (.int .i64 0), (.int .i64 0), (.int .i64 0), (.int .i64 0), (.int .i64 0), (.int .i64 0), (.int .i64 0), (.int .i64 0), (.int .i64 0), (.int .i64 0), (.int .i64 0), (.int .i64 0), (.int .i64 0), (.int .i64 0), (.int .i64 0), (.int .i64 0), (.int .i64 0), (.int .i64 0), (.int .i64 0), (.int .i64 0), (.int .i64 0), (.int .i64 0), (.int .i64 0), (.int .i64 0), (.int .i64 0), (.int .i64 0), (.int .i64 0), (.int .i64 0), (.int .i64 0), (.int .i64 0), (.int .i64 0), (.int .i64 0), (.int .i64 0), (.int .i64 0), (.int .i64 0), (.int .i64 0), (.int .i64 0), (.int .i64 0), (.int .i64 0), (.int .i64 0), (.int .i64 0), (.int .i64 0), (.int .i64 0), (.int .i64 0), (.int .i64 0), (.int .i64 0), (.int .i64 0), (.int .i64 0), (.int .i64 0), (.int .i64 0), (.int .i64 0), (.int .i64 0), (.int .i64 0), (.bool false), (.bool false), (.bool false), (.bool false), (.bool false), (.bool false), (.bool false), (.bool false), (.bool false), (.bool false), (.bool false), (.bool false), (.bool false), (.bool false), (.bool false), (.bool false), (.bool false), (.bool false), (.bool false), (.bool false), (.bool false), (.bool false), (.bool false), (.bool false), (.bool false), (.bool false), (.bool false), (.bool false), (.bool false), (.bool false), (.bool false), (.bool false), (.bool false), (.bool false), (.bool false), (.bool false), (.bool false), (.bool false), (.bool false), (.bool false), (.bool false), (.bool false), (.bool false), (.bool false), (.bool false), (.bool false), (.bool false), (.bool false), (.bool false), (.bool false), (.bool false), (.bool false), (.bool false), (.bool false), (.bool false), (.bool false), (.bool false), (.bool false), (.bool false), (.bool false), (.bool false), (.bool false), (.bool false), (.bool false)]).cells = bC fun _ _ => none := by kernel_rfl
theorem tigB_no {c : ChD} {a : Bool} {S : Nat → Bool} {q : Nat} (hq : q < c.n.toNat) (h : (tig c a S q q).getD 0 < 0) : tigB c a S = false := by
  unfold tigB
  rw [List.all_eq_false]
  refine ⟨q, List.mem_range.2 hq, ?_⟩
  cases e : tig c a S q q with
  | none => rw [e] at h; exact absurd h (by decide)
  | some m =>
    rw [e] at h
    have h2 : m < 0 := h
    simp only [decide_eq_true_eq]; omega
theorem tigB_yes {c : ChD} {a : Bool} {S : Nat → Bool} (h : ∀ q, q < c.n.toNat → 0 ≤ (tig c a S q q).getD 0) : tigB c a S = true := by
  unfold tigB
  rw [List.all_eq_true]
  intro q hq
  have := h q (List.mem_range.1 hq)
  cases e : tig c a S q q with
  | none => rfl
  | some m => rw [e] at this; exact decide_eq_true this
set_option maxRecDepth 100000 in
set_option maxHeartbeats 8000000 in
theorem p49 (c : ChD) (sa : Option Addr) (cp : Nat) (s : Nat) (ax : Bool) (u : World) (hA : ChAt u c sa) (hO : ChOk c) (hs : s ≤ 4611686018427387904) : Calls Try.prog 49 #[.agg (chC c sa cp), .int .i64 (s : Nat), .bool ax] u (Ret fun v w' => ∃ b : M2, v = .tuple #[.agg (bC b), .bool (tigB c ax s.testBit)] ∧ (tigB c ax s.testBit = true → b = tig c ax s.testBit) ∧ Ext [] u w') := by
  refine calls_of Try.func49 rfl rfl (fun a hf => ?_)
  have hh := Hp.init u []
  have hl10 := hO.l; have hn1 := hO.n1; have hn2 := hO.n2
  obtain ⟨nn, hnn⟩ : ∃ nn : Nat, c.n = nn := ⟨c.n.toNat, by omega⟩
  have hcn : c.n.toNat = nn := by omega
  obtain ⟨b0, hb0⟩ : ∃ b0 : M2, b0 = begS c ax s.testBit c.si.length := ⟨_, rfl⟩
  have hmb : MB b0 1073741824 := by rw [hb0]; exact begS_mb hO ax _ _
  have htig : tig c ax s.testBit = viaY nn b0 nn := by rw [hb0, ← hcn]; rfl
  refine sy_sq ?_
  refine o_box hf hh ?_; clear hf hh a; intro B3 a w hf hh
  refine o_alloc hf hh Try.ze_81 ?_; clear hf hh a; intro B6 a w hf hh
  refine o_v hf hh (yv_assign rfl) ?_; clear hf a; intro a hf
  refine o_end ?_
  refine sy_sq ?_
  refine o_alloc hf hh Try.ze_81 ?_; clear hf hh a; intro B8 a w hf hh
  refine o_end ?_
  refine sy_seq ?_
  refine sy_seq ?_
  rw [z81] at hh
  replace hh : Hp u [] [(B8, .cells (bC (begI 0)) 81), (B6, .cells (bC fun _ _ => none) 81), (B3, .cells (chC c sa cp) 24)] w := hh
  refine sy_ops ?_
  refine o_v hf hh (yv_assign rfl) ?_; clear hf a; intro a hf
  refine o_end ?_
  refine sy_block ?_
  refine sy_loopH (σ := Nat) [9, 16, 17, 18, 19, 20, 21, 22, 23, 24, 25] (fun i => [(9, .int .i64 (i : Nat))]) (fun i => fun w' => i ≤ nn ∧ Hp u [] [(B8, .cells (bC (begI i)) 81), (B6, .cells (bC fun _ _ => none) 81), (B3, .cells (chC c sa cp) 24)] w') (fun i => nn - i) (0) hf ?_ ?_ ?_
  · repeat' (first | exact True.intro | refine And.intro rfl ?_)
  · exact ⟨Nat.zero_le _, hh⟩
  ·rintro i a w ⟨hi, hh⟩ hf
   refine sy_seq ?_
   refine sy_sq ?_
   refine o_v hf hh (yv_move rfl) ?_; clear hf a; intro a hf
   refine o_v hf hh (yv_fieldAddr Try.fo_24_0 rfl) ?_; clear hf a; intro a hf
   refine o_v hf hh (y_ld Try.sc_3 rfl) ?_; clear hf a; intro a hf
   refine o_v hf hh (yv_bin rfl rfl rfl) ?_; clear hf a; intro a hf
   refine o_end ?_
   refine sy_cond hf rfl (fun hg2 => ?_) (fun hg2 => ?_)
   ·have hG2 := hg2; try simp only [gS] at hG2
    refine sy_skip ?_
    refine then_n ?_
    refine sy_seq ?_
    refine sy_block ?_
    refine sy_ops ?_
    refine o_v hf hh (yv_cast (y_lds Try.ag_81 rfl (hv := cells81 (bC (begI i)) (bC_size _))) (show Value.agg (bC (begI i)).toList.toArray = Value.agg (bC (begI i)) by rw [Array.toArray_toList])) ?_; clear hf a; intro a hf
    refine o_v hf hh (yv_move rfl) ?_; clear hf a; intro a hf
    refine o_v hf hh (yv_move rfl) ?_; clear hf a; intro a hf
    refine o_call hf Try.en_65 rfl rfl rfl (p65 (begI i) i i 0 (by omega) (by omega) _) ?_; clear hf a; intro v a w hR hf
    obtain ⟨rfl, hx⟩ := hR; replace hh := hh.more hx; clear hx
    refine o_store (i := 0) hf hh Try.sz_81 (hx := rfl) (hi := atI (i := 0) rfl) (hy := rfl) (hl := Nat.ble_eq_true_of_le (by rw [bC_size]; omega)) fun w hh => ?_
    refine ops_end ?_
    refine blk_n ?_
    refine then_n ?_
    refine sy_ops ?_
    refine o_v hf hh (yv_move rfl) ?_; clear hf a; intro a hf
    refine o_v hf hh (y_add rfl rfl) ?_; clear hf a; intro a hf
    refine o_v hf hh (yv_assign rfl) ?_; clear hf a; intro a hf
    refine ops_end ?_
    refine then_n ?_
    replace hh : Hp u [] ((B8, .cells (spl (bC (begI i)) 0 (bC (low (begI i) i i 0)).toList) 81) :: [(B6, .cells (bC fun _ _ => none) 81), (B3, .cells (chC c sa cp) 24)]) w := hh
    rw [show spl (bC (begI i)) 0 (bC (low (begI i) i i 0)).toList = bC (low (begI i) i i 0) from spl_all (by rw [bC_size, bC_size])] at hh
    exact ⟨i + 1, ⟨⟨by omega, hh⟩, (hf.head (by repeat' (first | exact True.intro | refine And.intro rfl ?_)) (Keep.cons rfl (Keep.cons rfl (Keep.cons rfl (Keep.cons rfl (Keep.cons rfl (Keep.cons rfl (Keep.cons rfl (Keep.cons rfl (Keep.cons rfl (Keep.cons rfl (Keep.cons rfl (Keep.app rfl (Keep.rm rfl Keep.base))))))))))))))⟩, by omega⟩
   ·have hG2 := hg2; try simp only [gS] at hG2
    refine sy_exit ?_
    refine then_e ?_
    refine then_e ?_
    refine blk_e ?_
    refine then_n ?_
    refine sy_seq ?_
    refine sy_sq ?_
    refine o_v hf hh (yv_assign rfl) ?_; clear hf a; intro a hf
    refine o_end ?_
    refine sy_block ?_
    refine sy_loopH (σ := Nat) [10, 11, 26, 27, 28, 29, 30, 31, 32, 33, 34, 35, 36, 37, 38, 39, 40, 41, 42, 43, 44, 45, 46, 47, 48, 49, 50, 51, 52, 53, 54, 55, 56, 57, 58, 59, 60, 61] (fun j => [(10, .int .i64 (j : Nat))]) (fun j => fun w' => j ≤ c.si.length ∧ Hp u [] [(B8, .cells (bC (begS c ax s.testBit j)) 81), (B6, .cells (bC fun _ _ => none) 81), (B3, .cells (chC c sa cp) 24)] w') (fun j => c.si.length - j) (0) hf ?_ ?_ ?_
    · repeat' (first | exact True.intro | refine And.intro rfl ?_)
    · exact ⟨Nat.zero_le _, by rw [show i = c.n.toNat by omega] at hh; exact hh⟩
    ·rintro j a w ⟨hj, hh⟩ hf
     refine sy_seq ?_
     refine sy_sq ?_
     refine o_v hf hh (yv_move rfl) ?_; clear hf a; intro a hf
     refine o_v hf hh (yv_fieldAddr Try.fo_24_1 rfl) ?_; clear hf a; intro a hf
     refine o_v hf hh (y_ld Try.sc_22 rfl) ?_; clear hf a; intro a hf
     refine o_v hf hh (yv_len Try.se_22 rfl) ?_; clear hf a; intro a hf
     refine o_v hf hh (yv_bin rfl rfl rfl) ?_; clear hf a; intro a hf
     refine o_end ?_
     refine sy_cond hf rfl (fun hg6 => ?_) (fun hg6 => ?_)
     ·have hG6 := hg6; try simp only [gS] at hG6
      refine sy_skip ?_
      refine then_n ?_
      refine sy_seq ?_
      refine sy_block ?_
      refine sy_sq ?_
      refine o_v hf hh (yv_move rfl) ?_; clear hf a; intro a hf
      refine o_v hf hh (yv_move rfl) ?_; clear hf a; intro a hf
      refine o_call hf Try.en_66 rfl rfl rfl (p66 s j (by omega) (by omega) _) ?_; clear hf a; intro v a w hR hf
      obtain ⟨rfl, hx⟩ := hR; replace hh := hh.more hx; clear hx
      refine o_end ?_
      refine sy_cond hf rfl (fun hg8 => ?_) (fun hg8 => ?_)
      ·have hG8 := hg8; try simp only [gS] at hG8
       refine sy_seq ?_
       obtain ⟨t, hsj⟩ := ex_of (l := c.si) (i := j) (by omega)
       obtain ⟨blk, off, cc, TT, fr, esa, hb2, hc⟩ := hA.at_ j t hsj
       have hto := hO.s t (List.mem_of_getElem? hsj)
       have hbl := hto.l ax; have hbm := hto.m ax; have hbh := hto.h ax
       obtain ⟨f, t1, el, eh, nl, nh⟩ := t
       have hf0 := hto.f0; have hf1 := hto.f1; have ht0 := hto.t0; have ht1 := hto.t1
       dsimp only at hf0 hf1 ht0 ht1
       obtain ⟨kf, rfl⟩ : ∃ k : Nat, f = k := ⟨f.toNat, by omega⟩
       obtain ⟨kt, rfl⟩ : ∃ k : Nat, t1 = k := ⟨t1.toNat, by omega⟩
       refine sy_ops ?_
       refine o_v hf hh (yv_fieldAddr Try.fo_24_1 rfl) ?_; clear hf a; intro a hf
       refine o_v hf hh (y_ld Try.sc_22 rfl) ?_; clear hf a; intro a hf
       refine o_v hf hh (yv_move rfl) ?_; clear hf a; intro a hf
       refine o_v hf hh (y_ix Try.se_22 (congrArg (fun z => some (Value.slice z c.si.length cp)) esa) rfl) ?_; clear hf a; intro a hf
       refine o_v hf hh (y_lds Try.ag_46 rfl) ?_; clear hf a; intro a hf
       refine o_alloc hf hh Try.ze_46 ?_; clear hf hh a; intro B11 a w hf hh
       refine o_store hf hh Try.sz_46 fun w hh => ?_
       refine o_end ?_
       refine sy_seq ?_
       replace hh : Hp u [] ((B11, .cells #[.int .i64 (kf : Nat), .int .i64 (kt : Nat), .int .i64 el, .int .i64 eh, .int .i64 nl, .int .i64 nh] 46) :: [(B8, .cells (bC (begS c ax s.testBit j)) 81), (B6, .cells (bC fun _ _ => none) 81), (B3, .cells (chC c sa cp) 24)]) w := hh
       refine sy_treeC (.q 0 0 (.p 1 (.q 0 2 (.p 3 (.q 0 4 (.q 0 5 (.p 6 (.e1 7 (.p 8 (.e1 9 (.e1 10 (.fin)))))))))))) [[10]] [(AtE u [] [(B11, .cells #[.int .i64 (kf : Nat), .int .i64 (kt : Nat), .int .i64 el, .int .i64 eh, .int .i64 nl, .int .i64 nh] 46), (B8, .cells (bC (begS c ax s.testBit j)) 81)], [10])] Try.follows (by kernel_rfl) rfl hh (fun w hh => ?_)
       refine mc_q rfl rfl (AtE.of hh (by intro p hp; simp only [List.mem_cons, List.not_mem_nil, or_false] at hp; rcases hp with h | h <;> simp [h])) hf (yv_cast (y_lds Try.ag_81 rfl (hv := cells81 (bC (begS c ax s.testBit j)) (bC_size _))) (show Value.agg (bC (begS c ax s.testBit j)).toList.toArray = Value.agg (bC (begS c ax s.testBit j)) by rw [Array.toArray_toList])) (.inl rfl) rfl rfl ?_; clear hf a; intro a hf
       refine mc_p rfl   hf (yv_fieldAddr Try.fo_46_0 rfl) (.inl rfl) rfl rfl ?_; clear hf a; intro a hf
       refine mc_q rfl rfl (AtE.of hh (by intro p hp; simp only [List.mem_cons, List.not_mem_nil, or_false] at hp; rcases hp with h | h <;> simp [h])) hf (y_ld Try.sc_3 rfl) (.inl rfl) rfl rfl ?_; clear hf a; intro a hf
       refine mc_p rfl   hf (yv_fieldAddr Try.fo_46_1 rfl) (.inl rfl) rfl rfl ?_; clear hf a; intro a hf
       refine mc_q rfl rfl (AtE.of hh (by intro p hp; simp only [List.mem_cons, List.not_mem_nil, or_false] at hp; rcases hp with h | h <;> simp [h])) hf (y_ld Try.sc_3 rfl) (.inl rfl) rfl rfl ?_; clear hf a; intro a hf
       refine mc_q rfl rfl (AtE.of hh (by intro p hp; simp only [List.mem_cons, List.not_mem_nil, or_false] at hp; rcases hp with h | h <;> simp [h])) hf (y_lds Try.ag_46 rfl) (.inl rfl) rfl rfl ?_; clear hf a; intro a hf
       refine mc_p rfl   hf (yv_move rfl) (.inl rfl) rfl rfl ?_; clear hf a; intro a hf
       refine mc_e rfl fun Q1 => ?_
       refine o_call hf Try.en_67 rfl rfl rfl (p67 ⟨(kf : Int), (kt : Int), el, eh, nl, nh⟩ ax _) ?_; clear hf a; intro v a w hR hf
       obtain ⟨rfl, hx⟩ := hR; replace hh := hh.more hx; clear hx
       refine ops_end ?_
       refine then_n ⟨⟨fun _ _ => (AtE.of hh (by intro p hp; simp only [List.mem_cons, List.not_mem_nil, or_false] at hp; rcases hp with h | h <;> simp [h])), trivial⟩, ?_⟩
       refine mc_p rfl   hf (yv_fieldS Try.fs_28_1 rfl rfl) (.inl rfl) rfl rfl ?_; clear hf a; intro a hf
       refine mc_e rfl fun Q1 => ?_
       refine o_call hf Try.en_65 rfl rfl rfl (p65 (begS c ax s.testBit j) kf kt (hiA ax ⟨(kf : Int), (kt : Int), el, eh, nl, nh⟩) (by omega) (by omega) _) ?_; clear hf a; intro v a w hR hf
       obtain ⟨rfl, hx⟩ := hR; replace hh := hh.more hx; clear hx
       refine ops_end ?_
       refine then_n ⟨⟨fun _ _ => (AtE.of hh (by intro p hp; simp only [List.mem_cons, List.not_mem_nil, or_false] at hp; rcases hp with h | h <;> simp [h])), trivial⟩, ?_⟩
       refine mc_e rfl fun Q1 => ?_
       refine o_store (i := 1) hf hh Try.sz_81 (hx := rfl) (hi := atI (i := 1) rfl) (hy := rfl) (hl := Nat.ble_eq_true_of_le (by rw [bC_size]; omega)) fun w hh => ?_
       refine ops_end ?_
       refine then_n ⟨⟨fun h => Bool.noConfusion (show true = false from h), trivial⟩, ?_⟩
       refine mc_end ?_
       refine then_n ?_
       replace hh : Hp u [] ((B11, .cells #[.int .i64 (kf : Nat), .int .i64 (kt : Nat), .int .i64 el, .int .i64 eh, .int .i64 nl, .int .i64 nh] 46) :: (B8, .cells (spl (bC (begS c ax s.testBit j)) 0 (bC (low (begS c ax s.testBit j) kf kt (hiA ax ⟨(kf : Int), (kt : Int), el, eh, nl, nh⟩))).toList) 81) :: [(B6, .cells (bC fun _ _ => none) 81), (B3, .cells (chC c sa cp) 24)]) w := hh
       rw [show spl (bC (begS c ax s.testBit j)) 0 (bC (low (begS c ax s.testBit j) kf kt (hiA ax ⟨(kf : Int), (kt : Int), el, eh, nl, nh⟩))).toList = bC (low (begS c ax s.testBit j) kf kt (hiA ax ⟨(kf : Int), (kt : Int), el, eh, nl, nh⟩)) from spl_all (by rw [bC_size, bC_size])] at hh
       refine sy_treeC (.q 0 0 (.p 1 (.q 0 2 (.p 3 (.q 0 4 (.q 0 5 (.p 6 (.e1 7 (.p 8 (.p 9 (.e1 10 (.e1 11 (.fin))))))))))))) [[11]] [(AtE u [] [(B11, .cells #[.int .i64 (kf : Nat), .int .i64 (kt : Nat), .int .i64 el, .int .i64 eh, .int .i64 nl, .int .i64 nh] 46), (B8, .cells (bC (low (begS c ax s.testBit j) kf kt (hiA ax ⟨(kf : Int), (kt : Int), el, eh, nl, nh⟩))) 81)], [11])] Try.follows (by kernel_rfl) rfl hh (fun w hh => ?_)
       refine mc_q rfl rfl (AtE.of hh (by intro p hp; simp only [List.mem_cons, List.not_mem_nil, or_false] at hp; rcases hp with h | h <;> simp [h])) hf (yv_cast (y_lds Try.ag_81 rfl (hv := cells81 (bC (low (begS c ax s.testBit j) kf kt (hiA ax ⟨(kf : Int), (kt : Int), el, eh, nl, nh⟩))) (bC_size _))) (show Value.agg (bC (low (begS c ax s.testBit j) kf kt (hiA ax ⟨(kf : Int), (kt : Int), el, eh, nl, nh⟩))).toList.toArray = Value.agg (bC (low (begS c ax s.testBit j) kf kt (hiA ax ⟨(kf : Int), (kt : Int), el, eh, nl, nh⟩))) by rw [Array.toArray_toList])) (.inl rfl) rfl rfl ?_; clear hf a; intro a hf
       refine mc_p rfl   hf (yv_fieldAddr Try.fo_46_1 rfl) (.inl rfl) rfl rfl ?_; clear hf a; intro a hf
       refine mc_q rfl rfl (AtE.of hh (by intro p hp; simp only [List.mem_cons, List.not_mem_nil, or_false] at hp; rcases hp with h | h <;> simp [h])) hf (y_ld Try.sc_3 rfl) (.inl rfl) rfl rfl ?_; clear hf a; intro a hf
       refine mc_p rfl   hf (yv_fieldAddr Try.fo_46_0 rfl) (.inl rfl) rfl rfl ?_; clear hf a; intro a hf
       refine mc_q rfl rfl (AtE.of hh (by intro p hp; simp only [List.mem_cons, List.not_mem_nil, or_false] at hp; rcases hp with h | h <;> simp [h])) hf (y_ld Try.sc_3 rfl) (.inl rfl) rfl rfl ?_; clear hf a; intro a hf
       refine mc_q rfl rfl (AtE.of hh (by intro p hp; simp only [List.mem_cons, List.not_mem_nil, or_false] at hp; rcases hp with h | h <;> simp [h])) hf (y_lds Try.ag_46 rfl) (.inl rfl) rfl rfl ?_; clear hf a; intro a hf
       refine mc_p rfl   hf (yv_move rfl) (.inl rfl) rfl rfl ?_; clear hf a; intro a hf
       refine mc_e rfl fun Q1 => ?_
       refine o_call hf Try.en_67 rfl rfl rfl (p67 ⟨(kf : Int), (kt : Int), el, eh, nl, nh⟩ ax _) ?_; clear hf a; intro v a w hR hf
       obtain ⟨rfl, hx⟩ := hR; replace hh := hh.more hx; clear hx
       refine ops_end ?_
       refine then_n ⟨⟨fun _ _ => (AtE.of hh (by intro p hp; simp only [List.mem_cons, List.not_mem_nil, or_false] at hp; rcases hp with h | h <;> simp [h])), trivial⟩, ?_⟩
       refine mc_p rfl   hf (yv_fieldS Try.fs_28_0 rfl rfl) (.inl rfl) rfl rfl ?_; clear hf a; intro a hf
       refine mc_p rfl   hf (yv_neg rfl (by omega) (by omega)) (.inl rfl) rfl rfl ?_; clear hf a; intro a hf
       refine mc_e rfl fun Q1 => ?_
       refine o_call hf Try.en_65 rfl rfl rfl (p65 (low (begS c ax s.testBit j) kf kt (hiA ax ⟨(kf : Int), (kt : Int), el, eh, nl, nh⟩)) kt kf (-loA ax ⟨(kf : Int), (kt : Int), el, eh, nl, nh⟩) (by omega) (by omega) _) ?_; clear hf a; intro v a w hR hf
       obtain ⟨rfl, hx⟩ := hR; replace hh := hh.more hx; clear hx
       refine ops_end ?_
       refine then_n ⟨⟨fun _ _ => (AtE.of hh (by intro p hp; simp only [List.mem_cons, List.not_mem_nil, or_false] at hp; rcases hp with h | h <;> simp [h])), trivial⟩, ?_⟩
       refine mc_e rfl fun Q1 => ?_
       refine o_store (i := 1) hf hh Try.sz_81 (hx := rfl) (hi := atI (i := 1) rfl) (hy := rfl) (hl := Nat.ble_eq_true_of_le (by rw [bC_size]; omega)) fun w hh => ?_
       refine ops_end ?_
       refine then_n ⟨⟨fun h => Bool.noConfusion (show true = false from h), trivial⟩, ?_⟩
       refine mc_end ?_
       refine blk_n ?_
       refine then_n ?_
       refine sy_ops ?_
       refine o_v hf hh (yv_move rfl) ?_; clear hf a; intro a hf
       refine o_v hf hh (y_add rfl rfl) ?_; clear hf a; intro a hf
       refine o_v hf hh (yv_assign rfl) ?_; clear hf a; intro a hf
       refine ops_end ?_
       refine then_n ?_
       first
         | (have hy : s.testBit j = true := by assumption
            have e : begS c ax s.testBit (j + 1) = low (low (begS c ax s.testBit j) kf kt (hiA ax ⟨(kf : Int), (kt : Int), el, eh, nl, nh⟩)) kt kf (-loA ax ⟨(kf : Int), (kt : Int), el, eh, nl, nh⟩) := by rw [begS, if_pos hy, hsj]; rfl
            replace hh : Hp u [] ((B11, .cells #[.int .i64 (kf : Nat), .int .i64 (kt : Nat), .int .i64 el, .int .i64 eh, .int .i64 nl, .int .i64 nh] 46) :: (B8, .cells (spl (bC (low (begS c ax s.testBit j) kf kt (hiA ax ⟨(kf : Int), (kt : Int), el, eh, nl, nh⟩))) 0 (bC (low (low (begS c ax s.testBit j) kf kt (hiA ax ⟨(kf : Int), (kt : Int), el, eh, nl, nh⟩)) kt kf (-loA ax ⟨(kf : Int), (kt : Int), el, eh, nl, nh⟩))).toList) 81) :: [(B6, .cells (bC fun _ _ => none) 81), (B3, .cells (chC c sa cp) 24)]) w := hh
            rw [show spl (bC (low (begS c ax s.testBit j) kf kt (hiA ax ⟨(kf : Int), (kt : Int), el, eh, nl, nh⟩))) 0 (bC (low (low (begS c ax s.testBit j) kf kt (hiA ax ⟨(kf : Int), (kt : Int), el, eh, nl, nh⟩)) kt kf (-loA ax ⟨(kf : Int), (kt : Int), el, eh, nl, nh⟩))).toList = bC (low (low (begS c ax s.testBit j) kf kt (hiA ax ⟨(kf : Int), (kt : Int), el, eh, nl, nh⟩)) kt kf (-loA ax ⟨(kf : Int), (kt : Int), el, eh, nl, nh⟩)) from spl_all (by rw [bC_size, bC_size])] at hh
            exact ⟨j + 1, ⟨⟨by omega, by rw [e]; exact hh.less (.cons _ (.refl _))⟩, (hf.head (by repeat' (first | exact True.intro | refine And.intro rfl ?_)) (Keep.cons rfl (Keep.cons rfl (Keep.cons rfl (Keep.cons rfl (Keep.cons rfl (Keep.cons rfl (Keep.cons rfl (Keep.cons rfl (Keep.cons rfl (Keep.cons rfl (Keep.cons rfl (Keep.cons rfl (Keep.cons rfl (Keep.cons rfl (Keep.cons rfl (Keep.cons rfl (Keep.cons rfl (Keep.cons rfl (Keep.cons rfl (Keep.cons rfl (Keep.cons rfl (Keep.cons rfl (Keep.cons rfl (Keep.cons rfl (Keep.cons rfl (Keep.cons rfl (Keep.cons rfl (Keep.cons rfl (Keep.cons rfl (Keep.cons rfl (Keep.cons rfl (Keep.cons rfl (Keep.cons rfl (Keep.cons rfl (Keep.cons rfl (Keep.cons rfl (Keep.cons rfl (Keep.cons rfl (Keep.app rfl (Keep.rm rfl Keep.base)))))))))))))))))))))))))))))))))))))))))⟩, by omega⟩)
         | (have hy : s.testBit j = false := by assumption
            have e : begS c ax s.testBit (j + 1) = begS c ax s.testBit j := by rw [begS, if_neg (by rw [hy]; decide)]
            exact ⟨j + 1, ⟨⟨by omega, by rw [e]; exact hh⟩, (hf.head (by repeat' (first | exact True.intro | refine And.intro rfl ?_)) (Keep.cons rfl (Keep.cons rfl (Keep.cons rfl (Keep.cons rfl (Keep.cons rfl (Keep.cons rfl (Keep.cons rfl (Keep.cons rfl (Keep.cons rfl (Keep.cons rfl (Keep.cons rfl (Keep.cons rfl (Keep.cons rfl (Keep.cons rfl (Keep.cons rfl (Keep.cons rfl (Keep.cons rfl (Keep.cons rfl (Keep.cons rfl (Keep.cons rfl (Keep.cons rfl (Keep.cons rfl (Keep.cons rfl (Keep.cons rfl (Keep.cons rfl (Keep.cons rfl (Keep.cons rfl (Keep.cons rfl (Keep.cons rfl (Keep.cons rfl (Keep.cons rfl (Keep.cons rfl (Keep.cons rfl (Keep.cons rfl (Keep.cons rfl (Keep.cons rfl (Keep.cons rfl (Keep.cons rfl (Keep.app rfl (Keep.rm rfl Keep.base)))))))))))))))))))))))))))))))))))))))))⟩, by omega⟩)
      ·have hG8 := hg8; try simp only [gS] at hG8
       refine sy_skip ?_
       refine blk_n ?_
       refine then_n ?_
       refine sy_ops ?_
       refine o_v hf hh (yv_move rfl) ?_; clear hf a; intro a hf
       refine o_v hf hh (y_add rfl rfl) ?_; clear hf a; intro a hf
       refine o_v hf hh (yv_assign rfl) ?_; clear hf a; intro a hf
       refine ops_end ?_
       refine then_n ?_
       first
         | (have hy : s.testBit j = true := by assumption
            have e : begS c ax s.testBit (j + 1) = low (low (begS c ax s.testBit j) kf kt (hiA ax ⟨(kf : Int), (kt : Int), el, eh, nl, nh⟩)) kt kf (-loA ax ⟨(kf : Int), (kt : Int), el, eh, nl, nh⟩) := by rw [begS, if_pos hy, hsj]; rfl
            replace hh : Hp u [] ((B11, .cells #[.int .i64 (kf : Nat), .int .i64 (kt : Nat), .int .i64 el, .int .i64 eh, .int .i64 nl, .int .i64 nh] 46) :: (B8, .cells (spl (bC (low (begS c ax s.testBit j) kf kt (hiA ax ⟨(kf : Int), (kt : Int), el, eh, nl, nh⟩))) 0 (bC (low (low (begS c ax s.testBit j) kf kt (hiA ax ⟨(kf : Int), (kt : Int), el, eh, nl, nh⟩)) kt kf (-loA ax ⟨(kf : Int), (kt : Int), el, eh, nl, nh⟩))).toList) 81) :: [(B6, .cells (bC fun _ _ => none) 81), (B3, .cells (chC c sa cp) 24)]) w := hh
            rw [show spl (bC (low (begS c ax s.testBit j) kf kt (hiA ax ⟨(kf : Int), (kt : Int), el, eh, nl, nh⟩))) 0 (bC (low (low (begS c ax s.testBit j) kf kt (hiA ax ⟨(kf : Int), (kt : Int), el, eh, nl, nh⟩)) kt kf (-loA ax ⟨(kf : Int), (kt : Int), el, eh, nl, nh⟩))).toList = bC (low (low (begS c ax s.testBit j) kf kt (hiA ax ⟨(kf : Int), (kt : Int), el, eh, nl, nh⟩)) kt kf (-loA ax ⟨(kf : Int), (kt : Int), el, eh, nl, nh⟩)) from spl_all (by rw [bC_size, bC_size])] at hh
            exact ⟨j + 1, ⟨⟨by omega, by rw [e]; exact hh.less (.cons _ (.refl _))⟩, (hf.head (by repeat' (first | exact True.intro | refine And.intro rfl ?_)) (Keep.cons rfl (Keep.cons rfl (Keep.cons rfl (Keep.cons rfl (Keep.cons rfl (Keep.cons rfl (Keep.cons rfl (Keep.cons rfl (Keep.cons rfl (Keep.cons rfl (Keep.cons rfl (Keep.app rfl (Keep.rm rfl Keep.base))))))))))))))⟩, by omega⟩)
         | (have hy : s.testBit j = false := by assumption
            have e : begS c ax s.testBit (j + 1) = begS c ax s.testBit j := by rw [begS, if_neg (by rw [hy]; decide)]
            exact ⟨j + 1, ⟨⟨by omega, by rw [e]; exact hh⟩, (hf.head (by repeat' (first | exact True.intro | refine And.intro rfl ?_)) (Keep.cons rfl (Keep.cons rfl (Keep.cons rfl (Keep.cons rfl (Keep.cons rfl (Keep.cons rfl (Keep.cons rfl (Keep.cons rfl (Keep.cons rfl (Keep.cons rfl (Keep.cons rfl (Keep.app rfl (Keep.rm rfl Keep.base))))))))))))))⟩, by omega⟩)
     ·have hG6 := hg6; try simp only [gS] at hG6
      refine sy_exit ?_
      refine then_e ?_
      refine then_e ?_
      refine blk_e ?_
      refine then_n ?_
      refine sy_seq ?_
      refine sy_sq ?_
      refine o_v hf hh (yv_assign rfl) ?_; clear hf a; intro a hf
      refine o_end ?_
      refine sy_block ?_
      refine sy_loopH (σ := Nat) [12, 13, 14, 62, 63, 64, 65, 66, 67, 68, 69, 70, 71, 72, 73, 74, 75, 76, 77, 78, 79, 80, 81, 82, 83, 84, 85, 86, 87, 88, 89, 90, 91, 92, 93, 94, 95, 96, 97, 98, 99, 100, 101, 102, 103, 104, 105, 106, 107, 108, 109, 110] (fun y => [(12, .int .i64 (y : Nat))]) (fun y => fun w' => y ≤ nn ∧ Hp u [] [(B8, .cells (bC (viaY nn b0 y)) 81), (B6, .cells (bC fun _ _ => none) 81), (B3, .cells (chC c sa cp) 24)] w') (fun y => nn - y) (0) hf ?_ ?_ ?_
      · repeat' (first | exact True.intro | refine And.intro rfl ?_)
      · exact ⟨Nat.zero_le _, by rw [show j = c.si.length by omega, ← hb0] at hh; exact hh⟩
      ·rintro y a w ⟨hy, hh⟩ hf
       refine sy_seq ?_
       refine sy_sq ?_
       refine o_v hf hh (yv_move rfl) ?_; clear hf a; intro a hf
       refine o_v hf hh (yv_fieldAddr Try.fo_24_0 rfl) ?_; clear hf a; intro a hf
       refine o_v hf hh (y_ld Try.sc_3 rfl) ?_; clear hf a; intro a hf
       refine o_v hf hh (yv_bin rfl rfl rfl) ?_; clear hf a; intro a hf
       refine o_end ?_
       refine sy_cond hf rfl (fun hg17 => ?_) (fun hg17 => ?_)
       ·have hG17 := hg17; try simp only [gS] at hG17
        refine sy_skip ?_
        refine then_n ?_
        refine sy_seq ?_
        refine sy_block ?_
        refine sy_sq ?_
        refine o_v hf hh (yv_assign rfl) ?_; clear hf a; intro a hf
        refine o_end ?_
        refine sy_block ?_
        refine sy_loopH (σ := Nat) [13, 14, 68, 69, 70, 71, 72, 73, 74, 75, 76, 77, 78, 79, 80, 81, 82, 83, 84, 85, 86, 87, 88, 89, 90, 91, 92, 93, 94, 95, 96, 97, 98, 99, 100, 101, 102, 103, 104, 105, 106, 107, 108, 109, 110] (fun i => [(13, .int .i64 (i : Nat))]) (fun i => fun w' => i ≤ nn ∧ Hp u [] [(B8, .cells (bC (viaI nn y (viaY nn b0 y) i)) 81), (B6, .cells (bC fun _ _ => none) 81), (B3, .cells (chC c sa cp) 24)] w') (fun i => nn - i) (0) hf ?_ ?_ ?_
        · repeat' (first | exact True.intro | refine And.intro rfl ?_)
        · exact ⟨Nat.zero_le _, hh⟩
        ·rintro i a w ⟨hi, hh⟩ hf
         refine sy_seq ?_
         refine sy_sq ?_
         refine o_v hf hh (yv_move rfl) ?_; clear hf a; intro a hf
         refine o_v hf hh (yv_fieldAddr Try.fo_24_0 rfl) ?_; clear hf a; intro a hf
         refine o_v hf hh (y_ld Try.sc_3 rfl) ?_; clear hf a; intro a hf
         refine o_v hf hh (yv_bin rfl rfl rfl) ?_; clear hf a; intro a hf
         refine o_end ?_
         refine sy_cond hf rfl (fun hg19 => ?_) (fun hg19 => ?_)
         ·have hG19 := hg19; try simp only [gS] at hG19
          refine sy_skip ?_
          refine then_n ?_
          refine sy_seq ?_
          refine sy_block ?_
          refine sy_sq ?_
          refine o_v hf hh (yv_assign rfl) ?_; clear hf a; intro a hf
          refine o_end ?_
          refine sy_block ?_
          refine sy_loopH (σ := Nat) [14, 74, 75, 76, 77, 78, 79, 80, 81, 82, 83, 84, 85, 86, 87, 88, 89, 90, 91, 92, 93, 94, 95, 96, 97, 98, 99, 100, 101, 102, 103, 104, 105, 106, 107, 108, 109, 110] (fun k => [(14, .int .i64 (k : Nat))]) (fun k => fun w' => k ≤ nn ∧ Hp u [] [(B8, .cells (bC (viaK y i (viaI nn y (viaY nn b0 y) i) k)) 81), (B6, .cells (bC fun _ _ => none) 81), (B3, .cells (chC c sa cp) 24)] w') (fun k => nn - k) (0) hf ?_ ?_ ?_
          · repeat' (first | exact True.intro | refine And.intro rfl ?_)
          · exact ⟨Nat.zero_le _, hh⟩
          ·rintro k a w ⟨hk, hh⟩ hf
           refine sy_seq ?_
           refine sy_sq ?_
           refine o_v hf hh (yv_move rfl) ?_; clear hf a; intro a hf
           refine o_v hf hh (yv_fieldAddr Try.fo_24_0 rfl) ?_; clear hf a; intro a hf
           refine o_v hf hh (y_ld Try.sc_3 rfl) ?_; clear hf a; intro a hf
           refine o_v hf hh (yv_bin rfl rfl rfl) ?_; clear hf a; intro a hf
           refine o_end ?_
           refine sy_cond hf rfl (fun hg21 => ?_) (fun hg21 => ?_)
           ·have hG21 := hg21; try simp only [gS] at hG21
            refine sy_skip ?_
            refine then_n ?_
            refine sy_seq ?_
            refine sy_block ?_
            refine sy_seq ?_
            have hr1 : (bC (viaK y i (viaI nn y (viaY nn b0 y) i) k))[0 + 64 + ((i : Nat) : Int).toNat * 8 + ((y : Nat) : Int).toNat * 1]? = some (.bool (viaK y i (viaI nn y (viaY nn b0 y) i) k i y).isSome) := bC2_r _ _ (by omega) (by omega)
            have hr2 : (bC (viaK y i (viaI nn y (viaY nn b0 y) i) k))[0 + 64 + ((y : Nat) : Int).toNat * 8 + ((k : Nat) : Int).toNat * 1]? = some (.bool (viaK y i (viaI nn y (viaY nn b0 y) i) k y k).isSome) := bC2_r _ _ (by omega) (by omega)
            have hq1 : (bC (viaK y i (viaI nn y (viaY nn b0 y) i) k))[0 + ((i : Nat) : Int).toNat * 8 + ((y : Nat) : Int).toNat * 1]? = some (.int .i64 ((viaK y i (viaI nn y (viaY nn b0 y) i) k i y).getD 0)) := bC2_l _ _ (by omega) (by omega)
            have hq2 : (bC (viaK y i (viaI nn y (viaY nn b0 y) i) k))[0 + ((y : Nat) : Int).toNat * 8 + ((k : Nat) : Int).toNat * 1]? = some (.int .i64 ((viaK y i (viaI nn y (viaY nn b0 y) i) k y k).getD 0)) := bC2_l _ _ (by omega) (by omega)
            have hz1 := cur_bd (n := nn) (i := i) (k := k) hmb (y := y) (by omega) i y
            have hz2 := cur_bd (n := nn) (i := i) (k := k) hmb (y := y) (by omega) y k
            refine sy_ops ?_
            refine o_v hf hh (yv_move rfl) ?_; clear hf a; intro a hf
            refine o_v hf hh (yv_move rfl) ?_; clear hf a; intro a hf
            refine o_v hf hh (yv_fieldAddr Try.fo_81_1 rfl) ?_; clear hf a; intro a hf
            refine o_v hf hh (y_ia Try.ae_79 rfl rfl) ?_; clear hf a; intro a hf
            refine o_v hf hh (y_ia Try.ae_78 rfl rfl) ?_; clear hf a; intro a hf
            refine o_v hf hh (y_ld Try.sc_4 rfl) ?_; clear hf a; intro a hf
            refine o_v hf hh (yv_move rfl) ?_; clear hf a; intro a hf
            refine guard_split hf (t := 86) rfl (fun hg23 => ?_) (fun hg23 => ?_)
            ·have hG23 := hg23; try simp only [gS] at hG23
             refine o_v hf hh (yv_move rfl) ?_; clear hf a; intro a hf
             refine o_v hf hh (yv_move rfl) ?_; clear hf a; intro a hf
             refine o_v hf hh (yv_fieldAddr Try.fo_81_1 rfl) ?_; clear hf a; intro a hf
             refine o_v hf hh (y_ia Try.ae_79 rfl rfl) ?_; clear hf a; intro a hf
             refine o_v hf hh (y_ia Try.ae_78 rfl rfl) ?_; clear hf a; intro a hf
             refine o_v hf hh (y_ld Try.sc_4 rfl) ?_; clear hf a; intro a hf
             refine o_v hf hh (y_pt rfl rfl) ?_; clear hf a; intro a hf
             refine o_end ?_
             refine sy_cond hf rfl (fun hg25 => ?_) (fun hg25 => ?_)
             ·have hG25 := hg25; try simp only [gS] at hG25
              refine sy_treeC (.q 0 0 (.p 1 (.p 2 (.p 3 (.p 4 (.p 5 (.p 6 (.p 7 (.q 0 8 (.p 9 (.p 10 (.p 11 (.p 12 (.p 13 (.q 0 14 (.p 15 (.e1 16 (.e1 17 (.fin))))))))))))))))))) [[17]] [(AtE u [] [(B8, .cells (bC (viaK y i (viaI nn y (viaY nn b0 y) i) k)) 81)], [17])] Try.follows (by kernel_rfl) rfl hh (fun w hh => ?_)
              refine mc_q rfl rfl (AtE.of hh (by intro p hp; rw [List.mem_singleton.1 hp]; simp)) hf (yv_cast (y_lds Try.ag_81 rfl (hv := cells81 (bC (viaK y i (viaI nn y (viaY nn b0 y) i) k)) (bC_size _))) (show Value.agg (bC (viaK y i (viaI nn y (viaY nn b0 y) i) k)).toList.toArray = Value.agg (bC (viaK y i (viaI nn y (viaY nn b0 y) i) k)) by rw [Array.toArray_toList])) (.inl rfl) rfl rfl ?_; clear hf a; intro a hf
              refine mc_p rfl   hf (yv_move rfl) (.inl rfl) rfl rfl ?_; clear hf a; intro a hf
              refine mc_p rfl   hf (yv_move rfl) (.inl rfl) rfl rfl ?_; clear hf a; intro a hf
              refine mc_p rfl   hf (yv_move rfl) (.inl rfl) rfl rfl ?_; clear hf a; intro a hf
              refine mc_p rfl   hf (yv_move rfl) (.inl rfl) rfl rfl ?_; clear hf a; intro a hf
              refine mc_p rfl   hf (yv_fieldAddr Try.fo_81_0 rfl) (.inl rfl) rfl rfl ?_; clear hf a; intro a hf
              refine mc_p rfl   hf (y_ia Try.ae_77 rfl rfl) (.inl rfl) rfl rfl ?_; clear hf a; intro a hf
              refine mc_p rfl   hf (y_ia Try.ae_76 rfl rfl) (.inl rfl) rfl rfl ?_; clear hf a; intro a hf
              refine mc_q rfl rfl (AtE.of hh (by intro p hp; rw [List.mem_singleton.1 hp]; simp)) hf (y_ld Try.sc_3 rfl) (.inl rfl) rfl rfl ?_; clear hf a; intro a hf
              refine mc_p rfl   hf (yv_move rfl) (.inl rfl) rfl rfl ?_; clear hf a; intro a hf
              refine mc_p rfl   hf (yv_move rfl) (.inl rfl) rfl rfl ?_; clear hf a; intro a hf
              refine mc_p rfl   hf (yv_fieldAddr Try.fo_81_0 rfl) (.inl rfl) rfl rfl ?_; clear hf a; intro a hf
              refine mc_p rfl   hf (y_ia Try.ae_77 rfl rfl) (.inl rfl) rfl rfl ?_; clear hf a; intro a hf
              refine mc_p rfl   hf (y_ia Try.ae_76 rfl rfl) (.inl rfl) rfl rfl ?_; clear hf a; intro a hf
              refine mc_q rfl rfl (AtE.of hh (by intro p hp; rw [List.mem_singleton.1 hp]; simp)) hf (y_ld Try.sc_3 rfl) (.inl rfl) rfl rfl ?_; clear hf a; intro a hf
              refine mc_p rfl   hf (y_add rfl rfl) (.inl rfl) rfl rfl ?_; clear hf a; intro a hf
              refine mc_e rfl fun Q1 => ?_
              refine o_call hf Try.en_65 rfl rfl rfl (p65 (viaK y i (viaI nn y (viaY nn b0 y) i) k) i k ((viaK y i (viaI nn y (viaY nn b0 y) i) k i y).getD 0 + (viaK y i (viaI nn y (viaY nn b0 y) i) k y k).getD 0) (by omega) (by omega) _) ?_; clear hf a; intro v a w hR hf
              obtain ⟨rfl, hx⟩ := hR; replace hh := hh.more hx; clear hx
              refine ops_end ?_
              refine then_n ⟨⟨fun _ _ => (AtE.of hh (by intro p hp; rw [List.mem_singleton.1 hp]; simp)), trivial⟩, ?_⟩
              refine mc_e rfl fun Q1 => ?_
              refine o_store (i := 0) hf hh Try.sz_81 (hx := rfl) (hi := atI (i := 0) rfl) (hy := rfl) (hl := Nat.ble_eq_true_of_le (by rw [bC_size]; omega)) fun w hh => ?_
              refine ops_end ?_
              refine then_n ⟨⟨fun h => Bool.noConfusion (show true = false from h), trivial⟩, ?_⟩
              refine mc_end ?_
              refine blk_n ?_
              refine then_n ?_
              refine sy_ops ?_
              refine o_v hf hh (yv_move rfl) ?_; clear hf a; intro a hf
              refine o_v hf hh (y_add rfl rfl) ?_; clear hf a; intro a hf
              refine o_v hf hh (yv_assign rfl) ?_; clear hf a; intro a hf
              refine ops_end ?_
              refine then_n ?_
              first
                | (have e := via_yes (b := viaK y i (viaI nn y (viaY nn b0 y) i) k) (y := y) (i := i) (k := k) (by assumption) (by assumption)
                   replace hh : Hp u [] ((B8, .cells (spl (bC (viaK y i (viaI nn y (viaY nn b0 y) i) k)) 0 (bC (low (viaK y i (viaI nn y (viaY nn b0 y) i) k) i k ((viaK y i (viaI nn y (viaY nn b0 y) i) k i y).getD 0 + (viaK y i (viaI nn y (viaY nn b0 y) i) k y k).getD 0))).toList) 81) :: [(B6, .cells (bC fun _ _ => none) 81), (B3, .cells (chC c sa cp) 24)]) w := hh
                   rw [show spl (bC (viaK y i (viaI nn y (viaY nn b0 y) i) k)) 0 (bC (low (viaK y i (viaI nn y (viaY nn b0 y) i) k) i k ((viaK y i (viaI nn y (viaY nn b0 y) i) k i y).getD 0 + (viaK y i (viaI nn y (viaY nn b0 y) i) k y k).getD 0))).toList = bC (low (viaK y i (viaI nn y (viaY nn b0 y) i) k) i k ((viaK y i (viaI nn y (viaY nn b0 y) i) k i y).getD 0 + (viaK y i (viaI nn y (viaY nn b0 y) i) k y k).getD 0)) from spl_all (by rw [bC_size, bC_size])] at hh
                   exact ⟨k + 1, ⟨⟨by omega, by show Hp u [] [(B8, .cells (bC (via (viaK y i (viaI nn y (viaY nn b0 y) i) k) y i k)) 81), _, _] _; rw [e]; exact hh⟩, (hf.head (by repeat' (first | exact True.intro | refine And.intro rfl ?_)) (Keep.cons rfl (Keep.cons rfl (Keep.cons rfl (Keep.cons rfl (Keep.cons rfl (Keep.cons rfl (Keep.cons rfl (Keep.cons rfl (Keep.cons rfl (Keep.cons rfl (Keep.cons rfl (Keep.cons rfl (Keep.cons rfl (Keep.cons rfl (Keep.cons rfl (Keep.cons rfl (Keep.cons rfl (Keep.cons rfl (Keep.cons rfl (Keep.cons rfl (Keep.cons rfl (Keep.cons rfl (Keep.cons rfl (Keep.cons rfl (Keep.cons rfl (Keep.cons rfl (Keep.cons rfl (Keep.cons rfl (Keep.cons rfl (Keep.cons rfl (Keep.cons rfl (Keep.cons rfl (Keep.cons rfl (Keep.cons rfl (Keep.cons rfl (Keep.cons rfl (Keep.cons rfl (Keep.cons rfl (Keep.app rfl (Keep.rm rfl Keep.base)))))))))))))))))))))))))))))))))))))))))⟩, by omega⟩)
                | (have e := via_no (b := viaK y i (viaI nn y (viaY nn b0 y) i) k) (y := y) (i := i) (k := k) (by first | exact .inl (by assumption) | exact .inr (by assumption))
                   exact ⟨k + 1, ⟨⟨by omega, by show Hp u [] [(B8, .cells (bC (via (viaK y i (viaI nn y (viaY nn b0 y) i) k) y i k)) 81), _, _] _; rw [e]; exact hh⟩, (hf.head (by repeat' (first | exact True.intro | refine And.intro rfl ?_)) (Keep.cons rfl (Keep.cons rfl (Keep.cons rfl (Keep.cons rfl (Keep.cons rfl (Keep.cons rfl (Keep.cons rfl (Keep.cons rfl (Keep.cons rfl (Keep.cons rfl (Keep.cons rfl (Keep.cons rfl (Keep.cons rfl (Keep.cons rfl (Keep.cons rfl (Keep.cons rfl (Keep.cons rfl (Keep.cons rfl (Keep.cons rfl (Keep.cons rfl (Keep.cons rfl (Keep.cons rfl (Keep.cons rfl (Keep.cons rfl (Keep.cons rfl (Keep.cons rfl (Keep.cons rfl (Keep.cons rfl (Keep.cons rfl (Keep.cons rfl (Keep.cons rfl (Keep.cons rfl (Keep.cons rfl (Keep.cons rfl (Keep.cons rfl (Keep.cons rfl (Keep.cons rfl (Keep.cons rfl (Keep.app rfl (Keep.rm rfl Keep.base)))))))))))))))))))))))))))))))))))))))))⟩, by omega⟩)
             ·have hG25 := hg25; try simp only [gS] at hG25
              refine sy_skip ?_
              refine blk_n ?_
              refine then_n ?_
              refine sy_ops ?_
              refine o_v hf hh (yv_move rfl) ?_; clear hf a; intro a hf
              refine o_v hf hh (y_add rfl rfl) ?_; clear hf a; intro a hf
              refine o_v hf hh (yv_assign rfl) ?_; clear hf a; intro a hf
              refine ops_end ?_
              refine then_n ?_
              first
                | (have e := via_yes (b := viaK y i (viaI nn y (viaY nn b0 y) i) k) (y := y) (i := i) (k := k) (by assumption) (by assumption)
                   replace hh : Hp u [] ((B8, .cells (spl (bC (viaK y i (viaI nn y (viaY nn b0 y) i) k)) 0 (bC (low (viaK y i (viaI nn y (viaY nn b0 y) i) k) i k ((viaK y i (viaI nn y (viaY nn b0 y) i) k i y).getD 0 + (viaK y i (viaI nn y (viaY nn b0 y) i) k y k).getD 0))).toList) 81) :: [(B6, .cells (bC fun _ _ => none) 81), (B3, .cells (chC c sa cp) 24)]) w := hh
                   rw [show spl (bC (viaK y i (viaI nn y (viaY nn b0 y) i) k)) 0 (bC (low (viaK y i (viaI nn y (viaY nn b0 y) i) k) i k ((viaK y i (viaI nn y (viaY nn b0 y) i) k i y).getD 0 + (viaK y i (viaI nn y (viaY nn b0 y) i) k y k).getD 0))).toList = bC (low (viaK y i (viaI nn y (viaY nn b0 y) i) k) i k ((viaK y i (viaI nn y (viaY nn b0 y) i) k i y).getD 0 + (viaK y i (viaI nn y (viaY nn b0 y) i) k y k).getD 0)) from spl_all (by rw [bC_size, bC_size])] at hh
                   exact ⟨k + 1, ⟨⟨by omega, by show Hp u [] [(B8, .cells (bC (via (viaK y i (viaI nn y (viaY nn b0 y) i) k) y i k)) 81), _, _] _; rw [e]; exact hh⟩, (hf.head (by repeat' (first | exact True.intro | refine And.intro rfl ?_)) (Keep.cons rfl (Keep.cons rfl (Keep.cons rfl (Keep.cons rfl (Keep.cons rfl (Keep.cons rfl (Keep.cons rfl (Keep.cons rfl (Keep.cons rfl (Keep.cons rfl (Keep.cons rfl (Keep.cons rfl (Keep.cons rfl (Keep.cons rfl (Keep.cons rfl (Keep.cons rfl (Keep.cons rfl (Keep.cons rfl (Keep.cons rfl (Keep.cons rfl (Keep.cons rfl (Keep.app rfl (Keep.rm rfl Keep.base))))))))))))))))))))))))⟩, by omega⟩)
                | (have e := via_no (b := viaK y i (viaI nn y (viaY nn b0 y) i) k) (y := y) (i := i) (k := k) (by first | exact .inl (by assumption) | exact .inr (by assumption))
                   exact ⟨k + 1, ⟨⟨by omega, by show Hp u [] [(B8, .cells (bC (via (viaK y i (viaI nn y (viaY nn b0 y) i) k) y i k)) 81), _, _] _; rw [e]; exact hh⟩, (hf.head (by repeat' (first | exact True.intro | refine And.intro rfl ?_)) (Keep.cons rfl (Keep.cons rfl (Keep.cons rfl (Keep.cons rfl (Keep.cons rfl (Keep.cons rfl (Keep.cons rfl (Keep.cons rfl (Keep.cons rfl (Keep.cons rfl (Keep.cons rfl (Keep.cons rfl (Keep.cons rfl (Keep.cons rfl (Keep.cons rfl (Keep.cons rfl (Keep.cons rfl (Keep.cons rfl (Keep.cons rfl (Keep.cons rfl (Keep.cons rfl (Keep.app rfl (Keep.rm rfl Keep.base))))))))))))))))))))))))⟩, by omega⟩)
            ·have hG23 := hg23; try simp only [gS] at hG23
             refine o_off hf ?_; clear hf a; intro a hf
             refine o_off hf ?_; clear hf a; intro a hf
             refine o_off hf ?_; clear hf a; intro a hf
             refine o_off hf ?_; clear hf a; intro a hf
             refine o_off hf ?_; clear hf a; intro a hf
             refine o_off hf ?_; clear hf a; intro a hf
             refine o_v hf hh (y_pf rfl rfl) ?_; clear hf a; intro a hf
             refine o_end ?_
             refine c_f hf ?_
             refine sy_skip ?_
             refine blk_n ?_
             refine then_n ?_
             refine sy_ops ?_
             refine o_v hf hh (yv_move rfl) ?_; clear hf a; intro a hf
             refine o_v hf hh (y_add rfl rfl) ?_; clear hf a; intro a hf
             refine o_v hf hh (yv_assign rfl) ?_; clear hf a; intro a hf
             refine ops_end ?_
             refine then_n ?_
             first
               | (have e := via_yes (b := viaK y i (viaI nn y (viaY nn b0 y) i) k) (y := y) (i := i) (k := k) (by assumption) (by assumption)
                  replace hh : Hp u [] ((B8, .cells (spl (bC (viaK y i (viaI nn y (viaY nn b0 y) i) k)) 0 (bC (low (viaK y i (viaI nn y (viaY nn b0 y) i) k) i k ((viaK y i (viaI nn y (viaY nn b0 y) i) k i y).getD 0 + (viaK y i (viaI nn y (viaY nn b0 y) i) k y k).getD 0))).toList) 81) :: [(B6, .cells (bC fun _ _ => none) 81), (B3, .cells (chC c sa cp) 24)]) w := hh
                  rw [show spl (bC (viaK y i (viaI nn y (viaY nn b0 y) i) k)) 0 (bC (low (viaK y i (viaI nn y (viaY nn b0 y) i) k) i k ((viaK y i (viaI nn y (viaY nn b0 y) i) k i y).getD 0 + (viaK y i (viaI nn y (viaY nn b0 y) i) k y k).getD 0))).toList = bC (low (viaK y i (viaI nn y (viaY nn b0 y) i) k) i k ((viaK y i (viaI nn y (viaY nn b0 y) i) k i y).getD 0 + (viaK y i (viaI nn y (viaY nn b0 y) i) k y k).getD 0)) from spl_all (by rw [bC_size, bC_size])] at hh
                  exact ⟨k + 1, ⟨⟨by omega, by show Hp u [] [(B8, .cells (bC (via (viaK y i (viaI nn y (viaY nn b0 y) i) k) y i k)) 81), _, _] _; rw [e]; exact hh⟩, (hf.head (by repeat' (first | exact True.intro | refine And.intro rfl ?_)) (Keep.cons rfl (Keep.cons rfl (Keep.cons rfl (Keep.cons rfl (Keep.cons rfl (Keep.cons rfl (Keep.cons rfl (Keep.cons rfl (Keep.cons rfl (Keep.cons rfl (Keep.cons rfl (Keep.cons rfl (Keep.cons rfl (Keep.cons rfl (Keep.cons rfl (Keep.cons rfl (Keep.cons rfl (Keep.cons rfl (Keep.cons rfl (Keep.cons rfl (Keep.cons rfl (Keep.app rfl (Keep.rm rfl Keep.base))))))))))))))))))))))))⟩, by omega⟩)
               | (have e := via_no (b := viaK y i (viaI nn y (viaY nn b0 y) i) k) (y := y) (i := i) (k := k) (by first | exact .inl (by assumption) | exact .inr (by assumption))
                  exact ⟨k + 1, ⟨⟨by omega, by show Hp u [] [(B8, .cells (bC (via (viaK y i (viaI nn y (viaY nn b0 y) i) k) y i k)) 81), _, _] _; rw [e]; exact hh⟩, (hf.head (by repeat' (first | exact True.intro | refine And.intro rfl ?_)) (Keep.cons rfl (Keep.cons rfl (Keep.cons rfl (Keep.cons rfl (Keep.cons rfl (Keep.cons rfl (Keep.cons rfl (Keep.cons rfl (Keep.cons rfl (Keep.cons rfl (Keep.cons rfl (Keep.cons rfl (Keep.cons rfl (Keep.cons rfl (Keep.cons rfl (Keep.cons rfl (Keep.cons rfl (Keep.cons rfl (Keep.cons rfl (Keep.cons rfl (Keep.cons rfl (Keep.app rfl (Keep.rm rfl Keep.base))))))))))))))))))))))))⟩, by omega⟩)
           ·have hG21 := hg21; try simp only [gS] at hG21
            refine sy_exit ?_
            refine then_e ?_
            refine then_e ?_
            refine blk_e ?_
            refine blk_n ?_
            refine then_n ?_
            refine sy_ops ?_
            refine o_v hf hh (yv_move rfl) ?_; clear hf a; intro a hf
            refine o_v hf hh (y_add rfl rfl) ?_; clear hf a; intro a hf
            refine o_v hf hh (yv_assign rfl) ?_; clear hf a; intro a hf
            refine ops_end ?_
            refine then_n ?_
            exact ⟨i + 1, ⟨⟨by omega, by rw [show k = nn by omega] at hh; exact hh⟩, (hf.head (by repeat' (first | exact True.intro | refine And.intro rfl ?_)) (Keep.cons rfl (Keep.cons rfl (Keep.cons rfl (Keep.cons rfl (Keep.cons rfl (Keep.cons rfl (Keep.cons rfl (Keep.app rfl (Keep.rm rfl (Keep.cons rfl (Keep.cons rfl (Keep.cons rfl (Keep.cons rfl (Keep.cons rfl (Keep.app rfl (Keep.rm rfl Keep.base)))))))))))))))))⟩, by omega⟩
         ·have hG19 := hg19; try simp only [gS] at hG19
          refine sy_exit ?_
          refine then_e ?_
          refine then_e ?_
          refine blk_e ?_
          refine blk_n ?_
          refine then_n ?_
          refine sy_ops ?_
          refine o_v hf hh (yv_move rfl) ?_; clear hf a; intro a hf
          refine o_v hf hh (y_add rfl rfl) ?_; clear hf a; intro a hf
          refine o_v hf hh (yv_assign rfl) ?_; clear hf a; intro a hf
          refine ops_end ?_
          refine then_n ?_
          exact ⟨y + 1, ⟨⟨by omega, by rw [show i = nn by omega] at hh; exact hh⟩, (hf.head (by repeat' (first | exact True.intro | refine And.intro rfl ?_)) (Keep.cons rfl (Keep.cons rfl (Keep.cons rfl (Keep.cons rfl (Keep.cons rfl (Keep.cons rfl (Keep.cons rfl (Keep.app rfl (Keep.rm rfl (Keep.cons rfl (Keep.cons rfl (Keep.cons rfl (Keep.cons rfl (Keep.cons rfl (Keep.app rfl (Keep.rm rfl Keep.base)))))))))))))))))⟩, by omega⟩
       ·have hG17 := hg17; try simp only [gS] at hG17
        refine sy_exit ?_
        refine then_e ?_
        refine then_e ?_
        refine blk_e ?_
        refine then_n ?_
        refine sy_seq ?_
        refine sy_sq ?_
        refine o_v hf hh (yv_assign rfl) ?_; clear hf a; intro a hf
        refine o_end ?_
        refine sy_block ?_
        refine sy_loopH (σ := Nat) [7, 15, 111, 112, 113, 114, 115, 116, 117, 118, 119, 120, 121, 122, 123, 124] (fun q => [(15, .int .i64 (q : Nat))]) (fun q => fun w' => q ≤ nn ∧ (∀ p, p < q → 0 ≤ (viaY nn b0 nn p p).getD 0) ∧ Hp u [] [(B8, .cells (bC (viaY nn b0 nn)) 81), (B6, .cells (bC fun _ _ => none) 81), (B3, .cells (chC c sa cp) 24)] w') (fun q => nn - q) (0) hf ?_ ?_ ?_
        · repeat' (first | exact True.intro | refine And.intro rfl ?_)
        · exact ⟨Nat.zero_le _, (fun p hp => absurd hp (Nat.not_lt_zero _)), by rw [show y = nn by omega] at hh; exact hh⟩
        ·rintro q a w ⟨hq, hd, hh⟩ hf
         refine sy_seq ?_
         refine sy_sq ?_
         refine o_v hf hh (yv_move rfl) ?_; clear hf a; intro a hf
         refine o_v hf hh (yv_fieldAddr Try.fo_24_0 rfl) ?_; clear hf a; intro a hf
         refine o_v hf hh (y_ld Try.sc_3 rfl) ?_; clear hf a; intro a hf
         refine o_v hf hh (yv_bin rfl rfl rfl) ?_; clear hf a; intro a hf
         refine o_end ?_
         refine sy_cond hf rfl (fun hg29 => ?_) (fun hg29 => ?_)
         ·have hG29 := hg29; try simp only [gS] at hG29
          refine sy_skip ?_
          refine then_n ?_
          refine sy_seq ?_
          refine sy_block ?_
          refine sy_seq ?_
          have hq1 : (bC (viaY nn b0 nn))[0 + ((q : Nat) : Int).toNat * 8 + ((q : Nat) : Int).toNat * 1]? = some (.int .i64 ((viaY nn b0 nn q q).getD 0)) := bC2_l _ _ (by omega) (by omega)
          refine sy_ops ?_
          refine o_v hf hh (yv_move rfl) ?_; clear hf a; intro a hf
          refine o_v hf hh (yv_move rfl) ?_; clear hf a; intro a hf
          refine o_v hf hh (yv_fieldAddr Try.fo_81_0 rfl) ?_; clear hf a; intro a hf
          refine o_v hf hh (y_ia Try.ae_77 rfl rfl) ?_; clear hf a; intro a hf
          refine o_v hf hh (y_ia Try.ae_76 rfl rfl) ?_; clear hf a; intro a hf
          refine o_v hf hh (y_ld Try.sc_3 rfl) ?_; clear hf a; intro a hf
          refine o_v hf hh (yv_bin rfl rfl rfl) ?_; clear hf a; intro a hf
          refine o_end ?_
          refine sy_cond hf rfl (fun hg31 => ?_) (fun hg31 => ?_)
          ·have hG31 := hg31; try simp only [gS] at hG31
           refine sy_sq ?_
           refine o_v hf hh (yv_buildS Try.bs_81 rfl rfl) ?_; clear hf a; intro a hf
           refine o_store (i := 1) hf hh Try.sz_81 (hx := rfl) (hi := atI (i := 1) rfl) (hy := rfl) (hl := Nat.ble_eq_true_of_le (by rw [bC_size]; omega)) fun w hh => ?_
           refine o_v hf hh (yv_assign rfl) ?_; clear hf a; intro a hf
           refine o_end ?_
           refine sy_ret ?_
           refine blk_r ?_
           refine then_r ?_
           refine then_r ?_
           refine blk_r ?_
           refine then_r ?_
           refine ret_c (vs := [.agg (bC fun _ _ => none), .bool false]) hf ?_ ?_
           rw [z81] at hh
           replace hh : Hp u [] [(B8, .cells (bC (viaY nn b0 nn)) 81), (B6, .cells (spl (bC fun _ _ => none) 0 (bC (fun _ _ => none)).toList) 81), (B3, .cells (chC c sa cp) 24)] w := hh
           rw [show spl (bC fun _ _ => none) 0 (bC (fun _ _ => none)).toList = bC (fun _ _ => none) from spl_all (by simp only [bC_size])] at hh
           · exact ⟨⟨B6, 0, _, _, _, rfl, hh.at (i := 1) rfl, .inr ⟨128, _, Try.ag_81, cells81 _ (bC_size _), by rw [Array.toArray_toList]⟩⟩, rfl, True.intro⟩
           · have hev : tigB c ax s.testBit = false := tigB_no (q := q) (by omega) (by rw [htig]; assumption)
             exact ⟨_, by rw [hev]; rfl, (fun h => by rw [hev] at h; cases h), hh.ext⟩
          ·have hG31 := hg31; try simp only [gS] at hG31
           refine sy_skip ?_
           refine blk_n ?_
           refine then_n ?_
           refine sy_ops ?_
           refine o_v hf hh (yv_move rfl) ?_; clear hf a; intro a hf
           refine o_v hf hh (y_add rfl rfl) ?_; clear hf a; intro a hf
           refine o_v hf hh (yv_assign rfl) ?_; clear hf a; intro a hf
           refine ops_end ?_
           refine then_n ?_
           exact ⟨q + 1, ⟨⟨by omega, (fun p hp => by rcases Nat.lt_succ_iff_lt_or_eq.1 hp with h | h; exact hd p h; rw [h]; omega), hh⟩, (hf.head (by repeat' (first | exact True.intro | refine And.intro rfl ?_)) (Keep.cons rfl (Keep.cons rfl (Keep.cons rfl (Keep.cons rfl (Keep.cons rfl (Keep.cons rfl (Keep.cons rfl (Keep.cons rfl (Keep.cons rfl (Keep.cons rfl (Keep.cons rfl (Keep.cons rfl (Keep.cons rfl (Keep.cons rfl (Keep.app rfl (Keep.rm rfl Keep.base)))))))))))))))))⟩, by omega⟩
         ·have hG29 := hg29; try simp only [gS] at hG29
          refine sy_exit ?_
          refine then_e ?_
          refine then_e ?_
          refine blk_e ?_
          refine then_n ?_
          refine sy_sq ?_
          refine o_v hf hh (yv_cast (y_lds Try.ag_81 rfl (hv := cells81 (bC (viaY nn b0 nn)) (bC_size _))) (show Value.agg (bC (viaY nn b0 nn)).toList.toArray = Value.agg (bC (viaY nn b0 nn)) by rw [Array.toArray_toList])) ?_; clear hf a; intro a hf
          refine o_store (i := 1) hf hh Try.sz_81 (hx := rfl) (hi := atI (i := 1) rfl) (hy := rfl) (hl := Nat.ble_eq_true_of_le (by rw [bC_size]; omega)) fun w hh => ?_
          refine o_v hf hh (yv_assign rfl) ?_; clear hf a; intro a hf
          refine o_end ?_
          refine sy_ret ?_
          refine ret_c (vs := [.agg (bC (viaY nn b0 nn)), .bool true]) hf ?_ ?_
          replace hh : Hp u [] [(B8, .cells (bC (viaY nn b0 nn)) 81), (B6, .cells (spl (bC fun _ _ => none) 0 (bC (viaY nn b0 nn)).toList) 81), (B3, .cells (chC c sa cp) 24)] w := hh
          rw [show spl (bC fun _ _ => none) 0 (bC (viaY nn b0 nn)).toList = bC (viaY nn b0 nn) from spl_all (by simp only [bC_size])] at hh
          · exact ⟨⟨B6, 0, _, _, _, rfl, hh.at (i := 1) rfl, .inr ⟨128, _, Try.ag_81, cells81 _ (bC_size _), by rw [Array.toArray_toList]⟩⟩, rfl, True.intro⟩
          · have hev : tigB c ax s.testBit = true := tigB_yes (fun p hp => by rw [htig]; exact hd p (by omega))
            exact ⟨_, by rw [hev]; rfl, (fun _ => htig.symm), hh.ext⟩
end Go.Proofs.Ytccjnjhlnpgocaa
namespace Go.Proofs.Ytccjnjhlnpgocaa
open Go Go.Sy Go.ChaM
set_option maxRecDepth 100000 in
theorem p47 (c : ChD) (sa : Option Addr) (cp : Nat) (s : Nat) (u : World) (hA : ChAt u c sa) (hO : ChOk c) (hs : s ≤ 4611686018427387904) : Calls Try.prog 47 #[.agg (chC c sa cp), .int .i64 (s : Nat)] u (Ret fun v w' => v = .bool (canT c s.testBit) ∧ Ext [] u w') := by
  refine calls_of Try.func47 rfl rfl (fun a hf => ?_)
  have hh := Hp.init u []
  refine sy_sq ?_
  refine o_box hf hh ?_; clear hf hh a; intro B2 a w hf hh
  refine o_v hf hh (yv_assign rfl) ?_; clear hf a; intro a hf
  refine o_end ?_
  refine sy_sq ?_
  refine o_v hf hh (y_lds Try.ag_24 rfl) ?_; clear hf a; intro a hf
  refine o_v hf hh (yv_move rfl) ?_; clear hf a; intro a hf
  refine o_call hf Try.en_49 rfl rfl rfl (p49 c sa cp s false _ (hA.ext hh.ext) hO (by omega)) ?_; clear hf a; intro v a w hR hf
  obtain ⟨b1, rfl, hb1, hx⟩ := hR; replace hh := hh.more hx; clear hx
  refine o_v hf hh (yv_move rfl) ?_; clear hf a; intro a hf
  refine o_v hf hh (yv_extract rfl rfl) ?_; clear hf a; intro a hf
  refine o_v hf hh (yv_extract rfl rfl) ?_; clear hf a; intro a hf
  refine o_alloc hf hh Try.ze_81 ?_; clear hf hh a; intro B5 a w hf hh
  refine o_store hf hh Try.sz_81 fun w hh => ?_
  refine o_v hf hh (yv_assign rfl) ?_; clear hf a; intro a hf
  refine o_end ?_
  refine sy_sq ?_
  refine o_v hf hh (y_lds Try.ag_24 rfl) ?_; clear hf a; intro a hf
  refine o_v hf hh (yv_move rfl) ?_; clear hf a; intro a hf
  refine o_call hf Try.en_49 rfl rfl rfl (p49 c sa cp s true _ (hA.ext hh.ext) hO (by omega)) ?_; clear hf a; intro v a w hR hf
  obtain ⟨b2, rfl, hb2, hx⟩ := hR; replace hh := hh.more hx; clear hx
  refine o_v hf hh (yv_move rfl) ?_; clear hf a; intro a hf
  refine o_v hf hh (yv_extract rfl rfl) ?_; clear hf a; intro a hf
  refine o_v hf hh (yv_extract rfl rfl) ?_; clear hf a; intro a hf
  refine o_alloc hf hh Try.ze_81 ?_; clear hf hh a; intro B7 a w hf hh
  refine o_store hf hh Try.sz_81 fun w hh => ?_
  refine o_v hf hh (yv_assign rfl) ?_; clear hf a; intro a hf
  refine o_end ?_
  refine sy_sq ?_
  refine o_v hf hh (yv_move rfl) ?_; clear hf a; intro a hf
  refine o_v hf hh (yv_move rfl) ?_; clear hf a; intro a hf
  refine guard_split hf (t := 22) rfl (fun hg7 => ?_) (fun hg7 => ?_)
  ·have hG7 := hg7; try simp only [gS] at hG7
   refine o_v hf hh (yv_move rfl) ?_; clear hf a; intro a hf
   refine o_v hf hh (y_pt rfl rfl) ?_; clear hf a; intro a hf
   refine o_v hf hh (yv_assign rfl) ?_; clear hf a; intro a hf
   refine o_end ?_
   refine sy_ret ?_
   refine ret_r hf rfl rfl ?_
   refine ⟨congrArg Value.bool ?_, hh.ext⟩
   unfold canT
   first
     | (have h9 : tigB c false s.testBit = true := by assumption
        rw [h9, Bool.true_and])
     | (have h9 : tigB c false s.testBit = false := by assumption
        rw [h9, Bool.false_and])
  ·have hG7 := hg7; try simp only [gS] at hG7
   refine o_off hf ?_; clear hf a; intro a hf
   refine o_v hf hh (y_pf rfl rfl) ?_; clear hf a; intro a hf
   refine o_v hf hh (yv_assign rfl) ?_; clear hf a; intro a hf
   refine o_end ?_
   refine sy_ret ?_
   refine ret_r hf rfl rfl ?_
   refine ⟨congrArg Value.bool ?_, hh.ext⟩
   unfold canT
   first
     | (have h9 : tigB c false s.testBit = true := by assumption
        rw [h9, Bool.true_and])
     | (have h9 : tigB c false s.testBit = false := by assumption
        rw [h9, Bool.false_and])
end Go.Proofs.Ytccjnjhlnpgocaa
namespace Go.ChaM
open Go Go.Sy
def oN (o : Option Nat) : Int := match o with
  | none => -1
  | some b => (b : Nat)
theorem oN_get {o : Option Nat} (h : 0 ≤ oN o) : oN o = ((o.getD 0 : Nat) : Int) := by
  cases o with
  | none => exact absurd h (by decide)
  | some b => rfl
theorem oN_none {o : Option Nat} (h : oN o < 0) : o = none := by
  cases o with
  | none => rfl
  | some b => have h2 : ((b : Nat) : Int) < 0 := h; omega
theorem oN_some {o : Option Nat} (h : 0 ≤ oN o) : ∃ b, o = some b := by
  cases o with
  | none => exact absurd h (by decide)
  | some b => exact ⟨b, rfl⟩
theorem whyF_put {c : ChD} {i : Nat} (h : oN (whyF c i) < 0 ∨ (0 ≤ oN (whyF c i) ∧ pc i < pc ((whyF c i).getD 0))) (hc : canT c i.testBit = false) : whyF c (i + 1) = some i := by
  rw [whyF]
  rcases h with h | ⟨h, h2⟩
  · rw [oN_none h]; exact if_pos hc
  · obtain ⟨b, hb⟩ := oN_some h
    rw [hb] at h2 ⊢
    exact if_pos ⟨h2, hc⟩
theorem whyF_can {c : ChD} {i : Nat} (hc : canT c i.testBit = true) : whyF c (i + 1) = whyF c i := by
  rw [whyF]
  cases hb : whyF c i with
  | none => exact if_neg (by rw [hc]; decide)
  | some b => exact if_neg (fun h => by rw [hc] at h; cases h.2)
theorem whyF_big {c : ChD} {i : Nat} (h : 0 ≤ oN (whyF c i)) (h2 : ¬ pc i < pc ((whyF c i).getD 0)) : whyF c (i + 1) = whyF c i := by
  obtain ⟨b, hb⟩ := oN_some h
  rw [whyF, hb]
  rw [hb] at h2
  exact if_neg (fun h => h2 h.1)
end Go.ChaM
