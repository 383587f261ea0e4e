/- Lemmas, in order: Slices of one's own have room; slices without their first thing. Draw. Tours in plain numbers: when one begins at a view, what holds on the way, the best sure order. TopStraight's law in plain numbers: views of a map, to which one goes straight. Tours in memory. Panics of walks, and what becomes of them. The first that is not valid; spans. Lists of spans in memory, read and laid. Tours that are valid. Orders of views; tours that are looked at. Views and orders. What opening a tour tells; steps of a walk. Tours that are opened; minutes. When one begins at a view. Plans in memory; how two of them compare. What makes plans better; lists that are compared. Two plans that are compared. Lists of plans in memory; the least of them. The least of some plans. The best sure order, told without fuel. Plans that are known: told by the blocks in which their orders lie. Plans in slices of one's own; how lists of blocks are ordered anew.. -/
import Derived.Test.YtccpgpnekoncoaaGreatQ13
namespace Go.ChaM
open Go Go.Sy
theorem own_le {e size m cap : Nat} {oa : Option Addr} {xs : List Value} {X : List (Nat × Obj)} (h : OwnSl e size (.slice oa m cap) m xs X) : m ≤ cap := by
  rcases h.2 with ⟨h1, h2, _⟩ | ⟨B, cap', cur, h1, _, h3, _⟩
  · cases h1; exact Nat.le_refl _
  · cases h1; exact h3
end Go.ChaM

namespace Go.Proofs.YtccpgpnekoncoaaGreat
open Go Go.Sy Go.ChaM
set_option maxRecDepth 100000 in
set_option maxHeartbeats 4000000 in
theorem p19 (c : ChD) (sa : Option Addr) (cp : Nat) (u : World) (hA : ChAt u c sa) : Calls Tryz.prog 19 #[.agg (chC c sa cp)] u (Ret fun v w' => ∃ so co, v = .tuple #[.slice so (drwL c).length co, .int .i64 (drwE c)] ∧ (drwL c).length ≤ co ∧ TAt 2 spC w' so (drwL c) ∧ Ext [] u w') := by
  refine calls_ofM Tryz.func19 rfl rfl (fun a hf => ?_)
  have hh := Hp.init u []
  refine sy_sq ?_
  refine o_box hf hh ?_; clear hf hh a; intro B1 a w hf hh
  refine o_v hf hh (yv_assign rfl) ?_; clear hf a; intro a hf
  refine o_alloc hf hh Tryz.ze_34 ?_; clear hf hh a; intro B3 a w hf hh
  refine o_end ?_
  refine sy_sq ?_
  refine o_defer hf ?_; clear hf a; intro a hf
  refine o_end ?_
  refine sy_sq ?_
  refine o_v hf hh (y_lds Tryz.ag_57 rfl) ?_; clear hf a; intro a hf
  refine o_callX hf Tryz.en_61 rfl rfl rfl (p42 c sa cp [] none 0 0 _ (hA.ext hh.ext) (fun i z hz => by simp at hz) rfl (by simp)) ?_ ?_
  ·clear hf a; intro v a w hR hf
   obtain ⟨Bv, XV, rfl, hcb, hall, hVof, hx⟩ := hR; replace hh := (hh.join hx).perm List.perm_append_comm; clear hx
   have hO := chB_iff.1 hcb
   have hn1 := hO.n1; have hn2 := hO.n2
   refine o_v hf hh (yv_assign rfl) ?_; clear hf a; intro a hf
   refine o_end ?_
   refine sy_sq ?_
   refine o_v hf hh (yv_move rfl) ?_; clear hf a; intro a hf
   refine o_callX hf Tryz.en_62 rfl rfl rfl (p43 Bv c sa cp _ (hVof _ (fun q hq => hh.get q (by simp [hq])) (hA.ext hh.ext)) hO) ?_ ?_
   ·clear hf a; intro v a w hR hf
    obtain ⟨hwr, hx⟩ := hR; replace hh := hh.more hx; clear hx
    refine o_end ?_
    refine sy_sq ?_
    refine o_call hf Tryz.en_63 rfl rfl rfl (p44 _) ?_; clear hf a; intro v a w hR hf
    obtain ⟨rfl, hx⟩ := hR; replace hh := hh.more hx; clear hx
    refine o_alloc hf hh Tryz.ze_117 ?_; clear hf hh a; intro B5 a w hf hh
    refine o_store hf hh Tryz.sz_117 fun w hh => ?_
    refine o_end ?_
    refine sy_seq ?_
    replace hh : Hp u [] ([(B5, .cells #[.func (.func 94) #[] #[], .func (.func 95) #[] #[]] 117), (B3, .cells #[.int .i64 0] 34), (B1, .cells (chC c sa cp) 57)] ++ XV) w := hh
    obtain ⟨bmv, esv, cmv, mv, hbv, _⟩ := hVof _ (fun q hq => hh.get q (by simp [hq])) (hA.ext hh.ext)
    have hcn : c.n = ((c.n.toNat : Nat) : Int) := by omega
    refine sy_ops ?_
    refine o_v hf hh (yv_move rfl) ?_; clear hf a; intro a hf
    refine o_v hf hh (yv_nilCheck rfl) ?_; clear hf a; intro a hf
    refine o_v hf hh (yv_fieldAddr Tryz.fo_121_0 rfl) ?_; clear hf a; intro a hf
    refine o_v hf hh (yv_fieldAddr Tryz.fo_57_0 rfl) ?_; clear hf a; intro a hf
    refine o_w hf (yv_cast (yv_ldw Tryz.sc_3 rfl hbv rfl) (show Value.int IntKind.i64 c.n = Value.int .i64 ((c.n.toNat : Nat) : Int) by rw [← hcn])) ?_; clear hf a; intro a hf
    refine ops_make0 hf hh Tryz.eb_60 rfl rfl (by omega) (by simp only [maxLen]; omega) (.inl rfl) rfl ?_; clear hf hh a; intro v18 X a w hO18 hf hh
    replace hh : Hp u [] ([(B5, .cells #[.func (.func 94) #[] #[], .func (.func 95) #[] #[]] 117), (B3, .cells #[.int .i64 0] 34), (B1, .cells (chC c sa cp) 57)] ++ XV ++ X) w := hh.perm List.perm_append_comm
    refine o_v hf hh (yv_assign rfl) ?_; clear hf a; intro a hf
    refine o_end ?_
    refine sy_seq ?_
    refine sy_seq ?_
    obtain ⟨bmv, esv, cmv, mv, hbv, _⟩ := hVof _ (fun q hq => hh.get q (by simp [hq])) (hA.ext hh.ext)
    refine sy_ops ?_
    refine o_v hf hh (yv_move rfl) ?_; clear hf a; intro a hf
    refine o_v hf hh (yv_nilCheck rfl) ?_; clear hf a; intro a hf
    refine o_v hf hh (yv_fieldAddr Tryz.fo_121_0 rfl) ?_; clear hf a; intro a hf
    refine o_v hf hh (yv_fieldAddr Tryz.fo_57_0 rfl) ?_; clear hf a; intro a hf
    refine o_w hf (yv_ldw Tryz.sc_3 rfl hbv rfl) ?_; clear hf a; intro a hf
    refine o_v hf hh (yv_move rfl) ?_; clear hf a; intro a hf
    refine o_end ?_
    refine sy_block ?_
    refine sy_loopH (σ := Nat × Value × List (Nat × Obj)) [6, 7, 24, 25, 26, 27, 28, 29, 30, 31, 32, 33, 34, 35, 36, 37, 38, 39, 40, 41, 42, 43] (fun q => [(24, .int .i64 (q.1 : Nat)), (6, q.2.1)]) (fun q => fun w' => q.1 ≤ c.n.toNat ∧ drwG c q.1 = 0 ∧ OwnSl 110 2 q.2.1 q.1 (((List.range q.1).map (drwP c)).flatMap spC) q.2.2 ∧ Hp u [] ([(B5, .cells #[.func (.func 94) #[] #[], .func (.func 95) #[] #[]] 117), (B3, .cells #[.int .i64 0] 34), (B1, .cells (chC c sa cp) 57)] ++ XV ++ q.2.2) w') (fun q => c.n.toNat - q.1) ((0, v18, X)) hf ?_ ?_ ?_
    · repeat' (first | exact True.intro | refine And.intro rfl ?_)
    · exact ⟨Nat.zero_le _, rfl, hO18, hh⟩
    ·rintro q a w ⟨hi, hG0, hO6, hh⟩ hf
     obtain ⟨i, v6, X⟩ := q; simp only at hi hG0 hO6 hh hf ⊢
     refine sy_sq ?_
     refine o_v hf hh (yv_bin rfl rfl rfl) ?_; clear hf a; intro a hf
     refine o_end ?_
     refine sy_seq ?_
     refine sy_cond hf rfl (fun hg8 => ?_) (fun hg8 => ?_)
     ·have hG8 := hg8; try simp only [gS] at hG8
      refine sy_skip ?_
      refine then_n ?_
      refine sy_seq ?_
      refine sy_block ?_
      refine sy_sq ?_
      refine o_v hf hh (yv_move rfl) ?_; clear hf a; intro a hf
      refine o_v hf hh (yv_assign rfl) ?_; clear hf a; intro a hf
      refine o_end ?_
      refine sy_treeX1 (.p 0 (.p 1 (.p 2 (.p 3 (.q 0 4 (.p 7 (.p 8 (.p 9 (.q 0 10 (.e1 5 (.p 6 (.e1 11 (.p 12 (.p 13 (.e1 14 (.e1 15 (.p 16 (.fin)))))))))))))))))) [15] (fun ch w => bndV c false noneS 0 i = none ∧ ch = misfit 12 ∧ Hp u [] [(B3, .cells #[.int .i64 0] 34)] w) ([(2, .slice none 0 0), (3, ptr B3 0)]) Tryz.follows (by kernel_rfl) hf (by repeat' (first | exact True.intro | refine And.intro rfl ?_)) (by rfl) hh ?_ (fun w hh => ?_)
      ·intro ch a w hX hf
       obtain ⟨hnn, rfl, hh⟩ := hX
       refine blk_p ?_
       refine then_p ?_
       refine then_p ?_
       refine blk_p ?_
       refine then_p ?_
       have hst : (stB c 0 && stB c (i : Int)) = true := by unfold stB inC; simp only [Bool.and_eq_true, decide_eq_true_eq]; omega
       have ev : drwE c = 12 := drwE_at hcb (by omega) hG0 (betE12 hcb hst hwr hnn) (by decide)
       exact pan_da (Ds := []) hf hh Tryz.en_60 (fun w' hh => d41p B3 12 0 w' (hh.at (i := 0) rfl)) fun w' w'' hh h2 => by
         replace hh := hh.turn (i := 0) rfl h2.ext (h2.at (i := 0) rfl)
         exact ⟨[.slice none 0 0, .int .i64 12], ⟨rfl, ⟨B3, 0, _, _, _, rfl, hh.at (i := 0) rfl, .inl ⟨Tryz.sc_34, rfl⟩⟩, True.intro⟩, none, 0, by rw [ev, drwL_no ev (by decide)]; rfl, by rw [drwL_no ev (by decide)]; exact Nat.le_refl _, (fun i s hi => by rw [drwL_no ev (by decide)] at hi; simp at hi), hh.ext⟩
      refine mz_p rfl   hf (yv_move rfl) (.inl rfl) rfl rfl ?_; clear hf a; intro a hf
      refine mz_p rfl   hf (yv_move rfl) (.inl rfl) rfl rfl ?_; clear hf a; intro a hf
      refine mz_p rfl   hf (yv_move rfl) (.inl rfl) rfl rfl ?_; clear hf a; intro a hf
      refine mz_p rfl   hf (y_ia Tryz.ae_117 rfl rfl) (.inl rfl) rfl rfl ?_; clear hf a; intro a hf
      refine mz_q rfl rfl hh hf (y_lds Tryz.ag_116 rfl) (.inl rfl) rfl rfl ?_; clear hf a; intro a hf
      refine mz_p rfl   hf (yv_move rfl) (.inl rfl) rfl rfl ?_; clear hf a; intro a hf
      refine mz_p rfl   hf (yv_move rfl) (.inl rfl) rfl rfl ?_; clear hf a; intro a hf
      refine mz_p rfl   hf (y_ia Tryz.ae_117 rfl rfl) (.inl rfl) rfl rfl ?_; clear hf a; intro a hf
      refine mz_q rfl rfl hh hf (y_lds Tryz.ag_116 rfl) (.inl rfl) rfl rfl ?_; clear hf a; intro a hf
      refine mz_e rfl ?_
      refine o_callX hf Tryz.en_64 rfl rfl rfl (p45 Bv c sa cp 0 i false 0 noneS _ (hVof _ (fun q hq => hh.get q (by simp [hq])) (hA.ext hh.ext)) hO (by omega) (by omega) (fun i _ => zero_out i) (by omega)) ?_ ?_
      ·clear hf a; intro v a w hR hf
       obtain ⟨rfl, hnn, hx⟩ := hR; replace hh := hh.more hx; clear hx
       refine ops_end ?_
       refine qx_n ⟨hf.sub (by repeat' (first | exact True.intro | refine And.intro rfl ?_)), ⟨fun _ _ => hh, trivial⟩, ?_⟩
       refine mz_p rfl   hf (yv_fieldS Tryz.fs_49_0 rfl rfl) (.inl rfl) rfl rfl ?_; clear hf a; intro a hf
       refine mz_e rfl ?_
       refine o_callX hf Tryz.en_64 rfl rfl rfl (p45 Bv c sa cp 0 i true 0 noneS _ (hVof _ (fun q hq => hh.get q (by simp [hq])) (hA.ext hh.ext)) hO (by omega) (by omega) (fun i _ => zero_out i) (by omega)) ?_ ?_
       ·clear hf a; intro v a w hR hf
        obtain ⟨rfl, hnn2, hx⟩ := hR; replace hh := hh.more hx; clear hx
        refine ops_end ?_
        refine qx_n ⟨hf.sub (by repeat' (first | exact True.intro | refine And.intro rfl ?_)), ⟨fun _ _ => hh, trivial⟩, ?_⟩
        refine mz_p rfl   hf (yv_fieldS Tryz.fs_49_0 rfl rfl) (.inl rfl) rfl rfl ?_; clear hf a; intro a hf
        refine mz_p rfl   hf (yv_buildS Tryz.bs_110 rfl rfl) (.inl rfl) rfl rfl ?_; clear hf a; intro a hf
        refine mz_e rfl ?_
        refine ops_buildSl hf hh Tryz.bl_60_1 rfl rfl (.inl rfl) rfl ?_; clear hf hh; clear a; intro B41 a w hf hh
        refine ops_end ?_
        refine qx_n ⟨hf.sub (by repeat' (first | exact True.intro | refine And.intro rfl ?_)), ⟨fun _ _ => (hh.less (.cons _ (List.Sublist.refl _))), trivial⟩, ?_⟩
        refine mz_e rfl ?_
        refine ops_append (e := 110) (size := 2) (xs := ((List.range i).map (drwP c)).flatMap spC) (X := X) (Z := [(B5, Obj.cells #[.func (.func 94) #[] #[], .func (.func 95) #[] #[]] 117), (B3, Obj.cells #[.int .i64 0] 34), (B1, Obj.cells (chC c sa cp) 57)] ++ XV) (m := i) (q := 1) hf (hh.perm (.cons _ (List.perm_append_comm (l₁ := [(B5, Obj.cells #[.func (.func 94) #[] #[], .func (.func 95) #[] #[]] 117), (B3, Obj.cells #[.int .i64 0] 34), (B1, Obj.cells (chC c sa cp) 57)] ++ XV) (l₂ := X)))) Tryz.eb_60 rfl rfl hO6 rfl rfl rfl (by simp only [maxLen]; omega) (by omega) (.inl rfl) rfl ?_; clear hf hh a; intro v7 X7 a w hO7 hf hh
        replace hh : Hp u [] ([(B5, Obj.cells #[.func (.func 94) #[] #[], .func (.func 95) #[] #[]] 117), (B3, Obj.cells #[.int .i64 0] 34), (B1, Obj.cells (chC c sa cp) 57)] ++ XV ++ X7) w := hh.perm List.perm_append_comm
        replace hO7 : OwnSl 110 2 v7 (i + 1) (((List.range i).map (drwP c)).flatMap spC ++ spC (-(bndV c false noneS i 0).getD 0, -(bndV c true noneS i 0).getD 0)) X7 := hO7
        obtain ⟨oa7, cp7, rfl⟩ := own_val hO7
        refine ops_end ?_
        refine qx_n ⟨hf.sub (by repeat' (first | exact True.intro | refine And.intro rfl ?_)), ⟨fun h => Bool.noConfusion (show true = false from h), trivial⟩, ?_⟩
        refine mz_p rfl   hf (yv_assign rfl) (.inl rfl) rfl rfl ?_; clear hf a; intro a hf
        refine mz_end ?_
        refine blk_n ?_
        refine then_n ?_
        refine sy_ops ?_
        refine o_v hf hh (y_add rfl rfl) ?_; clear hf a; intro a hf
        refine o_v hf hh (yv_move rfl) ?_; clear hf a; intro a hf
        refine ops_end ?_
        refine then_n ?_
        have hst : (stB c 0 && stB c (i : Int)) = true := by unfold stB inC; simp only [Bool.and_eq_true, decide_eq_true_eq]; omega
        have ev : betE c 0 (i : Int) = 0 := betE0 hcb hst hwr hnn
        exact ⟨(i + 1, _, X7), ⟨⟨by simp only; omega, by simp only; rw [drwG, if_pos hG0]; exact ev, by simp only; rw [List.range_succ, List.map_append, List.flatMap_append, List.map_cons, List.map_nil, drwP_of ev]; simpa using hO7, hh⟩, (hf.head (by repeat' (first | exact True.intro | refine And.intro rfl ?_)) (Keep.cons rfl (Keep.cons rfl (Keep.cons rfl (Keep.cons rfl (Keep.cons rfl (Keep.cons rfl (Keep.cons rfl (Keep.cons rfl (Keep.cons rfl (Keep.cons rfl (Keep.cons rfl (Keep.cons rfl (Keep.cons rfl (Keep.cons rfl (Keep.cons rfl (Keep.cons rfl (Keep.cons rfl (Keep.cons rfl (Keep.cons rfl (Keep.cons rfl (Keep.cons rfl (Keep.cons rfl (Keep.app rfl (Keep.rm rfl Keep.base)))))))))))))))))))))))))⟩, by simp only; omega⟩
       ·intro ch w hX hf
        exact absurd (bnd_axis hO hwr (by omega) true false hX.1) hnn
      ·intro ch w hX hf
       obtain ⟨hnn, rfl, hx⟩ := hX; exact qx_p ⟨hnn, rfl, (hh.more hx).less (.cons _ (.cons_cons _ (List.nil_sublist _)))⟩
     ·have hG8 := hg8; try simp only [gS] at hG8
      refine sy_exit ?_
      refine then_e ?_
      refine then_e ?_
      refine blk_e ?_
      refine then_n ?_
      refine sy_sq ?_
      refine o_v hf hh (yv_move rfl) ?_; clear hf a; intro a hf
      refine o_v hf hh (yv_assign rfl) ?_; clear hf a; intro a hf
      refine o_store hf hh Tryz.sz_34 fun w hh => ?_
      refine o_end ?_
      refine sy_ret ?_
      obtain rfl : i = c.n.toNat := by omega
      have ev := drwE0 hcb hG0
      have eL := drwL_ok ev
      have el : (drwL c).length = c.n.toNat := by rw [eL]; simp
      obtain ⟨oa6, cp6, rfl⟩ := own_val hO6
      exact ret_da (Ds := []) hf hh Tryz.en_60 (fun w' => d41r B3 w') fun w' hh => ⟨[.slice oa6 c.n.toNat cp6, .int .i64 0], ⟨rfl, ⟨B3, 0, _, _, _, rfl, hh.at (i := 1) rfl, .inl ⟨Tryz.sc_34, rfl⟩⟩, True.intro⟩, oa6, cp6, by rw [el, ev]; rfl, by rw [el]; exact own_le hO6, by rw [eL]; exact own_tat spC_len hO6 (by simp) (fun q hq => hh.get q (by simp [hq])), hh.ext⟩
   ·intro ch w hX hf
    obtain ⟨hwr, rfl, hx⟩ := hX; replace hh := hh.more hx; clear hx
    refine then_p ?_
    have hst : (stB c 0 && stB c ((0 : Nat) : Int)) = true := by unfold stB inC; simp only [Bool.and_eq_true, decide_eq_true_eq]; omega
    have ev : drwE c = 4 := drwE_at hcb (by omega) rfl (betE4 hcb hst hwr) (by decide)
    exact pan_da (Ds := []) hf hh Tryz.en_60 (fun w' hh => d41p B3 4 0 w' (hh.at (i := 0) rfl)) fun w' w'' hh h2 => by
      replace hh := hh.turn (i := 0) rfl h2.ext (h2.at (i := 0) rfl)
      exact ⟨[.slice none 0 0, .int .i64 4], ⟨rfl, ⟨B3, 0, _, _, _, rfl, hh.at (i := 0) rfl, .inl ⟨Tryz.sc_34, rfl⟩⟩, True.intro⟩, none, 0, by rw [ev, drwL_no ev (by decide)]; rfl, by rw [drwL_no ev (by decide)]; exact Nat.le_refl _, (fun i s hi => by rw [drwL_no ev (by decide)] at hi; simp at hi), hh.ext⟩
  ·intro ch w hX hf
   obtain ⟨e, rfl, hx, he⟩ := hX; replace hh := hh.more hx; clear hx
   refine then_p ?_
   rcases he with ⟨hcb, rfl⟩ | ⟨hcb, hal, rfl⟩
   · have ev : drwE c = 1 := drwE1 hcb
     exact pan_da (Ds := []) hf hh Tryz.en_60 (fun w' hh => d41p B3 1 0 w' (hh.at (i := 0) rfl)) fun w' w'' hh h2 => by
       replace hh := hh.turn (i := 0) rfl h2.ext (h2.at (i := 0) rfl)
       exact ⟨[.slice none 0 0, .int .i64 1], ⟨rfl, ⟨B3, 0, _, _, _, rfl, hh.at (i := 0) rfl, .inl ⟨Tryz.sc_34, rfl⟩⟩, True.intro⟩, none, 0, by rw [ev, drwL_no ev (by decide)]; rfl, by rw [drwL_no ev (by decide)]; exact Nat.le_refl _, (fun i s hi => by rw [drwL_no ev (by decide)] at hi; simp at hi), hh.ext⟩
   · simp at hal
end Go.Proofs.YtccpgpnekoncoaaGreat

namespace Go.WalM
open Go Go.Sy
structure TourD where
  dawn : Int
  fr : List (Int × Int)
  ways : List (List (Int × Int))
  stay : List (Int × Int)
  light : List (Int × Int)
abbrev TourD.n (t : TourD) : Nat := t.fr.length
def sp0 (l : List (Int × Int)) (v : Nat) : Int × Int := l.getD v (0, 0)
def okS (s : Int × Int) : Prop := 0 ≤ s.1 ∧ s.1 ≤ s.2 ∧ s.2 ≤ 1440
structure TourOk (t : TourD) : Prop where
  n6 : t.n ≤ 6
  wl : t.ways.length = t.n
  d0 : 0 ≤ t.dawn
  d1 : t.dawn ≤ 1440
  f : ∀ s ∈ t.fr, okS s
  w : ∀ l ∈ t.ways, l.length = t.n ∧ ∀ s ∈ l, okS s
  sl : t.stay.length = t.n
  s : ∀ s ∈ t.stay, okS s
  ll : t.light.length = t.n
  l : ∀ s ∈ t.light, okS s
/-- The way to a view: from another one, or (-1) from the village. -/
def wayV (t : TourD) (fr : Int) (v : Nat) : Int × Int := if fr = -1 then sp0 t.fr v else sp0 (t.ways.getD fr.toNat []) v
def begV (t : TourD) (fr : Int) (v : Nat) (m : Int × Int) : Int × Int := (max (m.1 + (wayV t fr v).1) (sp0 t.light v).1, max (m.2 + (wayV t fr v).2) (sp0 t.light v).1)
def aftV (t : TourD) (v : Nat) (m : Int × Int) : Int × Int := (m.1 + (sp0 t.stay v).1, m.2 + (sp0 t.stay v).2)
/-- The views of an order, and when one begins there. -/
def stpL (t : TourD) : Int → Int × Int → List Nat → List (Nat × (Int × Int))
  | _, _, [] => []
  | fr, m, v :: l => (v, begV t fr v m) :: stpL t v (aftV t v (begV t fr v m)) l
/-- When it is over. -/
def ovrV (t : TourD) : Int → Int × Int → List Nat → Int × Int
  | _, m, [] => m
  | fr, m, v :: l => ovrV t v (aftV t v (begV t fr v m)) l
def surV (t : TourD) (v : Nat) (m : Int × Int) : Bool := decide (m.2 ≤ (sp0 t.light v).2)
def canV (t : TourD) (v : Nat) (m : Int × Int) : Bool := decide (m.1 ≤ (sp0 t.light v).2)
def begL (t : TourD) (l : List Nat) : List (Nat × (Int × Int)) := stpL t (-1) (t.dawn, t.dawn) l
def surB (t : TourD) (l : List Nat) : Bool := (begL t l).all fun p => surV t p.1 p.2
def canB (t : TourD) (l : List Nat) : Bool := (begL t l).all fun p => canV t p.1 p.2
theorem stp_len (t : TourD) : ∀ (l : List Nat) (fr : Int) (m : Int × Int), (stpL t fr m l).length = l.length
  | [], _, _ => rfl
  | v :: l, fr, m => by show (stpL t v _ l).length + 1 = _; rw [stp_len t l]; rfl
/-- An order: views, each at most once. -/
def OrdB (t : TourD) (l : List Nat) : Prop := (∀ v ∈ l, v < t.n) ∧ l.Nodup
/-- Sure from some view on, if one leaves as late as can be. -/
def surF (t : TourD) : Int → Int → List Nat → Prop
  | _, _, [] => True
  | fr, left, v :: l => max (left + (wayV t fr v).2) (sp0 t.light v).1 ≤ (sp0 t.light v).2 ∧ surF t v (max (left + (wayV t fr v).2) (sp0 t.light v).1 + (sp0 t.stay v).2) l
theorem sur_iff (t : TourD) : ∀ (l : List Nat) (fr : Int) (m : Int × Int), ((stpL t fr m l).all fun p => surV t p.1 p.2) = true ↔ surF t fr m.2 l
  | [], _, _ => by simp [stpL, surF]
  | v :: l, fr, m => by
    rw [stpL, List.all_cons, Bool.and_eq_true, sur_iff t l]
    show decide _ = true ∧ _ ↔ _ ∧ _
    rw [decide_eq_true_eq]; rfl
abbrev PlanD := List Nat × Int
/-- The order of lists, as Go's slices.Compare. -/
def cmpI (a b : Int) : Int := if a < b then -1 else if b < a then 1 else 0
def cmpL : List Nat → List Nat → Int
  | [], [] => 0
  | [], _ :: _ => -1
  | _ :: _, [] => 1
  | a :: l, b :: m => if cmpI a b ≠ 0 then cmpI a b else cmpL l m
def betP (a b : PlanD) : Int := if cmpI (-(a.1.length : Int)) (-(b.1.length : Int)) ≠ 0 then cmpI (-(a.1.length : Int)) (-(b.1.length : Int)) else if cmpI a.2 b.2 ≠ 0 then cmpI a.2 b.2 else cmpL a.1 b.1
def leastP (p : PlanD) (l : List PlanD) : PlanD := l.foldl (fun f x => if betP x f < 0 then x else f) p
/-- The best sure order from a view on: views seen (by bits), the view, the minute at which one leaves. -/
def nextP (t : TourD) (rec : Nat → Int → Int → PlanD) (seen : Nat) (fr left : Int) (v : Nat) : Option PlanD :=
  if seen.testBit v then none
  else if surV t v (begV t fr v (left, left)) then
    let p := rec (seen ||| 2 ^ v) v (aftV t v (begV t fr v (left, left))).2
    some (v :: p.1, p.2)
  else none
def bstP (t : TourD) : Nat → Nat → Int → Int → PlanD
  | 0, _, _, left => ([], left)
  | k + 1, seen, fr, left => leastP ([], left) ((List.range t.n).filterMap (nextP t (bstP t k) seen fr left))
def mostP (t : TourD) : PlanD := bstP t (t.n + 1) 0 (-1) t.dawn
theorem least_mem (p : PlanD) : ∀ l : List PlanD, leastP p l = p ∨ leastP p l ∈ l := fun l => by
  unfold leastP
  induction l generalizing p with
  | nil => exact .inl rfl
  | cons x l ih =>
    rw [List.foldl_cons]
    rcases ih (if betP x p < 0 then x else p) with h | h
    · rw [h]
      split
      · exact .inr (.head _)
      · exact .inl rfl
    · exact .inr (.tail _ h)
theorem bet_len {a b : PlanD} (h : betP a b < 0) : b.1.length ≤ a.1.length := by
  unfold betP cmpI at h
  refine Decidable.byContradiction fun hn => ?_
  rw [if_neg (show ¬ -(a.1.length : Int) < -(b.1.length : Int) by omega), if_pos (show -(b.1.length : Int) < -(a.1.length : Int) by omega), if_pos (by decide)] at h
  exact absurd h (by decide)
theorem bet_not {a b : PlanD} (h : ¬ betP a b < 0) : a.1.length ≤ b.1.length := by
  refine Decidable.byContradiction fun hn => h ?_
  unfold betP cmpI
  rw [if_pos (show -(a.1.length : Int) < -(b.1.length : Int) by omega), if_pos (by decide)]
  decide
theorem least_len (p : PlanD) (l : List PlanD) : p.1.length ≤ (leastP p l).1.length ∧ ∀ x ∈ l, x.1.length ≤ (leastP p l).1.length := by
  unfold leastP
  induction l generalizing p with
  | nil => exact ⟨Nat.le_refl _, fun x h => by cases h⟩
  | cons x l ih =>
    rw [List.foldl_cons]
    obtain ⟨h1, h2⟩ := ih (if betP x p < 0 then x else p)
    have h3 : p.1.length ≤ (if betP x p < 0 then x else p).1.length ∧ x.1.length ≤ (if betP x p < 0 then x else p).1.length := by
      split
      · rename_i h; exact ⟨bet_len h, Nat.le_refl _⟩
      · rename_i h; exact ⟨Nat.le_refl _, bet_not h⟩
    refine ⟨Nat.le_trans h3.1 h1, fun y hy => ?_⟩
    rcases List.mem_cons.1 hy with rfl | hy
    · exact Nat.le_trans h3.2 h1
    · exact h2 y hy
theorem bit_or {s v i : Nat} : (s ||| 2 ^ v).testBit i = (s.testBit i || decide (v = i)) := by
  rw [Nat.testBit_or, Nat.testBit_two_pow]
/-- What the best order is made of. -/
theorem bst_ord (t : TourD) : ∀ (k seen : Nat) (fr left : Int), (∀ v ∈ (bstP t k seen fr left).1, v < t.n ∧ seen.testBit v = false) ∧ (bstP t k seen fr left).1.Nodup
  | 0, _, _, _ => ⟨fun v h => (nomatch h), List.nodup_nil⟩
  | k + 1, seen, fr, left => by
    rw [bstP]
    rcases least_mem ([], left) ((List.range t.n).filterMap (nextP t (bstP t k) seen fr left)) with h | h
    · rw [h]; exact ⟨fun v h => (nomatch h), List.nodup_nil⟩
    · obtain ⟨Y, hY⟩ : ∃ Y, Y = leastP ([], left) ((List.range t.n).filterMap (nextP t (bstP t k) seen fr left)) := ⟨_, rfl⟩
      rw [← hY] at h ⊢
      obtain ⟨v, hv, he⟩ := List.mem_filterMap.1 h
      have hv := List.mem_range.1 hv
      unfold nextP at he
      split at he
      · cases he
      · rename_i hs
        split at he
        · injection he with he
          rw [← he]
          obtain ⟨h1, h2⟩ := bst_ord t k (seen ||| 2 ^ v) v (aftV t v (begV t fr v (left, left))).2
          refine ⟨fun x hx => ?_, List.nodup_cons.2 ⟨fun hx => ?_, h2⟩⟩
          · rcases List.mem_cons.1 hx with rfl | hx
            · exact ⟨hv, by simpa using hs⟩
            · have h3 := h1 x hx
              rw [bit_or, Bool.or_eq_false_iff] at h3
              exact ⟨h3.1, h3.2.1⟩
          · have h3 := (h1 v hx).2
            rw [bit_or] at h3
            simp at h3
        · cases he
/-- No sure order has more views. -/
theorem bst_most (t : TourD) : ∀ (k seen : Nat) (fr left : Int) (l : List Nat), l.length ≤ k → (∀ v ∈ l, v < t.n ∧ seen.testBit v = false) → l.Nodup → surF t fr left l → l.length ≤ (bstP t k seen fr left).1.length
  | _, _, _, _, [], _, _, _, _ => Nat.zero_le _
  | 0, _, _, _, v :: l, hk, _, _, _ => absurd hk (Nat.not_succ_le_zero _)
  | k + 1, seen, fr, left, v :: l, hk, hl, hd, hs => by
    obtain ⟨hd1, hd2⟩ := List.nodup_cons.1 hd
    obtain ⟨hv, hb⟩ := hl v (.head _)
    have ih := bst_most t k (seen ||| 2 ^ v) v (aftV t v (begV t fr v (left, left))).2 l (Nat.le_of_succ_le_succ hk) (fun x hx => ⟨(hl x (.tail _ hx)).1, by
      rw [bit_or, (hl x (.tail _ hx)).2, Bool.false_or, decide_eq_false_iff_not]
      rintro rfl; exact hd1 hx⟩) hd2 hs.2
    rw [bstP]
    refine Nat.le_trans (Nat.succ_le_succ ih) ((least_len ([], left) _).2 (v :: (bstP t k (seen ||| 2 ^ v) v (aftV t v (begV t fr v (left, left))).2).1, (bstP t k (seen ||| 2 ^ v) v (aftV t v (begV t fr v (left, left))).2).2) (List.mem_filterMap.2 ⟨v, List.mem_range.2 hv, ?_⟩))
    unfold nextP
    rw [if_neg (by rw [hb]; decide), if_pos (show surV t v (begV t fr v (left, left)) = true from decide_eq_true hs.1)]
theorem most_ord (t : TourD) : OrdB t (mostP t).1 := ⟨fun v h => ((bst_ord t _ _ _ _).1 v h).1, (bst_ord t _ _ _ _).2⟩
theorem nodup_le {n : Nat} {l : List Nat} (h : ∀ v ∈ l, v < n) (hd : l.Nodup) : l.length ≤ n := by
  have := List.Nodup.length_le_of_subset hd (l₂ := List.range n) (fun v hv => List.mem_range.2 (h v hv))
  simpa using this
theorem most_all (t : TourD) {l : List Nat} (h : OrdB t l) (hs : surB t l = true) : l.length ≤ (mostP t).1.length := by
  have := nodup_le h.1 h.2
  exact bst_most t (t.n + 1) 0 (-1) t.dawn l (by omega) (fun v hv => ⟨h.1 v hv, Nat.zero_testBit v⟩) h.2 ((sur_iff t l (-1) (t.dawn, t.dawn)).1 hs)
end Go.WalM

namespace Go.WalM
open Go Go.Sy
/-- How many minutes it is from a spot to another one, at most a day. -/
def farD (p q : Int × Int) : Int := min 1440 (max (p.1 - q.1) (-(p.1 - q.1)) + max (p.2 - q.2) (-(p.2 - q.2)))
theorem far_tri (p q r : Int × Int) : farD p r ≤ farD p q + farD q r := by unfold farD; omega
theorem far_bd (p q : Int × Int) : 0 ≤ farD p q ∧ farD p q ≤ 1440 := by unfold farD; omega
theorem far_comm (p q : Int × Int) : farD p q = farD q p := by unfold farD; omega
theorem far_self (p : Int × Int) : farD p p = 0 := by unfold farD; omega
def dup (n : Int) : Int × Int := (n, n)
def strT (s : Int × Int) (ps : List (Int × Int)) (dawn : Int) : TourD :=
  ⟨dawn, ps.map fun p => dup (farD s p), ps.map fun p => ps.map fun q => dup (farD p q), ps.map fun _ => (0, 0), ps.map fun _ => (0, 1440)⟩
theorem str_n (s : Int × Int) (ps : List (Int × Int)) (dawn : Int) : (strT s ps dawn).n = ps.length := List.length_map _
/-- Where a view lies; -1: the village. -/
def posF (s : Int × Int) (ps : List (Int × Int)) (fr : Int) : Int × Int := if fr = -1 then s else ps.getD fr.toNat (0, 0)
def FrOk (n : Nat) (fr : Int) : Prop := fr = -1 ∨ (0 ≤ fr ∧ fr < n)
theorem sp0_map {f : Int × Int → Int × Int} {ps : List (Int × Int)} {v : Nat} (h : v < ps.length) : sp0 (ps.map f) v = f (ps.getD v (0, 0)) := by
  unfold sp0
  rw [List.getD_eq_getElem?_getD, List.getD_eq_getElem?_getD, List.getElem?_map, List.getElem?_eq_getElem h]; rfl
section
variable {s : Int × Int} {ps : List (Int × Int)} {dawn : Int}
theorem str_way {fr : Int} {v : Nat} (hf : FrOk ps.length fr) (h : v < ps.length) : wayV (strT s ps dawn) fr v = dup (farD (posF s ps fr) (posF s ps v)) := by
  unfold wayV posF
  rw [if_neg (show ¬ ((v : Nat) : Int) = -1 by omega), Int.toNat_natCast]
  rcases hf with rfl | ⟨h1, h2⟩
  · rw [if_pos rfl, if_pos rfl]; exact sp0_map h
  · rw [if_neg (by omega), if_neg (by omega)]
    show sp0 ((ps.map fun p => ps.map fun q => dup (farD p q)).getD fr.toNat []) v = _
    rw [List.getD_eq_getElem?_getD, List.getElem?_map, List.getElem?_eq_getElem (show fr.toNat < ps.length by omega)]
    show sp0 (ps.map fun q => dup (farD ps[fr.toNat] q)) v = _
    rw [sp0_map h, List.getD_eq_getElem?_getD (l := ps) (i := fr.toNat), List.getElem?_eq_getElem (show fr.toNat < ps.length by omega)]; rfl
theorem str_fr {v : Nat} (h : v < ps.length) : sp0 (strT s ps dawn).fr v = dup (farD s (posF s ps v)) := by
  have := str_way (s := s) (ps := ps) (dawn := dawn) (fr := -1) (.inl rfl) h
  unfold wayV at this
  rw [if_pos rfl] at this
  rw [this]
  show dup (farD (if (-1 : Int) = -1 then s else _) _) = _
  rw [if_pos rfl]
theorem str_light {v : Nat} (h : v < ps.length) : sp0 (strT s ps dawn).light v = (0, 1440) := sp0_map h
theorem str_stay {v : Nat} (h : v < ps.length) : sp0 (strT s ps dawn).stay v = (0, 0) := sp0_map h
theorem str_beg {fr : Int} {v : Nat} (hf : FrOk ps.length fr) (h : v < ps.length) {m : Int} (hm : 0 ≤ m) : begV (strT s ps dawn) fr v (m, m) = dup (m + farD (posF s ps fr) (posF s ps v)) := by
  have := far_bd (posF s ps fr) (posF s ps v)
  unfold begV
  rw [str_way hf h, str_light h]
  show (max (m + farD _ _) 0, max (m + farD _ _) 0) = _
  rw [show max (m + farD (posF s ps fr) (posF s ps v)) 0 = m + farD (posF s ps fr) (posF s ps v) by omega]; rfl
theorem str_aft {v : Nat} (h : v < ps.length) (m : Int × Int) : aftV (strT s ps dawn) v m = m := by
  unfold aftV
  rw [str_stay h]
  show (m.1 + 0, m.2 + 0) = m
  rw [Int.add_zero, Int.add_zero]
theorem fr_view {v : Nat} (h : v < ps.length) : FrOk ps.length (v : Int) := .inr ⟨by omega, by omega⟩
/-- Nobody is at a view earlier than one who goes straight there. -/
theorem str_low (hd : 0 ≤ dawn) : ∀ (l : List Nat) (fr m : Int), FrOk ps.length fr → (∀ v ∈ l, v < ps.length) → dawn + farD s (posF s ps fr) ≤ m → ∀ p ∈ stpL (strT s ps dawn) fr (m, m) l, p.1 < ps.length ∧ p.2.1 = p.2.2 ∧ dawn + (sp0 (strT s ps dawn).fr p.1).1 ≤ p.2.1
  | [], _, _, _, _, _, p, hp => by cases hp
  | v :: l, fr, m, hf, hl, hm, p, hp => by
    have hv := hl v (.head _)
    have h1 := far_bd s (posF s ps fr)
    have h2 := far_tri s (posF s ps fr) (posF s ps v)
    have h3 := far_bd s (posF s ps v)
    rw [stpL, str_beg hf hv (by omega), str_aft hv] at hp
    rcases List.mem_cons.1 hp with rfl | hp
    · refine ⟨hv, rfl, ?_⟩
      rw [str_fr hv]
      show dawn + farD _ _ ≤ m + farD _ _
      omega
    · exact str_low hd l v (m + farD (posF s ps fr) (posF s ps v)) (fr_view hv) (fun x hx => hl x (.tail _ hx)) (by omega) p hp
/-- One who goes to one view alone is there just then. -/
theorem str_one (hd : 0 ≤ dawn) {v : Nat} (h : v < ps.length) : begL (strT s ps dawn) [v] = [(v, dup (dawn + (sp0 (strT s ps dawn).fr v).1))] ∧ ovrV (strT s ps dawn) (-1) (dawn, dawn) [v] = dup (dawn + (sp0 (strT s ps dawn).fr v).1) := by
  have e : begV (strT s ps dawn) (-1) v (dawn, dawn) = dup (dawn + (sp0 (strT s ps dawn).fr v).1) := by
    rw [str_beg (.inl rfl) h hd, str_fr h]
    show dup (dawn + farD (if (-1 : Int) = -1 then s else _) _) = _
    rw [if_pos rfl]; rfl
  refine ⟨?_, ?_⟩
  · show stpL _ _ (dawn, dawn) [v] = _
    rw [stpL, e]; rfl
  · rw [ovrV, ovrV]
    show aftV _ _ (begV _ _ _ _) = _
    rw [str_aft h, e]
/-- All ways, there and back. -/
def allW (t : TourD) : Nat → Int
  | 0 => 0
  | n + 1 => allW t n + 2 * (sp0 t.fr n).1
theorem allW_nn {n : Nat} (h : n ≤ ps.length) : 0 ≤ allW (strT s ps dawn) n := by
  induction n with
  | zero => exact Int.le_refl _
  | succ n ih =>
    have := far_bd s (posF s ps n)
    rw [allW, str_fr (by omega)]
    show 0 ≤ _ + 2 * farD _ _
    have := ih (by omega)
    omega
/-- If all ways there and back are done in the light, so are all views one after the other. -/
theorem str_sure (hd : 0 ≤ dawn) (ha : dawn + allW (strT s ps dawn) ps.length ≤ 1440) : ∀ (k i : Nat), i + k = ps.length → ∀ (fr left : Int), FrOk ps.length fr → 0 ≤ left → left + farD s (posF s ps fr) ≤ dawn + allW (strT s ps dawn) i → surF (strT s ps dawn) fr left (List.range' i k)
  | 0, _, _, _, _, _, _, _ => True.intro
  | k + 1, i, hi, fr, left, hf, hl, h => by
    have hv : i < ps.length := by omega
    have h1 := far_bd s (posF s ps fr)
    have h2 := far_tri (posF s ps fr) s (posF s ps i)
    have h3 := far_bd s (posF s ps i)
    have h4 := far_comm (posF s ps fr) s
    have h5 := far_bd (posF s ps fr) (posF s ps i)
    have hw : (wayV (strT s ps dawn) fr i).2 = farD (posF s ps fr) (posF s ps i) := by rw [str_way hf hv]; rfl
    have hn : allW (strT s ps dawn) (i + 1) = allW (strT s ps dawn) i + 2 * farD s (posF s ps i) := by rw [allW, str_fr hv]; rfl
    have hmono : ∀ j, i + 1 + j ≤ ps.length → allW (strT s ps dawn) (i + 1) ≤ allW (strT s ps dawn) (i + 1 + j) := by
      intro j
      induction j with
      | zero => exact fun _ => Int.le_refl _
      | succ j ih =>
        intro hj
        have := ih (by omega)
        have h9 := far_bd s (posF s ps (i + 1 + j : Nat))
        have hj2 : allW (strT s ps dawn) (i + 1 + j + 1) = allW (strT s ps dawn) (i + 1 + j) + 2 * farD s (posF s ps (i + 1 + j : Nat)) := by
          rw [allW, str_fr (show i + 1 + j < ps.length by omega)]; rfl
        show _ ≤ allW (strT s ps dawn) (i + 1 + j + 1)
        omega
    have hm := hmono (ps.length - (i + 1)) (by omega)
    rw [show i + 1 + (ps.length - (i + 1)) = ps.length by omega] at hm
    rw [List.range'_succ, surF, hw, str_light hv, str_stay hv]
    show max (left + _) 0 ≤ 1440 ∧ surF _ _ (max (left + _) 0 + 0) _
    rw [show max (left + farD (posF s ps fr) (posF s ps i)) 0 = left + farD (posF s ps fr) (posF s ps i) by omega, Int.add_zero]
    refine ⟨by omega, str_sure hd ha k (i + 1) (by omega) i _ (fr_view hv) (by omega) (by omega)⟩
/-- Then the best order has all views. -/
theorem str_all (hd : 0 ≤ dawn) (ha : dawn + allW (strT s ps dawn) ps.length ≤ 1440) : (mostP (strT s ps dawn)).1.length = ps.length := by
  have h1 := nodup_le (n := ps.length) (l := (mostP (strT s ps dawn)).1) (fun v hv => by have := (most_ord (strT s ps dawn)).1 v hv; rw [str_n] at this; exact this) (most_ord _).2
  have hs : surF (strT s ps dawn) (-1) dawn (List.range' 0 ps.length) := str_sure hd ha ps.length 0 (by omega) (-1) dawn (.inl rfl) hd (by
    show dawn + farD s (if (-1 : Int) = -1 then s else _) ≤ dawn + 0
    rw [if_pos rfl, far_self]; omega)
  have h2 := most_all (strT s ps dawn) (l := List.range' 0 ps.length) ⟨fun v hv => by rw [str_n]; have := List.mem_range'_1.1 hv; omega, List.nodup_range'⟩ ((sur_iff _ _ _ _).2 hs)
  rw [List.length_range'] at h2
  omega
theorem str_ok (hn : ps.length ≤ 6) (hd : 0 ≤ dawn ∧ dawn ≤ 1440) : TourOk (strT s ps dawn) := by
  have hok : ∀ p q : Int × Int, okS (dup (farD p q)) := fun p q => by have := far_bd p q; exact ⟨this.1, Int.le_refl _, this.2⟩
  refine ⟨by rw [str_n]; exact hn, by rw [str_n]; exact List.length_map _, hd.1, hd.2, fun x hx => ?_, fun l hl => ?_, by rw [str_n]; exact List.length_map _, fun x hx => ?_, by rw [str_n]; exact List.length_map _, fun x hx => ?_⟩
  · obtain ⟨p, _, rfl⟩ := List.mem_map.1 hx; exact hok _ _
  · obtain ⟨p, _, rfl⟩ := List.mem_map.1 hl
    refine ⟨by rw [str_n]; exact List.length_map _, fun x hx => ?_⟩
    obtain ⟨q, _, rfl⟩ := List.mem_map.1 hx; exact hok _ _
  · obtain ⟨p, _, rfl⟩ := List.mem_map.1 hx; exact ⟨Int.le_refl _, Int.le_refl _, by show (0 : Int) ≤ 1440; omega⟩
  · obtain ⟨p, _, rfl⟩ := List.mem_map.1 hx; exact ⟨Int.le_refl _, by show (0 : Int) ≤ 1440; omega, by show (1440 : Int) ≤ 1440; omega⟩
end
end Go.WalM

namespace Go.WalM
open Go Go.Sy
theorem len_ofW {α : Type} {l : List α} {i : Nat} {s : α} (h : l[i]? = some s) : i < l.length := (List.getElem?_eq_some_iff.1 h).1
theorem ex_ofW {α : Type} {l : List α} {i : Nat} (h : i < l.length) : ∃ s, l[i]? = some s := ⟨l[i], by simp [h]⟩
abbrev swV (p : Int × Int) : Value := .agg #[.int .i64 p.1, .int .i64 p.2]
abbrev swC (p : Int × Int) : List Value := [.int .i64 p.1, .int .i64 p.2]
/-- Spans lie in memory. -/
def SpAt (w : World) (sa : Option Addr) (l : List (Int × Int)) : Prop :=
  ∀ i s, l[i]? = some s → ∃ blk off c T fr, sa = some ⟨blk, off, none⟩ ∧ w.heap[blk]? = some (.cells c T fr) ∧ cellsAt c (off + ((i : Nat) : Int).toNat * 2) 2 = some (swC s)
theorem SpAt.ext {w w' : World} {sa : Option Addr} {l : List (Int × Int)} (h : SpAt w sa l) (e : Ext [] w w') : SpAt w' sa l := fun i s hi =>
  let ⟨blk, off, c, T, fr, h1, h2, h3⟩ := h i s hi
  ⟨blk, off, c, T, fr, h1, e.get h2, h3⟩
/-- Numbers of views lie in memory. -/
def VwAt (w : World) (sa : Option Addr) (l : List Int) : Prop :=
  ∀ i x, l[i]? = some x → ∃ blk off c T fr, sa = some ⟨blk, off, none⟩ ∧ w.heap[blk]? = some (.cells c T fr) ∧ c[off + ((i : Nat) : Int).toNat * 1]? = some (.int .i64 x)
theorem VwAt.ext {w w' : World} {sa : Option Addr} {l : List Int} (h : VwAt w sa l) (e : Ext [] w w') : VwAt w' sa l := fun i s hi =>
  let ⟨blk, off, c, T, fr, h1, h2, h3⟩ := h i s hi
  ⟨blk, off, c, T, fr, h1, e.get h2, h3⟩
/-- Lists of spans, each with where it lies: its address and its room. -/
abbrev RowD := List (Int × Int) × Option Addr × Nat
abbrev rowV (r : RowD) : Value := .slice r.2.1 r.1.length r.2.2
def RowsAt (w : World) (sa : Option Addr) (l : List RowD) : Prop :=
  ∀ i r, l[i]? = some r → ∃ blk off c T fr, sa = some ⟨blk, off, none⟩ ∧ w.heap[blk]? = some (.cells c T fr) ∧ c[off + ((i : Nat) : Int).toNat * 1]? = some (rowV r)
theorem RowsAt.ext {w w' : World} {sa : Option Addr} {l : List RowD} (h : RowsAt w sa l) (e : Ext [] w w') : RowsAt w' sa l := fun i s hi =>
  let ⟨blk, off, c, T, fr, h1, h2, h3⟩ := h i s hi
  ⟨blk, off, c, T, fr, h1, e.get h2, h3⟩
/-- Where a tour lies. -/
structure TPl where
  (sf sw ss sl : Option Addr)
  (cf cw cs cl : Nat)
  rows : List RowD
abbrev touC (t : TourD) (p : TPl) : Array Value := #[.int .i64 t.dawn, .slice p.sf t.fr.length p.cf, .slice p.sw t.ways.length p.cw, .slice p.ss t.stay.length p.cs, .slice p.sl t.light.length p.cl]
structure TouAt (w : World) (t : TourD) (p : TPl) : Prop where
  f : SpAt w p.sf t.fr
  g : RowsAt w p.sw p.rows
  r : ∀ r ∈ p.rows, SpAt w r.2.1 r.1
  e : p.rows.map Prod.fst = t.ways
  s : SpAt w p.ss t.stay
  l : SpAt w p.sl t.light
  nf : t.fr.length ≤ 4000000000
  nw : t.ways.length ≤ 4000000000
  ns : t.stay.length ≤ 4000000000
  nl : t.light.length ≤ 4000000000
  nr : ∀ r ∈ p.rows, r.1.length ≤ 4000000000
theorem TouAt.ext {w w' : World} {t : TourD} {p : TPl} (h : TouAt w t p) (e : Ext [] w w') : TouAt w' t p :=
  ⟨h.f.ext e, h.g.ext e, fun r hr => (h.r r hr).ext e, h.e, h.s.ext e, h.l.ext e, h.nf, h.nw, h.ns, h.nl, h.nr⟩
/-- Valid spans and tours. -/
def inW (n lo hi : Int) : Bool := decide (lo ≤ n) && decide (n ≤ hi)
def okB (s : Int × Int) : Bool := !(decide (s.1 < 0) || decide (s.1 > s.2) || decide (s.2 > 1440))
def spsB (n : Int) (l : List (Int × Int)) : Bool := decide ((l.length : Int) = n) && l.all okB
def touB (t : TourD) : Bool := decide ((t.fr.length : Int) ≤ 6) && decide (t.ways.length = t.fr.length) && inW t.dawn 0 1440 && (t.ways ++ [t.fr, t.stay, t.light]).all (spsB t.fr.length)
theorem okB_iff {s : Int × Int} : okB s = true ↔ okS s := by
  unfold okB okS
  simp only [Bool.not_eq_true', Bool.or_eq_false_iff, decide_eq_false_iff_not]
  omega
theorem spsB_iff {n : Nat} {l : List (Int × Int)} : spsB n l = true ↔ l.length = n ∧ ∀ s ∈ l, okS s := by
  unfold spsB
  rw [Bool.and_eq_true, decide_eq_true_eq, List.all_eq_true]
  refine ⟨fun h => ⟨by have := h.1; omega, fun s hs => okB_iff.1 (h.2 s hs)⟩, fun h => ⟨by have := h.1; omega, fun s hs => okB_iff.2 (h.2 s hs)⟩⟩
theorem touB_iff {t : TourD} : touB t = true ↔ TourOk t := by
  unfold touB inW
  simp only [Bool.and_eq_true, decide_eq_true_eq, List.all_append, List.all_cons, List.all_nil, Bool.and_true, spsB_iff]
  constructor
  · rintro ⟨⟨⟨h1, h2⟩, h3, h4⟩, h5, h6, h7, h8⟩
    exact ⟨by show t.fr.length ≤ 6; omega, h2, h3, h4, h6.2, fun l hl => spsB_iff.1 (List.all_eq_true.1 h5 l hl), h7.1, h7.2, h8.1, h8.2⟩
  · intro h
    have h1 : t.fr.length ≤ 6 := h.n6
    exact ⟨⟨⟨by omega, h.wl⟩, h.d0, h.d1⟩, List.all_eq_true.2 fun l hl => spsB_iff.2 (h.w l hl), ⟨True.intro, h.f⟩, ⟨h.sl, h.s⟩, ⟨h.ll, h.l⟩⟩
/-- The first that is not valid; -1: none. -/
def fbdW {α : Type} (ok : α → Bool) : List α → Nat → Int
  | [], _ => -1
  | m :: l, i => if ok m = true then fbdW ok l (i + 1) else i
theorem fbdW_all {α : Type} (ok : α → Bool) : ∀ (l : List α) (i : Nat), decide (0 ≤ fbdW ok l i) = !l.all ok
  | [], i => by simp [fbdW]
  | m :: l, i => by
    cases h : ok m
    · simp [fbdW, h]
    · simp [fbdW, h, fbdW_all ok l (i + 1)]
theorem fbdW_drop {α : Type} {ok : α → Bool} {l : List α} {i : Nat} {m : α} (h : l[i]? = some m) : fbdW ok (l.drop i) i = if ok m = true then fbdW ok (l.drop (i + 1)) (i + 1) else i := by
  rw [List.drop_eq_getElem_cons (len_ofW h)]
  have : l[i]'(len_ofW h) = m := (List.getElem?_eq_some_iff.1 h).2
  rw [this]; rfl
end Go.WalM

namespace Go.Proofs.YtccpgpnekoncoaaGreat
open Go Go.Sy Go.WalM
/-- The panic of what cannot be told. -/
abbrev misW (e : Int) : List PanicEntry := [{ v := .iface 133 (.agg #[.int .i64 e]), recovered := false }]
theorem k67 (b : Bool) (e : Int) (u : World) : Calls Tryz.prog 67 #[.bool b, .int .i64 e] u (RetX (fun v w' => b = true ∧ Ext [] u w') (fun ch w' => b = false ∧ ch = misW e ∧ Ext [] u w')) := by
  refine calls_ofX Tryz.func67 rfl rfl (fun a hf => ?_)
  have hh := Hp.init u []
  refine sy_sq ?_
  refine o_v hf hh (yv_move rfl) ?_; clear hf a; intro a hf
  refine o_v hf hh (yv_not rfl) ?_; clear hf a; intro a hf
  refine o_end ?_
  refine sy_cond hf rfl (fun hg2 => ?_) (fun hg2 => ?_)
  ·have hG2 := hg2; try simp only [gS] at hG2
   refine sy_ops ?_
   refine o_v hf hh (yv_move rfl) ?_; clear hf a; intro a hf
   refine o_v hf hh (yv_buildS Tryz.bs_133 rfl rfl) ?_; clear hf a; intro a hf
   refine o_v hf hh (yv_makeIface (by kernel_rfl) rfl) ?_; clear hf a; intro a hf
   refine o_panic hf fun hf => ?_
   refine pan_x hf ?_
   exact ⟨by simp_all, rfl, hh.ext⟩
  ·have hG2 := hg2; try simp only [gS] at hG2
   refine sy_skip ?_
   refine ret_xn ?_
   refine ret_n hf rfl rfl ?_
   exact ⟨by simp_all, hh.ext⟩
theorem k101 (n l h : Int) (w : World) : Calls Tryz.prog 101 #[.int .i64 n, .int .i64 l, .int .i64 h] w (Ret fun v w' => v = .bool (inW n l h) ∧ Ext [] w w') := by
  refine calls_of Tryz.func101 rfl rfl (fun a hf => ?_)
  have hh := Hp.init w []
  refine sy_sq ?_
  refine o_v hf hh (yv_assign rfl) ?_; clear hf a; intro a hf
  refine o_end ?_
  refine sy_sq ?_
  refine o_v hf hh (yv_move rfl) ?_; clear hf a; intro a hf
  refine o_v hf hh (yv_move rfl) ?_; clear hf a; intro a hf
  refine o_v hf hh (yv_bin rfl rfl rfl) ?_; clear hf a; intro a hf
  refine o_v hf hh (yv_move rfl) ?_; clear hf a; intro a hf
  refine guard_split hf (t := 10) rfl (fun hg2 => ?_) (fun hg2 => ?_)
  ·have hG2 := hg2; try simp only [gS] at hG2
   refine o_v hf hh (yv_move rfl) ?_; clear hf a; intro a hf
   refine o_v hf hh (yv_move rfl) ?_; clear hf a; intro a hf
   refine o_v hf hh (yv_bin rfl rfl rfl) ?_; clear hf a; intro a hf
   refine o_v hf hh (y_pt rfl rfl) ?_; clear hf a; intro a hf
   refine o_v hf hh (yv_assign rfl) ?_; clear hf a; intro a hf
   refine o_end ?_
   refine sy_ret ?_
   refine ret_r hf rfl rfl ?_
   unfold inW
   first
     | (rw [decide_eq_true (show l ≤ n by omega), Bool.true_and]; exact ⟨rfl, hh.ext⟩)
     | (rw [decide_eq_false (show ¬ l ≤ n by omega), Bool.false_and]; exact ⟨rfl, hh.ext⟩)
  ·have hG2 := hg2; try simp only [gS] at hG2
   refine o_off hf ?_; clear hf a; intro a hf
   refine o_off hf ?_; clear hf a; intro a hf
   refine o_off hf ?_; clear hf a; intro a hf
   refine o_v hf hh (y_pf rfl rfl) ?_; clear hf a; intro a hf
   refine o_v hf hh (yv_assign rfl) ?_; clear hf a; intro a hf
   refine o_end ?_
   refine sy_ret ?_
   refine ret_r hf rfl rfl ?_
   unfold inW
   first
     | (rw [decide_eq_true (show l ≤ n by omega), Bool.true_and]; exact ⟨rfl, hh.ext⟩)
     | (rw [decide_eq_false (show ¬ l ≤ n by omega), Bool.false_and]; exact ⟨rfl, hh.ext⟩)
theorem k29n (Be : Nat) (u : World) : Calls Tryz.prog 29 #[.nilIface, ptr Be 0] u (Ret fun v w' => Ext [] u w') := by
  refine calls_of Tryz.func29 rfl rfl (fun a hf => ?_)
  have hh := Hp.init u []
  refine sy_seq ?_
  refine sy_sq ?_
  refine o_v hf hh (yv_move rfl) ?_; clear hf a; intro a hf
  refine o_v hf hh (yv_isNil (by kernel_rfl) rfl rfl) ?_; clear hf a; intro a hf
  refine o_end ?_
  refine c_t hf ?_
  refine sy_ret ?_
  refine then_r ?_
  refine ret_r hf rfl rfl ?_
  exact hh.ext
theorem k29s (Be : Nat) (e x : Int) (u : World) (hb : u.heap[Be]? = some (.cells #[.int .i64 x] 34 (0, 0))) : Calls Tryz.prog 29 #[.iface 133 (.agg #[.int .i64 e]), ptr Be 0] u (Ret fun v w' => Hp u [Be] [(Be, .cells #[.int .i64 e] 34)] w') := by
  refine calls_of Tryz.func29 rfl rfl (fun a hf => ?_)
  have hh := Hp.init1 hb
  refine sy_seq ?_
  refine sy_sq ?_
  refine o_v hf hh (yv_move rfl) ?_; clear hf a; intro a hf
  refine o_v hf hh (yv_notNil (by kernel_rfl) rfl rfl) ?_; clear hf a; intro a hf
  refine o_end ?_
  refine c_f hf ?_
  refine sy_skip ?_
  refine then_n ?_
  refine sy_sq ?_
  refine o_v hf hh (yv_move rfl) ?_; clear hf a; intro a hf
  refine o_v hf hh (yv_assert (by kernel_rfl) rfl) ?_; clear hf a; intro a hf
  refine o_v hf hh (yv_move rfl) ?_; clear hf a; intro a hf
  refine o_v hf hh (yv_extract rfl rfl) ?_; clear hf a; intro a hf
  refine o_v hf hh (yv_extract rfl rfl) ?_; clear hf a; intro a hf
  refine o_alloc hf hh Tryz.ze_133 ?_; clear hf hh a; intro B4 a w hf hh
  refine o_store hf hh Tryz.sz_133 fun w hh => ?_
  refine o_v hf hh (yv_assign rfl) ?_; clear hf a; intro a hf
  refine o_end ?_
  refine sy_seq ?_
  refine sy_sq ?_
  refine o_v hf hh (yv_move rfl) ?_; clear hf a; intro a hf
  refine o_v hf hh (yv_not rfl) ?_; clear hf a; intro a hf
  refine o_end ?_
  refine c_f hf ?_
  refine sy_skip ?_
  refine then_n ?_
  refine sy_ops ?_
  refine o_v hf hh (yv_move rfl) ?_; clear hf a; intro a hf
  refine o_v hf hh (yv_fieldAddr Tryz.fo_133_0 rfl) ?_; clear hf a; intro a hf
  refine o_v hf hh (y_ld Tryz.sc_34 rfl) ?_; clear hf a; intro a hf
  refine o_v hf hh (yv_nilCheck rfl) ?_; clear hf a; intro a hf
  refine o_store hf hh Tryz.sz_34 fun w hh => ?_
  refine ops_end ?_
  refine ret_n hf rfl rfl ?_
  exact hh.less (.cons _ (.cons_cons _ (.refl _)))
theorem kd28r (Be : Nat) (w : World) : CallsDIn (FR none) 0 Tryz.prog 28 #[ptr Be 0] .returning w (fun e u' w' => (∃ v, e = .returned v) ∧ u' = .returning ∧ Ext [] w w') := by
  refine callsDIn_of_wpSIn Tryz.func28 rfl trivial fun c₀ cs hu => ?_
  refine wpSIn_recover (v := .nilIface) (cs' := c₀ :: cs) rfl rfl (.inr ⟨by simp [recoverD, hu], rfl, rfl⟩) ?_
  have hf := (Fr.enter [ptr Be 0] Tryz.f28.ntmps (Nat.le_of_ble_eq_true rfl)).put (d := 1) (blt_lt rfl) .nilIface
  refine o_call hf Tryz.en_29 rfl rfl rfl (k29n Be w) ?_; clear hf; intro v a w' hR hf
  refine ops_end ?_
  exact ends_s hf rfl (frame_same hu) ⟨⟨_, rfl⟩, rfl, hR⟩
theorem kd28p (Be : Nat) (e x : Int) (w : World) (hb : w.heap[Be]? = some (.cells #[.int .i64 x] 34 (0, 0))) : CallsDIn (FR none) 0 Tryz.prog 28 #[ptr Be 0] (.panicking (misW e)) w (fun e' u' w' => (∃ v, e' = .returned v) ∧ u' = .panicking [{ v := .iface 133 (.agg #[.int .i64 e]), recovered := true }] ∧ Hp w [Be] [(Be, .cells #[.int .i64 e] 34)] w') := by
  refine callsDIn_of_wpSIn Tryz.func28 rfl trivial fun c₀ cs hu => ?_
  refine wpSIn_recover (v := .iface 133 (.agg #[.int .i64 e])) (cs' := { c₀ with mode := .panicking [{ v := .iface 133 (.agg #[.int .i64 e]), recovered := true }] } :: cs) rfl rfl (.inl (by simp [recoverD, hu])) ?_
  have hf := (Fr.enter [ptr Be 0] Tryz.f28.ntmps (Nat.le_of_ble_eq_true rfl)).put (d := 1) (blt_lt rfl) (.iface 133 (.agg #[.int .i64 e]))
  refine o_call hf Tryz.en_29 rfl rfl rfl (k29s Be e x w hb) ?_; clear hf; intro v a w' hR hf
  refine ops_end ?_
  exact ends_s hf rfl rfl ⟨⟨_, rfl⟩, rfl, hR⟩
theorem kd36r (Be : Nat) (w : World) : CallsDIn (FR none) 0 Tryz.prog 36 #[ptr Be 0] .returning w (fun e u' w' => (∃ v, e = .returned v) ∧ u' = .returning ∧ Ext [] w w') := by
  refine callsDIn_of_wpSIn Tryz.func36 rfl trivial fun c₀ cs hu => ?_
  refine wpSIn_recover (v := .nilIface) (cs' := c₀ :: cs) rfl rfl (.inr ⟨by simp [recoverD, hu], rfl, rfl⟩) ?_
  have hf := (Fr.enter [ptr Be 0] Tryz.f36.ntmps (Nat.le_of_ble_eq_true rfl)).put (d := 1) (blt_lt rfl) .nilIface
  refine o_call hf Tryz.en_29 rfl rfl rfl (k29n Be w) ?_; clear hf; intro v a w' hR hf
  refine ops_end ?_
  exact ends_s hf rfl (frame_same hu) ⟨⟨_, rfl⟩, rfl, hR⟩
theorem kd66r (Be : Nat) (w : World) : CallsDIn (FR none) 0 Tryz.prog 66 #[ptr Be 0] .returning w (fun e u' w' => (∃ v, e = .returned v) ∧ u' = .returning ∧ Ext [] w w') := by
  refine callsDIn_of_wpSIn Tryz.func66 rfl trivial fun c₀ cs hu => ?_
  refine wpSIn_recover (v := .nilIface) (cs' := c₀ :: cs) rfl rfl (.inr ⟨by simp [recoverD, hu], rfl, rfl⟩) ?_
  have hf := (Fr.enter [ptr Be 0] Tryz.f66.ntmps (Nat.le_of_ble_eq_true rfl)).put (d := 1) (blt_lt rfl) .nilIface
  refine o_call hf Tryz.en_29 rfl rfl rfl (k29n Be w) ?_; clear hf; intro v a w' hR hf
  refine ops_end ?_
  exact ends_s hf rfl (frame_same hu) ⟨⟨_, rfl⟩, rfl, hR⟩
theorem kd66p (Be : Nat) (e x : Int) (w : World) (hb : w.heap[Be]? = some (.cells #[.int .i64 x] 34 (0, 0))) : CallsDIn (FR none) 0 Tryz.prog 66 #[ptr Be 0] (.panicking (misW e)) w (fun e' u' w' => (∃ v, e' = .returned v) ∧ u' = .panicking [{ v := .iface 133 (.agg #[.int .i64 e]), recovered := true }] ∧ Hp w [Be] [(Be, .cells #[.int .i64 e] 34)] w') := by
  refine callsDIn_of_wpSIn Tryz.func66 rfl trivial fun c₀ cs hu => ?_
  refine wpSIn_recover (v := .iface 133 (.agg #[.int .i64 e])) (cs' := { c₀ with mode := .panicking [{ v := .iface 133 (.agg #[.int .i64 e]), recovered := true }] } :: cs) rfl rfl (.inl (by simp [recoverD, hu])) ?_
  have hf := (Fr.enter [ptr Be 0] Tryz.f66.ntmps (Nat.le_of_ble_eq_true rfl)).put (d := 1) (blt_lt rfl) (.iface 133 (.agg #[.int .i64 e]))
  refine o_call hf Tryz.en_29 rfl rfl rfl (k29s Be e x w hb) ?_; clear hf; intro v a w' hR hf
  refine ops_end ?_
  exact ends_s hf rfl rfl ⟨⟨_, rfl⟩, rfl, hR⟩
theorem kd68r (Be : Nat) (w : World) : CallsDIn (FR none) 0 Tryz.prog 68 #[ptr Be 0] .returning w (fun e u' w' => (∃ v, e = .returned v) ∧ u' = .returning ∧ Ext [] w w') := by
  refine callsDIn_of_wpSIn Tryz.func68 rfl trivial fun c₀ cs hu => ?_
  refine wpSIn_recover (v := .nilIface) (cs' := c₀ :: cs) rfl rfl (.inr ⟨by simp [recoverD, hu], rfl, rfl⟩) ?_
  have hf := (Fr.enter [ptr Be 0] Tryz.f68.ntmps (Nat.le_of_ble_eq_true rfl)).put (d := 1) (blt_lt rfl) .nilIface
  refine o_call hf Tryz.en_29 rfl rfl rfl (k29n Be w) ?_; clear hf; intro v a w' hR hf
  refine ops_end ?_
  exact ends_s hf rfl (frame_same hu) ⟨⟨_, rfl⟩, rfl, hR⟩
end Go.Proofs.YtccpgpnekoncoaaGreat

namespace Go.Proofs.YtccpgpnekoncoaaGreat
open Go Go.Sy Go.WalM
theorem k158 (ok : Int × Int → Bool) (l : List (Int × Int)) (sa : Option Addr) (n c0 : Nat) (f : Nat) (fcs : Array Value) (u : World) (hM : SpAt u sa l) (hn : n = l.length) (hl : l.length ≤ 8000000000) (hE : Enters Tryz.prog f) (hcall : ∀ (x : Int × Int), x ∈ l → ∀ (w1 : World), Ext [] u w1 → Calls Tryz.prog f (#[] ++ [swV x].toArray ++ fcs) w1 (Ret fun v w'' => v = .bool (!ok x) ∧ Ext [] w1 w'')) : Calls Tryz.prog 158 #[.slice sa n c0, .func (.func f) #[] fcs] u (Ret fun v w' => v = .int .i64 (fbdW ok l 0) ∧ Ext [] u w') := by
  subst hn
  refine calls_of Tryz.func158 rfl rfl (fun a hf => ?_)
  have hh := Hp.init u []
  refine sy_sq ?_
  refine o_v hf hh (yv_assign rfl) ?_; clear hf a; intro a hf
  refine o_end ?_
  refine sy_seq ?_
  refine sy_sq ?_
  refine o_v hf hh (yv_move rfl) ?_; clear hf a; intro a hf
  refine o_v hf hh (yv_len Tryz.se_22 rfl) ?_; clear hf a; intro a hf
  refine o_v hf hh (yv_move rfl) ?_; clear hf a; intro a hf
  refine o_end ?_
  refine sy_block ?_
  refine sy_loopF (σ := Nat) [4, 5, 8, 9, 10, 11, 12, 13, 14, 15, 16, 17, 18] (fun i => [(8, .int .i64 i)]) (fun i => i ≤ l.length ∧ fbdW ok l 0 = fbdW ok (l.drop i) i) (fun i => l.length - i) (0) hf hh ?_ ?_ ?_
  · repeat' (first | exact True.intro | refine And.intro rfl ?_)
  · exact ⟨Nat.zero_le _, rfl⟩
  ·rintro i a w ⟨hi, hq⟩ hf hh
   refine sy_sq ?_
   refine o_v hf hh (yv_bin rfl rfl rfl) ?_; clear hf a; intro a hf
   refine o_end ?_
   refine sy_seq ?_
   refine sy_cond hf rfl (fun hg2 => ?_) (fun hg2 => ?_)
   ·have hG2 := hg2; try simp only [gS] at hG2
    refine sy_skip ?_
    refine then_n ?_
    refine sy_seq ?_
    refine sy_block ?_
    refine sy_seq ?_
    obtain ⟨m, hm⟩ := ex_ofW (l := l) (i := i) (by omega)
    obtain ⟨blk, off, cc, T, fr, e, hb, hc⟩ := hM i m hm; subst e
    refine sy_ops ?_
    refine o_v hf hh (yv_move rfl) ?_; clear hf a; intro a hf
    refine o_v hf hh (yv_assign rfl) ?_; clear hf a; intro a hf
    refine o_end ?_
    refine sy_sq ?_
    refine o_v hf hh (yv_move rfl) ?_; clear hf a; intro a hf
    refine o_v hf hh (yv_move rfl) ?_; clear hf a; intro a hf
    refine o_v hf hh (yv_move rfl) ?_; clear hf a; intro a hf
    refine o_v hf hh (y_ix Tryz.se_22 rfl rfl) ?_; clear hf a; intro a hf
    refine o_v hf hh (y_lds Tryz.ag_49 rfl) ?_; clear hf a; intro a hf
    refine o_call hf hE rfl rfl rfl (hcall m (List.mem_of_getElem? hm) _ hh.ext) ?_; clear hf a; intro v a w hR hf
    obtain ⟨rfl, hx⟩ := hR; replace hh := hh.more hx; clear hx
    refine o_end ?_
    refine sy_cond hf rfl (fun hg4 => ?_) (fun hg4 => ?_)
    ·have hG4 := hg4; try simp only [gS] at hG4
     refine sy_sq ?_
     refine o_v hf hh (yv_move rfl) ?_; clear hf a; intro a hf
     refine o_v hf hh (yv_assign rfl) ?_; clear hf a; intro a hf
     refine o_end ?_
     refine sy_ret ?_
     refine blk_r ?_
     refine then_r ?_
     refine then_r ?_
     refine blk_r ?_
     refine then_r ?_
     refine ret_r hf rfl rfl ?_
     exact ⟨congrArg (Value.int .i64) (by rw [hq, fbdW_drop hm, if_neg (by simp_all)]), hh.ext⟩
    ·have hG4 := hg4; try simp only [gS] at hG4
     refine sy_skip ?_
     refine blk_n ?_
     refine then_n ?_
     refine sy_ops ?_
     refine o_v hf hh (y_add rfl rfl) ?_; clear hf a; intro a hf
     refine o_v hf hh (yv_move rfl) ?_; clear hf a; intro a hf
     refine ops_end ?_
     refine then_n ?_
     refine ⟨i + 1, ⟨⟨by omega, by rw [hq, fbdW_drop hm, if_pos (by simp_all)]⟩, (hf.head (by repeat' (first | exact True.intro | refine And.intro rfl ?_)) (Keep.cons rfl (Keep.cons rfl (Keep.cons rfl (Keep.cons rfl (Keep.cons rfl (Keep.cons rfl (Keep.cons rfl (Keep.cons rfl (Keep.cons rfl (Keep.cons rfl (Keep.cons rfl (Keep.app rfl (Keep.rm rfl Keep.base)))))))))))))), hh⟩, by omega⟩
   ·have hG2 := hg2; try simp only [gS] at hG2
    refine sy_exit ?_
    refine then_e ?_
    refine then_e ?_
    refine blk_e ?_
    refine then_n ?_
    refine sy_sq ?_
    refine o_v hf hh (yv_assign rfl) ?_; clear hf a; intro a hf
    refine o_end ?_
    refine sy_ret ?_
    refine ret_r hf rfl rfl ?_
    exact ⟨congrArg (Value.int .i64) (by rw [hq, List.drop_eq_nil_of_le (by omega)]; rfl), hh.ext⟩
theorem k136 (ok : Int × Int → Bool) (l : List (Int × Int)) (sa : Option Addr) (n c0 : Nat) (f : Nat) (fcs : Array Value) (u : World) (hM : SpAt u sa l) (hn : n = l.length) (hl : l.length ≤ 8000000000) (hE : Enters Tryz.prog f) (hcall : ∀ (x : Int × Int), x ∈ l → ∀ (w1 : World), Ext [] u w1 → Calls Tryz.prog f (#[] ++ [swV x].toArray ++ fcs) w1 (Ret fun v w'' => v = .bool (!ok x) ∧ Ext [] w1 w'')) : Calls Tryz.prog 136 #[.slice sa n c0, .func (.func f) #[] fcs] u (Ret fun v w' => v = .bool (!l.all ok) ∧ Ext [] u w') := by
  refine calls_of Tryz.func136 rfl rfl (fun a hf => ?_)
  have hh := Hp.init u []
  refine sy_sq ?_
  refine o_v hf hh (yv_assign rfl) ?_; clear hf a; intro a hf
  refine o_end ?_
  refine sy_sq ?_
  refine o_v hf hh (yv_move rfl) ?_; clear hf a; intro a hf
  refine o_v hf hh (yv_move rfl) ?_; clear hf a; intro a hf
  refine o_call hf Tryz.en_158 rfl rfl rfl (k158 ok l sa n c0 f fcs _ (hM.ext hh.ext) hn hl hE (fun x hx w1 e => hcall x hx w1 (hh.ext.trans e))) ?_; clear hf a; intro v a w hR hf
  obtain ⟨rfl, hx⟩ := hR; replace hh := hh.more hx; clear hx
  refine o_v hf hh (yv_bin rfl rfl rfl) ?_; clear hf a; intro a hf
  refine o_v hf hh (yv_assign rfl) ?_; clear hf a; intro a hf
  refine o_end ?_
  refine sy_ret ?_
  refine ret_r hf rfl rfl ?_
  exact ⟨congrArg Value.bool (fbdW_all ok l 0), hh.ext⟩
theorem k137 (ok : RowD → Bool) (l : List (RowD)) (sa : Option Addr) (n c0 : Nat) (f : Nat) (fcs : Array Value) (u : World) (hM : RowsAt u sa l) (hn : n = l.length) (hl : l.length ≤ 8000000000) (hE : Enters Tryz.prog f) (hcall : ∀ (x : RowD), x ∈ l → ∀ (w1 : World), Ext [] u w1 → Calls Tryz.prog f (#[] ++ [rowV x].toArray ++ fcs) w1 (Ret fun v w'' => v = .bool (!ok x) ∧ Ext [] w1 w'')) : Calls Tryz.prog 137 #[.slice sa n c0, .func (.func f) #[] fcs] u (Ret fun v w' => v = .int .i64 (fbdW ok l 0) ∧ Ext [] u w') := by
  subst hn
  refine calls_of Tryz.func137 rfl rfl (fun a hf => ?_)
  have hh := Hp.init u []
  refine sy_sq ?_
  refine o_v hf hh (yv_assign rfl) ?_; clear hf a; intro a hf
  refine o_end ?_
  refine sy_seq ?_
  refine sy_sq ?_
  refine o_v hf hh (yv_move rfl) ?_; clear hf a; intro a hf
  refine o_v hf hh (yv_len Tryz.se_23 rfl) ?_; clear hf a; intro a hf
  refine o_v hf hh (yv_move rfl) ?_; clear hf a; intro a hf
  refine o_end ?_
  refine sy_block ?_
  refine sy_loopF (σ := Nat) [4, 5, 8, 9, 10, 11, 12, 13, 14, 15, 16, 17, 18] (fun i => [(8, .int .i64 i)]) (fun i => i ≤ l.length ∧ fbdW ok l 0 = fbdW ok (l.drop i) i) (fun i => l.length - i) (0) hf hh ?_ ?_ ?_
  · repeat' (first | exact True.intro | refine And.intro rfl ?_)
  · exact ⟨Nat.zero_le _, rfl⟩
  ·rintro i a w ⟨hi, hq⟩ hf hh
   refine sy_sq ?_
   refine o_v hf hh (yv_bin rfl rfl rfl) ?_; clear hf a; intro a hf
   refine o_end ?_
   refine sy_seq ?_
   refine sy_cond hf rfl (fun hg2 => ?_) (fun hg2 => ?_)
   ·have hG2 := hg2; try simp only [gS] at hG2
    refine sy_skip ?_
    refine then_n ?_
    refine sy_seq ?_
    refine sy_block ?_
    refine sy_seq ?_
    obtain ⟨m, hm⟩ := ex_ofW (l := l) (i := i) (by omega)
    obtain ⟨blk, off, cc, T, fr, e, hb, hc⟩ := hM i m hm; subst e
    refine sy_ops ?_
    refine o_v hf hh (yv_move rfl) ?_; clear hf a; intro a hf
    refine o_v hf hh (yv_assign rfl) ?_; clear hf a; intro a hf
    refine o_end ?_
    refine sy_sq ?_
    refine o_v hf hh (yv_move rfl) ?_; clear hf a; intro a hf
    refine o_v hf hh (yv_move rfl) ?_; clear hf a; intro a hf
    refine o_v hf hh (yv_move rfl) ?_; clear hf a; intro a hf
    refine o_v hf hh (y_ix Tryz.se_23 rfl rfl) ?_; clear hf a; intro a hf
    refine o_v hf hh (y_ld Tryz.sc_22 rfl) ?_; clear hf a; intro a hf
    refine o_call hf hE rfl rfl rfl (hcall m (List.mem_of_getElem? hm) _ hh.ext) ?_; clear hf a; intro v a w hR hf
    obtain ⟨rfl, hx⟩ := hR; replace hh := hh.more hx; clear hx
    refine o_end ?_
    refine sy_cond hf rfl (fun hg4 => ?_) (fun hg4 => ?_)
    ·have hG4 := hg4; try simp only [gS] at hG4
     refine sy_sq ?_
     refine o_v hf hh (yv_move rfl) ?_; clear hf a; intro a hf
     refine o_v hf hh (yv_assign rfl) ?_; clear hf a; intro a hf
     refine o_end ?_
     refine sy_ret ?_
     refine blk_r ?_
     refine then_r ?_
     refine then_r ?_
     refine blk_r ?_
     refine then_r ?_
     refine ret_r hf rfl rfl ?_
     exact ⟨congrArg (Value.int .i64) (by rw [hq, fbdW_drop hm, if_neg (by simp_all)]), hh.ext⟩
    ·have hG4 := hg4; try simp only [gS] at hG4
     refine sy_skip ?_
     refine blk_n ?_
     refine then_n ?_
     refine sy_ops ?_
     refine o_v hf hh (y_add rfl rfl) ?_; clear hf a; intro a hf
     refine o_v hf hh (yv_move rfl) ?_; clear hf a; intro a hf
     refine ops_end ?_
     refine then_n ?_
     refine ⟨i + 1, ⟨⟨by omega, by rw [hq, fbdW_drop hm, if_pos (by simp_all)]⟩, (hf.head (by repeat' (first | exact True.intro | refine And.intro rfl ?_)) (Keep.cons rfl (Keep.cons rfl (Keep.cons rfl (Keep.cons rfl (Keep.cons rfl (Keep.cons rfl (Keep.cons rfl (Keep.cons rfl (Keep.cons rfl (Keep.cons rfl (Keep.cons rfl (Keep.app rfl (Keep.rm rfl Keep.base)))))))))))))), hh⟩, by omega⟩
   ·have hG2 := hg2; try simp only [gS] at hG2
    refine sy_exit ?_
    refine then_e ?_
    refine then_e ?_
    refine blk_e ?_
    refine then_n ?_
    refine sy_sq ?_
    refine o_v hf hh (yv_assign rfl) ?_; clear hf a; intro a hf
    refine o_end ?_
    refine sy_ret ?_
    refine ret_r hf rfl rfl ?_
    exact ⟨congrArg (Value.int .i64) (by rw [hq, List.drop_eq_nil_of_le (by omega)]; rfl), hh.ext⟩
theorem k102 (ok : RowD → Bool) (l : List (RowD)) (sa : Option Addr) (n c0 : Nat) (f : Nat) (fcs : Array Value) (u : World) (hM : RowsAt u sa l) (hn : n = l.length) (hl : l.length ≤ 8000000000) (hE : Enters Tryz.prog f) (hcall : ∀ (x : RowD), x ∈ l → ∀ (w1 : World), Ext [] u w1 → Calls Tryz.prog f (#[] ++ [rowV x].toArray ++ fcs) w1 (Ret fun v w'' => v = .bool (!ok x) ∧ Ext [] w1 w'')) : Calls Tryz.prog 102 #[.slice sa n c0, .func (.func f) #[] fcs] u (Ret fun v w' => v = .bool (!l.all ok) ∧ Ext [] u w') := by
  refine calls_of Tryz.func102 rfl rfl (fun a hf => ?_)
  have hh := Hp.init u []
  refine sy_sq ?_
  refine o_v hf hh (yv_assign rfl) ?_; clear hf a; intro a hf
  refine o_end ?_
  refine sy_sq ?_
  refine o_v hf hh (yv_move rfl) ?_; clear hf a; intro a hf
  refine o_v hf hh (yv_move rfl) ?_; clear hf a; intro a hf
  refine o_call hf Tryz.en_137 rfl rfl rfl (k137 ok l sa n c0 f fcs _ (hM.ext hh.ext) hn hl hE (fun x hx w1 e => hcall x hx w1 (hh.ext.trans e))) ?_; clear hf a; intro v a w hR hf
  obtain ⟨rfl, hx⟩ := hR; replace hh := hh.more hx; clear hx
  refine o_v hf hh (yv_bin rfl rfl rfl) ?_; clear hf a; intro a hf
  refine o_v hf hh (yv_assign rfl) ?_; clear hf a; intro a hf
  refine o_end ?_
  refine sy_ret ?_
  refine ret_r hf rfl rfl ?_
  exact ⟨congrArg Value.bool (fbdW_all ok l 0), hh.ext⟩
theorem k135 (s : Int × Int) (w : World) : Calls Tryz.prog 135 #[swV s] w (Ret fun v w' => v = .bool (!okB s) ∧ Ext [] w w') := by
  refine calls_of Tryz.func135 rfl rfl (fun a hf => ?_)
  have hh := Hp.init w []
  unfold okB
  refine sy_sq ?_
  refine o_box hf hh ?_; clear hf hh a; intro B1 a w hf hh
  refine o_v hf hh (yv_assign rfl) ?_; clear hf a; intro a hf
  refine o_end ?_
  refine sy_sq ?_
  refine o_v hf hh (yv_fieldAddr Tryz.fo_49_0 rfl) ?_; clear hf a; intro a hf
  refine o_v hf hh (y_ld Tryz.sc_3 rfl) ?_; clear hf a; intro a hf
  refine o_v hf hh (yv_bin rfl rfl rfl) ?_; clear hf a; intro a hf
  refine o_v hf hh (yv_move rfl) ?_; clear hf a; intro a hf
  refine guard_split hf (t := 6) rfl (fun hg2 => ?_) (fun hg2 => ?_)
  ·have hG2 := hg2; try simp only [gS] at hG2
   refine o_off hf ?_; clear hf a; intro a hf
   refine o_off hf ?_; clear hf a; intro a hf
   refine o_off hf ?_; clear hf a; intro a hf
   refine o_off hf ?_; clear hf a; intro a hf
   refine o_off hf ?_; clear hf a; intro a hf
   refine o_v hf hh (y_pt rfl rfl) ?_; clear hf a; intro a hf
   refine o_v hf hh (yv_move rfl) ?_; clear hf a; intro a hf
   refine o_off hf ?_; clear hf a; intro a hf
   refine o_off hf ?_; clear hf a; intro a hf
   refine o_off hf ?_; clear hf a; intro a hf
   refine o_v hf hh (y_pt rfl rfl) ?_; clear hf a; intro a hf
   refine o_v hf hh (yv_assign rfl) ?_; clear hf a; intro a hf
   refine o_end ?_
   refine sy_ret ?_
   refine ret_r hf rfl rfl ?_
   refine ⟨congrArg Value.bool ?_, hh.ext⟩
   clear hf hh
   first
     | (simp_all; done)
     | (simp only [*, Bool.false_and, Bool.and_false, Bool.true_and, Bool.and_true, Bool.not_true, Bool.not_false]; done)
     | (rw [Bool.eq_iff_iff]; simp_all <;> omega)
  ·have hG2 := hg2; try simp only [gS] at hG2
   refine o_v hf hh (yv_fieldAddr Tryz.fo_49_0 rfl) ?_; clear hf a; intro a hf
   refine o_v hf hh (y_ld Tryz.sc_3 rfl) ?_; clear hf a; intro a hf
   refine o_v hf hh (yv_fieldAddr Tryz.fo_49_1 rfl) ?_; clear hf a; intro a hf
   refine o_v hf hh (y_ld Tryz.sc_3 rfl) ?_; clear hf a; intro a hf
   refine o_v hf hh (yv_bin rfl rfl rfl) ?_; clear hf a; intro a hf
   refine o_v hf hh (y_pf rfl rfl) ?_; clear hf a; intro a hf
   refine o_v hf hh (yv_move rfl) ?_; clear hf a; intro a hf
   refine guard_split hf (t := 13) rfl (fun hg4 => ?_) (fun hg4 => ?_)
   ·have hG4 := hg4; try simp only [gS] at hG4
    refine o_off hf ?_; clear hf a; intro a hf
    refine o_off hf ?_; clear hf a; intro a hf
    refine o_off hf ?_; clear hf a; intro a hf
    refine o_v hf hh (y_pt rfl rfl) ?_; clear hf a; intro a hf
    refine o_v hf hh (yv_assign rfl) ?_; clear hf a; intro a hf
    refine o_end ?_
    refine sy_ret ?_
    refine ret_r hf rfl rfl ?_
    refine ⟨congrArg Value.bool ?_, hh.ext⟩
    clear hf hh
    first
      | (simp_all; done)
      | (simp only [*, Bool.false_and, Bool.and_false, Bool.true_and, Bool.and_true, Bool.not_true, Bool.not_false]; done)
      | (rw [Bool.eq_iff_iff]; simp_all <;> omega)
   ·have hG4 := hg4; try simp only [gS] at hG4
    refine o_v hf hh (yv_fieldAddr Tryz.fo_49_1 rfl) ?_; clear hf a; intro a hf
    refine o_v hf hh (y_ld Tryz.sc_3 rfl) ?_; clear hf a; intro a hf
    refine o_v hf hh (yv_bin rfl rfl rfl) ?_; clear hf a; intro a hf
    refine o_v hf hh (y_pf rfl rfl) ?_; clear hf a; intro a hf
    refine o_v hf hh (yv_assign rfl) ?_; clear hf a; intro a hf
    refine o_end ?_
    refine sy_ret ?_
    refine ret_r hf rfl rfl ?_
    refine ⟨congrArg Value.bool ?_, hh.ext⟩
    clear hf hh
    first
      | (simp_all; done)
      | (simp only [*, Bool.false_and, Bool.and_false, Bool.true_and, Bool.and_true, Bool.not_true, Bool.not_false]; done)
      | (rw [Bool.eq_iff_iff]; simp_all <;> omega)
theorem k100 (l : List (Int × Int)) (sa : Option Addr) (c0 : Nat) (n : Int) (u : World) (hA : SpAt u sa l) (hl : l.length ≤ 4000000000) : Calls Tryz.prog 100 #[.slice sa l.length c0, .int .i64 n] u (Ret fun v w' => v = .bool (spsB n l) ∧ Ext [] u w') := by
  refine calls_of Tryz.func100 rfl rfl (fun a hf => ?_)
  have hh := Hp.init u []
  unfold spsB
  refine sy_sq ?_
  refine o_v hf hh (yv_assign rfl) ?_; clear hf a; intro a hf
  refine o_end ?_
  refine sy_sq ?_
  refine o_v hf hh (yv_assign rfl) ?_; clear hf a; intro a hf
  refine o_end ?_
  refine sy_sq ?_
  refine o_v hf hh (yv_move rfl) ?_; clear hf a; intro a hf
  refine o_v hf hh (yv_len Tryz.se_22 rfl) ?_; clear hf a; intro a hf
  refine o_v hf hh (yv_move rfl) ?_; clear hf a; intro a hf
  refine o_v hf hh (yv_bin rfl rfl rfl) ?_; clear hf a; intro a hf
  refine o_v hf hh (yv_move rfl) ?_; clear hf a; intro a hf
  refine guard_split hf (t := 10) rfl (fun hg2 => ?_) (fun hg2 => ?_)
  ·have hG2 := hg2; try simp only [gS] at hG2
   refine o_v hf hh (yv_move rfl) ?_; clear hf a; intro a hf
   refine o_v hf hh (yv_move rfl) ?_; clear hf a; intro a hf
   refine o_call hf Tryz.en_136 rfl rfl rfl (k136 okB l sa _ c0 135 #[] _ (hA.ext hh.ext) rfl (by omega) Tryz.en_135 (fun x _ w1 _ => k135 x w1)) ?_; clear hf a; intro v a w hR hf
   obtain ⟨rfl, hx⟩ := hR; replace hh := hh.more hx; clear hx
   refine o_v hf hh (yv_not rfl) ?_; clear hf a; intro a hf
   refine o_v hf hh (y_pt rfl rfl) ?_; clear hf a; intro a hf
   refine o_v hf hh (yv_assign rfl) ?_; clear hf a; intro a hf
   refine o_end ?_
   refine sy_ret ?_
   refine ret_r hf rfl rfl ?_
   refine ⟨congrArg Value.bool ?_, hh.ext⟩
   clear hf hh
   first
     | (simp_all; done)
     | (simp only [*, Bool.false_and, Bool.and_false, Bool.true_and, Bool.and_true, Bool.not_true, Bool.not_false]; done)
     | (rw [Bool.eq_iff_iff]; simp_all <;> omega)
  ·have hG2 := hg2; try simp only [gS] at hG2
   refine o_off hf ?_; clear hf a; intro a hf
   refine o_off hf ?_; clear hf a; intro a hf
   refine o_off hf ?_; clear hf a; intro a hf
   refine o_off hf ?_; clear hf a; intro a hf
   refine o_v hf hh (y_pf rfl rfl) ?_; clear hf a; intro a hf
   refine o_v hf hh (yv_assign rfl) ?_; clear hf a; intro a hf
   refine o_end ?_
   refine sy_ret ?_
   refine ret_r hf rfl rfl ?_
   refine ⟨congrArg Value.bool ?_, hh.ext⟩
   clear hf hh
   first
     | (simp_all; done)
     | (simp only [*, Bool.false_and, Bool.and_false, Bool.true_and, Bool.and_true, Bool.not_true, Bool.not_false]; done)
     | (rw [Bool.eq_iff_iff]; simp_all <;> omega)
theorem k99 (r : RowD) (n : Int) (Bn : Nat) (u : World) (hA : SpAt u r.2.1 r.1) (hl : r.1.length ≤ 4000000000) (hB : u.heap[Bn]? = some (.cells #[.int .i64 n] 3 (0, 0))) : Calls Tryz.prog 99 #[rowV r, ptr Bn 0] u (Ret fun v w' => v = .bool (!spsB n r.1) ∧ Ext [] u w') := by
  refine calls_of Tryz.func99 rfl rfl (fun a hf => ?_)
  have hh := Hp.init u []
  refine sy_sq ?_
  refine o_v hf hh (yv_assign rfl) ?_; clear hf a; intro a hf
  refine o_end ?_
  refine sy_sq ?_
  refine o_v hf hh (yv_move rfl) ?_; clear hf a; intro a hf
  refine o_v hf hh (y_ld Tryz.sc_3 rfl) ?_; clear hf a; intro a hf
  refine o_call hf Tryz.en_100 rfl rfl rfl (k100 r.1 r.2.1 r.2.2 n _ (hA.ext hh.ext) hl) ?_; clear hf a; intro v a w hR hf
  obtain ⟨rfl, hx⟩ := hR; replace hh := hh.more hx; clear hx
  refine o_v hf hh (yv_not rfl) ?_; clear hf a; intro a hf
  refine o_v hf hh (yv_assign rfl) ?_; clear hf a; intro a hf
  refine o_end ?_
  refine sy_ret ?_
  refine ret_r hf rfl rfl ?_
  exact ⟨rfl, hh.ext⟩
end Go.Proofs.YtccpgpnekoncoaaGreat

namespace Go.WalM
open Go Go.Sy
def rvs (l : List RowD) : List Value := l.map fun r => rowV r
theorem rvs_len (l : List RowD) : (rvs l).length = l.length * 1 := by unfold rvs; rw [List.length_map, Nat.mul_one]
theorem rvs_one (l : List RowD) : (rvs l).all (·.oneCell') = true := by
  unfold rvs
  rw [List.all_map]
  exact List.all_eq_true.2 fun r _ => rfl
theorem rows_vals {w : World} {sa : Option Addr} {l : List RowD} (h : RowsAt w sa l) : ValsIn w sa (rvs l) := by
  cases l with
  | nil => exact .inl rfl
  | cons r l =>
    obtain ⟨blk, off, c, T, fr, h1, h2, h3⟩ := h 0 r rfl
    refine .inr ⟨blk, off, c, T, fr, h1, h2, fun j v hv => ?_⟩
    unfold rvs at hv
    rw [List.getElem?_map, Option.map_eq_some_iff] at hv
    obtain ⟨x, hx, rfl⟩ := hv
    obtain ⟨blk', off', c', T', fr', g1, g2, g3⟩ := h j x hx
    rw [h1] at g1
    cases g1
    rw [h2] at g2
    cases g2
    rw [Int.toNat_natCast, Nat.mul_one] at g3
    exact g3
theorem own_rows {e : Nat} {v : Value} {m : Nat} {l : List RowD} {X : List (Nat × Obj)} {w : World} (h : OwnSl e 1 v m (rvs l) X) (hX : ∀ q ∈ X, w.heap[q.1]? = some q.2) : ∃ oa cap, v = .slice oa l.length cap ∧ RowsAt w oa l := by
  obtain ⟨hl, h⟩ := h
  rw [rvs_len] at hl
  have hm : m = l.length := by omega
  subst hm
  rcases h with ⟨rfl, h0, rfl⟩ | ⟨B, cap, cur, rfl, rfl, h1, h2, h3, h4⟩
  · refine ⟨none, 0, by rw [h0], fun i r hi => ?_⟩
    have := len_ofW hi
    omega
  · refine ⟨_, cap, rfl, fun i r hi => ⟨B, 0, cur, e, _, rfl, hX _ (.head _), ?_⟩⟩
    have hi2 := len_ofW hi
    have : (cur.toList.take (l.length * 1))[i]? = some (rowV r) := by
      rw [h4]; unfold rvs; rw [List.getElem?_map, hi]; rfl
    rw [List.getElem?_take, if_pos (by omega)] at this
    rw [Int.toNat_natCast, Nat.mul_one, Nat.zero_add, ← Array.getElem?_toList]
    exact this
/-- All lists of a tour. -/
def allR (t : TourD) (p : TPl) : List RowD := p.rows ++ [(t.fr, p.sf, p.cf), (t.stay, p.ss, p.cs), (t.light, p.sl, p.cl)]
theorem allR_len {t : TourD} {p : TPl} (h : p.rows.map Prod.fst = t.ways) : (allR t p).length = t.ways.length + 3 := by
  unfold allR
  rw [List.length_append, ← h, List.length_map]; rfl
theorem rows_len {t : TourD} {p : TPl} (h : p.rows.map Prod.fst = t.ways) : p.rows.length = t.ways.length := by rw [← h, List.length_map]
theorem rvs_all (t : TourD) (p : TPl) : rvs (allR t p) = rvs p.rows ++ [.slice p.sf t.fr.length p.cf, .slice p.ss t.stay.length p.cs, .slice p.sl t.light.length p.cl] := by
  unfold rvs allR; rw [List.map_append]; rfl
theorem TouAt.all {w : World} {t : TourD} {p : TPl} (h : TouAt w t p) : ∀ r ∈ allR t p, SpAt w r.2.1 r.1 ∧ r.1.length ≤ 4000000000 := by
  intro r hr
  rcases List.mem_append.1 hr with hr | hr
  · exact ⟨h.r r hr, h.nr r hr⟩
  · simp only [List.mem_cons, List.not_mem_nil, or_false] at hr
    rcases hr with rfl | rfl | rfl
    · exact ⟨h.f, h.nf⟩
    · exact ⟨h.s, h.ns⟩
    · exact ⟨h.l, h.nl⟩
theorem all_rows {t : TourD} {p : TPl} (h : p.rows.map Prod.fst = t.ways) (n : Int) : (t.ways ++ [t.fr, t.stay, t.light]).all (spsB n) = (allR t p).all fun r => spsB n r.1 := by
  unfold allR
  rw [← h, List.all_append, List.all_append, List.all_map]; rfl
end Go.WalM

namespace Go.Proofs.YtccpgpnekoncoaaGreat
open Go Go.Sy Go.WalM
theorem k103 (rows : List RowD) (sb : Option Addr) (n cw : Nat) (u : World) (hW : RowsAt u sb rows) (hn : n = rows.length) (hl : rows.length ≤ 100) : Calls Tryz.prog 103 #[.slice sb n cw] u (Ret fun v w' => ∃ X, OwnSl 22 1 v n (rvs rows) X ∧ Hp u [] X w') := by
  subst hn
  refine calls_of Tryz.func103 rfl rfl (fun a hf => ?_)
  have hh := Hp.init u []
  refine sy_sq ?_
  refine o_v hf hh (yv_assign rfl) ?_; clear hf a; intro a hf
  refine o_end ?_
  refine sy_seq ?_
  refine sy_sq ?_
  refine o_v hf hh (yv_move rfl) ?_; clear hf a; intro a hf
  refine o_v hf hh (yv_slNil Tryz.se_23 rfl rfl) ?_; clear hf a; intro a hf
  refine o_end ?_
  refine sy_cond hf rfl (fun hg2 => ?_) (fun hg2 => ?_)
  ·have hG2 := hg2; try simp only [gS] at hG2
   refine sy_sq ?_
   refine o_v hf hh (yv_assign rfl) ?_; clear hf a; intro a hf
   refine o_end ?_
   refine sy_ret ?_
   refine then_r ?_
   refine ret_r hf rfl rfl ?_
   first
     | exact ⟨X5, hO5, hh⟩
     | (have hz : rows = [] := by
          cases rows with
          | nil => rfl
          | cons x l => obtain ⟨_, _, _, _, _, e, _, _⟩ := hW 0 x rfl; subst e; simp_all
        subst hz
        exact ⟨[], OwnSl.nil _ _, hh⟩)
  ·have hG2 := hg2; try simp only [gS] at hG2
   refine sy_skip ?_
   refine then_n ?_
   refine sy_sq ?_
   refine ops_buildSl hf hh Tryz.bl_23_0 rfl rfl (.inl rfl) rfl ?_; clear hf hh; clear a; intro B5 a w hf hh
   refine o_v hf hh (yv_move rfl) ?_; clear hf a; intro a hf
   refine ops_appendV (e := 22) (size := 1) (xs := []) (news := rvs rows) (X := [(B5, .cells #[] 22)]) (Z := []) (m := 0) hf hh Tryz.eb_23 rfl rfl ⟨rfl, .inr ⟨B5, 0, #[], rfl, rfl, Nat.le_refl _, Nat.zero_le _, rfl, rfl⟩⟩ (rows_vals (hW.ext hh.ext)) (rvs_len rows) (by omega) (rvs_one rows) (by simp only [maxLen]; omega) (by omega) (.inl rfl) rfl ?_
   clear hf hh a; intro v4 X5 a w hO5 hf hh
   rw [Nat.zero_add, List.nil_append] at hO5
   rw [List.append_nil] at hh
   refine o_v hf hh (yv_assign rfl) ?_; clear hf a; intro a hf
   refine o_end ?_
   refine sy_ret ?_
   refine ret_r hf rfl rfl ?_
   first
     | exact ⟨X5, hO5, hh⟩
     | (have hz : rows = [] := by
          cases rows with
          | nil => rfl
          | cons x l => obtain ⟨_, _, _, _, _, e, _, _⟩ := hW 0 x rfl; subst e; simp_all
        subst hz
        exact ⟨[], OwnSl.nil _ _, hh⟩)
set_option maxRecDepth 100000 in
theorem k71 (t : TourD) (p : TPl) (u : World) (hA : TouAt u t p) : Calls Tryz.prog 71 #[.agg (touC t p)] u (Ret fun v w' => v = .bool (touB t) ∧ Ext [] u w') := by
  refine calls_of Tryz.func71 rfl rfl (fun a hf => ?_)
  have hh := Hp.init u []
  have hnf := hA.nf
  have hnw := hA.nw
  unfold touB
  rw [all_rows hA.e]
  refine sy_sq ?_
  refine o_box hf hh ?_; clear hf hh a; intro B1 a w hf hh
  refine o_v hf hh (yv_assign rfl) ?_; clear hf a; intro a hf
  refine o_end ?_
  refine sy_sq ?_
  refine o_v hf hh (yv_fieldAddr Tryz.fo_25_1 rfl) ?_; clear hf a; intro a hf
  refine o_v hf hh (y_ld Tryz.sc_22 rfl) ?_; clear hf a; intro a hf
  refine o_v hf hh (yv_len Tryz.se_22 rfl) ?_; clear hf a; intro a hf
  refine o_alloc hf hh Tryz.ze_3 ?_; clear hf hh a; intro B3 a w hf hh
  refine o_store hf hh Tryz.sz_3 fun w hh => ?_
  refine o_end ?_
  refine sy_sq ?_
  refine o_v hf hh (yv_makeFunc rfl rfl) ?_; clear hf a; intro a hf
  refine o_v hf hh (yv_assign rfl) ?_; clear hf a; intro a hf
  refine o_end ?_
  refine sy_seq ?_
  replace hh : Hp u [] [(B3, .cells #[.int .i64 (t.fr.length : Nat)] 3), (B1, .cells (touC t p) 25)] w := hh
  refine sy_treeC (.q 0 0 (.p 1 (.p 2 (.p 3 (.q 0 4 (.p 5 (.q 0 6 (.p 7 (.p 8 (.p 9 (.p 10 (.q 0 11 (.e1 12 (.p 13 (.p 14 (.p 15 (.q 0 16 (.p 18 (.q 0 19 (.p 20 (.q 0 21 (.p 22 (.q 0 23 (.p 26 (.e2 17 (.e1 24 (.e1 25 (.e1 27 (.p 28 (.p 29 (.p 30 (.fin))))))) 24 (.e1 17 (.e1 25 (.e1 27 (.p 28 (.p 29 (.p 30 (.fin)))))))))))))))))))))))))))))))) [[]] [(AtE u [] [(B3, .cells #[.int .i64 (t.fr.length : Nat)] 3), (B1, .cells (touC t p) 25)], [])] Tryz.follows (by kernel_rfl) rfl hh (fun w hh => ?_)
  refine mc_q rfl rfl (AtE.of hh (by intro q hq; simp only [List.mem_cons, List.mem_append, List.not_mem_nil, or_false] at hq ⊢; rcases hq with h | h <;> simp [h])) hf (y_ld Tryz.sc_3 rfl) (.inl rfl) rfl rfl ?_; clear hf a; intro a hf
  refine mc_p rfl   hf (yv_bin rfl rfl rfl) (.inl rfl) rfl rfl ?_; clear hf a; intro a hf
  refine mc_p rfl   hf (yv_move rfl) (.inl rfl) rfl rfl ?_; clear hf a; intro a hf
  refine guard_any hf (t := 11) rfl (fun hg2 => ?_) (fun hg2 => ?_)
  ·have hG2 := hg2; try simp only [gS] at hG2
   refine mc_p rfl   hf (yv_fieldAddr Tryz.fo_25_2 rfl) (gon rfl rfl rfl (by first | assumption | rfl | (simp; done) | (simp; omega))) rfl rfl ?_; clear hf a; intro a hf
   refine mc_q rfl rfl (AtE.of hh (by intro q hq; simp only [List.mem_cons, List.mem_append, List.not_mem_nil, or_false] at hq ⊢; rcases hq with h | h <;> simp [h])) hf (y_ld Tryz.sc_23 rfl) (gon rfl rfl rfl (by first | assumption | rfl | (simp; done) | (simp; omega))) rfl rfl ?_; clear hf a; intro a hf
   refine mc_p rfl   hf (yv_len Tryz.se_23 rfl) (gon rfl rfl rfl (by first | assumption | rfl | (simp; done) | (simp; omega))) rfl rfl ?_; clear hf a; intro a hf
   refine mc_q rfl rfl (AtE.of hh (by intro q hq; simp only [List.mem_cons, List.mem_append, List.not_mem_nil, or_false] at hq ⊢; rcases hq with h | h <;> simp [h])) hf (y_ld Tryz.sc_3 rfl) (gon rfl rfl rfl (by first | assumption | rfl | (simp; done) | (simp; omega))) rfl rfl ?_; clear hf a; intro a hf
   refine mc_p rfl   hf (yv_bin rfl rfl rfl) (gon rfl rfl rfl (by first | assumption | rfl | (simp; done) | (simp; omega))) rfl rfl ?_; clear hf a; intro a hf
   refine mc_p rfl   hf (y_pt rfl rfl) (.inl rfl) rfl rfl ?_; clear hf a; intro a hf
   refine mc_p rfl   hf (yv_move rfl) (.inl rfl) rfl rfl ?_; clear hf a; intro a hf
   refine guard_any hf (t := 18) rfl (fun hg4 => ?_) (fun hg4 => ?_)
   ·have hG4 := hg4; try simp only [gS] at hG4
    refine mc_p rfl   hf (yv_fieldAddr Tryz.fo_25_0 rfl) (gon rfl rfl rfl (by first | assumption | rfl | (simp; done) | (simp; omega))) rfl rfl ?_; clear hf a; intro a hf
    refine mc_q rfl rfl (AtE.of hh (by intro q hq; simp only [List.mem_cons, List.mem_append, List.not_mem_nil, or_false] at hq ⊢; rcases hq with h | h <;> simp [h])) hf (y_ld Tryz.sc_3 rfl) (gon rfl rfl rfl (by first | assumption | rfl | (simp; done) | (simp; omega))) rfl rfl ?_; clear hf a; intro a hf
    refine mc_e rfl fun Q1 => ?_
    refine o_call hf Tryz.en_101 rfl rfl rfl (k101 _ _ _ _) ?_; clear hf a; intro v a w hR hf
    obtain ⟨rfl, hx⟩ := hR; replace hh := hh.more hx; clear hx
    refine ops_end ?_
    refine then_n ⟨⟨fun _ _ => (AtE.of hh (by intro q hq; simp only [List.mem_cons, List.mem_append, List.not_mem_nil, or_false] at hq ⊢; rcases hq with h | h <;> simp [h])), trivial⟩, ?_⟩
    refine mc_p rfl   hf (y_pt rfl rfl) (.inl rfl) rfl rfl ?_; clear hf a; intro a hf
    refine mc_p rfl   hf (yv_move rfl) (.inl rfl) rfl rfl ?_; clear hf a; intro a hf
    refine guard_any hf (t := 23) rfl (fun hg6 => ?_) (fun hg6 => ?_)
    ·have hG6 := hg6; try simp only [gS] at hG6
     refine mc_p rfl   hf (yv_fieldAddr Tryz.fo_25_2 rfl) (gon rfl rfl rfl (by first | assumption | rfl | (simp; done) | (simp; omega))) rfl rfl ?_; clear hf a; intro a hf
     refine mc_q rfl rfl (AtE.of hh (by intro q hq; simp only [List.mem_cons, List.mem_append, List.not_mem_nil, or_false] at hq ⊢; rcases hq with h | h <;> simp [h])) hf (y_ld Tryz.sc_23 rfl) (gon rfl rfl rfl (by first | assumption | rfl | (simp; done) | (simp; omega))) rfl rfl ?_; clear hf a; intro a hf
     refine mc_p rfl   hf (yv_fieldAddr Tryz.fo_25_1 rfl) (gon rfl rfl rfl (by first | assumption | rfl | (simp; done) | (simp; omega))) rfl rfl ?_; clear hf a; intro a hf
     refine mc_q rfl rfl (AtE.of hh (by intro q hq; simp only [List.mem_cons, List.mem_append, List.not_mem_nil, or_false] at hq ⊢; rcases hq with h | h <;> simp [h])) hf (y_ld Tryz.sc_22 rfl) (gon rfl rfl rfl (by first | assumption | rfl | (simp; done) | (simp; omega))) rfl rfl ?_; clear hf a; intro a hf
     refine mc_p rfl   hf (yv_fieldAddr Tryz.fo_25_3 rfl) (gon rfl rfl rfl (by first | assumption | rfl | (simp; done) | (simp; omega))) rfl rfl ?_; clear hf a; intro a hf
     refine mc_q rfl rfl (AtE.of hh (by intro q hq; simp only [List.mem_cons, List.mem_append, List.not_mem_nil, or_false] at hq ⊢; rcases hq with h | h <;> simp [h])) hf (y_ld Tryz.sc_22 rfl) (gon rfl rfl rfl (by first | assumption | rfl | (simp; done) | (simp; omega))) rfl rfl ?_; clear hf a; intro a hf
     refine mc_p rfl   hf (yv_fieldAddr Tryz.fo_25_4 rfl) (gon rfl rfl rfl (by first | assumption | rfl | (simp; done) | (simp; omega))) rfl rfl ?_; clear hf a; intro a hf
     refine mc_q rfl rfl (AtE.of hh (by intro q hq; simp only [List.mem_cons, List.mem_append, List.not_mem_nil, or_false] at hq ⊢; rcases hq with h | h <;> simp [h])) hf (y_ld Tryz.sc_22 rfl) (gon rfl rfl rfl (by first | assumption | rfl | (simp; done) | (simp; omega))) rfl rfl ?_; clear hf a; intro a hf
     refine mc_p rfl   hf (yv_move rfl) (gon rfl rfl rfl (by first | assumption | rfl | (simp; done) | (simp; omega))) rfl rfl ?_; clear hf a; intro a hf
     refine ⟨?_, ?_⟩
     ·refine mc_e rfl fun Q1 => ?_
      refine o_call hf Tryz.en_103 rfl rfl rfl (k103 p.rows p.sw _ p.cw _ (hA.g.ext hh.ext) (rows_len hA.e).symm (by have := rows_len hA.e; omega)) ?_; clear hf a; intro v26 a w hR hf
      obtain ⟨Xc, hOc, hx⟩ := hR
      replace hh := hh.join hx; clear hx
      refine ops_end ?_
      refine then_n ⟨⟨fun _ _ => (AtE.of hh (by intro q hq; simp only [List.mem_cons, List.mem_append, List.not_mem_nil, or_false] at hq ⊢; rcases hq with h | h <;> simp [h])), trivial⟩, ?_⟩
      refine mc_e rfl fun Q1 => ?_
      refine ops_buildSl hf hh Tryz.bl_23_3 rfl rfl (gon rfl rfl rfl (by first | assumption | rfl | (simp; done) | (simp; omega))) rfl ?_; clear hf hh; clear a; intro B33 a w hf hh
      refine ops_end ?_
      refine then_n ⟨⟨fun _ _ => (AtE.of hh (by intro q hq; simp only [List.mem_cons, List.mem_append, List.not_mem_nil, or_false] at hq ⊢; rcases hq with h | h <;> simp [h])), trivial⟩, ?_⟩
      refine mc_e rfl fun Q1 => ?_
      replace hh : Hp u [] ((B33, .cells #[.slice p.sf t.fr.length p.cf, .slice p.ss t.stay.length p.cs, .slice p.sl t.light.length p.cl] 22) :: (Xc ++ [(B3, .cells #[.int .i64 (t.fr.length : Nat)] 3), (B1, .cells (touC t p) 25)])) w := by
        first
        | exact hh
        | exact hh.perm List.perm_middle
      refine ops_append (e := 22) (size := 1) (xs := rvs p.rows) (news := [.slice p.sf t.fr.length p.cf, .slice p.ss t.stay.length p.cs, .slice p.sl t.light.length p.cl]) (X := Xc) (Z := [(B3, .cells #[.int .i64 (t.fr.length : Nat)] 3), (B1, .cells (touC t p) 25)]) (m := t.ways.length) (q := 3) hf hh Tryz.eb_23 rfl rfl hOc rfl rfl rfl (by simp only [maxLen]; omega) (by omega) (gon rfl rfl rfl (by first | assumption | rfl | (simp; done) | (simp; omega))) rfl ?_; clear hf hh a; intro v34 X9 a w hO9 hf hh
      obtain ⟨oa9, c9, rfl, hR9⟩ := own_rows (l := allR t p) (by rw [rvs_all]; exact hO9) (fun q hq => hh.get q (by simp [hq]))
      refine ops_end ?_
      refine then_n ⟨⟨fun _ _ => (AtE.of hh (by intro q hq; simp only [List.mem_cons, List.mem_append, List.not_mem_nil, or_false] at hq ⊢; rcases hq with h | h <;> simp [h])), trivial⟩, ?_⟩
      refine mc_e rfl fun Q1 => ?_
      refine o_call hf Tryz.en_102 rfl rfl rfl (k102 (fun r => spsB ((t.fr.length : Nat) : Int) r.1) (allR t p) oa9 _ c9 99 #[ptr B3 0] _ hR9 rfl (by rw [allR_len hA.e]; omega) Tryz.en_99 (fun x hx w1 e => k99 x _ B3 w1 ((hA.all x hx).1.ext (hh.ext.trans e)) (hA.all x hx).2 (e.get (hh.get (B3, .cells #[.int .i64 (t.fr.length : Nat)] 3) (by simp))))) ?_; clear hf a; intro v a w hR hf
      obtain ⟨rfl, hx⟩ := hR; replace hh := hh.more hx; clear hx
      refine ops_end ?_
      refine then_n ⟨⟨fun _ _ => (AtE.of hh (by intro q hq; simp only [List.mem_cons, List.mem_append, List.not_mem_nil, or_false] at hq ⊢; rcases hq with h | h <;> simp [h])), trivial⟩, ?_⟩
      refine mc_p rfl   hf (yv_not rfl) (gon rfl rfl rfl (by first | assumption | rfl | (simp; done) | (simp; omega))) rfl rfl ?_; clear hf a; intro a hf
      refine mc_p rfl   hf (y_pt rfl rfl) (.inl rfl) rfl rfl ?_; clear hf a; intro a hf
      refine mc_p rfl   hf (yv_assign rfl) (.inl rfl) rfl rfl ?_; clear hf a; intro a hf
      refine mc_end ?_
      refine then_n ?_
      refine sy_ret ?_
      refine ret_r hf rfl rfl ?_
      refine ⟨congrArg Value.bool ?_, hh.ext⟩
      clear hf hh
      first
        | (simp_all; done)
        | (rw [Bool.eq_iff_iff]; simp_all <;> omega)
     ·refine mc_e rfl fun Q1 => ?_
      refine ops_buildSl hf hh Tryz.bl_23_3 rfl rfl (gon rfl rfl rfl (by first | assumption | rfl | (simp; done) | (simp; omega))) rfl ?_; clear hf hh; clear a; intro B33 a w hf hh
      refine ops_end ?_
      refine then_n ⟨⟨fun _ _ => (AtE.of hh (by intro q hq; simp only [List.mem_cons, List.mem_append, List.not_mem_nil, or_false] at hq ⊢; rcases hq with h | h <;> simp [h])), trivial⟩, ?_⟩
      refine mc_e rfl fun Q1 => ?_
      refine o_call hf Tryz.en_103 rfl rfl rfl (k103 p.rows p.sw _ p.cw _ (hA.g.ext hh.ext) (rows_len hA.e).symm (by have := rows_len hA.e; omega)) ?_; clear hf a; intro v26 a w hR hf
      obtain ⟨Xc, hOc, hx⟩ := hR
      replace hh := hh.join hx; clear hx
      refine ops_end ?_
      refine then_n ⟨⟨fun _ _ => (AtE.of hh (by intro q hq; simp only [List.mem_cons, List.mem_append, List.not_mem_nil, or_false] at hq ⊢; rcases hq with h | h <;> simp [h])), trivial⟩, ?_⟩
      refine mc_e rfl fun Q1 => ?_
      replace hh : Hp u [] ((B33, .cells #[.slice p.sf t.fr.length p.cf, .slice p.ss t.stay.length p.cs, .slice p.sl t.light.length p.cl] 22) :: (Xc ++ [(B3, .cells #[.int .i64 (t.fr.length : Nat)] 3), (B1, .cells (touC t p) 25)])) w := by
        first
        | exact hh
        | exact hh.perm List.perm_middle
      refine ops_append (e := 22) (size := 1) (xs := rvs p.rows) (news := [.slice p.sf t.fr.length p.cf, .slice p.ss t.stay.length p.cs, .slice p.sl t.light.length p.cl]) (X := Xc) (Z := [(B3, .cells #[.int .i64 (t.fr.length : Nat)] 3), (B1, .cells (touC t p) 25)]) (m := t.ways.length) (q := 3) hf hh Tryz.eb_23 rfl rfl hOc rfl rfl rfl (by simp only [maxLen]; omega) (by omega) (gon rfl rfl rfl (by first | assumption | rfl | (simp; done) | (simp; omega))) rfl ?_; clear hf hh a; intro v34 X9 a w hO9 hf hh
      obtain ⟨oa9, c9, rfl, hR9⟩ := own_rows (l := allR t p) (by rw [rvs_all]; exact hO9) (fun q hq => hh.get q (by simp [hq]))
      refine ops_end ?_
      refine then_n ⟨⟨fun _ _ => (AtE.of hh (by intro q hq; simp only [List.mem_cons, List.mem_append, List.not_mem_nil, or_false] at hq ⊢; rcases hq with h | h <;> simp [h])), trivial⟩, ?_⟩
      refine mc_e rfl fun Q1 => ?_
      refine o_call hf Tryz.en_102 rfl rfl rfl (k102 (fun r => spsB ((t.fr.length : Nat) : Int) r.1) (allR t p) oa9 _ c9 99 #[ptr B3 0] _ hR9 rfl (by rw [allR_len hA.e]; omega) Tryz.en_99 (fun x hx w1 e => k99 x _ B3 w1 ((hA.all x hx).1.ext (hh.ext.trans e)) (hA.all x hx).2 (e.get (hh.get (B3, .cells #[.int .i64 (t.fr.length : Nat)] 3) (by simp))))) ?_; clear hf a; intro v a w hR hf
      obtain ⟨rfl, hx⟩ := hR; replace hh := hh.more hx; clear hx
      refine ops_end ?_
      refine then_n ⟨⟨fun _ _ => (AtE.of hh (by intro q hq; simp only [List.mem_cons, List.mem_append, List.not_mem_nil, or_false] at hq ⊢; rcases hq with h | h <;> simp [h])), trivial⟩, ?_⟩
      refine mc_p rfl   hf (yv_not rfl) (gon rfl rfl rfl (by first | assumption | rfl | (simp; done) | (simp; omega))) rfl rfl ?_; clear hf a; intro a hf
      refine mc_p rfl   hf (y_pt rfl rfl) (.inl rfl) rfl rfl ?_; clear hf a; intro a hf
      refine mc_p rfl   hf (yv_assign rfl) (.inl rfl) rfl rfl ?_; clear hf a; intro a hf
      refine mc_end ?_
      refine then_n ?_
      refine sy_ret ?_
      refine ret_r hf rfl rfl ?_
      refine ⟨congrArg Value.bool ?_, hh.ext⟩
      clear hf hh
      first
        | (simp_all; done)
        | (rw [Bool.eq_iff_iff]; simp_all <;> omega)
    ·have hG6 := hg6; try simp only [gS] at hG6
     refine mc_off rfl hf (goff rfl rfl rfl (by first | assumption | rfl | (simp; done) | (simp; omega))) rfl rfl ?_; clear hf a; intro a hf
     refine mc_offq rfl rfl (AtE.of hh (by intro q hq; simp only [List.mem_cons, List.mem_append, List.not_mem_nil, or_false] at hq ⊢; rcases hq with h | h <;> simp [h])) hf (goff rfl rfl rfl (by first | assumption | rfl | (simp; done) | (simp; omega))) rfl rfl ?_; clear hf a; intro a hf
     refine mc_off rfl hf (goff rfl rfl rfl (by first | assumption | rfl | (simp; done) | (simp; omega))) rfl rfl ?_; clear hf a; intro a hf
     refine mc_offq rfl rfl (AtE.of hh (by intro q hq; simp only [List.mem_cons, List.mem_append, List.not_mem_nil, or_false] at hq ⊢; rcases hq with h | h <;> simp [h])) hf (goff rfl rfl rfl (by first | assumption | rfl | (simp; done) | (simp; omega))) rfl rfl ?_; clear hf a; intro a hf
     refine mc_off rfl hf (goff rfl rfl rfl (by first | assumption | rfl | (simp; done) | (simp; omega))) rfl rfl ?_; clear hf a; intro a hf
     refine mc_offq rfl rfl (AtE.of hh (by intro q hq; simp only [List.mem_cons, List.mem_append, List.not_mem_nil, or_false] at hq ⊢; rcases hq with h | h <;> simp [h])) hf (goff rfl rfl rfl (by first | assumption | rfl | (simp; done) | (simp; omega))) rfl rfl ?_; clear hf a; intro a hf
     refine mc_off rfl hf (goff rfl rfl rfl (by first | assumption | rfl | (simp; done) | (simp; omega))) rfl rfl ?_; clear hf a; intro a hf
     refine mc_offq rfl rfl (AtE.of hh (by intro q hq; simp only [List.mem_cons, List.mem_append, List.not_mem_nil, or_false] at hq ⊢; rcases hq with h | h <;> simp [h])) hf (goff rfl rfl rfl (by first | assumption | rfl | (simp; done) | (simp; omega))) rfl rfl ?_; clear hf a; intro a hf
     refine mc_off rfl hf (goff rfl rfl rfl (by first | assumption | rfl | (simp; done) | (simp; omega))) rfl rfl ?_; clear hf a; intro a hf
     refine ⟨?_, ?_⟩
     ·refine mc_e rfl fun Q1 => ?_
      refine o_off hf ?_; clear hf a; intro a hf
      refine ops_end ?_
      refine then_n ⟨⟨fun _ _ => (AtE.of hh (by intro q hq; simp only [List.mem_cons, List.mem_append, List.not_mem_nil, or_false] at hq ⊢; rcases hq with h | h <;> simp [h])), trivial⟩, ?_⟩
      refine mc_e rfl fun Q1 => ?_
      refine o_off hf ?_; clear hf a; intro a hf
      refine ops_end ?_
      refine then_n ⟨⟨fun _ _ => (AtE.of hh (by intro q hq; simp only [List.mem_cons, List.mem_append, List.not_mem_nil, or_false] at hq ⊢; rcases hq with h | h <;> simp [h])), trivial⟩, ?_⟩
      refine mc_e rfl fun Q1 => ?_
      refine o_off hf ?_; clear hf a; intro a hf
      refine ops_end ?_
      refine then_n ⟨⟨fun _ _ => (AtE.of hh (by intro q hq; simp only [List.mem_cons, List.mem_append, List.not_mem_nil, or_false] at hq ⊢; rcases hq with h | h <;> simp [h])), trivial⟩, ?_⟩
      refine mc_e rfl fun Q1 => ?_
      refine o_off hf ?_; clear hf a; intro a hf
      refine ops_end ?_
      refine then_n ⟨⟨fun _ _ => (AtE.of hh (by intro q hq; simp only [List.mem_cons, List.mem_append, List.not_mem_nil, or_false] at hq ⊢; rcases hq with h | h <;> simp [h])), trivial⟩, ?_⟩
      refine mc_off rfl hf (goff rfl rfl rfl (by first | assumption | rfl | (simp; done) | (simp; omega))) rfl rfl ?_; clear hf a; intro a hf
      refine mc_p rfl   hf (y_pf rfl rfl) (.inl rfl) rfl rfl ?_; clear hf a; intro a hf
      refine mc_p rfl   hf (yv_assign rfl) (.inl rfl) rfl rfl ?_; clear hf a; intro a hf
      refine mc_end ?_
      refine then_n ?_
      refine sy_ret ?_
      refine ret_r hf rfl rfl ?_
      refine ⟨congrArg Value.bool ?_, hh.ext⟩
      clear hf hh
      first
        | (simp_all; done)
        | (rw [Bool.eq_iff_iff]; simp_all <;> omega)
     ·refine mc_e rfl fun Q1 => ?_
      refine o_off hf ?_; clear hf a; intro a hf
      refine ops_end ?_
      refine then_n ⟨⟨fun _ _ => (AtE.of hh (by intro q hq; simp only [List.mem_cons, List.mem_append, List.not_mem_nil, or_false] at hq ⊢; rcases hq with h | h <;> simp [h])), trivial⟩, ?_⟩
      refine mc_e rfl fun Q1 => ?_
      refine o_off hf ?_; clear hf a; intro a hf
      refine ops_end ?_
      refine then_n ⟨⟨fun _ _ => (AtE.of hh (by intro q hq; simp only [List.mem_cons, List.mem_append, List.not_mem_nil, or_false] at hq ⊢; rcases hq with h | h <;> simp [h])), trivial⟩, ?_⟩
      refine mc_e rfl fun Q1 => ?_
      refine o_off hf ?_; clear hf a; intro a hf
      refine ops_end ?_
      refine then_n ⟨⟨fun _ _ => (AtE.of hh (by intro q hq; simp only [List.mem_cons, List.mem_append, List.not_mem_nil, or_false] at hq ⊢; rcases hq with h | h <;> simp [h])), trivial⟩, ?_⟩
      refine mc_e rfl fun Q1 => ?_
      refine o_off hf ?_; clear hf a; intro a hf
      refine ops_end ?_
      refine then_n ⟨⟨fun _ _ => (AtE.of hh (by intro q hq; simp only [List.mem_cons, List.mem_append, List.not_mem_nil, or_false] at hq ⊢; rcases hq with h | h <;> simp [h])), trivial⟩, ?_⟩
      refine mc_off rfl hf (goff rfl rfl rfl (by first | assumption | rfl | (simp; done) | (simp; omega))) rfl rfl ?_; clear hf a; intro a hf
      refine mc_p rfl   hf (y_pf rfl rfl) (.inl rfl) rfl rfl ?_; clear hf a; intro a hf
      refine mc_p rfl   hf (yv_assign rfl) (.inl rfl) rfl rfl ?_; clear hf a; intro a hf
      refine mc_end ?_
      refine then_n ?_
      refine sy_ret ?_
      refine ret_r hf rfl rfl ?_
      refine ⟨congrArg Value.bool ?_, hh.ext⟩
      clear hf hh
      first
        | (simp_all; done)
        | (rw [Bool.eq_iff_iff]; simp_all <;> omega)
   ·have hG4 := hg4; try simp only [gS] at hG4
    refine mc_off rfl hf (goff rfl rfl rfl (by first | assumption | rfl | (simp; done) | (simp; omega))) rfl rfl ?_; clear hf a; intro a hf
    refine mc_offq rfl rfl (AtE.of hh (by intro q hq; simp only [List.mem_cons, List.mem_append, List.not_mem_nil, or_false] at hq ⊢; rcases hq with h | h <;> simp [h])) hf (goff rfl rfl rfl (by first | assumption | rfl | (simp; done) | (simp; omega))) rfl rfl ?_; clear hf a; intro a hf
    refine mc_e rfl fun Q1 => ?_
    refine o_off hf ?_; clear hf a; intro a hf
    refine ops_end ?_
    refine then_n ⟨⟨fun _ _ => (AtE.of hh (by intro q hq; simp only [List.mem_cons, List.mem_append, List.not_mem_nil, or_false] at hq ⊢; rcases hq with h | h <;> simp [h])), trivial⟩, ?_⟩
    refine mc_p rfl   hf (y_pf rfl rfl) (.inl rfl) rfl rfl ?_; clear hf a; intro a hf
    refine mc_p rfl   hf (yv_move rfl) (.inl rfl) rfl rfl ?_; clear hf a; intro a hf
    refine mc_off rfl hf (goff rfl rfl rfl (by first | assumption | rfl | (simp; done) | (simp; omega))) rfl rfl ?_; clear hf a; intro a hf
    refine mc_offq rfl rfl (AtE.of hh (by intro q hq; simp only [List.mem_cons, List.mem_append, List.not_mem_nil, or_false] at hq ⊢; rcases hq with h | h <;> simp [h])) hf (goff rfl rfl rfl (by first | assumption | rfl | (simp; done) | (simp; omega))) rfl rfl ?_; clear hf a; intro a hf
    refine mc_off rfl hf (goff rfl rfl rfl (by first | assumption | rfl | (simp; done) | (simp; omega))) rfl rfl ?_; clear hf a; intro a hf
    refine mc_offq rfl rfl (AtE.of hh (by intro q hq; simp only [List.mem_cons, List.mem_append, List.not_mem_nil, or_false] at hq ⊢; rcases hq with h | h <;> simp [h])) hf (goff rfl rfl rfl (by first | assumption | rfl | (simp; done) | (simp; omega))) rfl rfl ?_; clear hf a; intro a hf
    refine mc_off rfl hf (goff rfl rfl rfl (by first | assumption | rfl | (simp; done) | (simp; omega))) rfl rfl ?_; clear hf a; intro a hf
    refine mc_offq rfl rfl (AtE.of hh (by intro q hq; simp only [List.mem_cons, List.mem_append, List.not_mem_nil, or_false] at hq ⊢; rcases hq with h | h <;> simp [h])) hf (goff rfl rfl rfl (by first | assumption | rfl | (simp; done) | (simp; omega))) rfl rfl ?_; clear hf a; intro a hf
    refine mc_off rfl hf (goff rfl rfl rfl (by first | assumption | rfl | (simp; done) | (simp; omega))) rfl rfl ?_; clear hf a; intro a hf
    refine mc_offq rfl rfl (AtE.of hh (by intro q hq; simp only [List.mem_cons, List.mem_append, List.not_mem_nil, or_false] at hq ⊢; rcases hq with h | h <;> simp [h])) hf (goff rfl rfl rfl (by first | assumption | rfl | (simp; done) | (simp; omega))) rfl rfl ?_; clear hf a; intro a hf
    refine mc_off rfl hf (goff rfl rfl rfl (by first | assumption | rfl | (simp; done) | (simp; omega))) rfl rfl ?_; clear hf a; intro a hf
    refine ⟨?_, ?_⟩
    ·refine mc_e rfl fun Q1 => ?_
     refine o_off hf ?_; clear hf a; intro a hf
     refine ops_end ?_
     refine then_n ⟨⟨fun _ _ => (AtE.of hh (by intro q hq; simp only [List.mem_cons, List.mem_append, List.not_mem_nil, or_false] at hq ⊢; rcases hq with h | h <;> simp [h])), trivial⟩, ?_⟩
     refine mc_e rfl fun Q1 => ?_
     refine o_off hf ?_; clear hf a; intro a hf
     refine ops_end ?_
     refine then_n ⟨⟨fun _ _ => (AtE.of hh (by intro q hq; simp only [List.mem_cons, List.mem_append, List.not_mem_nil, or_false] at hq ⊢; rcases hq with h | h <;> simp [h])), trivial⟩, ?_⟩
     refine mc_e rfl fun Q1 => ?_
     refine o_off hf ?_; clear hf a; intro a hf
     refine ops_end ?_
     refine then_n ⟨⟨fun _ _ => (AtE.of hh (by intro q hq; simp only [List.mem_cons, List.mem_append, List.not_mem_nil, or_false] at hq ⊢; rcases hq with h | h <;> simp [h])), trivial⟩, ?_⟩
     refine mc_e rfl fun Q1 => ?_
     refine o_off hf ?_; clear hf a; intro a hf
     refine ops_end ?_
     refine then_n ⟨⟨fun _ _ => (AtE.of hh (by intro q hq; simp only [List.mem_cons, List.mem_append, List.not_mem_nil, or_false] at hq ⊢; rcases hq with h | h <;> simp [h])), trivial⟩, ?_⟩
     refine mc_off rfl hf (goff rfl rfl rfl (by first | assumption | rfl | (simp; done) | (simp; omega))) rfl rfl ?_; clear hf a; intro a hf
     refine mc_p rfl   hf (y_pf rfl rfl) (.inl rfl) rfl rfl ?_; clear hf a; intro a hf
     refine mc_p rfl   hf (yv_assign rfl) (.inl rfl) rfl rfl ?_; clear hf a; intro a hf
     refine mc_end ?_
     refine then_n ?_
     refine sy_ret ?_
     refine ret_r hf rfl rfl ?_
     refine ⟨congrArg Value.bool ?_, hh.ext⟩
     clear hf hh
     first
       | (simp_all; done)
       | (rw [Bool.eq_iff_iff]; simp_all <;> omega)
    ·refine mc_e rfl fun Q1 => ?_
     refine o_off hf ?_; clear hf a; intro a hf
     refine ops_end ?_
     refine then_n ⟨⟨fun _ _ => (AtE.of hh (by intro q hq; simp only [List.mem_cons, List.mem_append, List.not_mem_nil, or_false] at hq ⊢; rcases hq with h | h <;> simp [h])), trivial⟩, ?_⟩
     refine mc_e rfl fun Q1 => ?_
     refine o_off hf ?_; clear hf a; intro a hf
     refine ops_end ?_
     refine then_n ⟨⟨fun _ _ => (AtE.of hh (by intro q hq; simp only [List.mem_cons, List.mem_append, List.not_mem_nil, or_false] at hq ⊢; rcases hq with h | h <;> simp [h])), trivial⟩, ?_⟩
     refine mc_e rfl fun Q1 => ?_
     refine o_off hf ?_; clear hf a; intro a hf
     refine ops_end ?_
     refine then_n ⟨⟨fun _ _ => (AtE.of hh (by intro q hq; simp only [List.mem_cons, List.mem_append, List.not_mem_nil, or_false] at hq ⊢; rcases hq with h | h <;> simp [h])), trivial⟩, ?_⟩
     refine mc_e rfl fun Q1 => ?_
     refine o_off hf ?_; clear hf a; intro a hf
     refine ops_end ?_
     refine then_n ⟨⟨fun _ _ => (AtE.of hh (by intro q hq; simp only [List.mem_cons, List.mem_append, List.not_mem_nil, or_false] at hq ⊢; rcases hq with h | h <;> simp [h])), trivial⟩, ?_⟩
     refine mc_off rfl hf (goff rfl rfl rfl (by first | assumption | rfl | (simp; done) | (simp; omega))) rfl rfl ?_; clear hf a; intro a hf
     refine mc_p rfl   hf (y_pf rfl rfl) (.inl rfl) rfl rfl ?_; clear hf a; intro a hf
     refine mc_p rfl   hf (yv_assign rfl) (.inl rfl) rfl rfl ?_; clear hf a; intro a hf
     refine mc_end ?_
     refine then_n ?_
     refine sy_ret ?_
     refine ret_r hf rfl rfl ?_
     refine ⟨congrArg Value.bool ?_, hh.ext⟩
     clear hf hh
     first
       | (simp_all; done)
       | (rw [Bool.eq_iff_iff]; simp_all <;> omega)
  ·have hG2 := hg2; try simp only [gS] at hG2
   refine mc_off rfl hf (goff rfl rfl rfl (by first | assumption | rfl | (simp; done) | (simp; omega))) rfl rfl ?_; clear hf a; intro a hf
   refine mc_offq rfl rfl (AtE.of hh (by intro q hq; simp only [List.mem_cons, List.mem_append, List.not_mem_nil, or_false] at hq ⊢; rcases hq with h | h <;> simp [h])) hf (goff rfl rfl rfl (by first | assumption | rfl | (simp; done) | (simp; omega))) rfl rfl ?_; clear hf a; intro a hf
   refine mc_off rfl hf (goff rfl rfl rfl (by first | assumption | rfl | (simp; done) | (simp; omega))) rfl rfl ?_; clear hf a; intro a hf
   refine mc_offq rfl rfl (AtE.of hh (by intro q hq; simp only [List.mem_cons, List.mem_append, List.not_mem_nil, or_false] at hq ⊢; rcases hq with h | h <;> simp [h])) hf (goff rfl rfl rfl (by first | assumption | rfl | (simp; done) | (simp; omega))) rfl rfl ?_; clear hf a; intro a hf
   refine mc_off rfl hf (goff rfl rfl rfl (by first | assumption | rfl | (simp; done) | (simp; omega))) rfl rfl ?_; clear hf a; intro a hf
   refine mc_p rfl   hf (y_pf rfl rfl) (.inl rfl) rfl rfl ?_; clear hf a; intro a hf
   refine mc_p rfl   hf (yv_move rfl) (.inl rfl) rfl rfl ?_; clear hf a; intro a hf
   refine mc_off rfl hf (goff rfl rfl rfl (by first | assumption | rfl | (simp; done) | (simp; omega))) rfl rfl ?_; clear hf a; intro a hf
   refine mc_offq rfl rfl (AtE.of hh (by intro q hq; simp only [List.mem_cons, List.mem_append, List.not_mem_nil, or_false] at hq ⊢; rcases hq with h | h <;> simp [h])) hf (goff rfl rfl rfl (by first | assumption | rfl | (simp; done) | (simp; omega))) rfl rfl ?_; clear hf a; intro a hf
   refine mc_e rfl fun Q1 => ?_
   refine o_off hf ?_; clear hf a; intro a hf
   refine ops_end ?_
   refine then_n ⟨⟨fun _ _ => (AtE.of hh (by intro q hq; simp only [List.mem_cons, List.mem_append, List.not_mem_nil, or_false] at hq ⊢; rcases hq with h | h <;> simp [h])), trivial⟩, ?_⟩
   refine mc_p rfl   hf (y_pf rfl rfl) (.inl rfl) rfl rfl ?_; clear hf a; intro a hf
   refine mc_p rfl   hf (yv_move rfl) (.inl rfl) rfl rfl ?_; clear hf a; intro a hf
   refine mc_off rfl hf (goff rfl rfl rfl (by first | assumption | rfl | (simp; done) | (simp; omega))) rfl rfl ?_; clear hf a; intro a hf
   refine mc_offq rfl rfl (AtE.of hh (by intro q hq; simp only [List.mem_cons, List.mem_append, List.not_mem_nil, or_false] at hq ⊢; rcases hq with h | h <;> simp [h])) hf (goff rfl rfl rfl (by first | assumption | rfl | (simp; done) | (simp; omega))) rfl rfl ?_; clear hf a; intro a hf
   refine mc_off rfl hf (goff rfl rfl rfl (by first | assumption | rfl | (simp; done) | (simp; omega))) rfl rfl ?_; clear hf a; intro a hf
   refine mc_offq rfl rfl (AtE.of hh (by intro q hq; simp only [List.mem_cons, List.mem_append, List.not_mem_nil, or_false] at hq ⊢; rcases hq with h | h <;> simp [h])) hf (goff rfl rfl rfl (by first | assumption | rfl | (simp; done) | (simp; omega))) rfl rfl ?_; clear hf a; intro a hf
   refine mc_off rfl hf (goff rfl rfl rfl (by first | assumption | rfl | (simp; done) | (simp; omega))) rfl rfl ?_; clear hf a; intro a hf
   refine mc_offq rfl rfl (AtE.of hh (by intro q hq; simp only [List.mem_cons, List.mem_append, List.not_mem_nil, or_false] at hq ⊢; rcases hq with h | h <;> simp [h])) hf (goff rfl rfl rfl (by first | assumption | rfl | (simp; done) | (simp; omega))) rfl rfl ?_; clear hf a; intro a hf
   refine mc_off rfl hf (goff rfl rfl rfl (by first | assumption | rfl | (simp; done) | (simp; omega))) rfl rfl ?_; clear hf a; intro a hf
   refine mc_offq rfl rfl (AtE.of hh (by intro q hq; simp only [List.mem_cons, List.mem_append, List.not_mem_nil, or_false] at hq ⊢; rcases hq with h | h <;> simp [h])) hf (goff rfl rfl rfl (by first | assumption | rfl | (simp; done) | (simp; omega))) rfl rfl ?_; clear hf a; intro a hf
   refine mc_off rfl hf (goff rfl rfl rfl (by first | assumption | rfl | (simp; done) | (simp; omega))) rfl rfl ?_; clear hf a; intro a hf
   refine ⟨?_, ?_⟩
   ·refine mc_e rfl fun Q1 => ?_
    refine o_off hf ?_; clear hf a; intro a hf
    refine ops_end ?_
    refine then_n ⟨⟨fun _ _ => (AtE.of hh (by intro q hq; simp only [List.mem_cons, List.mem_append, List.not_mem_nil, or_false] at hq ⊢; rcases hq with h | h <;> simp [h])), trivial⟩, ?_⟩
    refine mc_e rfl fun Q1 => ?_
    refine o_off hf ?_; clear hf a; intro a hf
    refine ops_end ?_
    refine then_n ⟨⟨fun _ _ => (AtE.of hh (by intro q hq; simp only [List.mem_cons, List.mem_append, List.not_mem_nil, or_false] at hq ⊢; rcases hq with h | h <;> simp [h])), trivial⟩, ?_⟩
    refine mc_e rfl fun Q1 => ?_
    refine o_off hf ?_; clear hf a; intro a hf
    refine ops_end ?_
    refine then_n ⟨⟨fun _ _ => (AtE.of hh (by intro q hq; simp only [List.mem_cons, List.mem_append, List.not_mem_nil, or_false] at hq ⊢; rcases hq with h | h <;> simp [h])), trivial⟩, ?_⟩
    refine mc_e rfl fun Q1 => ?_
    refine o_off hf ?_; clear hf a; intro a hf
    refine ops_end ?_
    refine then_n ⟨⟨fun _ _ => (AtE.of hh (by intro q hq; simp only [List.mem_cons, List.mem_append, List.not_mem_nil, or_false] at hq ⊢; rcases hq with h | h <;> simp [h])), trivial⟩, ?_⟩
    refine mc_off rfl hf (goff rfl rfl rfl (by first | assumption | rfl | (simp; done) | (simp; omega))) rfl rfl ?_; clear hf a; intro a hf
    refine mc_p rfl   hf (y_pf rfl rfl) (.inl rfl) rfl rfl ?_; clear hf a; intro a hf
    refine mc_p rfl   hf (yv_assign rfl) (.inl rfl) rfl rfl ?_; clear hf a; intro a hf
    refine mc_end ?_
    refine then_n ?_
    refine sy_ret ?_
    refine ret_r hf rfl rfl ?_
    refine ⟨congrArg Value.bool ?_, hh.ext⟩
    clear hf hh
    first
      | (simp_all; done)
      | (rw [Bool.eq_iff_iff]; simp_all <;> omega)
   ·refine mc_e rfl fun Q1 => ?_
    refine o_off hf ?_; clear hf a; intro a hf
    refine ops_end ?_
    refine then_n ⟨⟨fun _ _ => (AtE.of hh (by intro q hq; simp only [List.mem_cons, List.mem_append, List.not_mem_nil, or_false] at hq ⊢; rcases hq with h | h <;> simp [h])), trivial⟩, ?_⟩
    refine mc_e rfl fun Q1 => ?_
    refine o_off hf ?_; clear hf a; intro a hf
    refine ops_end ?_
    refine then_n ⟨⟨fun _ _ => (AtE.of hh (by intro q hq; simp only [List.mem_cons, List.mem_append, List.not_mem_nil, or_false] at hq ⊢; rcases hq with h | h <;> simp [h])), trivial⟩, ?_⟩
    refine mc_e rfl fun Q1 => ?_
    refine o_off hf ?_; clear hf a; intro a hf
    refine ops_end ?_
    refine then_n ⟨⟨fun _ _ => (AtE.of hh (by intro q hq; simp only [List.mem_cons, List.mem_append, List.not_mem_nil, or_false] at hq ⊢; rcases hq with h | h <;> simp [h])), trivial⟩, ?_⟩
    refine mc_e rfl fun Q1 => ?_
    refine o_off hf ?_; clear hf a; intro a hf
    refine ops_end ?_
    refine then_n ⟨⟨fun _ _ => (AtE.of hh (by intro q hq; simp only [List.mem_cons, List.mem_append, List.not_mem_nil, or_false] at hq ⊢; rcases hq with h | h <;> simp [h])), trivial⟩, ?_⟩
    refine mc_off rfl hf (goff rfl rfl rfl (by first | assumption | rfl | (simp; done) | (simp; omega))) rfl rfl ?_; clear hf a; intro a hf
    refine mc_p rfl   hf (y_pf rfl rfl) (.inl rfl) rfl rfl ?_; clear hf a; intro a hf
    refine mc_p rfl   hf (yv_assign rfl) (.inl rfl) rfl rfl ?_; clear hf a; intro a hf
    refine mc_end ?_
    refine then_n ?_
    refine sy_ret ?_
    refine ret_r hf rfl rfl ?_
    refine ⟨congrArg Value.bool ?_, hh.ext⟩
    clear hf hh
    first
      | (simp_all; done)
      | (rw [Bool.eq_iff_iff]; simp_all <;> omega)
end Go.Proofs.YtccpgpnekoncoaaGreat

namespace Go.WalM
open Go Go.Sy
/-- A tour that is looked at: with how many views there are. -/
abbrev tpC (t : TourD) (p : TPl) : Array Value := #[.int .i64 t.dawn, .slice p.sf t.fr.length p.cf, .slice p.sw t.ways.length p.cw, .slice p.ss t.stay.length p.cs, .slice p.sl t.light.length p.cl, .int .i64 (t.fr.length : Nat)]
def ordB (n : Nat) (l : List Int) : Bool := (l.all fun v => inW v 0 ((n : Int) - 1)) && decide l.Nodup
theorem inW_iff {v a b : Int} : inW v a b = true ↔ a ≤ v ∧ v ≤ b := by unfold inW; rw [Bool.and_eq_true, decide_eq_true_eq, decide_eq_true_eq]
theorem ordB_iff {n : Nat} {l : List Int} : ordB n l = true ↔ (∀ v ∈ l, 0 ≤ v ∧ v < n) ∧ l.Nodup := by
  unfold ordB
  rw [Bool.and_eq_true, decide_eq_true_eq, List.all_eq_true]
  refine ⟨fun h => ⟨fun v hv => ?_, h.2⟩, fun h => ⟨fun v hv => ?_, h.2⟩⟩
  · have := inW_iff.1 (h.1 v hv); omega
  · have := h.1 v hv; exact inW_iff.2 (by omega)
theorem take_snoc {α : Type} {l : List α} {i : Nat} {v : α} (h : l[i]? = some v) : l.take (i + 1) = l.take i ++ [v] := by rw [List.take_add_one, h]; rfl
theorem ordB_next {n : Nat} {l : List Int} {i : Nat} {v : Int} (h : l[i]? = some v) (ho : ordB n (l.take i) = true) (h1 : 0 ≤ v ∧ v < n) (h2 : v ∉ l.take i) : ordB n (l.take (i + 1)) = true := by
  rw [ordB_iff] at ho ⊢
  rw [take_snoc h]
  refine ⟨fun x hx => ?_, List.nodup_append.2 ⟨ho.2, List.nodup_cons.2 ⟨List.not_mem_nil, List.nodup_nil⟩, fun a ha b hb e => ?_⟩⟩
  · rcases List.mem_append.1 hx with hx | hx
    · exact ho.1 x hx
    · rw [List.mem_singleton.1 hx]; exact h1
  · rw [List.mem_singleton.1 hb] at e
    exact h2 (e ▸ ha)
theorem ordB_bad {n : Nat} {l : List Int} {i : Nat} {v : Int} (h : l[i]? = some v) (h1 : inW v 0 ((n : Int) - 1) = false ∨ v ∈ l.take i) : ordB n l = false := by
  rw [Bool.eq_false_iff]
  intro ho
  rw [ordB_iff] at ho
  rcases h1 with h1 | h1
  · have := ho.1 v (List.mem_of_getElem? h)
    rw [Bool.eq_false_iff] at h1
    exact h1 (inW_iff.2 (by omega))
  · have h2 := ho.2
    rw [← List.take_append_drop (i + 1) l, take_snoc h] at h2
    exact (List.nodup_append.1 (List.nodup_append.1 h2).1).2.2 v h1 v (.head _) rfl
def seenV (l : List Int) : Array Value := ((List.range 6).map fun j => Value.bool (decide (((j : Nat) : Int) ∈ l))).toArray
theorem seen_nil : seenV [] = #[.bool false, .bool false, .bool false, .bool false, .bool false, .bool false] := by unfold seenV; rfl
theorem seen_size (l : List Int) : (seenV l).size = 6 := by unfold seenV; simp
theorem seen_at {l : List Int} {v : Int} (h0 : 0 ≤ v) (h1 : v < 6) : (seenV l)[0 + v.toNat * 1]? = some (.bool (decide (v ∈ l))) := by
  obtain ⟨k, rfl⟩ : ∃ k : Nat, v = k := ⟨v.toNat, by omega⟩
  rw [Int.toNat_natCast, Nat.zero_add, Nat.mul_one]
  unfold seenV
  rw [List.getElem?_toArray, List.getElem?_map, List.getElem?_range (by omega)]; rfl
theorem seen_put {l : List Int} {v : Int} (h0 : 0 ≤ v) (h1 : v < 6) : spl (seenV l) (0 + v.toNat * 1) [.bool true] = seenV (l ++ [v]) := by
  obtain ⟨k, rfl⟩ : ∃ k : Nat, v = k := ⟨v.toNat, by omega⟩
  rw [Int.toNat_natCast, Nat.zero_add, Nat.mul_one, spl_one _ _ (by rw [seen_size]; omega)]
  apply Array.ext'
  apply List.ext_getElem?
  intro j
  rw [Array.getElem?_toList, Array.getElem?_toList, Array.getElem?_setIfInBounds, seen_size]
  unfold seenV
  rw [List.getElem?_toArray, List.getElem?_toArray, List.getElem?_map, List.getElem?_map]
  by_cases hj : j < 6
  · rw [List.getElem?_range hj]
    by_cases e : k = j
    · subst e
      rw [if_pos rfl, if_pos (by omega)]
      simp
    · rw [if_neg e]
      have : ¬ ((j : Int) = (k : Int)) := by omega
      simp [this]
  · rw [if_neg (by omega), List.getElem?_eq_none (by simp; omega)]; rfl
end Go.WalM

namespace Go.Proofs.YtccpgpnekoncoaaGreat
open Go Go.Sy Go.WalM
theorem k78 (t : TourD) (p : TPl) (x : Int) (Bt : Nat) (u : World) (hB : u.heap[Bt]? = some (.cells (tpC t p) 136 (0, 0))) (hn : t.fr.length ≤ 6) : Calls Tryz.prog 78 #[ptr Bt 0, .int .i64 x] u (Ret fun v w' => v = .bool (inW x 0 (((t.fr.length : Nat) : Int) - 1)) ∧ Ext [] u w') := by
  refine calls_of Tryz.func78 rfl rfl (fun a hf => ?_)
  have hh := Hp.init u []
  refine sy_sq ?_
  refine o_v hf hh (yv_assign rfl) ?_; clear hf a; intro a hf
  refine o_end ?_
  refine sy_sq ?_
  refine o_v hf hh (yv_move rfl) ?_; clear hf a; intro a hf
  refine o_v hf hh (yv_move rfl) ?_; clear hf a; intro a hf
  refine o_v hf hh (yv_nilCheck rfl) ?_; clear hf a; intro a hf
  refine o_v hf hh (yv_fieldAddr Tryz.fo_136_1 rfl) ?_; clear hf a; intro a hf
  refine o_v hf hh (y_ld Tryz.sc_3 rfl) ?_; clear hf a; intro a hf
  refine o_v hf hh (y_sub rfl rfl) ?_; clear hf a; intro a hf
  refine o_call hf Tryz.en_101 rfl rfl rfl (k101 _ _ _ _) ?_; clear hf a; intro v a w hR hf
  obtain ⟨rfl, hx⟩ := hR; replace hh := hh.more hx; clear hx
  refine o_v hf hh (yv_assign rfl) ?_; clear hf a; intro a hf
  refine o_end ?_
  refine sy_ret ?_
  refine ret_r hf rfl rfl ?_
  exact ⟨rfl, hh.ext⟩
set_option maxRecDepth 100000 in
theorem k38 (t : TourD) (p : TPl) (l : List Int) (so : Option Addr) (co : Nat) (Bt : Nat) (u : World) (hB : u.heap[Bt]? = some (.cells (tpC t p) 136 (0, 0))) (hn : t.fr.length ≤ 6) (hL : VwAt u so l) (hl : l.length ≤ 4000000000) : Calls Tryz.prog 38 #[ptr Bt 0, .slice so l.length co] u (Ret fun v w' => v = .bool (ordB t.fr.length l) ∧ Ext [] u w') := by
  refine calls_of Tryz.func38 rfl rfl (fun a hf => ?_)
  have hh := Hp.init u []
  refine sy_sq ?_
  refine o_v hf hh (yv_assign rfl) ?_; clear hf a; intro a hf
  refine o_end ?_
  refine sy_sq ?_
  refine o_alloc hf hh Tryz.ze_148 ?_; clear hf hh a; intro B5 a w hf hh
  refine o_end ?_
  refine sy_seq ?_
  refine sy_seq ?_
  replace hh : Hp u [] [(B5, .cells (seenV (l.take 0)) 148)] w := by rw [List.take_zero, seen_nil]; exact hh
  refine sy_ops ?_
  refine o_v hf hh (yv_move rfl) ?_; clear hf a; intro a hf
  refine o_v hf hh (yv_len Tryz.se_28 rfl) ?_; clear hf a; intro a hf
  refine o_v hf hh (yv_move rfl) ?_; clear hf a; intro a hf
  refine o_end ?_
  refine sy_block ?_
  refine sy_loopH (σ := Nat) [4, 7, 10, 11, 12, 13, 14, 15, 16, 17, 18, 19, 20, 21, 22, 23, 24, 25] (fun i => [(10, .int .i64 (i : Nat))]) (fun i => fun w => i ≤ l.length ∧ ordB t.fr.length (l.take i) = true ∧ Hp u [] [(B5, .cells (seenV (l.take i)) 148)] w) (fun i => l.length - i) (0) hf ?_ ?_ ?_
  · repeat' (first | exact True.intro | refine And.intro rfl ?_)
  · exact ⟨Nat.zero_le _, rfl, hh⟩
  ·rintro i a w ⟨hi, hq, hh⟩ hf
   refine sy_sq ?_
   refine o_v hf hh (yv_bin rfl rfl rfl) ?_; clear hf a; intro a hf
   refine o_end ?_
   refine sy_seq ?_
   refine sy_cond hf rfl (fun hg2 => ?_) (fun hg2 => ?_)
   ·have hG2 := hg2; try simp only [gS] at hG2
    refine sy_skip ?_
    refine then_n ?_
    refine sy_seq ?_
    refine sy_block ?_
    refine sy_seq ?_
    obtain ⟨x, hx⟩ := ex_ofW (l := l) (i := i) (by omega)
    obtain ⟨blk, off, cc, T, fr, e, hb, hc⟩ := hL i x hx; subst e
    refine sy_ops ?_
    refine o_v hf hh (y_ix Tryz.se_28 rfl rfl) ?_; clear hf a; intro a hf
    refine o_v hf hh (y_ld Tryz.sc_3 rfl) ?_; clear hf a; intro a hf
    refine o_v hf hh (yv_assign rfl) ?_; clear hf a; intro a hf
    refine o_end ?_
    refine sy_seq ?_
    refine sy_sq ?_
    refine o_v hf hh (yv_move rfl) ?_; clear hf a; intro a hf
    refine o_v hf hh (yv_move rfl) ?_; clear hf a; intro a hf
    refine o_call hf Tryz.en_78 rfl rfl rfl (k78 t p x Bt _ (hh.old hB) hn) ?_; clear hf a; intro v a w hR hf
    obtain ⟨rfl, hx⟩ := hR; replace hh := hh.more hx; clear hx
    refine o_v hf hh (yv_not rfl) ?_; clear hf a; intro a hf
    refine o_v hf hh (yv_move rfl) ?_; clear hf a; intro a hf
    refine guard_split hf (t := 18) rfl (fun hg4 => ?_) (fun hg4 => ?_)
    ·have hG4 := hg4; try simp only [gS] at hG4
     refine o_off hf ?_; clear hf a; intro a hf
     refine o_off hf ?_; clear hf a; intro a hf
     refine o_off hf ?_; clear hf a; intro a hf
     refine o_v hf hh (y_pt rfl rfl) ?_; clear hf a; intro a hf
     refine o_end ?_
     refine c_t hf ?_
     refine sy_sq ?_
     refine o_v hf hh (yv_assign rfl) ?_; clear hf a; intro a hf
     refine o_end ?_
     refine sy_ret ?_
     refine then_r ?_
     refine blk_r ?_
     refine then_r ?_
     refine then_r ?_
     refine blk_r ?_
     refine then_r ?_
     refine ret_r hf rfl rfl ?_
     exact ⟨congrArg Value.bool (ordB_bad hx (by simp_all)).symm, hh.ext⟩
    ·have hG4 := hg4; try simp only [gS] at hG4
     refine o_v hf hh (yv_move rfl) ?_; clear hf a; intro a hf
     have hv : 0 ≤ x ∧ x < 6 := by
       have hi : inW x 0 (((t.fr.length : Nat) : Int) - 1) = true := by simp_all
       have := inW_iff.1 hi
       omega
     have hsa := seen_at (l := l.take i) hv.1 hv.2
     refine o_v hf hh (y_ia Tryz.ae_148 rfl rfl) ?_; clear hf a; intro a hf
     refine o_v hf hh (y_ld Tryz.sc_4 rfl (hb := fun _ h => h.get (B5, .cells (seenV (l.take i)) 148) (by simp)) (hv := hsa)) ?_; clear hf a; intro a hf
     refine o_v hf hh (y_pf rfl rfl) ?_; clear hf a; intro a hf
     refine o_end ?_
     refine sy_cond hf rfl (fun hg7 => ?_) (fun hg7 => ?_)
     ·have hG7 := hg7; try simp only [gS] at hG7
      refine sy_sq ?_
      refine o_v hf hh (yv_assign rfl) ?_; clear hf a; intro a hf
      refine o_end ?_
      refine sy_ret ?_
      refine then_r ?_
      refine blk_r ?_
      refine then_r ?_
      refine then_r ?_
      refine blk_r ?_
      refine then_r ?_
      refine ret_r hf rfl rfl ?_
      exact ⟨congrArg Value.bool (ordB_bad hx (by simp_all)).symm, hh.ext⟩
     ·have hG7 := hg7; try simp only [gS] at hG7
      refine sy_skip ?_
      refine then_n ?_
      have hin : inW x 0 (((t.fr.length : Nat) : Int) - 1) = true := by simp_all
      have hv : 0 ≤ x ∧ x < 6 := by
        have := inW_iff.1 hin
        omega
      have hni : x ∉ l.take i := by simp_all
      refine sy_ops ?_
      refine o_v hf hh (yv_move rfl) ?_; clear hf a; intro a hf
      refine o_v hf hh (y_ia Tryz.ae_148 rfl rfl) ?_; clear hf a; intro a hf
      refine o_store (i := 0) hf hh Tryz.sz_4 (hx := rfl) (hi := atI (i := 0) rfl) (hy := rfl) (hl := Nat.ble_eq_true_of_le (by rw [seen_size]; omega)) fun w hh => ?_
      replace hh : Hp u [] [(B5, .cells (seenV (l.take (i + 1))) 148)] w := by rw [take_snoc hx, ← seen_put hv.1 hv.2]; exact hh
      refine ops_end ?_
      refine blk_n ?_
      refine then_n ?_
      refine sy_ops ?_
      refine o_v hf hh (y_add rfl rfl) ?_; clear hf a; intro a hf
      refine o_v hf hh (yv_move rfl) ?_; clear hf a; intro a hf
      refine ops_end ?_
      refine then_n ?_
      exact ⟨i + 1, ⟨⟨by omega, ordB_next hx hq (by have := inW_iff.1 hin; omega) hni, hh⟩, (hf.head (by repeat' (first | exact True.intro | refine And.intro rfl ?_)) (Keep.cons rfl (Keep.cons rfl (Keep.cons rfl (Keep.cons rfl (Keep.cons rfl (Keep.cons rfl (Keep.cons rfl (Keep.cons rfl (Keep.cons rfl (Keep.cons rfl (Keep.cons rfl (Keep.cons rfl (Keep.cons rfl (Keep.cons rfl (Keep.cons rfl (Keep.cons rfl (Keep.cons rfl (Keep.app rfl (Keep.rm rfl Keep.base))))))))))))))))))))⟩, by omega⟩
   ·have hG2 := hg2; try simp only [gS] at hG2
    refine sy_exit ?_
    refine then_e ?_
    refine then_e ?_
    refine blk_e ?_
    refine then_n ?_
    refine sy_sq ?_
    refine o_v hf hh (yv_assign rfl) ?_; clear hf a; intro a hf
    refine o_end ?_
    refine sy_ret ?_
    refine ret_r hf rfl rfl ?_
    obtain rfl : i = l.length := by omega
    rw [List.take_length] at hq
    exact ⟨congrArg Value.bool hq.symm, hh.ext⟩
theorem k31 (Bt : Nat) (w : World) : Calls Tryz.prog 31 #[ptr Bt 0] w (Ret fun v w' => v = .bool true ∧ Ext [] w w') := by
  refine calls_of Tryz.func31 rfl rfl (fun a hf => ?_)
  have hh := Hp.init w []
  refine sy_sq ?_
  refine o_v hf hh (yv_assign rfl) ?_; clear hf a; intro a hf
  refine o_end ?_
  refine sy_sq ?_
  refine o_v hf hh (yv_assign rfl) ?_; clear hf a; intro a hf
  refine o_end ?_
  refine sy_ret ?_
  refine ret_r hf rfl rfl ?_
  exact ⟨rfl, hh.ext⟩
end Go.Proofs.YtccpgpnekoncoaaGreat

namespace Go.WalM
open Go Go.Sy
def opnE (t : TourD) (b : Bool) : Int := if touB t then if b then 0 else 2 else 1
theorem opnE_zero {t : TourD} {b : Bool} : opnE t b = 0 ↔ touB t = true ∧ b = true := by
  unfold opnE
  cases touB t <;> cases b <;> simp
theorem sp_at {l : List (Int × Int)} {v : Nat} (h : v < l.length) : l[v]? = some (sp0 l v) := by
  unfold sp0
  rw [List.getD_eq_getElem?_getD, List.getElem?_eq_getElem h]; rfl
theorem sp_ok {l : List (Int × Int)} {v : Nat} (h : v < l.length) (ho : ∀ s ∈ l, okS s) : okS (sp0 l v) := ho _ (List.mem_of_getElem? (sp_at h))
theorem way_at {t : TourD} {p : TPl} (he : p.rows.map Prod.fst = t.ways) {f : Nat} (h : f < t.ways.length) : ∃ r, p.rows[f]? = some r ∧ r.1 = t.ways.getD f [] := by
  have h1 : f < p.rows.length := by rw [rows_len he]; exact h
  refine ⟨p.rows[f], by rw [List.getElem?_eq_getElem h1], ?_⟩
  rw [← he, List.getD_eq_getElem?_getD, List.getElem?_map, List.getElem?_eq_getElem h1]; rfl
def IsFr (t : TourD) (fr : Int) : Prop := fr = -1 ∨ (0 ≤ fr ∧ fr < t.n)
theorem way_ok {t : TourD} (hO : TourOk t) {fr : Int} (hf : IsFr t fr) {v : Nat} (h : v < t.n) : okS (wayV t fr v) := by
  unfold wayV
  rcases hf with rfl | ⟨h0, h1⟩
  · rw [if_pos rfl]; exact sp_ok h hO.f
  · rw [if_neg (by omega)]
    have hw := hO.wl
    have h2 : fr.toNat < t.ways.length := by rw [hw]; show _ < t.n; omega
    have h3 : t.ways.getD fr.toNat [] ∈ t.ways := by
      rw [List.getD_eq_getElem?_getD, List.getElem?_eq_getElem h2]; exact List.getElem_mem h2
    exact sp_ok (by rw [(hO.w _ h3).1]; exact h) (hO.w _ h3).2
theorem cells_two {c : Array Value} {o : Nat} {a b : Value} (h : cellsAt c o 2 = some [a, b]) : c[o]? = some a ∧ c[o + 1]? = some b := by
  cases ha : c[o]? with
  | none => simp [cellsAt, ha] at h
  | some x =>
    cases hb : c[o + 1]? with
    | none => simp [cellsAt, ha, hb] at h
    | some y =>
      simp [cellsAt, ha, hb] at h
      exact ⟨by rw [h.1], by rw [h.2]⟩
end Go.WalM

namespace Go.Proofs.YtccpgpnekoncoaaGreat
open Go Go.Sy Go.WalM
theorem k30 (t : TourD) (p : TPl) (u : World) (hR : TouAt u t p) (f : Nat) (fcs : Array Value) (b : Bool) (hE : Enters Tryz.prog f)
    (hcall : touB t = true → ∀ (Bc : Nat) (w' : World), Ext [] u w' → w'.heap[Bc]? = some (.cells (tpC t p) 136 (0, 0)) → Calls Tryz.prog f (#[] ++ [ptr Bc 0].toArray ++ fcs) w' (Ret fun v w'' => v = .bool b ∧ Ext [] w' w'')) :
    Calls Tryz.prog 30 #[.agg (touC t p), .func (.func f) #[] fcs] u (RetX (fun v w' => opnE t b = 0 ∧ ∃ Bc, v = ptr Bc 0 ∧ Hp u [] [(Bc, .cells (tpC t p) 136)] w') (fun ch w' => ch = misW (opnE t b) ∧ opnE t b ≠ 0 ∧ Ext [] u w')) := by
  refine calls_ofX Tryz.func30 rfl rfl (fun a hf => ?_)
  have hh := Hp.init u []
  have hnf := hR.nf
  refine sy_sq ?_
  refine o_box hf hh ?_; clear hf hh a; intro B2 a w hf hh
  refine o_v hf hh (yv_assign rfl) ?_; clear hf a; intro a hf
  refine o_end ?_
  refine sy_sq ?_
  refine o_v hf hh (y_lds Tryz.ag_25 rfl) ?_; clear hf a; intro a hf
  refine o_call hf Tryz.en_71 rfl rfl rfl (k71 t p _ (hR.ext hh.ext)) ?_; clear hf a; intro v a w hR hf
  obtain ⟨rfl, hx⟩ := hR; replace hh := hh.more hx; clear hx
  refine o_callX hf Tryz.en_67 rfl rfl rfl (k67 _ 1 _) ?_ ?_
  ·clear hf a; intro v a w hR hf
   obtain ⟨hb1, hx⟩ := hR; replace hh := hh.more hx; clear hx
   refine o_end ?_
   refine sy_sq ?_
   refine o_v hf hh (y_lds Tryz.ag_25 rfl) ?_; clear hf a; intro a hf
   refine o_v hf hh (yv_fieldAddr Tryz.fo_25_1 rfl) ?_; clear hf a; intro a hf
   refine o_v hf hh (y_ld Tryz.sc_22 rfl) ?_; clear hf a; intro a hf
   refine o_v hf hh (yv_len Tryz.se_22 rfl) ?_; clear hf a; intro a hf
   refine o_v hf hh (yv_buildS Tryz.bs_136 rfl rfl) ?_; clear hf a; intro a hf
   refine o_box hf hh ?_; clear hf hh a; intro B14 a w hf hh
   refine o_v hf hh (yv_assign rfl) ?_; clear hf a; intro a hf
   refine o_end ?_
   refine sy_sq ?_
   refine o_v hf hh (yv_move rfl) ?_; clear hf a; intro a hf
   refine o_v hf hh (yv_move rfl) ?_; clear hf a; intro a hf
   refine o_call hf hE rfl rfl rfl (hcall hb1 _ _ hh.ext (hh.at (i := 0) rfl)) ?_; clear hf a; intro v a w hR hf
   obtain ⟨rfl, hx⟩ := hR; replace hh := hh.more hx; clear hx
   refine o_callX hf Tryz.en_67 rfl rfl rfl (k67 _ 2 _) ?_ ?_
   ·clear hf a; intro v a w hR hf
    obtain ⟨hb2, hx⟩ := hR; replace hh := hh.more hx; clear hx
    refine o_end ?_
    refine sy_sq ?_
    refine o_v hf hh (yv_move rfl) ?_; clear hf a; intro a hf
    refine o_v hf hh (yv_assign rfl) ?_; clear hf a; intro a hf
    refine o_end ?_
    refine sy_ret ?_
    refine ret_x ?_
    refine ret_r hf rfl rfl ?_
    exact ⟨by simp [opnE, hb1, hb2], _, rfl, hh.less (.cons_cons _ (.cons _ (.refl _)))⟩
   ·intro ch w hX hf
    obtain ⟨hb2, hch, hx⟩ := hX; replace hh := hh.more hx; clear hx
    refine then_p ?_
    refine pan_x hf ?_
    exact ⟨by rw [hch]; simp [opnE, hb1, hb2], by simp [opnE, hb1, hb2], hh.ext⟩
  ·intro ch w hX hf
   obtain ⟨hb1, hch, hx⟩ := hX; replace hh := hh.more hx; clear hx
   refine then_p ?_
   refine pan_x hf ?_
   exact ⟨by rw [hch]; simp [opnE, hb1], by simp [opnE, hb1], hh.ext⟩
theorem k75 (m s : Int × Int) (u : World) (h0 : -1000000000 ≤ m.1 ∧ m.1 ≤ 1000000000) (h1 : -1000000000 ≤ m.2 ∧ m.2 ≤ 1000000000) (h2 : -1000000000 ≤ s.1 ∧ s.1 ≤ 1000000000) (h3 : -1000000000 ≤ s.2 ∧ s.2 ≤ 1000000000) : Calls Tryz.prog 75 #[swV m, swV s] u (Ret fun v w' => v = swV (m.1 + s.1, m.2 + s.2) ∧ Ext [] u w') := by
  refine calls_of Tryz.func75 rfl rfl (fun a hf => ?_)
  have hh := Hp.init u []
  refine sy_sq ?_
  refine o_box hf hh ?_; clear hf hh a; intro B2 a w hf hh
  refine o_box hf hh ?_; clear hf hh a; intro B3 a w hf hh
  refine o_alloc hf hh Tryz.ze_131 ?_; clear hf hh a; intro B4 a w hf hh
  refine o_end ?_
  refine sy_sq ?_
  refine o_v hf hh (yv_fieldAddr Tryz.fo_131_0 rfl) ?_; clear hf a; intro a hf
  refine o_v hf hh (y_ld Tryz.sc_3 rfl) ?_; clear hf a; intro a hf
  refine o_v hf hh (yv_fieldAddr Tryz.fo_49_0 rfl) ?_; clear hf a; intro a hf
  refine o_v hf hh (y_ld Tryz.sc_3 rfl) ?_; clear hf a; intro a hf
  refine o_v hf hh (y_add rfl rfl) ?_; clear hf a; intro a hf
  refine o_v hf hh (yv_fieldAddr Tryz.fo_131_1 rfl) ?_; clear hf a; intro a hf
  refine o_v hf hh (y_ld Tryz.sc_3 rfl) ?_; clear hf a; intro a hf
  refine o_v hf hh (yv_fieldAddr Tryz.fo_49_1 rfl) ?_; clear hf a; intro a hf
  refine o_v hf hh (y_ld Tryz.sc_3 rfl) ?_; clear hf a; intro a hf
  refine o_v hf hh (y_add rfl rfl) ?_; clear hf a; intro a hf
  refine o_v hf hh (yv_buildS Tryz.bs_131 rfl rfl) ?_; clear hf a; intro a hf
  refine o_store hf hh Tryz.sz_131 fun w hh => ?_
  replace hh : Hp u [] [(B4, .cells #[.int .i64 (m.1 + s.1), .int .i64 (m.2 + s.2)] 131), (B3, .cells #[.int .i64 s.1, .int .i64 s.2] 49), (B2, .cells #[.int .i64 m.1, .int .i64 m.2] 131)] w := hh
  refine o_end ?_
  refine sy_ret ?_
  refine ret_c (vs := [swV (m.1 + s.1, m.2 + s.2)]) hf ?_ ?_
  · exact ⟨⟨B4, 0, _, _, _, rfl, hh.at (i := 0) rfl, .inr ⟨2, _, Tryz.ag_131, rfl, rfl⟩⟩, True.intro⟩
  · exact ⟨rfl, hh.ext⟩
theorem k104 (m : Int × Int) (n : Int) (u : World) : Calls Tryz.prog 104 #[swV m, .int .i64 n] u (Ret fun v w' => v = swV (max m.1 n, max m.2 n) ∧ Ext [] u w') := by
  refine calls_of Tryz.func104 rfl rfl (fun a hf => ?_)
  have hh := Hp.init u []
  refine sy_sq ?_
  refine o_box hf hh ?_; clear hf hh a; intro B2 a w hf hh
  refine o_alloc hf hh Tryz.ze_131 ?_; clear hf hh a; intro B4 a w hf hh
  refine o_end ?_
  refine sy_sq ?_
  refine o_v hf hh (yv_fieldAddr Tryz.fo_131_0 rfl) ?_; clear hf a; intro a hf
  refine o_v hf hh (y_ld Tryz.sc_3 rfl) ?_; clear hf a; intro a hf
  refine o_v hf hh (yv_move rfl) ?_; clear hf a; intro a hf
  refine o_v hf hh (yv_max rfl rfl) ?_; clear hf a; intro a hf
  refine o_v hf hh (yv_fieldAddr Tryz.fo_131_1 rfl) ?_; clear hf a; intro a hf
  refine o_v hf hh (y_ld Tryz.sc_3 rfl) ?_; clear hf a; intro a hf
  refine o_v hf hh (yv_move rfl) ?_; clear hf a; intro a hf
  refine o_v hf hh (yv_max rfl rfl) ?_; clear hf a; intro a hf
  refine o_v hf hh (yv_buildS Tryz.bs_131 rfl rfl) ?_; clear hf a; intro a hf
  refine o_store hf hh Tryz.sz_131 fun w hh => ?_
  replace hh : Hp u [] [(B4, .cells #[.int .i64 (max m.1 n), .int .i64 (max m.2 n)] 131), (B2, .cells #[.int .i64 m.1, .int .i64 m.2] 131)] w := hh
  refine o_end ?_
  refine sy_ret ?_
  refine ret_c (vs := [swV (max m.1 n, max m.2 n)]) hf ?_ ?_
  · exact ⟨⟨B4, 0, _, _, _, rfl, hh.at (i := 0) rfl, .inr ⟨2, _, Tryz.ag_131, rfl, rfl⟩⟩, True.intro⟩
  · exact ⟨rfl, hh.ext⟩
theorem k74 (t : TourD) (p : TPl) (Bt : Nat) (u : World) (hB : u.heap[Bt]? = some (.cells (tpC t p) 136 (0, 0))) (hA : TouAt u t p) (hO : TourOk t) (v : Nat) (m : Int × Int) (hv : v < t.fr.length) : Calls Tryz.prog 74 #[.agg #[], ptr Bt 0, .int .i64 (v : Nat), swV m] u (Ret fun z w' => z = .bool (surV t v m) ∧ Ext [] u w') := by
  refine calls_of Tryz.func74 rfl rfl (fun a hf => ?_)
  have hh := Hp.init u []
  obtain ⟨sf, sw, ss, sl, cf, cw, cs, cl, rows⟩ := p
  have hll : t.light.length = t.fr.length := hO.ll
  obtain ⟨blk1, off1, cc1, T1, fr1, es1, hb1, hc1⟩ := hA.l v _ (sp_at (l := t.light) (v := v) (by omega))
  dsimp only at es1; subst es1
  have hp1 := (cells_two hc1).1
  have hq1 := (cells_two hc1).2
  refine sy_sq ?_
  refine o_box hf hh ?_; clear hf hh a; intro B4 a w hf hh
  refine o_box hf hh ?_; clear hf hh a; intro B7 a w hf hh
  refine o_v hf hh (yv_assign rfl) ?_; clear hf a; intro a hf
  refine o_end ?_
  refine sy_seq ?_
  refine sy_tree1 (.p 0 (.q 0 1 (.p 2 (.p 3 (.p 4 (.p 5 (.q 0 6 (.p 7 (.p 8 (.p 9 (.q 0 10 (.p 11 (.p 12 (.fin)))))))))))))) [] Tryz.follows (by kernel_rfl) hh (fun w hh => ?_)
  refine mc_p rfl   hf (yv_fieldAddr Tryz.fo_131_1 rfl) (.inl rfl) rfl rfl ?_; clear hf a; intro a hf
  refine mc_q rfl rfl hh hf (y_ld Tryz.sc_3 rfl) (.inl rfl) rfl rfl ?_; clear hf a; intro a hf
  refine mc_p rfl   hf (yv_move rfl) (.inl rfl) rfl rfl ?_; clear hf a; intro a hf
  refine mc_p rfl   hf (yv_nilCheck rfl) (.inl rfl) rfl rfl ?_; clear hf a; intro a hf
  refine mc_p rfl   hf (yv_fieldAddr Tryz.fo_136_0 rfl) (.inl rfl) rfl rfl ?_; clear hf a; intro a hf
  refine mc_p rfl   hf (yv_fieldAddr Tryz.fo_25_4 rfl) (.inl rfl) rfl rfl ?_; clear hf a; intro a hf
  refine mc_q rfl rfl hh hf (y_ld Tryz.sc_22 rfl) (.inl rfl) rfl rfl ?_; clear hf a; intro a hf
  refine mc_p rfl   hf (yv_move rfl) (.inl rfl) rfl rfl ?_; clear hf a; intro a hf
  refine mc_p rfl   hf (y_ix Tryz.se_22 rfl rfl) (.inl rfl) rfl rfl ?_; clear hf a; intro a hf
  refine mc_p rfl   hf (yv_fieldAddr Tryz.fo_49_1 rfl) (.inl rfl) rfl rfl ?_; clear hf a; intro a hf
  refine mc_q rfl rfl hh hf (y_ld Tryz.sc_3 rfl) (.inl rfl) rfl rfl ?_; clear hf a; intro a hf
  refine mc_p rfl   hf (yv_bin rfl rfl rfl) (.inl rfl) rfl rfl ?_; clear hf a; intro a hf
  refine mc_p rfl   hf (yv_assign rfl) (.inl rfl) rfl rfl ?_; clear hf a; intro a hf
  refine mc_end ?_
  refine then_n ?_
  refine sy_ret ?_
  refine ret_r hf rfl rfl ?_
  exact ⟨rfl, hh.ext⟩
end Go.Proofs.YtccpgpnekoncoaaGreat

namespace Go.Proofs.YtccpgpnekoncoaaGreat
open Go Go.Sy Go.WalM
set_option maxRecDepth 100000 in
theorem k73 (t : TourD) (p : TPl) (Bt : Nat) (u : World) (hB : u.heap[Bt]? = some (.cells (tpC t p) 136 (0, 0))) (hA : TouAt u t p) (hO : TourOk t) (fr : Int) (v : Nat) (m : Int × Int) (hfr : IsFr t fr) (hv : v < t.fr.length) (hm1 : -100000000 ≤ m.1 ∧ m.1 ≤ 100000000) (hm2 : -100000000 ≤ m.2 ∧ m.2 ≤ 100000000) : Calls Tryz.prog 73 #[ptr Bt 0, .int .i64 fr, .int .i64 (v : Nat), swV m] u (Ret fun z w' => z = swV (begV t fr v m) ∧ Ext [] u w') := by
  refine calls_of Tryz.func73 rfl rfl (fun a hf => ?_)
  have hh := Hp.init u []
  have hwo := way_ok hO hfr hv
  obtain ⟨hwo0, hwo1, hwo2⟩ := hwo
  have hn6 : t.fr.length ≤ 6 := hO.n6
  have hwl : t.ways.length = t.fr.length := hO.wl
  obtain ⟨sf, sw, ss, sl, cf, cw, cs, cl, rows⟩ := p
  have hll : t.light.length = t.fr.length := hO.ll
  obtain ⟨blk1, off1, cc1, T1, fr1, es1, hb1, hc1⟩ := hA.l v _ (sp_at (l := t.light) (v := v) (by omega))
  dsimp only at es1; subst es1
  have hp1 := (cells_two hc1).1
  have hq1 := (cells_two hc1).2
  obtain ⟨blk2, off2, cc2, T2, fr2, es2, hb2, hc2⟩ := hA.f v _ (sp_at (l := t.fr) (v := v) (by omega))
  dsimp only at es2; subst es2
  have hp2 := (cells_two hc2).1
  have hq2 := (cells_two hc2).2
  refine sy_sq ?_
  refine o_box hf hh ?_; clear hf hh a; intro B7 a w hf hh
  refine o_alloc hf hh Tryz.ze_131 ?_; clear hf hh a; intro B8 a w hf hh
  refine o_end ?_
  refine sy_sq ?_
  refine o_v hf hh (yv_move rfl) ?_; clear hf a; intro a hf
  refine o_v hf hh (yv_nilCheck rfl) ?_; clear hf a; intro a hf
  refine o_v hf hh (yv_fieldAddr Tryz.fo_136_0 rfl) ?_; clear hf a; intro a hf
  refine o_v hf hh (yv_fieldAddr Tryz.fo_25_1 rfl) ?_; clear hf a; intro a hf
  refine o_v hf hh (y_ld Tryz.sc_22 rfl) ?_; clear hf a; intro a hf
  refine o_v hf hh (yv_move rfl) ?_; clear hf a; intro a hf
  refine o_v hf hh (y_ix Tryz.se_22 rfl rfl) ?_; clear hf a; intro a hf
  refine o_v hf hh (y_lds Tryz.ag_49 rfl) ?_; clear hf a; intro a hf
  refine o_alloc hf hh Tryz.ze_49 ?_; clear hf hh a; intro B9 a w hf hh
  refine o_store hf hh Tryz.sz_49 fun w hh => ?_
  refine o_end ?_
  refine sy_seq ?_
  refine sy_sq ?_
  refine o_v hf hh (yv_move rfl) ?_; clear hf a; intro a hf
  refine o_v hf hh (yv_bin rfl rfl rfl) ?_; clear hf a; intro a hf
  refine o_end ?_
  refine sy_cond hf rfl (fun hg2 => ?_) (fun hg2 => ?_)
  ·have hG2 := hg2; try simp only [gS] at hG2
   have hfb : 0 ≤ fr ∧ fr < ((t.fr.length : Nat) : Int) := by rcases hfr with h | h; omega; exact h
   have hk0 : ((fr.toNat : Nat) : Int) = fr := by omega
   obtain ⟨r, hr, hrw⟩ := way_at hA.e (f := fr.toNat) (by omega)
   dsimp only at hr
   have hrl : r.1.length = t.fr.length := by
     rw [hrw]
     have h3 : t.ways.getD fr.toNat [] ∈ t.ways := by
       rw [List.getD_eq_getElem?_getD, List.getElem?_eq_getElem (by omega)]; exact List.getElem_mem _
     exact (hO.w _ h3).1
   obtain ⟨blk3, off3, cc3, T3, fr3, es3, hb3, hp3⟩ := hA.g fr.toNat r hr
   dsimp only at es3; subst es3
   rw [hk0] at hp3
   obtain ⟨rl, rs, rc⟩ := r
   obtain ⟨blk4, off4, cc4, T4, fr4, es4, hb4, hc4⟩ := hA.r _ (List.mem_of_getElem? hr) v _ (sp_at (l := rl) (v := v) (by dsimp only at hrl; omega))
   dsimp only at es4 hrw hrl hp3; subst es4; subst hrw
   have hp4 := (cells_two hc4).1
   dsimp only [rowV] at hp3
   refine sy_ops ?_
   refine o_v hf hh (yv_move rfl) ?_; clear hf a; intro a hf
   refine o_v hf hh (yv_nilCheck rfl) ?_; clear hf a; intro a hf
   refine o_v hf hh (yv_fieldAddr Tryz.fo_136_0 rfl) ?_; clear hf a; intro a hf
   refine o_v hf hh (yv_fieldAddr Tryz.fo_25_2 rfl) ?_; clear hf a; intro a hf
   refine o_v hf hh (y_ld Tryz.sc_23 rfl) ?_; clear hf a; intro a hf
   refine o_v hf hh (yv_move rfl) ?_; clear hf a; intro a hf
   refine o_v hf hh (y_ix Tryz.se_23 rfl rfl) ?_; clear hf a; intro a hf
   refine o_v hf hh (y_ld Tryz.sc_22 rfl) ?_; clear hf a; intro a hf
   refine o_v hf hh (yv_move rfl) ?_; clear hf a; intro a hf
   refine o_v hf hh (y_ix Tryz.se_22 rfl rfl) ?_; clear hf a; intro a hf
   refine o_v hf hh (y_lds Tryz.ag_49 rfl) ?_; clear hf a; intro a hf
   refine o_store hf hh Tryz.sz_49 fun w hh => ?_
   refine o_end ?_
   refine sy_seq ?_
   replace hh : Hp u [] [(B9, .cells #[.int .i64 (wayV t fr v).1, .int .i64 (wayV t fr v).2] 49), (B8, .cells #[.int .i64 0, .int .i64 0] 131), (B7, .cells #[.int .i64 m.1, .int .i64 m.2] 131)] w := by
     unfold wayV
     first
     | (rw [if_pos (by omega)]; exact hh)
     | (rw [if_neg (by omega)]; exact hh)
   
   refine sy_ops ?_
   refine o_v hf hh (y_lds Tryz.ag_131 rfl) ?_; clear hf a; intro a hf
   refine o_v hf hh (y_lds Tryz.ag_49 rfl) ?_; clear hf a; intro a hf
   refine o_call hf Tryz.en_75 rfl rfl rfl (k75 m (wayV t fr v) _ (by omega) (by omega) (by omega) (by omega)) ?_; clear hf a; intro v a w hR hf
   obtain ⟨rfl, hx⟩ := hR; replace hh := hh.more hx; clear hx
   refine o_v hf hh (yv_makeFunc rfl rfl) ?_; clear hf a; intro a hf
   refine o_v hf hh (yv_assign rfl) ?_; clear hf a; intro a hf
   refine o_end ?_
   refine sy_sq ?_
   refine o_v hf hh (yv_move rfl) ?_; clear hf a; intro a hf
   refine o_v hf hh (yv_move rfl) ?_; clear hf a; intro a hf
   refine o_v hf hh (yv_nilCheck rfl) ?_; clear hf a; intro a hf
   refine o_v hf hh (yv_fieldAddr Tryz.fo_136_0 rfl) ?_; clear hf a; intro a hf
   refine o_v hf hh (yv_fieldAddr Tryz.fo_25_4 rfl) ?_; clear hf a; intro a hf
   refine o_v hf hh (y_ld Tryz.sc_22 rfl) ?_; clear hf a; intro a hf
   refine o_v hf hh (yv_move rfl) ?_; clear hf a; intro a hf
   refine o_v hf hh (y_ix Tryz.se_22 rfl rfl) ?_; clear hf a; intro a hf
   refine o_v hf hh (yv_fieldAddr Tryz.fo_49_0 rfl) ?_; clear hf a; intro a hf
   refine o_v hf hh (y_ld Tryz.sc_3 rfl) ?_; clear hf a; intro a hf
   refine o_call hf Tryz.en_104 rfl rfl rfl (k104 (m.1 + (wayV t fr v).1, m.2 + (wayV t fr v).2) (sp0 t.light v).1 _) ?_; clear hf a; intro v a w hR hf
   obtain ⟨rfl, hx⟩ := hR; replace hh := hh.more hx; clear hx
   refine o_store hf hh Tryz.sz_131 fun w hh => ?_
   refine o_end ?_
   refine sy_ret ?_
   refine ret_c (vs := [swV (begV t fr v m)]) hf ?_ ?_
   · exact ⟨⟨B8, 0, _, _, _, rfl, hh.at (i := 1) rfl, .inr ⟨2, _, Tryz.ag_131, rfl, rfl⟩⟩, True.intro⟩
   · exact ⟨rfl, hh.ext⟩
  ·have hG2 := hg2; try simp only [gS] at hG2
   refine sy_skip ?_
   refine then_n ?_
   refine sy_seq ?_
   replace hh : Hp u [] [(B9, .cells #[.int .i64 (wayV t fr v).1, .int .i64 (wayV t fr v).2] 49), (B8, .cells #[.int .i64 0, .int .i64 0] 131), (B7, .cells #[.int .i64 m.1, .int .i64 m.2] 131)] w := by
     unfold wayV
     first
     | (rw [if_pos (by omega)]; exact hh)
     | (rw [if_neg (by omega)]; exact hh)
   
   refine sy_ops ?_
   refine o_v hf hh (y_lds Tryz.ag_131 rfl) ?_; clear hf a; intro a hf
   refine o_v hf hh (y_lds Tryz.ag_49 rfl) ?_; clear hf a; intro a hf
   refine o_call hf Tryz.en_75 rfl rfl rfl (k75 m (wayV t fr v) _ (by omega) (by omega) (by omega) (by omega)) ?_; clear hf a; intro v a w hR hf
   obtain ⟨rfl, hx⟩ := hR; replace hh := hh.more hx; clear hx
   refine o_v hf hh (yv_makeFunc rfl rfl) ?_; clear hf a; intro a hf
   refine o_v hf hh (yv_assign rfl) ?_; clear hf a; intro a hf
   refine o_end ?_
   refine sy_sq ?_
   refine o_v hf hh (yv_move rfl) ?_; clear hf a; intro a hf
   refine o_v hf hh (yv_move rfl) ?_; clear hf a; intro a hf
   refine o_v hf hh (yv_nilCheck rfl) ?_; clear hf a; intro a hf
   refine o_v hf hh (yv_fieldAddr Tryz.fo_136_0 rfl) ?_; clear hf a; intro a hf
   refine o_v hf hh (yv_fieldAddr Tryz.fo_25_4 rfl) ?_; clear hf a; intro a hf
   refine o_v hf hh (y_ld Tryz.sc_22 rfl) ?_; clear hf a; intro a hf
   refine o_v hf hh (yv_move rfl) ?_; clear hf a; intro a hf
   refine o_v hf hh (y_ix Tryz.se_22 rfl rfl) ?_; clear hf a; intro a hf
   refine o_v hf hh (yv_fieldAddr Tryz.fo_49_0 rfl) ?_; clear hf a; intro a hf
   refine o_v hf hh (y_ld Tryz.sc_3 rfl) ?_; clear hf a; intro a hf
   refine o_call hf Tryz.en_104 rfl rfl rfl (k104 (m.1 + (wayV t fr v).1, m.2 + (wayV t fr v).2) (sp0 t.light v).1 _) ?_; clear hf a; intro v a w hR hf
   obtain ⟨rfl, hx⟩ := hR; replace hh := hh.more hx; clear hx
   refine o_store hf hh Tryz.sz_131 fun w hh => ?_
   refine o_end ?_
   refine sy_ret ?_
   refine ret_c (vs := [swV (begV t fr v m)]) hf ?_ ?_
   · exact ⟨⟨B8, 0, _, _, _, rfl, hh.at (i := 1) rfl, .inr ⟨2, _, Tryz.ag_131, rfl, rfl⟩⟩, True.intro⟩
   · exact ⟨rfl, hh.ext⟩
end Go.Proofs.YtccpgpnekoncoaaGreat

namespace Go.WalM
open Go Go.Sy
def ints (l : List Nat) : List Int := l.map fun v => ((v : Nat) : Int)
theorem ints_len (l : List Nat) : (ints l).length = l.length := List.length_map _
theorem ints_at {l : List Nat} {i x : Nat} (h : l[i]? = some x) : (ints l)[i]? = some ((x : Nat) : Int) := by unfold ints; rw [List.getElem?_map, h]; rfl
/-- A plan, and where its order lies. -/
abbrev PlnD := PlanD × Option Addr × Nat
abbrev plnC (p : PlnD) : List Value := [.slice p.2.1 p.1.1.length p.2.2, .int .i64 p.1.2]
abbrev plnV (p : PlnD) : Value := .agg #[.slice p.2.1 p.1.1.length p.2.2, .int .i64 p.1.2]
def PlnAt (w : World) (p : PlnD) : Prop := VwAt w p.2.1 (ints p.1.1)
theorem PlnAt.ext {w w' : World} {p : PlnD} (h : PlnAt w p) (e : Ext [] w w') : PlnAt w' p := VwAt.ext h e
theorem vw_at {w : World} {sa : Option Addr} {l : List Nat} (h : VwAt w sa (ints l)) {i x : Nat} (hi : l[i]? = some x) : ∃ blk off c T fr, sa = some ⟨blk, off, none⟩ ∧ w.heap[blk]? = some (.cells c T fr) ∧ c[off + ((i : Nat) : Int).toNat * 1]? = some (.int .i64 ((x : Nat) : Int)) := h i _ (ints_at hi)
theorem cmpL_step {l m : List Nat} {i x y : Nat} (hx : l[i]? = some x) (hy : m[i]? = some y) : cmpL (l.drop i) (m.drop i) = if cmpI x y ≠ 0 then cmpI x y else cmpL (l.drop (i + 1)) (m.drop (i + 1)) := by
  rw [List.drop_eq_getElem_cons (len_ofW hx), List.drop_eq_getElem_cons (len_ofW hy), (List.getElem?_eq_some_iff.1 hx).2, (List.getElem?_eq_some_iff.1 hy).2]; rfl
theorem cmpL_more {l m : List Nat} {i x : Nat} (hx : l[i]? = some x) (hy : m.length ≤ i) : cmpL (l.drop i) (m.drop i) = 1 := by
  rw [List.drop_eq_getElem_cons (len_ofW hx), List.drop_eq_nil_of_le hy]; rfl
theorem cmpL_end {l m : List Nat} {i : Nat} (hl : l.length ≤ i) : cmpL (l.drop i) (m.drop i) = if i < m.length then -1 else 0 := by
  rw [List.drop_eq_nil_of_le hl]
  split
  · rename_i h
    rw [List.drop_eq_getElem_cons h]; rfl
  · rename_i h
    rw [List.drop_eq_nil_of_le (by omega)]; rfl
end Go.WalM

namespace Go.Proofs.YtccpgpnekoncoaaGreat
open Go Go.Sy Go.WalM
theorem k121 (x : Int) (u : World) : Calls Tryz.prog 121 #[.int .i64 x] u (Ret fun v w' => v = .bool false ∧ Ext [] u w') := by
  refine calls_of Tryz.func121 rfl rfl (fun a hf => ?_)
  have hh := Hp.init u []
  refine sy_sq ?_
  refine o_v hf hh (yv_assign rfl) ?_; clear hf a; intro a hf
  refine o_end ?_
  refine sy_sq ?_
  refine o_v hf hh (yv_move rfl) ?_; clear hf a; intro a hf
  refine o_v hf hh (yv_move rfl) ?_; clear hf a; intro a hf
  refine o_v hf hh (yv_bin rfl rfl rfl) ?_; clear hf a; intro a hf
  refine o_v hf hh (yv_assign rfl) ?_; clear hf a; intro a hf
  refine o_end ?_
  refine sy_ret ?_
  refine ret_r hf rfl rfl ?_
  exact ⟨by simp [tup], hh.ext⟩
theorem k87 (x y : Int) (u : World) : Calls Tryz.prog 87 #[.int .i64 x, .int .i64 y] u (Ret fun v w' => v = .int .i64 (cmpI x y) ∧ Ext [] u w') := by
  refine calls_of Tryz.func87 rfl rfl (fun a hf => ?_)
  have hh := Hp.init u []
  unfold cmpI
  refine sy_sq ?_
  refine o_v hf hh (yv_assign rfl) ?_; clear hf a; intro a hf
  refine o_end ?_
  refine sy_sq ?_
  refine o_v hf hh (yv_move rfl) ?_; clear hf a; intro a hf
  refine o_call hf Tryz.en_121 rfl rfl rfl (k121 _ _) ?_; clear hf a; intro v a w hR hf
  obtain ⟨rfl, hx⟩ := hR; replace hh := hh.more hx; clear hx
  refine o_v hf hh (yv_assign rfl) ?_; clear hf a; intro a hf
  refine o_end ?_
  refine sy_sq ?_
  refine o_v hf hh (yv_move rfl) ?_; clear hf a; intro a hf
  refine o_call hf Tryz.en_121 rfl rfl rfl (k121 _ _) ?_; clear hf a; intro v a w hR hf
  obtain ⟨rfl, hx⟩ := hR; replace hh := hh.more hx; clear hx
  refine o_v hf hh (yv_assign rfl) ?_; clear hf a; intro a hf
  refine o_end ?_
  refine sy_seq ?_
  refine sy_sq ?_
  refine o_v hf hh (yv_move rfl) ?_; clear hf a; intro a hf
  refine o_end ?_
  refine c_f hf ?_
  refine sy_skip ?_
  refine then_n ?_
  refine sy_seq ?_
  refine sy_sq ?_
  refine o_v hf hh (yv_move rfl) ?_; clear hf a; intro a hf
  refine o_end ?_
  refine c_f hf ?_
  refine sy_skip ?_
  refine then_n ?_
  refine sy_seq ?_
  refine sy_sq ?_
  refine o_v hf hh (yv_move rfl) ?_; clear hf a; intro a hf
  refine o_v hf hh (yv_move rfl) ?_; clear hf a; intro a hf
  refine o_v hf hh (yv_bin rfl rfl rfl) ?_; clear hf a; intro a hf
  refine o_end ?_
  refine sy_cond hf rfl (fun hg4 => ?_) (fun hg4 => ?_)
  ·have hG4 := hg4; try simp only [gS] at hG4
   refine sy_sq ?_
   refine o_v hf hh (yv_assign rfl) ?_; clear hf a; intro a hf
   refine o_end ?_
   refine sy_ret ?_
   refine then_r ?_
   refine ret_r hf rfl rfl ?_
   refine ⟨congrArg (Value.int .i64) ?_, hh.ext⟩
   first
     | (rw [if_pos (by omega)]; done)
     | (rw [if_neg (by omega), if_pos (by omega)]; done)
     | (rw [if_neg (by omega), if_neg (by omega)]; done)
  ·have hG4 := hg4; try simp only [gS] at hG4
   refine sy_skip ?_
   refine then_n ?_
   refine sy_seq ?_
   refine sy_sq ?_
   refine o_v hf hh (yv_move rfl) ?_; clear hf a; intro a hf
   refine o_v hf hh (yv_move rfl) ?_; clear hf a; intro a hf
   refine o_v hf hh (yv_bin rfl rfl rfl) ?_; clear hf a; intro a hf
   refine o_end ?_
   refine sy_cond hf rfl (fun hg6 => ?_) (fun hg6 => ?_)
   ·have hG6 := hg6; try simp only [gS] at hG6
    refine sy_sq ?_
    refine o_v hf hh (yv_assign rfl) ?_; clear hf a; intro a hf
    refine o_end ?_
    refine sy_ret ?_
    refine then_r ?_
    refine ret_r hf rfl rfl ?_
    refine ⟨congrArg (Value.int .i64) ?_, hh.ext⟩
    first
      | (rw [if_pos (by omega)]; done)
      | (rw [if_neg (by omega), if_pos (by omega)]; done)
      | (rw [if_neg (by omega), if_neg (by omega)]; done)
   ·have hG6 := hg6; try simp only [gS] at hG6
    refine sy_skip ?_
    refine then_n ?_
    refine sy_sq ?_
    refine o_v hf hh (yv_assign rfl) ?_; clear hf a; intro a hf
    refine o_end ?_
    refine sy_ret ?_
    refine ret_r hf rfl rfl ?_
    refine ⟨congrArg (Value.int .i64) ?_, hh.ext⟩
    first
      | (rw [if_pos (by omega)]; done)
      | (rw [if_neg (by omega), if_pos (by omega)]; done)
      | (rw [if_neg (by omega), if_neg (by omega)]; done)
theorem k138 (p : PlnD) (u : World) (hl : p.1.1.length ≤ 1000) : Calls Tryz.prog 138 #[plnV p] u (Ret fun v w' => v = .int .i64 (-((p.1.1.length : Nat) : Int)) ∧ Ext [] u w') := by
  refine calls_of Tryz.func138 rfl rfl (fun a hf => ?_)
  have hh := Hp.init u []
  refine sy_sq ?_
  refine o_box hf hh ?_; clear hf hh a; intro B1 a w hf hh
  refine o_v hf hh (yv_assign rfl) ?_; clear hf a; intro a hf
  refine o_end ?_
  refine sy_sq ?_
  refine o_v hf hh (yv_fieldAddr Tryz.fo_74_0 rfl) ?_; clear hf a; intro a hf
  refine o_v hf hh (y_ld Tryz.sc_28 rfl) ?_; clear hf a; intro a hf
  refine o_v hf hh (yv_len Tryz.se_28 rfl) ?_; clear hf a; intro a hf
  refine o_v hf hh (yv_neg rfl (by omega) (by omega)) ?_; clear hf a; intro a hf
  refine o_v hf hh (yv_assign rfl) ?_; clear hf a; intro a hf
  refine o_end ?_
  refine sy_ret ?_
  refine ret_r hf rfl rfl ?_
  exact ⟨rfl, hh.ext⟩
theorem k139 (p : PlnD) (u : World) : Calls Tryz.prog 139 #[plnV p] u (Ret fun v w' => v = .int .i64 p.1.2 ∧ Ext [] u w') := by
  refine calls_of Tryz.func139 rfl rfl (fun a hf => ?_)
  have hh := Hp.init u []
  refine sy_sq ?_
  refine o_box hf hh ?_; clear hf hh a; intro B1 a w hf hh
  refine o_v hf hh (yv_assign rfl) ?_; clear hf a; intro a hf
  refine o_end ?_
  refine sy_sq ?_
  refine o_v hf hh (yv_fieldAddr Tryz.fo_74_1 rfl) ?_; clear hf a; intro a hf
  refine o_v hf hh (y_ld Tryz.sc_3 rfl) ?_; clear hf a; intro a hf
  refine o_v hf hh (yv_assign rfl) ?_; clear hf a; intro a hf
  refine o_end ?_
  refine sy_ret ?_
  refine ret_r hf rfl rfl ?_
  exact ⟨rfl, hh.ext⟩
theorem k105 (u : World) : Calls Tryz.prog 105 #[] u (Ret fun v w' => ∃ B, v = .slice (some ⟨B, 0, none⟩) 2 2 ∧ Hp u [] [(B, .cells #[.func (.func 138) #[] #[], .func (.func 139) #[] #[]] 189)] w') := by
  refine calls_of Tryz.func105 rfl rfl (fun a hf => ?_)
  have hh := Hp.init u []
  refine sy_sq ?_
  refine o_v hf hh (yv_assign rfl) ?_; clear hf a; intro a hf
  refine o_end ?_
  refine sy_sq ?_
  refine o_v hf hh (yv_buildS Tryz.bs_189 rfl rfl) ?_; clear hf a; intro a hf
  refine o_v hf hh (yv_buildS Tryz.bs_189 rfl rfl) ?_; clear hf a; intro a hf
  refine ops_buildSl hf hh Tryz.bl_185_2 rfl rfl (.inl rfl) rfl ?_; clear hf hh; clear a; intro B3 a w hf hh
  refine o_v hf hh (yv_assign rfl) ?_; clear hf a; intro a hf
  refine o_end ?_
  refine sy_ret ?_
  refine ret_r hf rfl rfl ?_
  exact ⟨_, rfl, hh⟩
theorem k106 (l m : List Nat) (sa sb : Option Addr) (ca cb : Nat) (u : World) (hA : VwAt u sa (ints l)) (hB : VwAt u sb (ints m)) (hl : l.length ≤ 1000) (hm : m.length ≤ 1000) : Calls Tryz.prog 106 #[.slice sa l.length ca, .slice sb m.length cb] u (Ret fun v w' => v = .int .i64 (cmpL l m) ∧ Ext [] u w') := by
  refine calls_of Tryz.func106 rfl rfl (fun a hf => ?_)
  have hh := Hp.init u []
  refine sy_sq ?_
  refine o_v hf hh (yv_assign rfl) ?_; clear hf a; intro a hf
  refine o_end ?_
  refine sy_seq ?_
  refine sy_sq ?_
  refine o_v hf hh (yv_move rfl) ?_; clear hf a; intro a hf
  refine o_v hf hh (yv_len Tryz.se_28 rfl) ?_; clear hf a; intro a hf
  refine o_v hf hh (yv_move rfl) ?_; clear hf a; intro a hf
  refine o_end ?_
  refine sy_block ?_
  refine sy_loopF (σ := Nat) [4, 5, 6, 7, 8, 11, 12, 13, 14, 15, 16, 17, 18, 19, 20, 21, 22, 23, 24, 25, 26, 27, 28, 29, 30] (fun i => [(11, .int .i64 (i : Nat))]) (fun i => i ≤ l.length ∧ cmpL l m = cmpL (l.drop i) (m.drop i)) (fun i => l.length - i) (0) hf hh ?_ ?_ ?_
  · repeat' (first | exact True.intro | refine And.intro rfl ?_)
  · exact ⟨Nat.zero_le _, rfl⟩
  ·rintro i a w ⟨hi, hq⟩ hf hh
   refine sy_sq ?_
   refine o_v hf hh (yv_bin rfl rfl rfl) ?_; clear hf a; intro a hf
   refine o_end ?_
   refine sy_seq ?_
   refine sy_cond hf rfl (fun hg2 => ?_) (fun hg2 => ?_)
   ·have hG2 := hg2; try simp only [gS] at hG2
    refine sy_skip ?_
    refine then_n ?_
    refine sy_seq ?_
    refine sy_block ?_
    refine sy_seq ?_
    obtain ⟨x, hx⟩ := ex_ofW (l := l) (i := i) (by omega)
    obtain ⟨blk1, off1, cc1, T1, fr1, e1, hb1, hc1⟩ := vw_at hA hx; subst e1
    refine sy_ops ?_
    refine o_v hf hh (yv_move rfl) ?_; clear hf a; intro a hf
    refine o_v hf hh (y_ix Tryz.se_28 rfl rfl) ?_; clear hf a; intro a hf
    refine o_v hf hh (y_ld Tryz.sc_3 rfl) ?_; clear hf a; intro a hf
    refine o_v hf hh (yv_assign rfl) ?_; clear hf a; intro a hf
    refine o_v hf hh (yv_assign rfl) ?_; clear hf a; intro a hf
    refine o_end ?_
    refine sy_seq ?_
    refine sy_sq ?_
    refine o_v hf hh (yv_move rfl) ?_; clear hf a; intro a hf
    refine o_v hf hh (yv_move rfl) ?_; clear hf a; intro a hf
    refine o_v hf hh (yv_len Tryz.se_28 rfl) ?_; clear hf a; intro a hf
    refine o_v hf hh (yv_bin rfl rfl rfl) ?_; clear hf a; intro a hf
    refine o_end ?_
    refine sy_cond hf rfl (fun hg4 => ?_) (fun hg4 => ?_)
    ·have hG4 := hg4; try simp only [gS] at hG4
     refine sy_sq ?_
     refine o_v hf hh (yv_assign rfl) ?_; clear hf a; intro a hf
     refine o_end ?_
     refine sy_ret ?_
     refine then_r ?_
     refine blk_r ?_
     refine then_r ?_
     refine then_r ?_
     refine blk_r ?_
     refine then_r ?_
     refine ret_r hf rfl rfl ?_
     exact ⟨congrArg (Value.int .i64) (by rw [hq, cmpL_more hx (by omega)]), hh.ext⟩
    ·have hG4 := hg4; try simp only [gS] at hG4
     refine sy_skip ?_
     refine then_n ?_
     refine sy_seq ?_
     obtain ⟨y, hy⟩ := ex_ofW (l := m) (i := i) (by omega)
     obtain ⟨blk2, off2, cc2, T2, fr2, e2, hb2, hc2⟩ := vw_at hB hy; subst e2
     refine sy_ops ?_
     refine o_v hf hh (yv_move rfl) ?_; clear hf a; intro a hf
     refine o_v hf hh (yv_move rfl) ?_; clear hf a; intro a hf
     refine o_v hf hh (y_ix Tryz.se_28 rfl rfl) ?_; clear hf a; intro a hf
     refine o_v hf hh (y_ld Tryz.sc_3 rfl) ?_; clear hf a; intro a hf
     refine o_v hf hh (yv_assign rfl) ?_; clear hf a; intro a hf
     refine o_end ?_
     refine sy_sq ?_
     refine o_v hf hh (yv_move rfl) ?_; clear hf a; intro a hf
     refine o_v hf hh (yv_move rfl) ?_; clear hf a; intro a hf
     refine o_call hf Tryz.en_87 rfl rfl rfl (k87 _ _ _) ?_; clear hf a; intro v a w hR hf
     obtain ⟨rfl, hx⟩ := hR; replace hh := hh.more hx; clear hx
     refine o_v hf hh (yv_assign rfl) ?_; clear hf a; intro a hf
     refine o_end ?_
     refine sy_sq ?_
     refine o_v hf hh (yv_move rfl) ?_; clear hf a; intro a hf
     refine o_v hf hh (yv_bin rfl rfl rfl) ?_; clear hf a; intro a hf
     refine o_end ?_
     refine sy_cond hf rfl (fun hg7 => ?_) (fun hg7 => ?_)
     ·have hG7 := hg7; try simp only [gS] at hG7
      refine sy_sq ?_
      refine o_v hf hh (yv_move rfl) ?_; clear hf a; intro a hf
      refine o_v hf hh (yv_assign rfl) ?_; clear hf a; intro a hf
      refine o_end ?_
      refine sy_ret ?_
      refine blk_r ?_
      refine then_r ?_
      refine then_r ?_
      refine blk_r ?_
      refine then_r ?_
      refine ret_r hf rfl rfl ?_
      exact ⟨congrArg (Value.int .i64) (by rw [hq, cmpL_step hx hy, if_pos (by assumption)]), hh.ext⟩
     ·have hG7 := hg7; try simp only [gS] at hG7
      refine sy_skip ?_
      refine blk_n ?_
      refine then_n ?_
      refine sy_ops ?_
      refine o_v hf hh (y_add rfl rfl) ?_; clear hf a; intro a hf
      refine o_v hf hh (yv_move rfl) ?_; clear hf a; intro a hf
      refine ops_end ?_
      refine then_n ?_
      exact ⟨i + 1, ⟨⟨by omega, by rw [hq, cmpL_step hx hy, if_neg (by simp_all)]⟩, (hf.head (by repeat' (first | exact True.intro | refine And.intro rfl ?_)) (Keep.cons rfl (Keep.cons rfl (Keep.cons rfl (Keep.cons rfl (Keep.cons rfl (Keep.cons rfl (Keep.cons rfl (Keep.cons rfl (Keep.cons rfl (Keep.cons rfl (Keep.cons rfl (Keep.cons rfl (Keep.cons rfl (Keep.cons rfl (Keep.cons rfl (Keep.cons rfl (Keep.cons rfl (Keep.cons rfl (Keep.cons rfl (Keep.cons rfl (Keep.cons rfl (Keep.cons rfl (Keep.cons rfl (Keep.app rfl (Keep.rm rfl Keep.base)))))))))))))))))))))))))), hh⟩, by omega⟩
   ·have hG2 := hg2; try simp only [gS] at hG2
    refine sy_exit ?_
    refine then_e ?_
    refine then_e ?_
    refine blk_e ?_
    refine then_n ?_
    refine sy_seq ?_
    refine sy_sq ?_
    refine o_v hf hh (yv_move rfl) ?_; clear hf a; intro a hf
    refine o_v hf hh (yv_len Tryz.se_28 rfl) ?_; clear hf a; intro a hf
    refine o_v hf hh (yv_move rfl) ?_; clear hf a; intro a hf
    refine o_v hf hh (yv_len Tryz.se_28 rfl) ?_; clear hf a; intro a hf
    refine o_v hf hh (yv_bin rfl rfl rfl) ?_; clear hf a; intro a hf
    refine o_end ?_
    refine sy_cond hf rfl (fun hg9 => ?_) (fun hg9 => ?_)
    ·have hG9 := hg9; try simp only [gS] at hG9
     refine sy_sq ?_
     refine o_v hf hh (yv_assign rfl) ?_; clear hf a; intro a hf
     refine o_end ?_
     refine sy_ret ?_
     refine then_r ?_
     refine ret_r hf rfl rfl ?_
     exact ⟨congrArg (Value.int .i64) (by rw [hq, cmpL_end (by omega), if_pos (by omega)]), hh.ext⟩
    ·have hG9 := hg9; try simp only [gS] at hG9
     refine sy_skip ?_
     refine then_n ?_
     refine sy_sq ?_
     refine o_v hf hh (yv_assign rfl) ?_; clear hf a; intro a hf
     refine o_end ?_
     refine sy_ret ?_
     refine ret_r hf rfl rfl ?_
     exact ⟨congrArg (Value.int .i64) (by rw [hq, cmpL_end (by omega), if_neg (by omega)]), hh.ext⟩
end Go.Proofs.YtccpgpnekoncoaaGreat

namespace Go.Proofs.YtccpgpnekoncoaaGreat
open Go Go.Sy Go.WalM
def rulV (i : Nat) (p : PlanD) : Int := if i = 0 then -((p.1.length : Nat) : Int) else p.2
def ruF (i : Nat) : Nat := if i = 0 then 138 else 139
theorem ruF_en (i : Nat) : Enters Tryz.prog (ruF i) := by
  unfold ruF
  split
  · exact Tryz.en_138
  · exact Tryz.en_139
theorem ruF_call (i : Nat) (p : PlnD) (u : World) (hl : p.1.1.length ≤ 1000) : Calls Tryz.prog (ruF i) #[plnV p] u (Ret fun v w' => v = .int .i64 (rulV i p.1) ∧ Ext [] u w') := by
  unfold ruF rulV
  split
  · exact k138 p u hl
  · exact k139 p u
theorem ruF_at {i : Nat} (h : i < 2) : cellsAt #[Value.func (.func 138) #[] #[], .func (.func 139) #[] #[]] (0 + ((i : Nat) : Int).toNat * 1) 1 = some [.func (.func (ruF i)) #[] #[]] := by
  rcases (show i = 0 ∨ i = 1 by omega) with rfl | rfl <;> rfl
theorem bet_end {p q : PlanD} (h : ∀ j, j < 2 → cmpI (rulV j p) (rulV j q) = 0) : betP p q = cmpL p.1 q.1 := by
  have h0 := h 0 (by omega)
  have h1 := h 1 (by omega)
  unfold rulV at h0 h1
  rw [if_pos rfl, if_pos rfl] at h0
  rw [if_neg (by omega), if_neg (by omega)] at h1
  unfold betP
  rw [h0, h1, if_neg (by decide), if_neg (by decide)]
theorem bet_hit {p q : PlanD} {i : Nat} (h : ∀ j, j < i → cmpI (rulV j p) (rulV j q) = 0) (hi : i < 2) (hn : cmpI (rulV i p) (rulV i q) ≠ 0) : betP p q = cmpI (rulV i p) (rulV i q) := by
  rcases (show i = 0 ∨ i = 1 by omega) with rfl | rfl
  · unfold rulV at hn ⊢
    rw [if_pos rfl, if_pos rfl] at hn ⊢
    unfold betP
    rw [if_pos hn]
  · have h0 := h 0 (by omega)
    unfold rulV at h0 hn ⊢
    rw [if_pos rfl, if_pos rfl] at h0
    rw [if_neg (by omega), if_neg (by omega)] at hn ⊢
    unfold betP
    rw [h0, if_neg (by decide), if_pos hn]
set_option maxRecDepth 100000 in
theorem k77 (p q : PlnD) (u : World) (hA : PlnAt u p) (hB : PlnAt u q) (lp : p.1.1.length ≤ 1000) (lq : q.1.1.length ≤ 1000) : Calls Tryz.prog 77 #[plnV p, plnV q] u (Ret fun v w' => v = .int .i64 (betP p.1 q.1) ∧ Ext [] u w') := by
  refine calls_of Tryz.func77 rfl rfl (fun a hf => ?_)
  have hh := Hp.init u []
  refine sy_sq ?_
  refine o_box hf hh ?_; clear hf hh a; intro B2 a w hf hh
  refine o_box hf hh ?_; clear hf hh a; intro B3 a w hf hh
  refine o_v hf hh (yv_assign rfl) ?_; clear hf a; intro a hf
  refine o_end ?_
  refine sy_seq ?_
  refine sy_sq ?_
  refine o_call hf Tryz.en_105 rfl rfl rfl (k105 _) ?_; clear hf a; intro v a w hR hf
  obtain ⟨Bs, rfl, hx⟩ := hR; replace hh := hh.join hx; clear hx
  replace hh : Hp u [] [(Bs, .cells #[.func (.func 138) #[] #[], .func (.func 139) #[] #[]] 189), (B3, .cells #[.slice q.2.1 q.1.1.length q.2.2, .int .i64 q.1.2] 74), (B2, .cells #[.slice p.2.1 p.1.1.length p.2.2, .int .i64 p.1.2] 74)] w := hh
  refine o_v hf hh (yv_len Tryz.se_185 rfl) ?_; clear hf a; intro a hf
  refine o_v hf hh (yv_move rfl) ?_; clear hf a; intro a hf
  refine o_end ?_
  refine sy_block ?_
  refine sy_loopF (σ := Nat) [4, 6, 7, 10, 11, 12, 13, 14, 15, 16, 17, 18, 19, 20, 21, 22, 23, 24, 25, 26] (fun i => [(10, .int .i64 (i : Nat))]) (fun i => i ≤ 2 ∧ ∀ j, j < i → cmpI (rulV j p.1) (rulV j q.1) = 0) (fun i => 2 - i) (0) hf hh ?_ ?_ ?_
  · repeat' (first | exact True.intro | refine And.intro rfl ?_)
  · exact ⟨Nat.zero_le _, fun j hj => absurd hj (Nat.not_lt_zero _)⟩
  ·rintro i a w ⟨hi, hq⟩ hf hh
   refine sy_sq ?_
   refine o_v hf hh (yv_bin rfl rfl rfl) ?_; clear hf a; intro a hf
   refine o_end ?_
   refine sy_seq ?_
   refine sy_cond hf rfl (fun hg3 => ?_) (fun hg3 => ?_)
   ·have hG3 := hg3; try simp only [gS] at hG3
    refine sy_skip ?_
    refine then_n ?_
    refine sy_seq ?_
    refine sy_block ?_
    refine sy_seq ?_
    have hci := ruF_at (i := i) (by omega)
    refine sy_ops ?_
    refine o_v hf hh (y_ix Tryz.se_185 rfl rfl) ?_; clear hf a; intro a hf
    refine o_v hf hh (y_lds Tryz.ag_189 rfl (hb := fun _ h => h.get (Bs, .cells #[.func (.func 138) #[] #[], .func (.func 139) #[] #[]] 189) (by simp)) (hv := hci)) ?_; clear hf a; intro a hf
    refine o_alloc hf hh Tryz.ze_189 ?_; clear hf hh a; intro B6 a w hf hh
    refine o_store hf hh Tryz.sz_189 fun w hh => ?_
    refine o_end ?_
    refine sy_seq ?_
    replace hh : Hp u [] [(B6, .cells #[.func (.func (ruF i)) #[] #[]] 189), (Bs, .cells #[.func (.func 138) #[] #[], .func (.func 139) #[] #[]] 189), (B3, .cells #[.slice q.2.1 q.1.1.length q.2.2, .int .i64 q.1.2] 74), (B2, .cells #[.slice p.2.1 p.1.1.length p.2.2, .int .i64 p.1.2] 74)] w := hh
    refine sy_treeC (.p 0 (.q 0 1 (.q 0 2 (.p 4 (.q 0 5 (.q 0 6 (.e1 3 (.e1 7 (.e1 8 (.p 9 (.fin))))))))))) [[]] [(AtE u [] [(B6, .cells #[.func (.func (ruF i)) #[] #[]] 189), (Bs, .cells #[.func (.func 138) #[] #[], .func (.func 139) #[] #[]] 189), (B3, .cells #[.slice q.2.1 q.1.1.length q.2.2, .int .i64 q.1.2] 74), (B2, .cells #[.slice p.2.1 p.1.1.length p.2.2, .int .i64 p.1.2] 74)], [])] Tryz.follows (by kernel_rfl) rfl hh (fun w hh => ?_)
    refine mc_p rfl   hf (yv_fieldAddr Tryz.fo_189_0 rfl) (.inl rfl) rfl rfl ?_; clear hf a; intro a hf
    refine mc_q rfl rfl (AtE.of hh (fun q hq => hq)) hf (y_ld Tryz.sc_187 rfl) (.inl rfl) rfl rfl ?_; clear hf a; intro a hf
    refine mc_q rfl rfl (AtE.of hh (fun q hq => hq)) hf (y_lds Tryz.ag_74 rfl) (.inl rfl) rfl rfl ?_; clear hf a; intro a hf
    refine mc_p rfl   hf (yv_fieldAddr Tryz.fo_189_0 rfl) (.inl rfl) rfl rfl ?_; clear hf a; intro a hf
    refine mc_q rfl rfl (AtE.of hh (fun q hq => hq)) hf (y_ld Tryz.sc_187 rfl) (.inl rfl) rfl rfl ?_; clear hf a; intro a hf
    refine mc_q rfl rfl (AtE.of hh (fun q hq => hq)) hf (y_lds Tryz.ag_74 rfl) (.inl rfl) rfl rfl ?_; clear hf a; intro a hf
    refine mc_e rfl fun Q1 => ?_
    refine o_call hf (ruF_en i) rfl rfl rfl (ruF_call i p _ lp) ?_; clear hf a; intro v a w hR hf
    obtain ⟨rfl, hx⟩ := hR; replace hh := hh.more hx; clear hx
    refine ops_end ?_
    refine then_n ⟨⟨fun _ _ => (AtE.of hh (fun q hq => hq)), trivial⟩, ?_⟩
    refine mc_e rfl fun Q1 => ?_
    refine o_call hf (ruF_en i) rfl rfl rfl (ruF_call i q _ lq) ?_; clear hf a; intro v a w hR hf
    obtain ⟨rfl, hx⟩ := hR; replace hh := hh.more hx; clear hx
    refine ops_end ?_
    refine then_n ⟨⟨fun _ _ => (AtE.of hh (fun q hq => hq)), trivial⟩, ?_⟩
    refine mc_e rfl fun Q1 => ?_
    refine o_call hf Tryz.en_87 rfl rfl rfl (k87 _ _ _) ?_; clear hf a; intro v a w hR hf
    obtain ⟨rfl, hx⟩ := hR; replace hh := hh.more hx; clear hx
    refine ops_end ?_
    refine then_n ⟨⟨fun _ _ => (AtE.of hh (fun q hq => hq)), trivial⟩, ?_⟩
    refine mc_p rfl   hf (yv_assign rfl) (.inl rfl) rfl rfl ?_; clear hf a; intro a hf
    refine mc_end ?_
    refine then_n ?_
    refine sy_sq ?_
    refine o_v hf hh (yv_move rfl) ?_; clear hf a; intro a hf
    refine o_v hf hh (yv_bin rfl rfl rfl) ?_; clear hf a; intro a hf
    refine o_end ?_
    refine sy_cond hf rfl (fun hg10 => ?_) (fun hg10 => ?_)
    ·have hG10 := hg10; try simp only [gS] at hG10
     refine sy_sq ?_
     refine o_v hf hh (yv_move rfl) ?_; clear hf a; intro a hf
     refine o_v hf hh (yv_assign rfl) ?_; clear hf a; intro a hf
     refine o_end ?_
     refine sy_ret ?_
     refine blk_r ?_
     refine then_r ?_
     refine then_r ?_
     refine blk_r ?_
     refine then_r ?_
     refine ret_r hf rfl rfl ?_
     exact ⟨congrArg (Value.int .i64) (bet_hit hq (by omega) (by assumption)).symm, hh.ext⟩
    ·have hG10 := hg10; try simp only [gS] at hG10
     refine sy_skip ?_
     refine blk_n ?_
     refine then_n ?_
     refine sy_ops ?_
     refine o_v hf hh (y_add rfl rfl) ?_; clear hf a; intro a hf
     refine o_v hf hh (yv_move rfl) ?_; clear hf a; intro a hf
     refine ops_end ?_
     refine then_n ?_
     exact ⟨i + 1, ⟨⟨by omega, fun j hj => by
       rcases (show j < i ∨ j = i by omega) with h | rfl
       · exact hq j h
       · assumption⟩, (hf.head (by repeat' (first | exact True.intro | refine And.intro rfl ?_)) (Keep.cons rfl (Keep.cons rfl (Keep.cons rfl (Keep.cons rfl (Keep.cons rfl (Keep.cons rfl (Keep.cons rfl (Keep.cons rfl (Keep.cons rfl (Keep.cons rfl (Keep.cons rfl (Keep.cons rfl (Keep.cons rfl (Keep.cons rfl (Keep.cons rfl (Keep.cons rfl (Keep.cons rfl (Keep.cons rfl (Keep.app rfl (Keep.rm rfl Keep.base))))))))))))))))))))), hh.less (.cons _ (List.Sublist.refl _))⟩, by omega⟩
   ·have hG3 := hg3; try simp only [gS] at hG3
    refine sy_exit ?_
    refine then_e ?_
    refine then_e ?_
    refine blk_e ?_
    refine then_n ?_
    refine sy_sq ?_
    refine o_v hf hh (yv_fieldAddr Tryz.fo_74_0 rfl) ?_; clear hf a; intro a hf
    refine o_v hf hh (y_ld Tryz.sc_28 rfl) ?_; clear hf a; intro a hf
    refine o_v hf hh (yv_fieldAddr Tryz.fo_74_0 rfl) ?_; clear hf a; intro a hf
    refine o_v hf hh (y_ld Tryz.sc_28 rfl) ?_; clear hf a; intro a hf
    refine o_call hf Tryz.en_106 rfl rfl rfl (k106 p.1.1 q.1.1 _ _ _ _ _ (hA.ext hh.ext) (hB.ext hh.ext) lp lq) ?_; clear hf a; intro v a w hR hf
    obtain ⟨rfl, hx⟩ := hR; replace hh := hh.more hx; clear hx
    refine o_v hf hh (yv_assign rfl) ?_; clear hf a; intro a hf
    refine o_end ?_
    refine sy_ret ?_
    refine ret_r hf rfl rfl ?_
    obtain rfl : i = 2 := by omega
    exact ⟨congrArg (Value.int .i64) (bet_end hq).symm, hh.ext⟩
end Go.Proofs.YtccpgpnekoncoaaGreat

namespace Go.WalM
open Go Go.Sy
def PlnsAt (w : World) (sa : Option Addr) (l : List PlnD) : Prop :=
  ∀ i s, l[i]? = some s → ∃ blk off c T fr, sa = some ⟨blk, off, none⟩ ∧ w.heap[blk]? = some (.cells c T fr) ∧ cellsAt c (off + ((i : Nat) : Int).toNat * 2) 2 = some (plnC s)
theorem PlnsAt.ext {w w' : World} {sa : Option Addr} {l : List PlnD} (h : PlnsAt w sa l) (e : Ext [] w w') : PlnsAt w' sa l := fun i s hi =>
  let ⟨blk, off, c, T, fr, h1, h2, h3⟩ := h i s hi
  ⟨blk, off, c, T, fr, h1, e.get h2, h3⟩
def leastD (f : PlnD) (l : List PlnD) : PlnD := l.foldl (fun f x => if betP x.1 f.1 < 0 then x else f) f
theorem leastD_snoc {f : PlnD} {l : List PlnD} {i : Nat} {x : PlnD} (h : l[i]? = some x) : leastD f (l.take (i + 1)) = if betP x.1 (leastD f (l.take i)).1 < 0 then x else leastD f (l.take i) := by
  unfold leastD
  rw [take_snoc h, List.foldl_append]; rfl
theorem leastD_mem (f : PlnD) (l : List PlnD) : leastD f l ∈ f :: l := by
  unfold leastD
  induction l generalizing f with
  | nil => exact .head _
  | cons x l ih =>
    rw [List.foldl_cons]
    rcases List.mem_cons.1 (ih (if betP x.1 f.1 < 0 then x else f)) with h | h
    · rw [h]
      split
      · exact .tail _ (.head _)
      · exact .head _
    · exact .tail _ (.tail _ h)
theorem leastD_take (f : PlnD) (l : List PlnD) (i : Nat) : leastD f (l.take i) ∈ f :: l := by
  rcases List.mem_cons.1 (leastD_mem f (l.take i)) with h | h
  · rw [h]; exact .head _
  · exact .tail _ (List.mem_of_mem_take h)
theorem leastD_fst (f : PlnD) (l : List PlnD) : (leastD f l).1 = leastP f.1 (l.map Prod.fst) := by
  unfold leastD leastP
  induction l generalizing f with
  | nil => rfl
  | cons x l ih =>
    rw [List.foldl_cons, List.map_cons, List.foldl_cons, ih]
    congr 1
    split <;> rfl
end Go.WalM

namespace Go.Proofs.YtccpgpnekoncoaaGreat
open Go Go.Sy Go.WalM
set_option maxRecDepth 100000 in
theorem k76 (f : PlnD) (l : List PlnD) (sa : Option Addr) (ca : Nat) (u : World) (hL : PlnsAt u sa l) (hl : l.length ≤ 1000) (hP : ∀ x ∈ f :: l, PlnAt u x ∧ x.1.1.length ≤ 1000) : Calls Tryz.prog 76 #[.func (.func 77) #[] #[], plnV f, .slice sa l.length ca] u (Ret fun v w' => v = plnV (leastD f l) ∧ Ext [] u w') := by
  refine calls_of Tryz.func76 rfl rfl (fun a hf => ?_)
  have hh := Hp.init u []
  refine sy_sq ?_
  refine o_box hf hh ?_; clear hf hh a; intro B4 a w hf hh
  refine o_alloc hf hh Tryz.ze_74 ?_; clear hf hh a; intro B6 a w hf hh
  refine o_end ?_
  refine sy_seq ?_
  refine sy_seq ?_
  replace hh : Hp u [] [(B6, .cells #[.slice none 0 0, .int .i64 0] 74), (B4, .cells #[.slice (leastD f (l.take 0)).2.1 (leastD f (l.take 0)).1.1.length (leastD f (l.take 0)).2.2, .int .i64 (leastD f (l.take 0)).1.2] 74)] w := hh
  refine sy_ops ?_
  refine o_v hf hh (yv_move rfl) ?_; clear hf a; intro a hf
  refine o_v hf hh (yv_len Tryz.se_142 rfl) ?_; clear hf a; intro a hf
  refine o_v hf hh (yv_move rfl) ?_; clear hf a; intro a hf
  refine o_end ?_
  refine sy_block ?_
  refine sy_loopH (σ := Nat) [8, 11, 12, 13, 14, 15, 16, 17, 18, 19, 20, 21] (fun i => [(11, .int .i64 (i : Nat))]) (fun i => fun w => i ≤ l.length ∧ Hp u [] [(B6, .cells #[.slice none 0 0, .int .i64 0] 74), (B4, .cells #[.slice (leastD f (l.take i)).2.1 (leastD f (l.take i)).1.1.length (leastD f (l.take i)).2.2, .int .i64 (leastD f (l.take i)).1.2] 74)] w) (fun i => l.length - i) (0) hf ?_ ?_ ?_
  · repeat' (first | exact True.intro | refine And.intro rfl ?_)
  · exact ⟨Nat.zero_le _, hh⟩
  ·rintro i a w ⟨hi, hh⟩ hf
   refine sy_sq ?_
   refine o_v hf hh (yv_bin rfl rfl rfl) ?_; clear hf a; intro a hf
   refine o_end ?_
   refine sy_seq ?_
   refine sy_cond hf rfl (fun hg2 => ?_) (fun hg2 => ?_)
   ·have hG2 := hg2; try simp only [gS] at hG2
    refine sy_skip ?_
    refine then_n ?_
    refine sy_seq ?_
    refine sy_block ?_
    refine sy_seq ?_
    obtain ⟨x, hx⟩ := ex_ofW (l := l) (i := i) (by omega)
    obtain ⟨blk, off, cc, T, fr, e, hb, hc⟩ := hL i x hx; subst e
    have hpx := hP x (.tail _ (List.mem_of_getElem? hx))
    have hpg := hP _ (leastD_take f l i)
    have hst := leastD_snoc (f := f) hx
    obtain ⟨g, hg⟩ : ∃ g, g = leastD f (l.take i) := ⟨_, rfl⟩
    rw [← hg] at hh hpg hst
    refine sy_ops ?_
    refine o_v hf hh (y_ix Tryz.se_142 rfl rfl) ?_; clear hf a; intro a hf
    refine o_v hf hh (y_lds Tryz.ag_74 rfl) ?_; clear hf a; intro a hf
    refine o_alloc hf hh Tryz.ze_74 ?_; clear hf hh a; intro B8 a w hf hh
    refine o_store hf hh Tryz.sz_74 fun w hh => ?_
    refine o_end ?_
    refine sy_seq ?_
    replace hh : Hp u [] [(B8, .cells #[.slice (x).2.1 (x).1.1.length (x).2.2, .int .i64 (x).1.2] 74), (B6, .cells #[.slice none 0 0, .int .i64 0] 74), (B4, .cells #[.slice (g).2.1 (g).1.1.length (g).2.2, .int .i64 (g).1.2] 74)] w := hh
    refine sy_ops ?_
    refine o_v hf hh (yv_move rfl) ?_; clear hf a; intro a hf
    refine o_v hf hh (y_lds Tryz.ag_74 rfl) ?_; clear hf a; intro a hf
    refine o_v hf hh (y_lds Tryz.ag_74 rfl) ?_; clear hf a; intro a hf
    refine o_call hf Tryz.en_77 rfl rfl rfl (k77 x g _ (hpx.1.ext hh.ext) (hpg.1.ext hh.ext) hpx.2 hpg.2) ?_; clear hf a; intro v a w hR hf
    obtain ⟨rfl, hx2⟩ := hR; replace hh := hh.more hx2; clear hx2
    refine o_v hf hh (yv_bin rfl rfl rfl) ?_; clear hf a; intro a hf
    refine o_end ?_
    refine sy_cond hf rfl (fun hg5 => ?_) (fun hg5 => ?_)
    ·have hG5 := hg5; try simp only [gS] at hG5
     refine sy_ops ?_
     refine o_v hf hh (y_lds Tryz.ag_74 rfl) ?_; clear hf a; intro a hf
     refine o_store hf hh Tryz.sz_74 fun w hh => ?_
     refine ops_end ?_
     refine blk_n ?_
     refine then_n ?_
     first
     | replace hh : Hp u [] [(B8, .cells #[.slice (x).2.1 (x).1.1.length (x).2.2, .int .i64 (x).1.2] 74), (B6, .cells #[.slice none 0 0, .int .i64 0] 74), (B4, .cells #[.slice (leastD f (l.take (i + 1))).2.1 (leastD f (l.take (i + 1))).1.1.length (leastD f (l.take (i + 1))).2.2, .int .i64 (leastD f (l.take (i + 1))).1.2] 74)] w := by rw [hst, if_pos (by omega)]; exact hh
     | replace hh : Hp u [] [(B8, .cells #[.slice (x).2.1 (x).1.1.length (x).2.2, .int .i64 (x).1.2] 74), (B6, .cells #[.slice none 0 0, .int .i64 0] 74), (B4, .cells #[.slice (leastD f (l.take (i + 1))).2.1 (leastD f (l.take (i + 1))).1.1.length (leastD f (l.take (i + 1))).2.2, .int .i64 (leastD f (l.take (i + 1))).1.2] 74)] w := by rw [hst, if_neg (by omega)]; exact hh
     refine sy_ops ?_
     refine o_v hf hh (y_add rfl rfl) ?_; clear hf a; intro a hf
     refine o_v hf hh (yv_move rfl) ?_; clear hf a; intro a hf
     refine ops_end ?_
     refine then_n ?_
     exact ⟨i + 1, ⟨⟨by omega, hh.less (.cons _ (.refl _))⟩, (hf.head (by repeat' (first | exact True.intro | refine And.intro rfl ?_)) (Keep.cons rfl (Keep.cons rfl (Keep.cons rfl (Keep.cons rfl (Keep.cons rfl (Keep.cons rfl (Keep.cons rfl (Keep.cons rfl (Keep.cons rfl (Keep.cons rfl (Keep.cons rfl (Keep.cons rfl (Keep.app rfl (Keep.rm rfl Keep.base)))))))))))))))⟩, by omega⟩
    ·have hG5 := hg5; try simp only [gS] at hG5
     refine sy_skip ?_
     refine blk_n ?_
     refine then_n ?_
     first
     | replace hh : Hp u [] [(B8, .cells #[.slice (x).2.1 (x).1.1.length (x).2.2, .int .i64 (x).1.2] 74), (B6, .cells #[.slice none 0 0, .int .i64 0] 74), (B4, .cells #[.slice (leastD f (l.take (i + 1))).2.1 (leastD f (l.take (i + 1))).1.1.length (leastD f (l.take (i + 1))).2.2, .int .i64 (leastD f (l.take (i + 1))).1.2] 74)] w := by rw [hst, if_pos (by omega)]; exact hh
     | replace hh : Hp u [] [(B8, .cells #[.slice (x).2.1 (x).1.1.length (x).2.2, .int .i64 (x).1.2] 74), (B6, .cells #[.slice none 0 0, .int .i64 0] 74), (B4, .cells #[.slice (leastD f (l.take (i + 1))).2.1 (leastD f (l.take (i + 1))).1.1.length (leastD f (l.take (i + 1))).2.2, .int .i64 (leastD f (l.take (i + 1))).1.2] 74)] w := by rw [hst, if_neg (by omega)]; exact hh
     refine sy_ops ?_
     refine o_v hf hh (y_add rfl rfl) ?_; clear hf a; intro a hf
     refine o_v hf hh (yv_move rfl) ?_; clear hf a; intro a hf
     refine ops_end ?_
     refine then_n ?_
     exact ⟨i + 1, ⟨⟨by omega, hh.less (.cons _ (.refl _))⟩, (hf.head (by repeat' (first | exact True.intro | refine And.intro rfl ?_)) (Keep.cons rfl (Keep.cons rfl (Keep.cons rfl (Keep.cons rfl (Keep.cons rfl (Keep.cons rfl (Keep.cons rfl (Keep.cons rfl (Keep.cons rfl (Keep.cons rfl (Keep.cons rfl (Keep.app rfl (Keep.rm rfl Keep.base))))))))))))))⟩, by omega⟩
   ·have hG2 := hg2; try simp only [gS] at hG2
    refine sy_exit ?_
    refine then_e ?_
    refine then_e ?_
    refine blk_e ?_
    refine then_n ?_
    refine sy_seq ?_
    obtain rfl : i = l.length := by omega
    rw [List.take_length] at hh
    refine sy_ops ?_
    refine o_v hf hh (y_lds Tryz.ag_74 rfl) ?_; clear hf a; intro a hf
    refine o_store hf hh Tryz.sz_74 fun w hh => ?_
    refine o_end ?_
    refine sy_ret ?_
    refine ret_c (vs := [plnV (leastD f l)]) hf ?_ ?_
    · exact ⟨⟨B6, 0, _, _, _, rfl, hh.at (i := 0) rfl, .inr ⟨2, _, Tryz.ag_74, rfl, rfl⟩⟩, True.intro⟩
    · exact ⟨rfl, hh.ext⟩
end Go.Proofs.YtccpgpnekoncoaaGreat

namespace Go.WalM
open Go Go.Sy
/-- How many views have not been seen. -/
def unS (t : TourD) (seen : Nat) : Nat := ((List.range t.n).filter fun v => !seen.testBit v).length
theorem filter_lt {α : Type} {p q : α → Bool} : ∀ {l : List α}, (∀ x, p x = true → q x = true) → ∀ {v : α}, v ∈ l → q v = true → p v = false → (l.filter p).length < (l.filter q).length
  | [], _, v, h, _, _ => by cases h
  | x :: l, hpq, v, h, hq, hp => by
    have hle : ∀ l : List α, (l.filter p).length ≤ (l.filter q).length := by
      intro l
      induction l with
      | nil => exact Nat.le_refl _
      | cons y l ih =>
        rw [List.filter_cons, List.filter_cons]
        cases hy : p y
        · rw [if_neg (by decide)]
          split
          · rw [List.length_cons]; omega
          · exact ih
        · rw [if_pos rfl, if_pos (hpq y hy), List.length_cons, List.length_cons]; omega
    rw [List.filter_cons, List.filter_cons]
    rcases List.mem_cons.1 h with rfl | h
    · rw [if_neg (by rw [hp]; decide), if_pos hq, List.length_cons]
      have := hle l
      omega
    · have ih := filter_lt hpq h hq hp
      cases hx : p x
      · rw [if_neg (by decide)]
        split
        · rw [List.length_cons]; omega
        · exact ih
      · rw [if_pos rfl, if_pos (hpq x hx), List.length_cons, List.length_cons]; omega
theorem unS_less {t : TourD} {seen v : Nat} (hv : v < t.n) (hs : seen.testBit v = false) : unS t (seen ||| 2 ^ v) < unS t seen := by
  unfold unS
  refine filter_lt (fun x hx => ?_) (List.mem_range.2 hv) (by rw [hs]; rfl) (by rw [bit_or]; simp)
  rw [bit_or] at hx
  simp at hx ⊢
  exact hx.1
theorem fm_congr {α β : Type} {f g : α → Option β} : ∀ {l : List α}, (∀ x ∈ l, f x = g x) → l.filterMap f = l.filterMap g
  | [], _ => rfl
  | x :: l, h => by rw [List.filterMap_cons, List.filterMap_cons, h x (.head _), fm_congr fun y hy => h y (.tail _ hy)]
theorem bst_fuel (t : TourD) : ∀ (k j seen : Nat) (fr left : Int), unS t seen ≤ k → unS t seen ≤ j → bstP t k seen fr left = bstP t j seen fr left := by
  have hz : ∀ (j seen : Nat) (fr left : Int), unS t seen = 0 → bstP t j seen fr left = ([], left) := by
    intro j seen fr left h
    cases j with
    | zero => rfl
    | succ j =>
      have : (List.range t.n).filterMap (nextP t (bstP t j) seen fr left) = [] := by
        rw [List.filterMap_eq_nil_iff]
        intro v hv
        unfold nextP
        have h2 : seen.testBit v = true := by
          unfold unS at h
          rw [List.length_eq_zero_iff, List.filter_eq_nil_iff] at h
          have := h v hv
          simpa using this
        rw [if_pos h2]
      rw [bstP, this]; rfl
  intro k
  induction k with
  | zero =>
    intro j seen fr left h _
    rw [hz 0 seen fr left (by omega), hz j seen fr left (by omega)]
  | succ k ih =>
    intro j seen fr left h1 h2
    cases j with
    | zero => rw [hz _ seen fr left (by omega), hz _ seen fr left (by omega)]
    | succ j =>
      rw [bstP, bstP]
      congr 1
      refine fm_congr fun v hv => ?_
      unfold nextP
      cases hs : seen.testBit v
      · have h3 := unS_less (List.mem_range.1 hv) hs
        rw [ih j (seen ||| 2 ^ v) v (aftV t v (begV t fr v (left, left))).2 (by omega) (by omega)]
      · rfl
def bestF (t : TourD) (seen : Nat) (fr left : Int) : PlanD := bstP t (unS t seen) seen fr left
theorem bestF_of {t : TourD} {k seen : Nat} (h : unS t seen ≤ k) (fr left : Int) : bstP t k seen fr left = bestF t seen fr left := bst_fuel t _ _ _ _ _ h (Nat.le_refl _)
theorem bestF_step (t : TourD) (seen : Nat) (fr left : Int) : bestF t seen fr left = leastP ([], left) ((List.range t.n).filterMap (nextP t (bestF t) seen fr left)) := by
  have h := bestF_of (t := t) (k := unS t seen + 1) (seen := seen) (by omega) fr left
  rw [← h, bstP]
  congr 1
  refine fm_congr fun v hv => ?_
  unfold nextP
  cases hs : seen.testBit v
  · have h3 := unS_less (List.mem_range.1 hv) hs
    rw [bestF_of (t := t) (k := unS t seen) (seen := seen ||| 2 ^ v) (by omega)]
  · rfl
theorem unS_le (t : TourD) (seen : Nat) : unS t seen ≤ t.n := by
  unfold unS
  have := List.length_filter_le (fun v => !seen.testBit v) (List.range t.n)
  rw [List.length_range] at this
  exact this
theorem most_best (t : TourD) : mostP t = bestF t 0 (-1) t.dawn := by
  have := unS_le t 0
  exact bestF_of (by omega) _ _
/-- The plans by way of the first views. -/
def wayL (t : TourD) (seen : Nat) (fr left : Int) (i : Nat) : List PlanD := (List.range i).filterMap (nextP t (bestF t) seen fr left)
theorem wayL_no {t : TourD} {seen : Nat} {fr left : Int} {i : Nat} (h : nextP t (bestF t) seen fr left i = none) : wayL t seen fr left (i + 1) = wayL t seen fr left i := by
  unfold wayL
  rw [List.range_succ, List.filterMap_append, List.filterMap_cons, h]; simp
theorem wayL_put {t : TourD} {seen : Nat} {fr left : Int} {i : Nat} {p : PlanD} (h : nextP t (bestF t) seen fr left i = some p) : wayL t seen fr left (i + 1) = wayL t seen fr left i ++ [p] := by
  unfold wayL
  rw [List.range_succ, List.filterMap_append, List.filterMap_cons, h]; simp
end Go.WalM

namespace Go.WalM
open Go Go.Sy
abbrev Key3 := Nat × Int × Int
abbrev encK (s : Key3) : Value := .agg #[.int .i64 ((s.1 : Nat) : Int), .int .i64 s.2.1, .int .i64 s.2.2]
def ints3 (s : Key3) : List Int := [((s.1 : Nat) : Int), s.2.1, s.2.2]
theorem ints3_inj (p q : Key3) (h : ints3 p = ints3 q) : p = q := by
  obtain ⟨a, b, c⟩ := p
  obtain ⟨a', b', c'⟩ := q
  unfold ints3 at h
  simp only [List.cons.injEq, and_true] at h
  obtain ⟨h1, h2, h3⟩ := h
  have h1 : a = a' := by omega
  rw [h1, h2, h3]
def PlnF (t : TourD) (K : List (Nat × Obj)) (s : Key3) (v : Value) : Prop :=
  ∃ pl : PlnD, v = plnV pl ∧ pl.1 = bestF t s.1 s.2.1 s.2.2 ∧ ∀ w : World, (∀ q ∈ K, w.heap[q.1]? = some q.2) → PlnAt w pl
theorem PlnF.more {t : TourD} {K K' : List (Nat × Obj)} {s : Key3} {v : Value} (h : PlnF t K s v) (hs : ∀ q ∈ K, q ∈ K') : PlnF t K' s v :=
  let ⟨pl, h1, h2, h3⟩ := h
  ⟨pl, h1, h2, fun w hw => h3 w fun q hq => hw q (hs q hq)⟩
theorem best_len (t : TourD) (seen : Nat) (fr left : Int) : (bestF t seen fr left).1.length ≤ t.n :=
  nodup_le (fun v hv => ((bst_ord t _ _ _ _).1 v hv).1) (bst_ord t _ _ _ _).2
def MapsOnlyW (M : List Nat) (w : World) : Prop := ∀ b ∈ M, ∃ es c, w.heap[b]? = some (.map es c)
theorem MapsOnlyW.get {M : List Nat} {w w' : World} {b : Nat} {c : Array Value} {T : TypeId} {fr : Nat × Nat} (h : MapsOnlyW M w) (e : Ext M w w') (hb : w.heap[b]? = some (.cells c T fr)) : w'.heap[b]? = some (.cells c T fr) := by
  have hm : b ∉ M := fun hm => by
    obtain ⟨es, c', h1⟩ := h b hm
    rw [hb] at h1; cases h1
  rw [e.block b (Array.getElem?_eq_some_iff.1 hb).1 hm]; exact hb
section
variable {M : List Nat} {w w' : World}
theorem SpAt.extM {sa : Option Addr} {l : List (Int × Int)} (h : SpAt w sa l) (hm : MapsOnlyW M w) (e : Ext M w w') : SpAt w' sa l := fun i s hi =>
  let ⟨blk, off, c, T, fr, h1, h2, h3⟩ := h i s hi
  ⟨blk, off, c, T, fr, h1, hm.get e h2, h3⟩
theorem RowsAt.extM {sa : Option Addr} {l : List RowD} (h : RowsAt w sa l) (hm : MapsOnlyW M w) (e : Ext M w w') : RowsAt w' sa l := fun i s hi =>
  let ⟨blk, off, c, T, fr, h1, h2, h3⟩ := h i s hi
  ⟨blk, off, c, T, fr, h1, hm.get e h2, h3⟩
theorem TouAt.extM {t : TourD} {p : TPl} (h : TouAt w t p) (hm : MapsOnlyW M w) (e : Ext M w w') : TouAt w' t p :=
  ⟨h.f.extM hm e, h.g.extM hm e, fun r hr => (h.r r hr).extM hm e, h.e, h.s.extM hm e, h.l.extM hm e, h.nf, h.nw, h.ns, h.nl, h.nr⟩
end
/-- What the search for the best order reads. -/
structure BeC (u : World) (t : TourD) (p : TPl) (Bt Bm Br Bf bm T1 T2 T3 T4 nf : Nat) : Prop where
  b : u.heap[Bt]? = some (.cells (tpC t p) T1 (0, 0))
  m : u.heap[Bm]? = some (.cells #[.map (some bm)] T2 (0, 0))
  r : u.heap[Br]? = some (.cells #[ptr Bt 0] T3 (0, 0))
  f : u.heap[Bf]? = some (.cells #[.func (.func nf) #[] #[ptr Bm 0, ptr Br 0, ptr Bf 0]] T4 (0, 0))
  a : TouAt u t p
theorem BeC.extM {u w : World} {t : TourD} {p : TPl} {Bt Bm Br Bf bm T1 T2 T3 T4 nf : Nat} {M : List Nat} (h : BeC u t p Bt Bm Br Bf bm T1 T2 T3 T4 nf) (hm : MapsOnlyW M u) (e : Ext M u w) : BeC w t p Bt Bm Br Bf bm T1 T2 T3 T4 nf :=
  ⟨hm.get e h.b, hm.get e h.m, hm.get e h.r, hm.get e h.f, h.a.extM hm e⟩
/-- Plans in a row, as cells. -/
def plnL (ps : List PlnD) : List Value := ps.flatMap plnC
theorem plnL_len (ps : List PlnD) : (plnL ps).length = ps.length * 2 := by
  unfold plnL
  induction ps with
  | nil => rfl
  | cons p ps ih => rw [List.flatMap_cons, List.length_append, ih]; show 2 + ps.length * 2 = (ps.length + 1) * 2; omega
theorem plnL_snoc (ps : List PlnD) (p : PlnD) : plnL (ps ++ [p]) = plnL ps ++ plnC p := by
  unfold plnL
  rw [List.flatMap_append]; simp
theorem beg_bd {t : TourD} (hO : TourOk t) {fr : Int} (hf : IsFr t fr) {v : Nat} (h : v < t.fr.length) {left : Int} (hl : 0 ≤ left ∧ left ≤ 2880) : 0 ≤ (begV t fr v (left, left)).1 ∧ (begV t fr v (left, left)).1 ≤ 4320 ∧ 0 ≤ (begV t fr v (left, left)).2 ∧ (begV t fr v (left, left)).2 ≤ 4320 := by
  obtain ⟨w0, w1, w2⟩ := way_ok hO hf h
  obtain ⟨l0, l1, l2⟩ := sp_ok (l := t.light) (v := v) (by rw [hO.ll]; exact h) hO.l
  unfold begV
  dsimp only
  omega
end Go.WalM

namespace Go.WalM
open Go Go.Sy
theorem perm_in {α : Type} (K F X Y : List α) : (K ++ (F ++ (X ++ Y))).Perm (F ++ (X ++ (K ++ Y))) :=
  (List.perm_append_comm_assoc K F (X ++ Y)).trans ((List.perm_append_comm_assoc K X Y).append_left F)
theorem perm_out {α : Type} (A F X R : List α) : (A ++ (F ++ (X ++ R))).Perm (X ++ (F ++ (A ++ R))) :=
  ((perm_in A F X R).trans (List.perm_append_comm_assoc F X (A ++ R)))
abbrev ivs (l : List Nat) : List Value := l.map fun v => .int .i64 ((v : Nat) : Int)
theorem ivs_len (l : List Nat) : (ivs l).length = l.length := List.length_map _
theorem ivs_one (l : List Nat) : (ivs l).all (·.oneCell') = true := by
  unfold ivs
  rw [List.all_map]
  exact List.all_eq_true.2 fun r _ => rfl
theorem vw_vals {w : World} {sa : Option Addr} {l : List Nat} (h : VwAt w sa (ints l)) : ValsIn w sa (ivs l) := by
  cases l with
  | nil => exact .inl rfl
  | cons r l =>
    obtain ⟨blk, off, c, T, fr, h1, h2, h3⟩ := vw_at h (i := 0) (x := r) rfl
    refine .inr ⟨blk, off, c, T, fr, h1, h2, fun j v hv => ?_⟩
    unfold ivs at hv
    rw [List.getElem?_map, Option.map_eq_some_iff] at hv
    obtain ⟨x, hx, rfl⟩ := hv
    obtain ⟨blk', off', c', T', fr', g1, g2, g3⟩ := vw_at h hx
    rw [h1] at g1
    cases g1
    rw [h2] at g2
    cases g2
    rw [Int.toNat_natCast, Nat.mul_one] at g3
    exact g3
theorem own_vw {e : Nat} {v : Value} {m : Nat} {l : List Nat} {X : List (Nat × Obj)} (h : OwnSl e 1 v m (ivs l) X) : ∃ oa cap, v = .slice oa l.length cap ∧ ∀ w : World, (∀ q ∈ X, w.heap[q.1]? = some q.2) → VwAt w oa (ints l) := by
  obtain ⟨hl, h⟩ := h
  rw [ivs_len] at hl
  have hm : m = l.length := by omega
  subst hm
  rcases h with ⟨rfl, h0, rfl⟩ | ⟨B, cap, cur, rfl, rfl, h1, h2, h3, h4⟩
  · refine ⟨none, 0, by rw [h0], fun w _ i r hi => ?_⟩
    have := len_ofW hi
    rw [ints_len] at this
    omega
  · refine ⟨_, cap, rfl, fun w hX i r hi => ⟨B, 0, cur, e, _, rfl, hX _ (.head _), ?_⟩⟩
    have hi2 := len_ofW hi
    rw [ints_len] at hi2
    have : (cur.toList.take (l.length * 1))[i]? = some (.int .i64 r) := by
      rw [h4]
      unfold ivs
      unfold ints at hi
      rw [List.getElem?_map] at hi ⊢
      rw [Option.map_eq_some_iff] at hi
      obtain ⟨x, hx, rfl⟩ := hi
      rw [hx]; rfl
    rw [List.getElem?_take, if_pos (by omega)] at this
    rw [Int.toNat_natCast, Nat.mul_one, Nat.zero_add, ← Array.getElem?_toList]
    exact this
theorem plnL_at : ∀ {ps : List PlnD} {i : Nat} {x : PlnD}, ps[i]? = some x → (plnL ps)[i * 2]? = some (.slice x.2.1 x.1.1.length x.2.2) ∧ (plnL ps)[i * 2 + 1]? = some (.int .i64 x.1.2)
  | p :: ps, 0, x, h => by
    have h : p = x := by simpa using h
    subst h
    exact ⟨rfl, rfl⟩
  | p :: ps, i + 1, x, h => by
    have h : ps[i]? = some x := by simpa using h
    have ih := plnL_at h
    have e : plnL (p :: ps) = .slice p.2.1 p.1.1.length p.2.2 :: .int .i64 p.1.2 :: plnL ps := rfl
    rw [e, show (i + 1) * 2 = i * 2 + 1 + 1 by omega, List.getElem?_cons_succ, List.getElem?_cons_succ, List.getElem?_cons_succ, List.getElem?_cons_succ]
    exact ih
theorem cellsAt_two {c : Array Value} {o : Nat} {a b : Value} (h1 : c[o]? = some a) (h2 : c[o + 1]? = some b) : cellsAt c o 2 = some [a, b] := by simp [cellsAt, h1, h2]
theorem own_plns {v : Value} {n : Nat} {f : PlnD} {rest : List PlnD} {X : List (Nat × Obj)} (h : OwnSl 74 2 v n (plnL (f :: rest)) X) : ∃ B cap cur, v = .slice (some ⟨B, 0, none⟩) (rest.length + 1) cap ∧ X = [(B, .cells cur 74 (0, 0))] ∧ rest.length + 1 ≤ cap ∧ cellsAt cur 0 2 = some (plnC f) ∧
    ∀ w : World, w.heap[B]? = some (.cells cur 74 (0, 0)) → PlnsAt w (if cap = 1 then some ⟨B, 0, none⟩ else (some (⟨B, 0, none⟩ : Addr)).map (·.add (1 * 2))) rest := by
  obtain ⟨hl, h⟩ := h
  rw [plnL_len] at hl
  have hm : n = rest.length + 1 := by rw [List.length_cons] at hl; omega
  subst hm
  rcases h with ⟨_, h0, _⟩ | ⟨B, cap, cur, rfl, rfl, h1, h2, h3, h4⟩
  · omega
  · have hat : ∀ {i : Nat} {x : PlnD}, (f :: rest)[i]? = some x → cellsAt cur (i * 2) 2 = some (plnC x) := fun {i x} hx => by
      have hi := len_ofW hx
      rw [List.length_cons] at hi
      obtain ⟨a1, a2⟩ := plnL_at hx
      rw [← h4, List.getElem?_take, if_pos (by omega), Array.getElem?_toList] at a1 a2
      exact cellsAt_two a1 a2
    refine ⟨B, cap, cur, rfl, rfl, h1, hat (i := 0) rfl, fun w hw i s hi => ?_⟩
    have hi2 := len_ofW hi
    have h5 := hat (i := i + 1) (x := s) (by simpa using hi)
    rw [if_neg (by omega)]
    refine ⟨B, 2, cur, 74, (0, 0), rfl, hw, ?_⟩
    rw [Int.toNat_natCast, show 2 + i * 2 = (i + 1) * 2 by omega]
    exact h5
theorem wayL_len (t : TourD) (seen : Nat) (fr left : Int) (i : Nat) : (wayL t seen fr left i).length ≤ i := by
  have := List.length_filterMap_le (nextP t (bestF t) seen fr left) (List.range i)
  rw [List.length_range] at this
  exact this
theorem best_bd {t : TourD} (hO : TourOk t) {fr : Int} (hf : IsFr t fr) {v : Nat} (h : v < t.fr.length) {left : Int} (hl : 0 ≤ left ∧ left ≤ 2880) (hs : surV t v (begV t fr v (left, left)) = true) : 0 ≤ (aftV t v (begV t fr v (left, left))).2 ∧ (aftV t v (begV t fr v (left, left))).2 ≤ 2880 := by
  have hb := beg_bd hO hf h hl
  obtain ⟨l0, l1, l2⟩ := sp_ok (l := t.light) (v := v) (by rw [hO.ll]; exact h) hO.l
  obtain ⟨s0, s1, s2⟩ := sp_ok (l := t.stay) (v := v) (by rw [hO.sl]; exact h) hO.s
  have hs := of_decide_eq_true hs
  unfold aftV
  dsimp only
  omega
theorem next_no {t : TourD} {seen v : Nat} {fr left : Int} (h : seen.testBit v = true ∨ surV t v (begV t fr v (left, left)) = false) : nextP t (bestF t) seen fr left v = none := by
  unfold nextP
  rcases h with h | h
  · rw [if_pos h]
  · split
    · rfl
    · rw [if_neg (by rw [h]; decide)]
theorem next_yes {t : TourD} {seen v : Nat} {fr left : Int} (h1 : seen.testBit v = false) (h2 : surV t v (begV t fr v (left, left)) = true) {pl : PlanD} (hp : pl = bestF t (seen ||| 2 ^ v) v (aftV t v (begV t fr v (left, left))).2) : nextP t (bestF t) seen fr left v = some (v :: pl.1, pl.2) := by
  unfold nextP
  rw [if_neg (by rw [h1]; decide), if_pos h2, hp]
theorem seen_lt {t : TourD} {seen v : Nat} (hs : seen < 64) (hv : v < 6) : seen ||| 2 ^ v < 64 :=
  Nat.or_lt_two_pow (n := 6) hs (Nat.pow_lt_pow_right (by decide) hv)
theorem way_len {t : TourD} {seen : Nat} {fr left : Int} {i : Nat} {p : PlanD} (h : p ∈ ([], left) :: wayL t seen fr left i) : p.1.length ≤ t.n + 1 := by
  rcases List.mem_cons.1 h with rfl | h
  · exact Nat.zero_le _
  · unfold wayL at h
    obtain ⟨v, _, he⟩ := List.mem_filterMap.1 h
    unfold nextP at he
    split at he
    · cases he
    · split at he
      · injection he with he
        rw [← he]
        have := best_len t (seen ||| 2 ^ v) (v : Int) (aftV t v (begV t fr v (left, left))).2
        show _ + 1 ≤ _
        omega
      · cases he
end Go.WalM

