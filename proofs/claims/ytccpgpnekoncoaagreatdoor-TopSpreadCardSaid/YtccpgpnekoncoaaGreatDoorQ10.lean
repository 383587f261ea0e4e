/- Lemmas, in order: Package mount: why a thing hurts. Package mount: the first thing that hurts. Package mount: Seen, Hurts. The trimmings, one after the other; the first one that hurts nobody. Package mount: which trimming comes before. Package mount: the trimmings. Package mount: Trim. Package mount: bounds, room. Package mount: Eyes, Room. The distances that do not hurt, looked for by halves. Package mount: Depths. The document's card, what is told of it. The reference's cards; the document's card.. -/
import Derived.Test.YtccpgpnekoncoaaGreatDoorQ9
namespace Go.Proofs.YtccpgpnekoncoaaGreatDoor
open Go Go.Sy Go.PaiM
theorem mul_bdS {a b : Int} (ha : 0 ≤ a ∧ a ≤ 100) (hb : -80 ≤ b ∧ b ≤ 80) : -8000 ≤ a * b ∧ a * b ≤ 8000 := by
  have h1 := Int.mul_le_mul_of_nonneg_left hb.1 ha.1
  have h2 := Int.mul_le_mul_of_nonneg_left hb.2 ha.1
  omega
/-- A trimming lies within its bounds. -/
structure EdB (e : Edg) : Prop where
  a : 0 ≤ e.1 ∧ e.1 ≤ 40
  b : 0 ≤ e.2.1 ∧ e.2.1 ≤ 40
  c : 0 ≤ e.2.2.1 ∧ e.2.2.1 ≤ 40
  d : 0 ≤ e.2.2.2 ∧ e.2.2.2 ≤ 40
theorem edB_of {c : CaD} {e : Edg} (hc : CaOk c) (h : TrmOk c.cuts e) : EdB e := by
  obtain ⟨h1, h2, h3, h4, h5⟩ := h
  have := hc.cu
  exact ⟨by omega, by omega, by omega, by omega⟩
theorem win_bd {c : CaD} {e : Edg} (hc : CaOk c) (he : EdB e) : -8000 ≤ winV c e ∧ winV c e ≤ 8000 := by
  have := hc.st; have := he.a; have := he.c
  exact mul_bdS (by omega) (by omega)
theorem apa_bd {c : CaD} {e : Edg} (hc : CaOk c) (he : EdB e) : -8000 ≤ apaV c e ∧ apaV c e ≤ 16000 := by
  have := hc.st; have := he.b; have := he.c; have := hc.ha
  have := mul_bdS (a := c.step) (b := e.2.1 + e.2.2.1) (by omega) (by omega)
  unfold apaV
  omega
theorem shf_bd {p : PrD} {t : ThD} (h : ThOk p t) : (-8000 ≤ (shf t).1 ∧ (shf t).1 ≤ 8000) ∧ -8000 ≤ (shf t).2 ∧ (shf t).2 ≤ 8000 := by
  obtain ⟨⟨a1, a2, a3⟩, ⟨b1, b2, b3⟩, ⟨c1, c2, c3⟩, ⟨d1, d2, d3⟩, -⟩ := h
  unfold shf
  dsimp only
  omega
theorem c_window (c : CaD) (y : Int × Int) (sa : Option Addr) (cp Bc : Nat) (e : Edg) (he : EdB e) (u : World) (hC : CarAt u c y sa cp Bc) : Calls Tryz.prog 117 #[.agg (moA Bc e)] u (Ret fun v w' => v = .int .i64 (winV c e) ∧ Ext [] u w') := by
  refine calls_of Tryz.func117 rfl rfl (fun a hf => ?_)
  have hh := Hp.init u []
  obtain ⟨bm, es, cm, hb, hm, hS⟩ := hC.ex
  have hnt := hC.ok.pr.nt
  have hc := hC.ok
  obtain ⟨s1, s2⟩ := hc.st
  obtain ⟨q1, q2⟩ := hc.ha
  obtain ⟨⟨a1, a2⟩, ⟨b1, b2⟩, ⟨c1, c2⟩, d1, d2⟩ := he
  have m1 := mul_bdS (a := c.step) (b := e.1 - e.2.2.1) ⟨by omega, by omega⟩ ⟨by omega, by omega⟩
  refine sy_sq ?_
  refine o_box hf hh ?_; clear hf hh a; intro B1 a w hf hh
  refine o_v hf hh (yv_assign rfl) ?_; clear hf a; intro a hf
  refine o_end ?_
  refine sy_seq ?_
  refine sy_quiet (C := Hp _ _ _) Tryz.follows (by kernel_rfl) (hh.drawn _) ?_
  refine oq_v hf (yv_fieldAddr Tryz.fo_160_0 rfl) ?_; clear hf a; intro a hf
  refine oq_v hf (y_ld Tryz.sc_98 rfl) ?_; clear hf a; intro a hf
  refine oq_v hf (yv_nilCheck rfl) ?_; clear hf a; intro a hf
  refine oq_v hf (yv_fieldAddr Tryz.fo_103_0 rfl) ?_; clear hf a; intro a hf
  refine oq_v hf (yv_fieldAddr Tryz.fo_51_2 rfl) ?_; clear hf a; intro a hf
  refine oq_v hf (y_ld Tryz.sc_3 rfl) ?_; clear hf a; intro a hf
  refine oq_v hf (yv_fieldAddr Tryz.fo_160_1 rfl) ?_; clear hf a; intro a hf
  refine oq_v hf (y_ia Tryz.ae_105 rfl rfl) ?_; clear hf a; intro a hf
  refine oq_v hf (y_ld Tryz.sc_3 rfl) ?_; clear hf a; intro a hf
  refine oq_v hf (yv_fieldAddr Tryz.fo_160_1 rfl) ?_; clear hf a; intro a hf
  refine oq_v hf (y_ia Tryz.ae_105 rfl rfl) ?_; clear hf a; intro a hf
  refine oq_v hf (y_ld Tryz.sc_3 rfl) ?_; clear hf a; intro a hf
  refine oq_v hf (y_sub rfl rfl) ?_; clear hf a; intro a hf
  refine oq_v hf (y_mul rfl rfl (Int.le_trans (by decide) m1.1) (Int.le_trans m1.2 (by decide))) ?_; clear hf a; intro a hf
  refine oq_v hf (yv_assign rfl) ?_; clear hf a; intro a hf
  refine q_end fun w hh => ?_
  refine then_n ?_
  refine sy_ret ?_
  refine ret_r hf rfl rfl ?_
  exact ⟨rfl, hh.ext⟩
theorem c_apart (c : CaD) (y : Int × Int) (sa : Option Addr) (cp Bc : Nat) (e : Edg) (he : EdB e) (u : World) (hC : CarAt u c y sa cp Bc) : Calls Tryz.prog 118 #[.agg (moA Bc e)] u (Ret fun v w' => v = .int .i64 (apaV c e) ∧ Ext [] u w') := by
  refine calls_of Tryz.func118 rfl rfl (fun a hf => ?_)
  have hh := Hp.init u []
  obtain ⟨bm, es, cm, hb, hm, hS⟩ := hC.ex
  have hnt := hC.ok.pr.nt
  have hc := hC.ok
  obtain ⟨s1, s2⟩ := hc.st
  obtain ⟨q1, q2⟩ := hc.ha
  obtain ⟨⟨a1, a2⟩, ⟨b1, b2⟩, ⟨c1, c2⟩, d1, d2⟩ := he
  have m1 := mul_bdS (a := c.step) (b := e.2.1 + e.2.2.1) ⟨by omega, by omega⟩ ⟨by omega, by omega⟩
  refine sy_sq ?_
  refine o_box hf hh ?_; clear hf hh a; intro B1 a w hf hh
  refine o_v hf hh (yv_assign rfl) ?_; clear hf a; intro a hf
  refine o_end ?_
  refine sy_seq ?_
  refine sy_quiet (C := Hp _ _ _) Tryz.follows (by kernel_rfl) (hh.drawn _) ?_
  refine oq_v hf (yv_fieldAddr Tryz.fo_160_0 rfl) ?_; clear hf a; intro a hf
  refine oq_v hf (y_ld Tryz.sc_98 rfl) ?_; clear hf a; intro a hf
  refine oq_v hf (yv_nilCheck rfl) ?_; clear hf a; intro a hf
  refine oq_v hf (yv_fieldAddr Tryz.fo_103_0 rfl) ?_; clear hf a; intro a hf
  refine oq_v hf (yv_fieldAddr Tryz.fo_51_1 rfl) ?_; clear hf a; intro a hf
  refine oq_v hf (y_ld Tryz.sc_3 rfl) ?_; clear hf a; intro a hf
  refine oq_v hf (y_mul rfl rfl) ?_; clear hf a; intro a hf
  refine oq_v hf (yv_fieldAddr Tryz.fo_160_0 rfl) ?_; clear hf a; intro a hf
  refine oq_v hf (y_ld Tryz.sc_98 rfl) ?_; clear hf a; intro a hf
  refine oq_v hf (yv_nilCheck rfl) ?_; clear hf a; intro a hf
  refine oq_v hf (yv_fieldAddr Tryz.fo_103_0 rfl) ?_; clear hf a; intro a hf
  refine oq_v hf (yv_fieldAddr Tryz.fo_51_2 rfl) ?_; clear hf a; intro a hf
  refine oq_v hf (y_ld Tryz.sc_3 rfl) ?_; clear hf a; intro a hf
  refine oq_v hf (yv_fieldAddr Tryz.fo_160_1 rfl) ?_; clear hf a; intro a hf
  refine oq_v hf (y_ia Tryz.ae_105 rfl rfl) ?_; clear hf a; intro a hf
  refine oq_v hf (y_ld Tryz.sc_3 rfl) ?_; clear hf a; intro a hf
  refine oq_v hf (yv_fieldAddr Tryz.fo_160_1 rfl) ?_; clear hf a; intro a hf
  refine oq_v hf (y_ia Tryz.ae_105 rfl rfl) ?_; clear hf a; intro a hf
  refine oq_v hf (y_ld Tryz.sc_3 rfl) ?_; clear hf a; intro a hf
  refine oq_v hf (y_add rfl rfl) ?_; clear hf a; intro a hf
  refine oq_v hf (y_mul rfl rfl (Int.le_trans (by decide) m1.1) (Int.le_trans m1.2 (by decide))) ?_; clear hf a; intro a hf
  refine oq_v hf (y_sub rfl rfl) ?_; clear hf a; intro a hf
  refine oq_v hf (yv_assign rfl) ?_; clear hf a; intro a hf
  refine q_end fun w hh => ?_
  refine then_n ?_
  refine sy_ret ?_
  refine ret_r hf rfl rfl ?_
  exact ⟨rfl, hh.ext⟩
theorem c_hnear (c : CaD) (y : Int × Int) (sa : Option Addr) (cp Bc : Nat) (e : Edg) (he : EdB e) (k : Int) (s : Int × Int) (hs : (-8000 ≤ s.1 ∧ s.1 ≤ 8000) ∧ -8000 ≤ s.2 ∧ s.2 ≤ 8000) (u : World) (hC : CarAt u c y sa cp Bc) : Calls Tryz.prog 136 #[.agg #[], .agg (moA Bc e), .int .i64 k, spV s] u (Ret fun v w' => v = .bool (decide (apaV c e - s.2 < c.eyes.2 - c.squeeze)) ∧ Ext [] u w') := by
  refine calls_of Tryz.func136 rfl rfl (fun a hf => ?_)
  have hh := Hp.init u []
  obtain ⟨bm, es, cm, hb, hm, hS⟩ := hC.ex
  have hnt := hC.ok.pr.nt
  have hc := hC.ok
  obtain ⟨e1, e2, e3⟩ := hc.ey; obtain ⟨p1, p2⟩ := hc.pm; obtain ⟨r1, r2⟩ := hc.sq; obtain ⟨f1, f2⟩ := hc.fr; obtain ⟨d1, d2⟩ := hc.de
  obtain ⟨⟨t1, t2⟩, t3, t4⟩ := hs
  have w1 := win_bd hc he
  have w2 := apa_bd hc he
  refine sy_sq ?_
  refine o_box hf hh ?_; clear hf hh a; intro B4 a w hf hh
  refine o_box hf hh ?_; clear hf hh a; intro B5 a w hf hh
  refine o_box hf hh ?_; clear hf hh a; intro B7 a w hf hh
  refine o_v hf hh (yv_assign rfl) ?_; clear hf a; intro a hf
  refine o_end ?_
  refine sy_seq ?_
  refine sy_quiet (C := Hp _ _ _) Tryz.follows (by kernel_rfl) (hh.drawn _) ?_
  refine oq_v hf (y_lds Tryz.ag_160 rfl) ?_; clear hf a; intro a hf
  refine oq_call hf Tryz.en_118 rfl rfl rfl (fun w hh => c_apart c y sa cp Bc e he _ (hC.ext hh.ext)) ?_; clear hf a; intro a hf
  refine oq_v hf (yv_fieldAddr Tryz.fo_151_1 rfl) ?_; clear hf a; intro a hf
  refine oq_v hf (y_ld Tryz.sc_3 rfl) ?_; clear hf a; intro a hf
  refine oq_v hf (y_sub rfl rfl) ?_; clear hf a; intro a hf
  refine oq_v hf (yv_fieldAddr Tryz.fo_160_0 rfl) ?_; clear hf a; intro a hf
  refine oq_v hf (y_ld Tryz.sc_98 rfl) ?_; clear hf a; intro a hf
  refine oq_v hf (yv_nilCheck rfl) ?_; clear hf a; intro a hf
  refine oq_v hf (yv_fieldAddr Tryz.fo_103_0 rfl) ?_; clear hf a; intro a hf
  refine oq_v hf (yv_fieldAddr Tryz.fo_51_4 rfl) ?_; clear hf a; intro a hf
  refine oq_v hf (yv_fieldAddr Tryz.fo_35_1 rfl) ?_; clear hf a; intro a hf
  refine oq_v hf (y_ld Tryz.sc_3 rfl) ?_; clear hf a; intro a hf
  refine oq_v hf (yv_fieldAddr Tryz.fo_160_0 rfl) ?_; clear hf a; intro a hf
  refine oq_v hf (y_ld Tryz.sc_98 rfl) ?_; clear hf a; intro a hf
  refine oq_v hf (yv_nilCheck rfl) ?_; clear hf a; intro a hf
  refine oq_v hf (yv_fieldAddr Tryz.fo_103_0 rfl) ?_; clear hf a; intro a hf
  refine oq_v hf (yv_fieldAddr Tryz.fo_51_6 rfl) ?_; clear hf a; intro a hf
  refine oq_v hf (y_ld Tryz.sc_3 rfl) ?_; clear hf a; intro a hf
  refine oq_v hf (y_sub rfl rfl) ?_; clear hf a; intro a hf
  refine oq_v hf (yv_bin rfl rfl rfl) ?_; clear hf a; intro a hf
  refine oq_v hf (yv_assign rfl) ?_; clear hf a; intro a hf
  refine q_end fun w hh => ?_
  refine then_n ?_
  refine sy_ret ?_
  refine ret_r hf rfl rfl ?_
  exact ⟨rfl, hh.ext⟩
theorem c_hfar (c : CaD) (y : Int × Int) (sa : Option Addr) (cp Bc : Nat) (e : Edg) (he : EdB e) (k : Int) (s : Int × Int) (hs : (-8000 ≤ s.1 ∧ s.1 ≤ 8000) ∧ -8000 ≤ s.2 ∧ s.2 ≤ 8000) (u : World) (hC : CarAt u c y sa cp Bc) : Calls Tryz.prog 137 #[.agg #[], .agg (moA Bc e), .int .i64 k, spV s] u (Ret fun v w' => v = .bool (decide (c.eyes.1 + c.prism < apaV c e - s.1)) ∧ Ext [] u w') := by
  refine calls_of Tryz.func137 rfl rfl (fun a hf => ?_)
  have hh := Hp.init u []
  obtain ⟨bm, es, cm, hb, hm, hS⟩ := hC.ex
  have hnt := hC.ok.pr.nt
  have hc := hC.ok
  obtain ⟨e1, e2, e3⟩ := hc.ey; obtain ⟨p1, p2⟩ := hc.pm; obtain ⟨r1, r2⟩ := hc.sq; obtain ⟨f1, f2⟩ := hc.fr; obtain ⟨d1, d2⟩ := hc.de
  obtain ⟨⟨t1, t2⟩, t3, t4⟩ := hs
  have w1 := win_bd hc he
  have w2 := apa_bd hc he
  refine sy_sq ?_
  refine o_box hf hh ?_; clear hf hh a; intro B4 a w hf hh
  refine o_box hf hh ?_; clear hf hh a; intro B5 a w hf hh
  refine o_box hf hh ?_; clear hf hh a; intro B7 a w hf hh
  refine o_v hf hh (yv_assign rfl) ?_; clear hf a; intro a hf
  refine o_end ?_
  refine sy_seq ?_
  refine sy_quiet (C := Hp _ _ _) Tryz.follows (by kernel_rfl) (hh.drawn _) ?_
  refine oq_v hf (y_lds Tryz.ag_160 rfl) ?_; clear hf a; intro a hf
  refine oq_call hf Tryz.en_118 rfl rfl rfl (fun w hh => c_apart c y sa cp Bc e he _ (hC.ext hh.ext)) ?_; clear hf a; intro a hf
  refine oq_v hf (yv_fieldAddr Tryz.fo_151_0 rfl) ?_; clear hf a; intro a hf
  refine oq_v hf (y_ld Tryz.sc_3 rfl) ?_; clear hf a; intro a hf
  refine oq_v hf (y_sub rfl rfl) ?_; clear hf a; intro a hf
  refine oq_v hf (yv_fieldAddr Tryz.fo_160_0 rfl) ?_; clear hf a; intro a hf
  refine oq_v hf (y_ld Tryz.sc_98 rfl) ?_; clear hf a; intro a hf
  refine oq_v hf (yv_nilCheck rfl) ?_; clear hf a; intro a hf
  refine oq_v hf (yv_fieldAddr Tryz.fo_103_0 rfl) ?_; clear hf a; intro a hf
  refine oq_v hf (yv_fieldAddr Tryz.fo_51_4 rfl) ?_; clear hf a; intro a hf
  refine oq_v hf (yv_fieldAddr Tryz.fo_35_0 rfl) ?_; clear hf a; intro a hf
  refine oq_v hf (y_ld Tryz.sc_3 rfl) ?_; clear hf a; intro a hf
  refine oq_v hf (yv_fieldAddr Tryz.fo_160_0 rfl) ?_; clear hf a; intro a hf
  refine oq_v hf (y_ld Tryz.sc_98 rfl) ?_; clear hf a; intro a hf
  refine oq_v hf (yv_nilCheck rfl) ?_; clear hf a; intro a hf
  refine oq_v hf (yv_fieldAddr Tryz.fo_103_0 rfl) ?_; clear hf a; intro a hf
  refine oq_v hf (yv_fieldAddr Tryz.fo_51_5 rfl) ?_; clear hf a; intro a hf
  refine oq_v hf (y_ld Tryz.sc_3 rfl) ?_; clear hf a; intro a hf
  refine oq_v hf (y_add rfl rfl) ?_; clear hf a; intro a hf
  refine oq_v hf (yv_bin rfl rfl rfl) ?_; clear hf a; intro a hf
  refine oq_v hf (yv_assign rfl) ?_; clear hf a; intro a hf
  refine q_end fun w hh => ?_
  refine then_n ?_
  refine sy_ret ?_
  refine ret_r hf rfl rfl ?_
  exact ⟨rfl, hh.ext⟩
theorem c_hfront (c : CaD) (y : Int × Int) (sa : Option Addr) (cp Bc : Nat) (e : Edg) (he : EdB e) (k : Int) (s : Int × Int) (hs : (-8000 ≤ s.1 ∧ s.1 ≤ 8000) ∧ -8000 ≤ s.2 ∧ s.2 ≤ 8000) (u : World) (hC : CarAt u c y sa cp Bc) : Calls Tryz.prog 138 #[.agg #[], .agg (moA Bc e), .int .i64 k, spV s] u (Ret fun v w' => v = .bool (decide (winV c e + c.front < s.2)) ∧ Ext [] u w') := by
  refine calls_of Tryz.func138 rfl rfl (fun a hf => ?_)
  have hh := Hp.init u []
  obtain ⟨bm, es, cm, hb, hm, hS⟩ := hC.ex
  have hnt := hC.ok.pr.nt
  have hc := hC.ok
  obtain ⟨e1, e2, e3⟩ := hc.ey; obtain ⟨p1, p2⟩ := hc.pm; obtain ⟨r1, r2⟩ := hc.sq; obtain ⟨f1, f2⟩ := hc.fr; obtain ⟨d1, d2⟩ := hc.de
  obtain ⟨⟨t1, t2⟩, t3, t4⟩ := hs
  have w1 := win_bd hc he
  have w2 := apa_bd hc he
  refine sy_sq ?_
  refine o_box hf hh ?_; clear hf hh a; intro B4 a w hf hh
  refine o_box hf hh ?_; clear hf hh a; intro B5 a w hf hh
  refine o_box hf hh ?_; clear hf hh a; intro B7 a w hf hh
  refine o_v hf hh (yv_assign rfl) ?_; clear hf a; intro a hf
  refine o_end ?_
  refine sy_seq ?_
  refine sy_quiet (C := Hp _ _ _) Tryz.follows (by kernel_rfl) (hh.drawn _) ?_
  refine oq_v hf (yv_fieldAddr Tryz.fo_151_1 rfl) ?_; clear hf a; intro a hf
  refine oq_v hf (y_ld Tryz.sc_3 rfl) ?_; clear hf a; intro a hf
  refine oq_v hf (y_lds Tryz.ag_160 rfl) ?_; clear hf a; intro a hf
  refine oq_call hf Tryz.en_117 rfl rfl rfl (fun w hh => c_window c y sa cp Bc e he _ (hC.ext hh.ext)) ?_; clear hf a; intro a hf
  refine oq_v hf (yv_fieldAddr Tryz.fo_160_0 rfl) ?_; clear hf a; intro a hf
  refine oq_v hf (y_ld Tryz.sc_98 rfl) ?_; clear hf a; intro a hf
  refine oq_v hf (yv_nilCheck rfl) ?_; clear hf a; intro a hf
  refine oq_v hf (yv_fieldAddr Tryz.fo_103_0 rfl) ?_; clear hf a; intro a hf
  refine oq_v hf (yv_fieldAddr Tryz.fo_51_7 rfl) ?_; clear hf a; intro a hf
  refine oq_v hf (y_ld Tryz.sc_3 rfl) ?_; clear hf a; intro a hf
  refine oq_v hf (y_add rfl rfl) ?_; clear hf a; intro a hf
  refine oq_v hf (yv_bin rfl rfl rfl) ?_; clear hf a; intro a hf
  refine oq_v hf (yv_assign rfl) ?_; clear hf a; intro a hf
  refine q_end fun w hh => ?_
  refine then_n ?_
  refine sy_ret ?_
  refine ret_r hf rfl rfl ?_
  exact ⟨rfl, hh.ext⟩
theorem c_hbehind (c : CaD) (y : Int × Int) (sa : Option Addr) (cp Bc : Nat) (e : Edg) (he : EdB e) (k : Int) (s : Int × Int) (hs : (-8000 ≤ s.1 ∧ s.1 ≤ 8000) ∧ -8000 ≤ s.2 ∧ s.2 ≤ 8000) (u : World) (hC : CarAt u c y sa cp Bc) : Calls Tryz.prog 139 #[.agg #[], .agg (moA Bc e), .int .i64 k, spV s] u (Ret fun v w' => v = .bool (decide (s.1 < winV c e - c.deep)) ∧ Ext [] u w') := by
  refine calls_of Tryz.func139 rfl rfl (fun a hf => ?_)
  have hh := Hp.init u []
  obtain ⟨bm, es, cm, hb, hm, hS⟩ := hC.ex
  have hnt := hC.ok.pr.nt
  have hc := hC.ok
  obtain ⟨e1, e2, e3⟩ := hc.ey; obtain ⟨p1, p2⟩ := hc.pm; obtain ⟨r1, r2⟩ := hc.sq; obtain ⟨f1, f2⟩ := hc.fr; obtain ⟨d1, d2⟩ := hc.de
  obtain ⟨⟨t1, t2⟩, t3, t4⟩ := hs
  have w1 := win_bd hc he
  have w2 := apa_bd hc he
  refine sy_sq ?_
  refine o_box hf hh ?_; clear hf hh a; intro B4 a w hf hh
  refine o_box hf hh ?_; clear hf hh a; intro B5 a w hf hh
  refine o_box hf hh ?_; clear hf hh a; intro B7 a w hf hh
  refine o_v hf hh (yv_assign rfl) ?_; clear hf a; intro a hf
  refine o_end ?_
  refine sy_seq ?_
  refine sy_quiet (C := Hp _ _ _) Tryz.follows (by kernel_rfl) (hh.drawn _) ?_
  refine oq_v hf (yv_fieldAddr Tryz.fo_151_0 rfl) ?_; clear hf a; intro a hf
  refine oq_v hf (y_ld Tryz.sc_3 rfl) ?_; clear hf a; intro a hf
  refine oq_v hf (y_lds Tryz.ag_160 rfl) ?_; clear hf a; intro a hf
  refine oq_call hf Tryz.en_117 rfl rfl rfl (fun w hh => c_window c y sa cp Bc e he _ (hC.ext hh.ext)) ?_; clear hf a; intro a hf
  refine oq_v hf (yv_fieldAddr Tryz.fo_160_0 rfl) ?_; clear hf a; intro a hf
  refine oq_v hf (y_ld Tryz.sc_98 rfl) ?_; clear hf a; intro a hf
  refine oq_v hf (yv_nilCheck rfl) ?_; clear hf a; intro a hf
  refine oq_v hf (yv_fieldAddr Tryz.fo_103_0 rfl) ?_; clear hf a; intro a hf
  refine oq_v hf (yv_fieldAddr Tryz.fo_51_8 rfl) ?_; clear hf a; intro a hf
  refine oq_v hf (y_ld Tryz.sc_3 rfl) ?_; clear hf a; intro a hf
  refine oq_v hf (y_sub rfl rfl) ?_; clear hf a; intro a hf
  refine oq_v hf (yv_bin rfl rfl rfl) ?_; clear hf a; intro a hf
  refine oq_v hf (yv_assign rfl) ?_; clear hf a; intro a hf
  refine q_end fun w hh => ?_
  refine then_n ?_
  refine sy_ret ?_
  refine ret_r hf rfl rfl ?_
  exact ⟨rfl, hh.ext⟩
def edN (e : Edg) (i : Nat) : Int := if i = 0 then e.1 else if i = 1 then e.2.1 else if i = 2 then e.2.2.1 else e.2.2.2
theorem edN_bd {e : Edg} (he : EdB e) (i : Nat) : 0 ≤ edN e i ∧ edN e i ≤ 40 := by
  unfold edN
  split
  · exact he.a
  · split
    · exact he.b
    · split
      · exact he.c
      · exact he.d
theorem edN_at (Bc : Nat) (e : Edg) (i : Nat) (hi : i < 4) : (moA Bc e)[1 + i]? = some (.int .i64 (edN e i)) := by
  match i, hi with
  | 0, _ => rfl
  | 1, _ => rfl
  | 2, _ => rfl
  | 3, _ => rfl
  | n + 4, h => exact absurd h (by omega)
def sdN (t : ThD) (i : Nat) : Int × Int := if i = 0 then t.lx else t.rx
/-- Whether a thing is cut off in one picture. -/
def cutB (c : CaD) (e : Edg) (t : ThD) (i : Nat) : Bool := offB c (edN e (2 * i)) (edN e (2 * i + 1)) (sdN t i)
theorem cut_or (c : CaD) (e : Edg) (t : ThD) : (cutB c e t 0 || cutB c e t 1) = (offB c e.1 e.2.1 t.lx || offB c e.2.2.1 e.2.2.2 t.rx) := rfl
set_option maxRecDepth 100000 in
set_option maxHeartbeats 4000000 in
theorem c_hoff (c : CaD) (y : Int × Int) (sa : Option Addr) (cp Bc : Nat) (e : Edg) (he : EdB e) (k : Nat) (s : Int × Int) (u : World) (hC : CarAt u c y sa cp Bc) (t : ThD) (ht : c.pr.th[k]? = some t) : Calls Tryz.prog 140 #[.agg #[], .agg (moA Bc e), .int .i64 (k : Nat), spV s] u (Ret fun v w' => v = .bool (offB c e.1 e.2.1 t.lx || offB c e.2.2.1 e.2.2.2 t.rx) ∧ Ext [] u w') := by
  refine calls_of Tryz.func140 rfl rfl (fun a hf => ?_)
  have hh := Hp.init u []
  obtain ⟨bm, es, cm, hb, hm, hS⟩ := hC.ex
  have hnt := hC.ok.pr.nt
  have hc := hC.ok
  obtain ⟨s1, s2⟩ := hc.st
  obtain ⟨q1, q2⟩ := hc.ha
  obtain ⟨blk, off, cc, TT, fr, esa, hb2, hcc⟩ := hC.th k t ht
  have hkl := (List.getElem?_eq_some_iff.1 ht).1
  refine sy_sq ?_
  refine o_box hf hh ?_; clear hf hh a; intro B4 a w hf hh
  refine o_box hf hh ?_; clear hf hh a; intro B5 a w hf hh
  refine o_box hf hh ?_; clear hf hh a; intro B7 a w hf hh
  refine o_v hf hh (yv_assign rfl) ?_; clear hf a; intro a hf
  refine o_end ?_
  refine sy_sq ?_
  refine o_v hf hh (yv_fieldAddr Tryz.fo_160_0 rfl) ?_; clear hf a; intro a hf
  refine o_v hf hh (y_ld Tryz.sc_98 rfl) ?_; clear hf a; intro a hf
  refine o_v hf hh (yv_nilCheck rfl) ?_; clear hf a; intro a hf
  refine o_v hf hh (yv_fieldAddr Tryz.fo_103_0 rfl) ?_; clear hf a; intro a hf
  refine o_v hf hh (yv_fieldAddr Tryz.fo_51_0 rfl) ?_; clear hf a; intro a hf
  refine o_v hf hh (yv_fieldAddr Tryz.fo_38_5 rfl) ?_; clear hf a; intro a hf
  refine o_v hf hh (y_ld Tryz.sc_36 rfl) ?_; clear hf a; intro a hf
  refine o_v hf hh (yv_move rfl) ?_; clear hf a; intro a hf
  refine o_v hf hh (y_ix Tryz.se_36 (congrArg (fun z => some (Value.slice z c.pr.th.length cp)) esa) rfl) ?_; clear hf a; intro a hf
  refine o_v hf hh (y_lds Tryz.ag_46 rfl) ?_; clear hf a; intro a hf
  refine o_alloc hf hh Tryz.ze_46 ?_; clear hf hh a; intro B9 a w hf hh
  refine o_store hf hh Tryz.sz_46 fun w hh => ?_
  refine o_end ?_
  refine sy_seq ?_
  refine sy_sq ?_
  refine o_v hf hh (yv_fieldAddr Tryz.fo_46_0 rfl) ?_; clear hf a; intro a hf
  refine o_v hf hh (yv_fieldAddr Tryz.fo_44_0 rfl) ?_; clear hf a; intro a hf
  refine o_v hf hh (y_lds Tryz.ag_35 rfl) ?_; clear hf a; intro a hf
  refine o_v hf hh (yv_fieldAddr Tryz.fo_46_1 rfl) ?_; clear hf a; intro a hf
  refine o_v hf hh (yv_fieldAddr Tryz.fo_44_0 rfl) ?_; clear hf a; intro a hf
  refine o_v hf hh (y_lds Tryz.ag_35 rfl) ?_; clear hf a; intro a hf
  refine ops_buildSl hf hh Tryz.bl_219_2 rfl rfl (.inl rfl) rfl ?_; clear hf hh; clear a; intro B29 a w hf hh
  refine o_v hf hh (yv_len Tryz.se_219 rfl) ?_; clear hf a; intro a hf
  refine o_v hf hh (yv_move rfl) ?_; clear hf a; intro a hf
  refine o_end ?_
  refine sy_block ?_
  refine sy_loopH (σ := Nat) [8, 10, 11, 12, 31, 32, 33, 34, 35, 36, 37, 38, 39, 40, 41, 42, 43, 44, 45, 46, 47, 48, 49, 50, 51, 52, 53, 54, 55, 56, 57, 58, 59, 60, 61, 62, 63, 64, 65, 66, 67, 68, 69, 70, 71, 72, 73, 74, 75, 76, 77, 78, 79, 80, 81, 82, 83, 84, 85, 86, 87, 88] (fun i => [(31, .int .i64 (i : Nat))]) (fun i => fun w' => i ≤ 2 ∧ (∀ j, j < i → cutB c e t j = false) ∧ Hp u [] [(B29, .cells #[.int .i64 t.lx.1, .int .i64 t.lx.2, .int .i64 t.rx.1, .int .i64 t.rx.2] 35), (B9, .cells (thA t) 46), (B5, .cells (moA Bc e) 160)] w') (fun i => 2 - i) (0) hf ?_ ?_ ?_
  · repeat' (first | exact True.intro | refine And.intro rfl ?_)
  · exact ⟨Nat.zero_le _, (fun j h => absurd h (Nat.not_lt_zero _)), hh.pick [0, 1, 3]⟩
  ·rintro i a w ⟨hi, hq, hh⟩ hf
   refine sy_sq ?_
   refine o_v hf hh (yv_bin rfl rfl rfl) ?_; clear hf a; intro a hf
   refine o_end ?_
   refine sy_seq ?_
   refine sy_cond hf rfl (fun hg3 => ?_) (fun hg3 => ?_)
   ·have hG3 := hg3; try simp only [gS] at hG3
    refine sy_skip ?_
    refine then_n ?_
    refine sy_seq ?_
    refine sy_block ?_
    refine sy_seq ?_
    have hi2 : i < 2 := by omega
    have hsd : cellsAt #[Value.int .i64 t.lx.1, .int .i64 t.lx.2, .int .i64 t.rx.1, .int .i64 t.rx.2] (0 + ((i : Nat) : Int).toNat * 2) 2 = some [.int .i64 (sdN t i).1, .int .i64 (sdN t i).2] := by
      match i, hi2 with
      | 0, _ => rfl
      | 1, _ => rfl
      | n + 2, h => exact absurd h (by omega)
    have m1 := mul_bdS (a := c.step) (b := edN e (2 * i)) ⟨by omega, by omega⟩ (by have := edN_bd he (2 * i); omega)
    have m2 := mul_bdS (a := c.step) (b := edN e (2 * i + 1)) ⟨by omega, by omega⟩ (by have := edN_bd he (2 * i + 1); omega)
    have n1 : (moA Bc e)[1 + (((2 * i : Nat) : Int).toNat * 1)]? = some (.int .i64 (edN e (2 * i))) := by rw [Int.toNat_natCast, Nat.mul_one]; exact edN_at Bc e (2 * i) (by omega)
    have n2 : (moA Bc e)[1 + (((2 * i + 1 : Nat) : Int).toNat * 1)]? = some (.int .i64 (edN e (2 * i + 1))) := by rw [Int.toNat_natCast, Nat.mul_one]; exact edN_at Bc e (2 * i + 1) (by omega)
    refine sy_ops ?_
    refine o_v hf hh (yv_move rfl) ?_; clear hf a; intro a hf
    refine o_v hf hh (y_ix Tryz.se_219 rfl rfl) ?_; clear hf a; intro a hf
    refine o_v hf hh (y_lds Tryz.ag_35 rfl) ?_; clear hf a; intro a hf
    refine o_alloc hf hh Tryz.ze_35 ?_; clear hf hh a; intro B11 a w hf hh
    refine o_v hf hh (yv_assign rfl) ?_; clear hf a; intro a hf
    refine o_store hf hh Tryz.sz_35 fun w hh => ?_
    refine o_end ?_
    refine sy_seq ?_
    replace hh : Hp u [] [(B11, .cells #[.int .i64 (sdN t i).1, .int .i64 (sdN t i).2] 35), (B29, .cells #[.int .i64 t.lx.1, .int .i64 t.lx.2, .int .i64 t.rx.1, .int .i64 t.rx.2] 35), (B9, .cells (thA t) 46), (B5, .cells (moA Bc e) 160)] w := hh
    refine sy_treeC (.p 0 (.q 0 1 (.p 2 (.p 3 (.p 4 (.q 0 5 (.p 6 (.p 7 (.p 8 (.p 9 (.q 0 10 (.p 11 (.p 12 (.q 0 13 (.p 14 (.p 15 (.p 16 (.q 0 17 (.p 18 (.p 19 (.q 0 20 (.p 21 (.p 22 (.p 23 (.q 0 24 (.p 25 (.q 0 26 (.p 27 (.p 28 (.p 29 (.q 0 30 (.p 31 (.p 32 (.p 33 (.p 34 (.p 35 (.q 0 36 (.p 37 (.p 38 (.p 39 (.e1 40 (.e1 41 (.fin))))))))))))))))))))))))))))))))))))))))))) [[]] [(AtE u [] [(B5, .cells (moA Bc e) 160)], [])] Tryz.follows (by kernel_rfl) rfl hh (fun w hh => ?_)
    refine mc_p rfl   hf (yv_fieldAddr Tryz.fo_160_0 rfl) (.inl rfl) rfl rfl ?_; clear hf a; intro a hf
    refine mc_q rfl rfl (AtE.of hh (by intro q hq; rw [List.mem_singleton.1 hq]; simp)) hf (y_ld Tryz.sc_98 rfl) (.inl rfl) rfl rfl ?_; clear hf a; intro a hf
    refine mc_p rfl   hf (yv_nilCheck rfl) (.inl rfl) rfl rfl ?_; clear hf a; intro a hf
    refine mc_p rfl   hf (yv_fieldAddr Tryz.fo_103_0 rfl) (.inl rfl) rfl rfl ?_; clear hf a; intro a hf
    refine mc_p rfl   hf (yv_fieldAddr Tryz.fo_51_2 rfl) (.inl rfl) rfl rfl ?_; clear hf a; intro a hf
    refine mc_q rfl rfl (AtE.of hh (by intro q hq; rw [List.mem_singleton.1 hq]; simp)) hf (y_ld Tryz.sc_3 rfl) (.inl rfl) rfl rfl ?_; clear hf a; intro a hf
    refine mc_p rfl   hf (yv_move rfl) (.inl rfl) rfl rfl ?_; clear hf a; intro a hf
    refine mc_p rfl   hf (yv_cast (y_mul rfl rfl (by omega) (by omega)) (intv (b := ((2 * i : Nat) : Int)) (by omega))) (.inl rfl) rfl rfl ?_; clear hf a; intro a hf
    refine mc_p rfl   hf (yv_fieldAddr Tryz.fo_160_1 rfl) (.inl rfl) rfl rfl ?_; clear hf a; intro a hf
    refine mc_p rfl   hf (y_ia Tryz.ae_105 rfl rfl) (.inl rfl) rfl rfl ?_; clear hf a; intro a hf
    refine mc_q rfl rfl (AtE.of hh (by intro q hq; rw [List.mem_singleton.1 hq]; simp)) hf (y_ld Tryz.sc_3 rfl) (.inl rfl) rfl rfl ?_; clear hf a; intro a hf
    refine mc_p rfl   hf (y_mul rfl rfl (Int.le_trans (by decide) m1.1) (Int.le_trans m1.2 (by decide))) (.inl rfl) rfl rfl ?_; clear hf a; intro a hf
    refine mc_p rfl   hf (yv_fieldAddr Tryz.fo_160_0 rfl) (.inl rfl) rfl rfl ?_; clear hf a; intro a hf
    refine mc_q rfl rfl (AtE.of hh (by intro q hq; rw [List.mem_singleton.1 hq]; simp)) hf (y_ld Tryz.sc_98 rfl) (.inl rfl) rfl rfl ?_; clear hf a; intro a hf
    refine mc_p rfl   hf (yv_nilCheck rfl) (.inl rfl) rfl rfl ?_; clear hf a; intro a hf
    refine mc_p rfl   hf (yv_fieldAddr Tryz.fo_103_0 rfl) (.inl rfl) rfl rfl ?_; clear hf a; intro a hf
    refine mc_p rfl   hf (yv_fieldAddr Tryz.fo_51_1 rfl) (.inl rfl) rfl rfl ?_; clear hf a; intro a hf
    refine mc_q rfl rfl (AtE.of hh (by intro q hq; rw [List.mem_singleton.1 hq]; simp)) hf (y_ld Tryz.sc_3 rfl) (.inl rfl) rfl rfl ?_; clear hf a; intro a hf
    refine mc_p rfl   hf (y_sub rfl rfl) (.inl rfl) rfl rfl ?_; clear hf a; intro a hf
    refine mc_p rfl   hf (yv_fieldAddr Tryz.fo_160_0 rfl) (.inl rfl) rfl rfl ?_; clear hf a; intro a hf
    refine mc_q rfl rfl (AtE.of hh (by intro q hq; rw [List.mem_singleton.1 hq]; simp)) hf (y_ld Tryz.sc_98 rfl) (.inl rfl) rfl rfl ?_; clear hf a; intro a hf
    refine mc_p rfl   hf (yv_nilCheck rfl) (.inl rfl) rfl rfl ?_; clear hf a; intro a hf
    refine mc_p rfl   hf (yv_fieldAddr Tryz.fo_103_0 rfl) (.inl rfl) rfl rfl ?_; clear hf a; intro a hf
    refine mc_p rfl   hf (yv_fieldAddr Tryz.fo_51_1 rfl) (.inl rfl) rfl rfl ?_; clear hf a; intro a hf
    refine mc_q rfl rfl (AtE.of hh (by intro q hq; rw [List.mem_singleton.1 hq]; simp)) hf (y_ld Tryz.sc_3 rfl) (.inl rfl) rfl rfl ?_; clear hf a; intro a hf
    refine mc_p rfl   hf (yv_fieldAddr Tryz.fo_160_0 rfl) (.inl rfl) rfl rfl ?_; clear hf a; intro a hf
    refine mc_q rfl rfl (AtE.of hh (by intro q hq; rw [List.mem_singleton.1 hq]; simp)) hf (y_ld Tryz.sc_98 rfl) (.inl rfl) rfl rfl ?_; clear hf a; intro a hf
    refine mc_p rfl   hf (yv_nilCheck rfl) (.inl rfl) rfl rfl ?_; clear hf a; intro a hf
    refine mc_p rfl   hf (yv_fieldAddr Tryz.fo_103_0 rfl) (.inl rfl) rfl rfl ?_; clear hf a; intro a hf
    refine mc_p rfl   hf (yv_fieldAddr Tryz.fo_51_2 rfl) (.inl rfl) rfl rfl ?_; clear hf a; intro a hf
    refine mc_q rfl rfl (AtE.of hh (by intro q hq; rw [List.mem_singleton.1 hq]; simp)) hf (y_ld Tryz.sc_3 rfl) (.inl rfl) rfl rfl ?_; clear hf a; intro a hf
    refine mc_p rfl   hf (yv_move rfl) (.inl rfl) rfl rfl ?_; clear hf a; intro a hf
    refine mc_p rfl   hf (yv_cast (y_mul rfl rfl (by omega) (by omega)) (intv (b := ((2 * i : Nat) : Int)) (by omega))) (.inl rfl) rfl rfl ?_; clear hf a; intro a hf
    refine mc_p rfl   hf (yv_cast (y_add rfl rfl (by omega) (by omega)) (intv (b := ((2 * i + 1 : Nat) : Int)) (by omega))) (.inl rfl) rfl rfl ?_; clear hf a; intro a hf
    refine mc_p rfl   hf (yv_fieldAddr Tryz.fo_160_1 rfl) (.inl rfl) rfl rfl ?_; clear hf a; intro a hf
    refine mc_p rfl   hf (y_ia Tryz.ae_105 rfl rfl) (.inl rfl) rfl rfl ?_; clear hf a; intro a hf
    refine mc_q rfl rfl (AtE.of hh (by intro q hq; rw [List.mem_singleton.1 hq]; simp)) hf (y_ld Tryz.sc_3 rfl) (.inl rfl) rfl rfl ?_; clear hf a; intro a hf
    refine mc_p rfl   hf (y_mul rfl rfl (Int.le_trans (by decide) m2.1) (Int.le_trans m2.2 (by decide))) (.inl rfl) rfl rfl ?_; clear hf a; intro a hf
    refine mc_p rfl   hf (y_sub rfl rfl) (.inl rfl) rfl rfl ?_; clear hf a; intro a hf
    refine mc_p rfl   hf (yv_buildS Tryz.bs_151 rfl rfl) (.inl rfl) rfl rfl ?_; clear hf a; intro a hf
    refine mc_e rfl fun Q1 => ?_
    refine o_alloc hf hh Tryz.ze_151 ?_; clear hf hh a; intro B12 a w hf hh
    refine ops_end ?_
    refine then_n ⟨⟨fun _ _ => (AtE.of hh (by intro q hq; rw [List.mem_singleton.1 hq]; simp)), trivial⟩, ?_⟩
    refine mc_e rfl fun Q1 => ?_
    refine o_store hf hh Tryz.sz_151 fun w hh => ?_
    refine ops_end ?_
    refine then_n ⟨⟨fun _ _ => (AtE.of hh (by intro q hq; rw [List.mem_singleton.1 hq]; simp)), trivial⟩, ?_⟩
    refine mc_end ?_
    refine then_n ?_
    refine sy_seq ?_
    replace hh : Hp u [] [(B12, .cells #[.int .i64 (c.step * edN e (2 * i) - c.half), .int .i64 (c.half - c.step * edN e (2 * i + 1))] 151), (B11, .cells #[.int .i64 (sdN t i).1, .int .i64 (sdN t i).2] 35), (B29, .cells #[.int .i64 t.lx.1, .int .i64 t.lx.2, .int .i64 t.rx.1, .int .i64 t.rx.2] 35), (B9, .cells (thA t) 46), (B5, .cells (moA Bc e) 160)] w := hh
    refine sy_ops ?_
    refine o_v hf hh (yv_fieldAddr Tryz.fo_35_0 rfl) ?_; clear hf a; intro a hf
    refine o_v hf hh (y_ld Tryz.sc_3 rfl) ?_; clear hf a; intro a hf
    refine o_v hf hh (yv_fieldAddr Tryz.fo_151_0 rfl) ?_; clear hf a; intro a hf
    refine o_v hf hh (y_ld Tryz.sc_3 rfl) ?_; clear hf a; intro a hf
    refine o_v hf hh (yv_bin rfl rfl rfl) ?_; clear hf a; intro a hf
    refine o_v hf hh (yv_move rfl) ?_; clear hf a; intro a hf
    refine guard_split hf (t := 81) rfl (fun hg10 => ?_) (fun hg10 => ?_)
    ·have hG10 := hg10; try simp only [gS] at hG10
     refine o_off hf ?_; clear hf a; intro a hf
     refine o_off hf ?_; clear hf a; intro a hf
     refine o_off hf ?_; clear hf a; intro a hf
     refine o_off hf ?_; clear hf a; intro a hf
     refine o_off hf ?_; clear hf a; intro a hf
     refine o_v hf hh (y_pt rfl rfl) ?_; clear hf a; intro a hf
     refine o_end ?_
     refine c_t hf ?_
     refine sy_seq ?_
     have hct : cutB c e t i = true := by
       unfold cutB offB
       rw [Bool.or_eq_true, decide_eq_true_eq, decide_eq_true_eq]
       omega
     refine sy_ops ?_
     refine o_v hf hh (yv_assign rfl) ?_; clear hf a; intro a hf
     refine o_end ?_
     refine sy_ret ?_
     refine blk_r ?_
     refine then_r ?_
     refine then_r ?_
     refine blk_r ?_
     refine then_r ?_
     refine ret_r hf rfl rfl ?_
     refine ⟨congrArg Value.bool ?_, hh.ext⟩
     rw [← cut_or]
     rcases (show i = 0 ∨ i = 1 by omega) with h | h
     · rw [h] at hct; rw [hct]; rfl
     · rw [h] at hct; rw [hct, Bool.or_true]
    ·have hG10 := hg10; try simp only [gS] at hG10
     refine o_v hf hh (yv_fieldAddr Tryz.fo_35_1 rfl) ?_; clear hf a; intro a hf
     refine o_v hf hh (y_ld Tryz.sc_3 rfl) ?_; clear hf a; intro a hf
     refine o_v hf hh (yv_fieldAddr Tryz.fo_151_1 rfl) ?_; clear hf a; intro a hf
     refine o_v hf hh (y_ld Tryz.sc_3 rfl) ?_; clear hf a; intro a hf
     refine o_v hf hh (yv_bin rfl rfl rfl) ?_; clear hf a; intro a hf
     refine o_v hf hh (y_pf rfl rfl) ?_; clear hf a; intro a hf
     refine o_end ?_
     refine sy_cond hf rfl (fun hg12 => ?_) (fun hg12 => ?_)
     ·have hG12 := hg12; try simp only [gS] at hG12
      refine sy_seq ?_
      have hct : cutB c e t i = true := by
        unfold cutB offB
        rw [Bool.or_eq_true, decide_eq_true_eq, decide_eq_true_eq]
        omega
      refine sy_ops ?_
      refine o_v hf hh (yv_assign rfl) ?_; clear hf a; intro a hf
      refine o_end ?_
      refine sy_ret ?_
      refine blk_r ?_
      refine then_r ?_
      refine then_r ?_
      refine blk_r ?_
      refine then_r ?_
      refine ret_r hf rfl rfl ?_
      refine ⟨congrArg Value.bool ?_, hh.ext⟩
      rw [← cut_or]
      rcases (show i = 0 ∨ i = 1 by omega) with h | h
      · rw [h] at hct; rw [hct]; rfl
      · rw [h] at hct; rw [hct, Bool.or_true]
     ·have hG12 := hg12; try simp only [gS] at hG12
      refine sy_skip ?_
      refine blk_n ?_
      refine then_n ?_
      have hcf : cutB c e t i = false := by
        unfold cutB offB
        rw [Bool.or_eq_false_iff, decide_eq_false_iff_not, decide_eq_false_iff_not]
        omega
      refine sy_ops ?_
      refine o_v hf hh (y_add rfl rfl) ?_; clear hf a; intro a hf
      refine o_v hf hh (yv_move rfl) ?_; clear hf a; intro a hf
      refine ops_end ?_
      refine then_n ?_
      exact ⟨i + 1, ⟨⟨by omega, fun j hj => by
        rcases Nat.lt_succ_iff_lt_or_eq.1 hj with h | h
        · exact hq j h
        · rw [h]; exact hcf, hh.less (.cons _ (.cons _ (.refl _)))⟩, (hf.head (by repeat' (first | exact True.intro | refine And.intro rfl ?_)) (Keep.cons rfl (Keep.cons rfl (Keep.cons rfl (Keep.cons rfl (Keep.cons rfl (Keep.cons rfl (Keep.cons rfl (Keep.cons rfl (Keep.cons rfl (Keep.cons rfl (Keep.cons rfl (Keep.cons rfl (Keep.cons rfl (Keep.cons rfl (Keep.cons rfl (Keep.cons rfl (Keep.cons rfl (Keep.cons rfl (Keep.cons rfl (Keep.cons rfl (Keep.cons rfl (Keep.cons rfl (Keep.cons rfl (Keep.cons rfl (Keep.cons rfl (Keep.cons rfl (Keep.cons rfl (Keep.cons rfl (Keep.cons rfl (Keep.cons rfl (Keep.cons rfl (Keep.cons rfl (Keep.cons rfl (Keep.cons rfl (Keep.cons rfl (Keep.cons rfl (Keep.cons rfl (Keep.cons rfl (Keep.cons rfl (Keep.cons rfl (Keep.cons rfl (Keep.cons rfl (Keep.cons rfl (Keep.cons rfl (Keep.cons rfl (Keep.cons rfl (Keep.cons rfl (Keep.cons rfl (Keep.cons rfl (Keep.cons rfl (Keep.cons rfl (Keep.cons rfl (Keep.cons rfl (Keep.cons rfl (Keep.cons rfl (Keep.cons rfl (Keep.cons rfl (Keep.cons rfl (Keep.cons rfl (Keep.cons rfl (Keep.cons rfl (Keep.app rfl (Keep.rm rfl Keep.base))))))))))))))))))))))))))))))))))))))))))))))))))))))))))))))))⟩, by omega⟩
   ·have hG3 := hg3; try simp only [gS] at hG3
    refine sy_exit ?_
    refine then_e ?_
    refine then_e ?_
    refine blk_e ?_
    refine then_n ?_
    refine sy_sq ?_
    refine o_v hf hh (yv_assign rfl) ?_; clear hf a; intro a hf
    refine o_end ?_
    refine sy_ret ?_
    refine ret_r hf rfl rfl ?_
    refine ⟨congrArg Value.bool ?_, hh.ext⟩
    rw [← cut_or, hq 0 (by omega), hq 1 (by omega)]; rfl
end Go.Proofs.YtccpgpnekoncoaaGreatDoor

namespace Go.Proofs.YtccpgpnekoncoaaGreatDoor
open Go Go.Sy Go.PaiM
def hurB (c : CaD) (e : Edg) (t : ThD) : Nat → Bool
  | 0 => decide (apaV c e - (shf t).2 < c.eyes.2 - c.squeeze)
  | 1 => decide (c.eyes.1 + c.prism < apaV c e - (shf t).1)
  | 2 => decide (winV c e + c.front < (shf t).2)
  | 3 => decide ((shf t).1 < winV c e - c.deep)
  | _ => offB c e.1 e.2.1 t.lx || offB c e.2.2.1 e.2.2.2 t.rx
theorem hurN_at {c : CaD} {e : Edg} {t : ThD} {i : Nat} (hi : i < 5) (hq : ∀ j, j < i → hurB c e t j = false) (h : hurB c e t i = true) : hurN c e t = i + 1 := by
  unfold hurN
  match i, hi with
  | 0, _ => rw [if_pos (of_decide_eq_true h)]
  | 1, _ => rw [if_neg (of_decide_eq_false (hq 0 (by omega))), if_pos (of_decide_eq_true h)]
  | 2, _ => rw [if_neg (of_decide_eq_false (hq 0 (by omega))), if_neg (of_decide_eq_false (hq 1 (by omega))), if_pos (of_decide_eq_true h)]
  | 3, _ => rw [if_neg (of_decide_eq_false (hq 0 (by omega))), if_neg (of_decide_eq_false (hq 1 (by omega))), if_neg (of_decide_eq_false (hq 2 (by omega))), if_pos (of_decide_eq_true h)]
  | 4, _ => rw [if_neg (of_decide_eq_false (hq 0 (by omega))), if_neg (of_decide_eq_false (hq 1 (by omega))), if_neg (of_decide_eq_false (hq 2 (by omega))), if_neg (of_decide_eq_false (hq 3 (by omega))), if_pos (show (offB c e.1 e.2.1 t.lx || offB c e.2.2.1 e.2.2.2 t.rx) = true from h)]
  | n + 5, h9 => exact absurd h9 (by omega)
theorem hurN_no {c : CaD} {e : Edg} {t : ThD} (hq : ∀ j, j < 5 → hurB c e t j = false) : hurN c e t = 0 := by
  unfold hurN
  rw [if_neg (of_decide_eq_false (hq 0 (by omega))), if_neg (of_decide_eq_false (hq 1 (by omega))), if_neg (of_decide_eq_false (hq 2 (by omega))), if_neg (of_decide_eq_false (hq 3 (by omega))), if_neg (show ¬ (offB c e.1 e.2.1 t.lx || offB c e.2.2.1 e.2.2.2 t.rx) = true from Bool.eq_false_iff.1 (hq 4 (by omega)))]
theorem seV_at {c : CaD} {y : Int × Int} {k : Nat} {t : ThD} (ht : c.pr.th[k]? = some t) (hs : seeB c y k = true) : seV c y k = shf t := by
  unfold seV
  rw [if_pos hs, ht]
def hurP (c : CaD) (y : Int × Int) (e : Edg) : Int × Int := match hurO c y e with
  | none => (0, 0)
  | some i => (((i : Nat) : Int), ((hurI c e i : Nat) : Int))
theorem hurP_no {c : CaD} {y : Int × Int} {e : Edg} (h : ∀ n ∈ seeL c y, hurI c e n = 0) : hurP c y e = (0, 0) := by
  have h1 : hurO c y e = none := by
    unfold hurO
    rw [List.find?_eq_none]
    intro n hn
    rw [h n hn]; decide
  unfold hurP; rw [h1]
theorem hurP_at {c : CaD} {y : Int × Int} {e : Edg} {i n : Nat} (h : ∀ n ∈ (seeL c y).take i, hurI c e n = 0) (hn : (seeL c y)[i]? = some n) (h0 : hurI c e n ≠ 0) : hurP c y e = (((n : Nat) : Int), ((hurI c e n : Nat) : Int)) := by
  have h1 : hurO c y e = some n := by
    unfold hurO
    obtain ⟨hi, hv⟩ := List.getElem?_eq_some_iff.1 hn
    rw [← List.take_append_drop i (seeL c y), List.find?_append, List.find?_eq_none.2 (fun x hx => by rw [h x hx]; decide), List.drop_eq_getElem_cons hi, hv, Option.none_or, List.find?_cons, decide_eq_true h0]
  unfold hurP; rw [h1]
theorem hurI_at {c : CaD} {e : Edg} {n : Nat} {t : ThD} (ht : c.pr.th[n]? = some t) : hurI c e n = hurN c e t := by unfold hurI; rw [ht]
theorem take_allI {α : Type} {P : α → Prop} {l : List α} {i : Nat} {x : α} (h : ∀ y ∈ l.take i, P y) (hx : l[i]? = some x) (hp : P x) : ∀ y ∈ l.take (i + 1), P y := fun y hy => by
  rw [List.take_add_one, hx, List.mem_append] at hy
  rcases hy with hy | hy
  · exact h y hy
  · have e : y = x := by simpa using hy
    rw [e]; exact hp
theorem hur_at (c : CaD) (y : Int × Int) (sa : Option Addr) (cp Bc : Nat) (e : Edg) (he : EdB e) (k : Nat) (t : ThD) (ht : c.pr.th[k]? = some t) (u : World) (hC : CarAt u c y sa cp Bc) (i : Nat) (hi : i < 5) : ∃ (tt ff : Nat), #[.iface 193 (.agg #[]), .iface 194 (.agg #[]), .iface 195 (.agg #[]), .iface 196 (.agg #[]), .iface 197 (.agg #[])][i]? = some (Value.iface tt (.agg #[])) ∧ methS Tryz.prog tt "pairworks/mount.hurts" = some ff ∧ Enters Tryz.prog ff ∧ ∀ w, Ext [] u w → Calls Tryz.prog ff #[.agg #[], .agg (moA Bc e), .int .i64 (k : Nat), spV (shf t)] w (Ret fun v w' => v = .bool (hurB c e t i) ∧ Ext [] w w') := by
  have hO := hC.ok.pr.th t (List.mem_of_getElem? ht)
  have hs := shf_bd hO
  match i, hi with
  | 0, _ => exact ⟨193, 136, rfl, by kernel_rfl, Tryz.en_136, fun w h => c_hnear c y sa cp Bc e he (k : Nat) (shf t) hs w (hC.ext h)⟩
  | 1, _ => exact ⟨194, 137, rfl, by kernel_rfl, Tryz.en_137, fun w h => c_hfar c y sa cp Bc e he (k : Nat) (shf t) hs w (hC.ext h)⟩
  | 2, _ => exact ⟨195, 138, rfl, by kernel_rfl, Tryz.en_138, fun w h => c_hfront c y sa cp Bc e he (k : Nat) (shf t) hs w (hC.ext h)⟩
  | 3, _ => exact ⟨196, 139, rfl, by kernel_rfl, Tryz.en_139, fun w h => c_hbehind c y sa cp Bc e he (k : Nat) (shf t) hs w (hC.ext h)⟩
  | 4, _ => exact ⟨197, 140, rfl, by kernel_rfl, Tryz.en_140, fun w h => c_hoff c y sa cp Bc e he k (shf t) w (hC.ext h) t ht⟩
  | n + 5, h => exact absurd h (by omega)
set_option maxRecDepth 100000 in
set_option maxHeartbeats 4000000 in
theorem c_mwhy (c : CaD) (y : Int × Int) (sa : Option Addr) (cp Bc : Nat) (e : Edg) (he : EdB e) (k : Nat) (t : ThD) (ht : c.pr.th[k]? = some t) (u : World) (hC : CarAt u c y sa cp Bc) (hse : seeB c y k = true) : Calls Tryz.prog 109 #[.agg (moA Bc e), .int .i64 (k : Nat)] u (Ret fun v w' => v = .int .i64 ((hurN c e t : Nat) : Int) ∧ Ext [] u w') := by
  refine calls_of Tryz.func109 rfl rfl (fun a hf => ?_)
  have hh := Hp.init u []
  obtain ⟨bm, es, cm, hb, hm, hS⟩ := hC.ex
  have hnt := hC.ok.pr.nt
  have hkl := (List.getElem?_eq_some_iff.1 ht).1
  refine sy_sq ?_
  refine o_box hf hh ?_; clear hf hh a; intro B2 a w hf hh
  refine o_v hf hh (yv_assign rfl) ?_; clear hf a; intro a hf
  refine o_end ?_
  refine sy_sq ?_
  refine o_v hf hh (yv_buildS Tryz.bs_193 rfl rfl) ?_; clear hf a; intro a hf
  refine o_v hf hh (yv_makeIface (by kernel_rfl) rfl) ?_; clear hf a; intro a hf
  refine o_v hf hh (yv_buildS Tryz.bs_194 rfl rfl) ?_; clear hf a; intro a hf
  refine o_v hf hh (yv_makeIface (by kernel_rfl) rfl) ?_; clear hf a; intro a hf
  refine o_v hf hh (yv_buildS Tryz.bs_195 rfl rfl) ?_; clear hf a; intro a hf
  refine o_v hf hh (yv_makeIface (by kernel_rfl) rfl) ?_; clear hf a; intro a hf
  refine o_v hf hh (yv_buildS Tryz.bs_196 rfl rfl) ?_; clear hf a; intro a hf
  refine o_v hf hh (yv_makeIface (by kernel_rfl) rfl) ?_; clear hf a; intro a hf
  refine o_v hf hh (yv_buildS Tryz.bs_197 rfl rfl) ?_; clear hf a; intro a hf
  refine o_v hf hh (yv_makeIface (by kernel_rfl) rfl) ?_; clear hf a; intro a hf
  refine o_v hf hh (yv_buildA Tryz.ba_200 rfl rfl) ?_; clear hf a; intro a hf
  refine o_alloc hf hh Tryz.ze_200 ?_; clear hf hh a; intro B5 a w hf hh
  refine o_store hf hh Tryz.sz_200 fun w hh => ?_
  refine o_end ?_
  refine sy_seq ?_
  refine sy_sq ?_
  refine o_v hf hh (y_lds Tryz.ag_200 rfl) ?_; clear hf a; intro a hf
  refine o_v hf hh (yv_move rfl) ?_; clear hf a; intro a hf
  refine o_end ?_
  refine sy_block ?_
  refine sy_loopH (σ := Nat) [4, 6, 7, 20, 21, 22, 23, 24, 25, 26, 27, 28, 29, 30, 31, 32, 33, 34, 35, 36, 37, 38, 39, 40] (fun i => [(20, .int .i64 (i : Nat))]) (fun i => fun w' => i ≤ 5 ∧ (∀ j, j < i → hurB c e t j = false) ∧ Hp u [] [(B2, .cells (moA Bc e) 160)] w') (fun i => 5 - i) (0) hf ?_ ?_ ?_
  · repeat' (first | exact True.intro | refine And.intro rfl ?_)
  · exact ⟨Nat.zero_le _, (fun j h => absurd h (Nat.not_lt_zero _)), hh.pick [1]⟩
  ·rintro i a w ⟨hi, hq, hh⟩ hf
   refine sy_seq ?_
   have hh := hh
   refine sy_ops ?_
   refine o_v hf hh (yv_bin rfl rfl rfl) ?_; clear hf a; intro a hf
   refine o_end ?_
   refine sy_seq ?_
   refine sy_cond hf rfl (fun hg2 => ?_) (fun hg2 => ?_)
   ·have hG2 := hg2; try simp only [gS] at hG2
    refine sy_skip ?_
    refine then_n ?_
    refine sy_seq ?_
    refine sy_block ?_
    refine sy_seq ?_
    obtain ⟨tt, ff, hfi, hmt, hE, hcall⟩ := hur_at c y sa cp Bc e he k t ht u hC i (by omega)
    have hfi2 : (#[.iface 193 (.agg #[]), .iface 194 (.agg #[]), .iface 195 (.agg #[]), .iface 196 (.agg #[]), .iface 197 (.agg #[])] : Array Value)[((i : Nat) : Int).toNat * 1]? = some (Value.iface tt (.agg #[])) := by rw [Int.toNat_natCast, Nat.mul_one]; exact hfi
    refine sy_ops ?_
    refine o_v hf hh (yv_move rfl) ?_; clear hf a; intro a hf
    refine o_v hf hh (yv_idxS Tryz.ae_200 Tryz.sc_199 rfl rfl hfi2) ?_; clear hf a; intro a hf
    refine o_v hf hh (yv_assign rfl) ?_; clear hf a; intro a hf
    refine o_v hf hh (yv_assign rfl) ?_; clear hf a; intro a hf
    refine o_end ?_
    refine sy_seq ?_
    refine sy_treeC (.p 0 (.q 0 1 (.p 2 (.p 3 (.q 0 4 (.p 5 (.p 6 (.q 0 7 (.p 8 (.q 0 9 (.p 10 (.p 11 (.p 12 (.e1 13 (.fin))))))))))))))) [[]] [(AtE u [] [(B2, .cells (moA Bc e) 160)], [])] Tryz.follows (by kernel_rfl) rfl hh (fun w hh => ?_)
    refine mc_p rfl   hf (yv_move rfl) (.inl rfl) rfl rfl ?_; clear hf a; intro a hf
    refine mc_q rfl rfl (AtE.of hh (by intro q hq; rw [List.mem_singleton.1 hq]; simp)) hf (y_lds Tryz.ag_160 rfl) (.inl rfl) rfl rfl ?_; clear hf a; intro a hf
    refine mc_p rfl   hf (yv_move rfl) (.inl rfl) rfl rfl ?_; clear hf a; intro a hf
    refine mc_p rfl   hf (yv_fieldAddr Tryz.fo_160_0 rfl) (.inl rfl) rfl rfl ?_; clear hf a; intro a hf
    refine mc_q rfl rfl (AtE.of hh (by intro q hq; rw [List.mem_singleton.1 hq]; simp)) hf (y_ld Tryz.sc_98 rfl) (.inl rfl) rfl rfl ?_; clear hf a; intro a hf
    refine mc_p rfl   hf (yv_nilCheck rfl) (.inl rfl) rfl rfl ?_; clear hf a; intro a hf
    refine mc_p rfl   hf (yv_fieldAddr Tryz.fo_103_1 rfl) (.inl rfl) rfl rfl ?_; clear hf a; intro a hf
    refine mc_q rfl rfl (AtE.of hh (by intro q hq; rw [List.mem_singleton.1 hq]; simp)) hf (y_ld Tryz.sc_101 rfl) (.inl rfl) rfl rfl ?_; clear hf a; intro a hf
    refine mc_p rfl   hf (yv_move rfl) (.inl rfl) rfl rfl ?_; clear hf a; intro a hf
    refine mc_q rfl rfl (AtE.of hh (by intro q hq; rw [List.mem_singleton.1 hq]; simp)) hf (yv_cast (v' := spV (shf t)) (yv_getI Tryz.mt_101 Tryz.ze_151 rfl rfl (fun w h => h.old hm) hS.mapI) (by rw [(get_see hkl).1, seV_at ht hse])) (.inl rfl) rfl rfl ?_; clear hf a; intro a hf
    refine mc_p rfl   hf (yv_makeFunc rfl rfl) (.inl rfl) rfl rfl ?_; clear hf a; intro a hf
    refine mc_p rfl   hf (yv_nilMeth hmt rfl) (.inl rfl) rfl rfl ?_; clear hf a; intro a hf
    refine mc_p rfl   hf (yv_move rfl) (.inl rfl) rfl rfl ?_; clear hf a; intro a hf
    refine mc_e rfl fun Q1 => ?_
    refine o_invokeS hf hmt hE rfl rfl rfl (hcall w hh.ext) ?_; clear hf a; intro v a w hR hf
    obtain ⟨rfl, hx⟩ := hR; replace hh := hh.more hx; clear hx
    refine ops_end ?_
    refine then_n ⟨⟨fun _ _ => (AtE.of hh (by intro q hq; rw [List.mem_singleton.1 hq]; simp)), trivial⟩, ?_⟩
    refine mc_end ?_
    refine then_n ?_
    refine sy_cond hf rfl (fun hg7 => ?_) (fun hg7 => ?_)
    ·have hG7 := hg7; try simp only [gS] at hG7
     refine sy_sq ?_
     refine o_v hf hh (yv_move rfl) ?_; clear hf a; intro a hf
     refine o_v hf hh (y_add rfl rfl) ?_; clear hf a; intro a hf
     refine o_v hf hh (yv_assign rfl) ?_; clear hf a; intro a hf
     refine o_end ?_
     refine sy_ret ?_
     refine blk_r ?_
     refine then_r ?_
     refine then_r ?_
     refine blk_r ?_
     refine then_r ?_
     refine ret_r hf rfl rfl ?_
     have hbt : hurB c e t i = true := by simp_all
     rw [hurN_at (by omega) hq hbt]
     exact ⟨by rw [Int.natCast_add]; rfl, hh.ext⟩
    ·have hG7 := hg7; try simp only [gS] at hG7
     refine sy_skip ?_
     refine blk_n ?_
     refine then_n ?_
     have hbf : hurB c e t i = false := by simp_all
     refine sy_ops ?_
     refine o_v hf hh (y_add rfl rfl) ?_; clear hf a; intro a hf
     refine o_v hf hh (yv_move rfl) ?_; clear hf a; intro a hf
     refine ops_end ?_
     refine then_n ?_
     exact ⟨i + 1, ⟨⟨by omega, fun j hj => by
       rcases Nat.lt_succ_iff_lt_or_eq.1 hj with h | h
       · exact hq j h
       · rw [h]; exact hbf, hh⟩, (hf.head (by repeat' (first | exact True.intro | refine And.intro rfl ?_)) (Keep.cons rfl (Keep.cons rfl (Keep.cons rfl (Keep.cons rfl (Keep.cons rfl (Keep.cons rfl (Keep.cons rfl (Keep.cons rfl (Keep.cons rfl (Keep.cons rfl (Keep.cons rfl (Keep.cons rfl (Keep.cons rfl (Keep.cons rfl (Keep.cons rfl (Keep.cons rfl (Keep.cons rfl (Keep.cons rfl (Keep.cons rfl (Keep.cons rfl (Keep.cons rfl (Keep.app rfl (Keep.rm rfl Keep.base))))))))))))))))))))))))⟩, by omega⟩
   ·have hG2 := hg2; try simp only [gS] at hG2
    refine sy_exit ?_
    refine then_e ?_
    refine then_e ?_
    refine blk_e ?_
    refine then_n ?_
    refine sy_sq ?_
    refine o_v hf hh (yv_assign rfl) ?_; clear hf a; intro a hf
    refine o_end ?_
    refine sy_ret ?_
    refine ret_r hf rfl rfl ?_
    obtain rfl : i = 5 := by omega
    rw [hurN_no hq]
    exact ⟨rfl, hh.ext⟩
set_option maxRecDepth 100000 in
theorem c_hurt (c : CaD) (y : Int × Int) (sa : Option Addr) (cp Bc : Nat) (e : Edg) (he : EdB e) (u : World) (hC : CarAt u c y sa cp Bc) : Calls Tryz.prog 79 #[.agg (moA Bc e)] u (Ret fun v w' => v = .tuple #[.int .i64 (hurP c y e).1, .int .i64 (hurP c y e).2] ∧ Ext [] u w') := by
  refine calls_of Tryz.func79 rfl rfl (fun a hf => ?_)
  have hh := Hp.init u []
  have hnt := hC.ok.pr.nt
  have hsl := see_len c y
  have hsi : (seeI c y).length = (seeL c y).length := List.length_map ..
  refine sy_sq ?_
  refine o_box hf hh ?_; clear hf hh a; intro B1 a w hf hh
  refine o_v hf hh (yv_assign rfl) ?_; clear hf a; intro a hf
  refine o_v hf hh (yv_assign rfl) ?_; clear hf a; intro a hf
  refine o_end ?_
  refine sy_seq ?_
  refine sy_sq ?_
  refine o_v hf hh (yv_fieldAddr Tryz.fo_160_0 rfl) ?_; clear hf a; intro a hf
  refine o_v hf hh (y_ld Tryz.sc_98 rfl) ?_; clear hf a; intro a hf
  refine o_call hf Tryz.en_80 rfl rfl rfl (c_things c y sa cp Bc _ (hC.ext hh.ext)) ?_; clear hf a; intro v a w hR hf
  obtain ⟨so, co, rfl, hI, hx⟩ := hR; replace hh := hh.more hx; clear hx
  have hb1 := hh.at (i := 0) rfl
  have hx0 := hh.ext
  obtain ⟨w1, rfl⟩ : ∃ z, z = w := ⟨_, rfl⟩
  replace hh := Hp.init w1 []
  replace hC := hC.ext hx0
  rw [hsi] at hf
  refine o_v hf hh (yv_len Tryz.se_108 rfl) ?_; clear hf a; intro a hf
  refine o_v hf hh (yv_move rfl) ?_; clear hf a; intro a hf
  refine o_end ?_
  refine sy_block ?_
  refine sy_loopH (σ := Nat) [2, 3, 5, 10, 11, 12, 13, 14, 15, 16, 17, 18, 19, 20, 21] (fun i => [(10, .int .i64 (i : Nat))]) (fun i => fun w' => i ≤ (seeL c y).length ∧ (∀ n ∈ (seeL c y).take i, hurI c e n = 0) ∧ Hp w1 [] [] w') (fun i => (seeL c y).length - i) (0) hf ?_ ?_ ?_
  · repeat' (first | exact True.intro | refine And.intro rfl ?_)
  · exact ⟨Nat.zero_le _, (fun n h => by simp at h), hh⟩
  ·rintro i a w ⟨hi, hq, hh⟩ hf
   refine sy_sq ?_
   refine o_v hf hh (yv_bin rfl rfl rfl) ?_; clear hf a; intro a hf
   refine o_end ?_
   refine sy_seq ?_
   refine sy_cond hf rfl (fun hg3 => ?_) (fun hg3 => ?_)
   ·have hG3 := hg3; try simp only [gS] at hG3
    refine sy_skip ?_
    refine then_n ?_
    refine sy_seq ?_
    refine sy_block ?_
    refine sy_seq ?_
    obtain ⟨n, hn⟩ := ex_ofP (l := seeL c y) (i := i) (by omega)
    have hnm := List.mem_of_getElem? hn
    obtain ⟨t, ht⟩ := ex_ofP (l := c.pr.th) (i := n) (see_lt hnm)
    have hse : seeB c y n = true := (see_bit (see_lt hnm)).1 hnm
    obtain ⟨blk, off, cc, TT, fr, eso, hbi, hcc⟩ := hI i ((n : Nat) : Int) (by unfold seeI seeTo; rw [List.getElem?_map]; show Option.map _ ((seeL c y)[i]?) = _; rw [hn]; rfl)
    refine sy_ops ?_
    refine o_v hf hh (y_ix Tryz.se_108 (congrArg (fun z => some (Value.slice z (seeL c y).length co)) eso) rfl) ?_; clear hf a; intro a hf
    refine o_v hf hh (y_ld Tryz.sc_3 rfl) ?_; clear hf a; intro a hf
    refine o_v hf hh (yv_assign rfl) ?_; clear hf a; intro a hf
    refine o_end ?_
    refine sy_sq ?_
    refine o_v hf hh (y_lds Tryz.ag_160 rfl) ?_; clear hf a; intro a hf
    refine o_v hf hh (yv_move rfl) ?_; clear hf a; intro a hf
    refine o_call hf Tryz.en_109 rfl rfl rfl (c_mwhy c y sa cp Bc e he n t ht _ (hC.ext hh.ext) hse) ?_; clear hf a; intro v a w hR hf
    obtain ⟨rfl, hx⟩ := hR; replace hh := hh.more hx; clear hx
    refine o_v hf hh (yv_assign rfl) ?_; clear hf a; intro a hf
    refine o_end ?_
    refine sy_sq ?_
    refine o_v hf hh (yv_move rfl) ?_; clear hf a; intro a hf
    refine o_v hf hh (yv_bin rfl rfl rfl) ?_; clear hf a; intro a hf
    refine o_end ?_
    refine sy_cond hf rfl (fun hg7 => ?_) (fun hg7 => ?_)
    ·have hG7 := hg7; try simp only [gS] at hG7
     refine sy_sq ?_
     refine o_v hf hh (yv_move rfl) ?_; clear hf a; intro a hf
     refine o_v hf hh (yv_move rfl) ?_; clear hf a; intro a hf
     refine o_v hf hh (yv_assign rfl) ?_; clear hf a; intro a hf
     refine o_v hf hh (yv_assign rfl) ?_; clear hf a; intro a hf
     refine o_end ?_
     refine sy_ret ?_
     refine blk_r ?_
     refine then_r ?_
     refine then_r ?_
     refine blk_r ?_
     refine then_r ?_
     refine ret_r hf rfl rfl ?_
     rw [hurP_at hq hn (by rw [hurI_at ht]; omega), hurI_at ht]
     exact ⟨rfl, hx0.trans hh.ext⟩
    ·have hG7 := hg7; try simp only [gS] at hG7
     refine sy_skip ?_
     refine blk_n ?_
     refine then_n ?_
     refine sy_ops ?_
     refine o_v hf hh (y_add rfl rfl) ?_; clear hf a; intro a hf
     refine o_v hf hh (yv_move rfl) ?_; clear hf a; intro a hf
     refine ops_end ?_
     refine then_n ?_
     exact ⟨i + 1, ⟨⟨by omega, take_allI hq hn (by rw [hurI_at ht]; omega), hh⟩, (hf.head (by repeat' (first | exact True.intro | refine And.intro rfl ?_)) (Keep.cons rfl (Keep.cons rfl (Keep.cons rfl (Keep.cons rfl (Keep.cons rfl (Keep.cons rfl (Keep.cons rfl (Keep.cons rfl (Keep.cons rfl (Keep.cons rfl (Keep.cons rfl (Keep.cons rfl (Keep.app rfl (Keep.rm rfl Keep.base)))))))))))))))⟩, by omega⟩
   ·have hG3 := hg3; try simp only [gS] at hG3
    refine sy_exit ?_
    refine then_e ?_
    refine then_e ?_
    refine blk_e ?_
    refine then_n ?_
    refine sy_sq ?_
    refine o_v hf hh (yv_assign rfl) ?_; clear hf a; intro a hf
    refine o_v hf hh (yv_assign rfl) ?_; clear hf a; intro a hf
    refine o_end ?_
    refine sy_ret ?_
    refine ret_r hf rfl rfl ?_
    rw [hurP_no (all_takeI hq (by omega))]
    exact ⟨rfl, hx0.trans hh.ext⟩
end Go.Proofs.YtccpgpnekoncoaaGreatDoor

namespace Go.Proofs.YtccpgpnekoncoaaGreatDoor
open Go Go.Sy Go.PaiM
theorem un_map : Tryz.prog.underlying 101 = some (.map 3 151) := by kernel_rfl
/-- The numbers of a set, by bits. -/
def SetIs (s : Nat) (l : List Int) : Prop := s < 4096 ∧ ∀ i : Nat, s.testBit i = true ↔ ((i : Nat) : Int) ∈ l
theorem set_nil : SetIs 0 [] := ⟨by decide, fun i => by rw [Nat.zero_testBit]; simp⟩
theorem set_add {s k : Nat} {l : List Int} (h : SetIs s l) (hk : k < 12) : SetIs (s ||| 2 ^ k) (l ++ [((k : Nat) : Int)]) := by
  refine ⟨?_, fun i => ?_⟩
  · have h1 : (2 : Nat) ^ k < 2 ^ 12 := Nat.pow_lt_pow_right (by omega) hk
    exact Nat.or_lt_two_pow (n := 12) h.1 h1
  · rw [Nat.testBit_or, Bool.or_eq_true, h.2 i, Nat.testBit_two_pow, decide_eq_true_eq, List.mem_append, List.mem_singleton]
    exact or_congr Iff.rfl ⟨fun e => by rw [e], fun e => (Int.ofNat.inj e).symm⟩
theorem see_key {c : CaD} {y : Int × Int} {p : Int} (h : p ∈ seeI c y) : ∃ k : Nat, p = ((k : Nat) : Int) ∧ k < c.pr.th.length := by
  unfold seeI seeTo at h
  obtain ⟨k, h1, rfl⟩ := List.mem_map.1 h
  rw [List.mem_filter, List.mem_range] at h1
  exact ⟨k, rfl, h1.1⟩
set_option maxRecDepth 100000 in
set_option maxHeartbeats 4000000 in
theorem c_Seen (c : CaD) (sa : Option Addr) (cp : Nat) (y : Int × Int) (hc : CaOk c) (hy : powO c.pr = some y) (u : World) (hA : ThAt u sa c.pr.th) : Calls Tryz.prog 15 #[.agg (caA c sa cp)] u (Ret fun v w' => ∃ s : Nat, v = .tuple #[.int .i64 (s : Nat), .int .i64 0] ∧ SetIs s (seeI c y) ∧ Ext [] u w') := by
  refine calls_of Tryz.func15 rfl rfl (fun a hf => ?_)
  have hh := Hp.init u []
  have hnt := hc.pr.nt
  refine sy_sq ?_
  refine o_box hf hh ?_; clear hf hh a; intro B1 a w hf hh
  refine o_v hf hh (yv_assign rfl) ?_; clear hf a; intro a hf
  refine o_v hf hh (yv_assign rfl) ?_; clear hf a; intro a hf
  refine o_end ?_
  refine sy_sq ?_
  refine o_v hf hh (y_lds Tryz.ag_51 rfl) ?_; clear hf a; intro a hf
  refine o_call hf Tryz.en_46 rfl rfl rfl (c_openM c sa cp y hc hy [] none 0 (fun e h => by simp at h) (by simp) _ (hA.ext hh.ext) (ed_nil _ _)) ?_; clear hf a; intro v a w hR hf
  obtain ⟨Bc, rfl, hC, hx⟩ := hR; replace hh := hh.more hx; clear hx
  have hx0 := hh.ext
  obtain ⟨w1, rfl⟩ : ∃ z, z = w := ⟨_, rfl⟩
  replace hh := Hp.init w1 []
  obtain ⟨bm, es, cm, hb, hm, hS⟩ := hC.ex
  refine o_v hf hh (yv_move rfl) ?_; clear hf a; intro a hf
  refine o_v hf hh (yv_extract rfl rfl) ?_; clear hf a; intro a hf
  refine o_v hf hh (yv_extract rfl rfl) ?_; clear hf a; intro a hf
  refine o_v hf hh (yv_assign rfl) ?_; clear hf a; intro a hf
  refine o_v hf hh (yv_assign rfl) ?_; clear hf a; intro a hf
  refine o_end ?_
  refine sy_seq ?_
  refine sy_sq ?_
  refine o_v hf hh (yv_move rfl) ?_; clear hf a; intro a hf
  refine o_v hf hh (yv_bin rfl rfl rfl) ?_; clear hf a; intro a hf
  refine o_end ?_
  refine c_f hf ?_
  refine sy_skip ?_
  refine then_n ?_
  refine sy_seq ?_
  refine sy_sq ?_
  refine o_v hf hh (yv_move rfl) ?_; clear hf a; intro a hf
  refine o_v hf hh (yv_nilCheck rfl) ?_; clear hf a; intro a hf
  refine o_v hf hh (yv_fieldAddr Tryz.fo_103_1 rfl) ?_; clear hf a; intro a hf
  refine o_v hf hh (y_ld Tryz.sc_101 rfl) ?_; clear hf a; intro a hf
  refine ops_rangeN hf hh un_map rfl (hh.old hm) (.inl rfl) rfl ?_; clear hf hh a; intro Br o a w hRg hf hh
  refine o_end ?_
  refine sy_block ?_
  refine sy_loopH (σ := List Int × Obj × Nat) [2, 5, 19, 20, 21, 22, 23, 24, 25, 26] (fun z => [(2, .int .i64 (z.2.2 : Nat))]) (fun z => fun w' => RngAt encI bm es cm z.1 z.2.1 ∧ SetIs z.2.2 z.1 ∧ (∀ q ∈ z.1, q ∈ seeI c y) ∧ Hp w1 [] [(Br, z.2.1)] w') (fun z => leftS (seeI c y) z.1) (([], o, 0)) hf ?_ ?_ ?_
  · repeat' (first | exact True.intro | refine And.intro rfl ?_)
  · exact ⟨hRg, set_nil, fun q h => by (simp at h), hh⟩
  ·rintro z a w ⟨hRg, hset, hsub, hh⟩ hf
   obtain ⟨done, o, s⟩ := z; simp only at hRg hset hsub hh hf ⊢
   refine sy_sq ?_
   refine ops_nextBN (i := 0) hf hh rfl rfl (fun w h => h.old hm) hS hRg (.inl rfl) rfl fun b vs o2 a w hvs hb0 hb1 hf hh => ?_
   refine o_v hf hh (yv_extract rfl hvs) ?_; clear hf a; intro a hf
   refine o_end ?_
   refine sy_seq ?_
   refine sy_cond hf rfl (fun hg8 => ?_) (fun hg8 => ?_)
   ·have hG8 := hg8; try simp only [gS] at hG8
    refine sy_skip ?_
    refine then_n ?_
    refine sy_block ?_
    refine sy_seq ?_
    have hbt : b = true := by assumption
    obtain ⟨q, hqS, hqd, hRg2⟩ := hb1 hbt
    have hRg3 := hRg2
    obtain ⟨k, rfl, hk⟩ := see_key hqS
    replace hh : Hp w1 [] [(Br, o2)] w := hh
    refine sy_ops ?_
    refine ops_v hf hh (yv_entryN (done := done) (p := ((k : Nat) : Int)) rfl (fun w h => h.at (i := 0) rfl) (fun w h => h.old hm) hS hRg2) (.inl rfl) rfl rfl rfl ?_; clear hf a; intro a hf
    refine o_v hf hh (yv_extract rfl rfl) ?_; clear hf a; intro a hf
    refine o_v hf hh (yv_assign rfl) ?_; clear hf a; intro a hf
    refine o_end ?_
    have hs12 := hset.1
    obtain ⟨P2, hP2⟩ : ∃ P2, P2 = 2 ^ k := ⟨_, rfl⟩
    have hp12 : P2 < 2 ^ 12 := by rw [hP2]; exact Nat.pow_lt_pow_right (by omega) (by omega)
    have hset2 := set_add hset (show k < 12 by omega)
    rw [← hP2] at hset2
    refine sy_ops ?_
    refine o_v hf hh (yv_move rfl) ?_; clear hf a; intro a hf
    refine o_v hf hh (yv_move rfl) ?_; clear hf a; intro a hf
    refine ops_v hf hh (yv_cast (yv_shl1 (.inl rfl) rfl rfl (by omega) (by omega)) (intv (b := ((P2 : Nat) : Int)) (by rw [Int.toNat_natCast, hP2]))) (.inl rfl) rfl rfl rfl ?_; clear hf a; intro a hf
    refine ops_v hf hh (yv_cast (yv_or (.inl rfl) rfl rfl (by omega) (by simp only [IntKind.top]; omega) (by omega) (by simp only [IntKind.top]; omega)) (intv (b := ((s ||| P2 : Nat) : Int)) (by rw [Int.toNat_natCast, Int.toNat_natCast]))) (.inl rfl) rfl rfl rfl ?_; clear hf a; intro a hf
    refine o_v hf hh (yv_assign rfl) ?_; clear hf a; intro a hf
    refine ops_end ?_
    refine blk_n ?_
    refine then_n ?_
    exact ⟨(done ++ [((k : Nat) : Int)], o2, s ||| P2), ⟨⟨hRg3, hset2, fun q hq => by
      rcases List.mem_append.1 hq with hq | hq
      · exact hsub q hq
      · rw [List.mem_singleton.1 hq]; exact hqS, hh⟩, (hf.head (by repeat' (first | exact True.intro | refine And.intro rfl ?_)) (Keep.cons rfl (Keep.cons rfl (Keep.cons rfl (Keep.cons rfl (Keep.cons rfl (Keep.cons rfl (Keep.cons rfl (Keep.cons rfl (Keep.cons rfl (Keep.cons rfl (Keep.app rfl (Keep.rm rfl Keep.base)))))))))))))⟩, leftS_lt hqS hqd⟩
   ·have hG8 := hg8; try simp only [gS] at hG8
    refine sy_exit ?_
    refine then_e ?_
    refine then_e ?_
    refine blk_e ?_
    refine then_n ?_
    refine sy_sq ?_
    refine o_v hf hh (yv_move rfl) ?_; clear hf a; intro a hf
    refine o_v hf hh (yv_assign rfl) ?_; clear hf a; intro a hf
    refine o_v hf hh (yv_assign rfl) ?_; clear hf a; intro a hf
    refine o_end ?_
    refine sy_ret ?_
    refine ret_r hf rfl rfl ?_
    have hbf : b = false := by simp_all
    have hall := hb0 hbf
    exact ⟨s, rfl, ⟨hset.1, fun i => (hset.2 i).trans ⟨fun h => hsub _ h, fun h => hall _ h⟩⟩, hx0.trans hh.ext⟩
end Go.Proofs.YtccpgpnekoncoaaGreatDoor

namespace Go.PaiM
open Go Go.Sy
theorem rng_cons {a b : Int} (h : a ≤ b) : rngI a b = a :: rngI (a + 1) b := by
  unfold rngI
  rw [show (b - a + 1).toNat = (b - (a + 1) + 1).toNat + 1 by omega, List.range_succ_eq_map, List.map_cons, List.map_map]
  refine congr (congrArg _ (by simp)) ?_
  refine List.map_congr_left fun i _ => ?_
  simp only [Function.comp]
  omega
theorem rng_nil {a b : Int} (h : b < a) : rngI a b = [] := by
  unfold rngI
  rw [show (b - a + 1).toNat = 0 by omega]; rfl
def restO (k : Int) (one : Nat) : List Edg := (List.range' one ((2 * k + 1).toNat - one)).flatMap fun n => rowA k ((n : Nat) : Int)
def tupD (one a d : Int) : Edg := (a, one - a, d, one - d)
def restA (k : Int) (one : Nat) (a : Int) : List Edg := (rngI a (min ((one : Nat) : Int) k)).flatMap (rowD k ((one : Nat) : Int)) ++ restO k (one + 1)
def restD (k : Int) (one : Nat) (a d : Int) : List Edg := (rngI d (min ((one : Nat) : Int) k)).map (tupD ((one : Nat) : Int) a) ++ restA k one (a + 1)
theorem trm_rest (k : Int) : trmL k = restO k 0 := by
  unfold trmL restO
  rw [List.range_eq_range', Nat.sub_zero]
theorem restO_step {k : Int} {one : Nat} (h : one < (2 * k + 1).toNat) : restO k one = restA k one (max 0 (((one : Nat) : Int) - k)) := by
  unfold restO restA
  rw [show (2 * k + 1).toNat - one = ((2 * k + 1).toNat - (one + 1)) + 1 by omega, List.range'_succ, List.flatMap_cons]
  rfl
theorem restO_end {k : Int} {one : Nat} (h : (2 * k + 1).toNat ≤ one) : restO k one = [] := by
  unfold restO
  rw [show (2 * k + 1).toNat - one = 0 by omega]; rfl
theorem restA_step {k : Int} {one : Nat} {a : Int} (h : a ≤ min ((one : Nat) : Int) k) : restA k one a = restD k one a (max 0 (((one : Nat) : Int) - k)) := by
  unfold restD restA
  rw [rng_cons h, List.flatMap_cons, List.append_assoc]; rfl
theorem restA_end {k : Int} {one : Nat} {a : Int} (h : min ((one : Nat) : Int) k < a) : restA k one a = restO k (one + 1) := by
  unfold restA
  rw [rng_nil h]; rfl
theorem restD_step {k : Int} {one : Nat} {a d : Int} (h : d ≤ min ((one : Nat) : Int) k) : restD k one a d = tupD ((one : Nat) : Int) a d :: restD k one a (d + 1) := by
  unfold restD
  rw [rng_cons h, List.map_cons, List.cons_append]
theorem restD_end {k : Int} {one : Nat} {a d : Int} (h : min ((one : Nat) : Int) k < d) : restD k one a d = restA k one (a + 1) := by
  unfold restD
  rw [rng_nil h]; rfl
/-- The best of the first ones. -/
def bstT (c : CaD) (y : Int × Int) (k : Nat) : Option Edg := ((trmL c.cuts).take k).find? (fineB c y)
theorem bst_all (c : CaD) (y : Int × Int) : bstT c y (trmL c.cuts).length = bstO c y := by unfold bstT bstO; rw [List.take_length]
theorem bst_keep {c : CaD} {y : Int × Int} {k : Nat} {e : Edg} (h : bstT c y k = some e) : bstT c y (k + 1) = some e := by
  unfold bstT at h ⊢
  rw [List.take_add_one, List.find?_append, h]; rfl
theorem bst_done {c : CaD} {y : Int × Int} {k : Nat} {e : Edg} (h : bstT c y k = some e) : bstO c y = some e := by
  unfold bstT at h
  unfold bstO
  rw [← List.take_append_drop k (trmL c.cuts), List.find?_append, h]; rfl
theorem bst_new {c : CaD} {y : Int × Int} {k : Nat} {x : Edg} (h : bstT c y k = none) (hx : (trmL c.cuts)[k]? = some x) : bstT c y (k + 1) = if fineB c y x then some x else none := by
  unfold bstT at h ⊢
  rw [List.take_add_one, List.find?_append, h, hx, Option.none_or]
  show List.find? (fineB c y) [x] = _
  rw [List.find?_cons]
  cases fineB c y x <;> rfl
/-- The one that was found comes before. -/
theorem bst_bef {c : CaD} {y : Int × Int} {k : Nat} {e x : Edg} (h : bstT c y k = some e) (hx : (trmL c.cuts)[k]? = some x) : BefE e x := by
  have hp := trm_pair c.cuts
  have h1 := List.mem_of_find?_eq_some h
  obtain ⟨hk, hv⟩ := List.getElem?_eq_some_iff.1 hx
  rw [← List.take_append_drop k (trmL c.cuts), List.drop_eq_getElem_cons hk, hv, List.pairwise_append] at hp
  exact hp.2.2 e h1 x (.head _)
/-- Whether the one's edges come before the other's. -/
def LexE (a b : Edg) : Prop := a.1 < b.1 ∨ (a.1 = b.1 ∧ a.2.1 = b.2.1 ∧ a.2.2.1 < b.2.2.1)
theorem bef_lex {a b : Edg} (h : BefE a b) (hs : ¬ sumE a < sumE b) : sumE a = sumE b ∧ LexE a b := by
  rcases h with h | ⟨h1, h2⟩
  · exact absurd h hs
  · exact ⟨h1, h2⟩
abbrev orA (e : Edg) : Array Value := #[.int .i64 (sumE e), .int .i64 e.1, .int .i64 e.2.1, .int .i64 e.2.2.1, .int .i64 e.2.2.2]
abbrev orI (e : Edg) : List Int := [sumE e, e.1, e.2.1, e.2.2.1, e.2.2.2]
theorem lex_ne {a b : Edg} (h : LexE a b) : orI a ≠ orI b := fun e => by
  have h1 : a.1 = b.1 := by injection e with _ e; injection e with e _
  have h2 : a.2.2.1 = b.2.2.1 := by injection e with _ e; injection e with _ e; injection e with _ e; injection e with e _
  rcases h with h | ⟨_, _, h⟩ <;> omega
end Go.PaiM

namespace Go.Proofs.YtccpgpnekoncoaaGreatDoor
open Go Go.Sy Go.PaiM
theorem c_nanK (n : Int) (w : World) : Calls Tryz.prog 99 #[.int .i64 n] w (Ret fun v w' => v = .bool false ∧ Ext [] w w') := by
  refine calls_of Tryz.func99 rfl rfl (fun a hf => ?_)
  have hh := Hp.init w []
  refine sy_sq ?_
  refine o_v hf hh (yv_assign rfl) ?_; clear hf a; intro a hf
  refine o_end ?_
  refine sy_sq ?_
  refine o_v hf hh (yv_move rfl) ?_; clear hf a; intro a hf
  refine o_v hf hh (yv_move rfl) ?_; clear hf a; intro a hf
  refine o_v hf hh (yv_bin rfl rfl rfl) ?_; clear hf a; intro a hf
  refine o_v hf hh (yv_assign rfl) ?_; clear hf a; intro a hf
  refine o_end ?_
  refine sy_ret ?_
  refine ret_r hf rfl rfl ?_
  exact ⟨congrArg Value.bool (by simp), hh.ext⟩
theorem c_cmpK (p q : Int) (w : World) : Calls Tryz.prog 63 #[.int .i64 p, .int .i64 q] w (Ret fun v w' => v = .int .i64 (if p < q then -1 else if q < p then 1 else 0) ∧ Ext [] w w') := by
  refine calls_of Tryz.func63 rfl rfl (fun a hf => ?_)
  have hh := Hp.init w []
  refine sy_sq ?_
  refine o_v hf hh (yv_assign rfl) ?_; clear hf a; intro a hf
  refine o_end ?_
  refine sy_sq ?_
  refine o_v hf hh (yv_move rfl) ?_; clear hf a; intro a hf
  refine o_call hf Tryz.en_99 rfl rfl rfl (c_nanK _ _) ?_; clear hf a; intro v a w hR hf
  obtain ⟨rfl, hx⟩ := hR; replace hh := hh.more hx; clear hx
  refine o_v hf hh (yv_assign rfl) ?_; clear hf a; intro a hf
  refine o_end ?_
  refine sy_sq ?_
  refine o_v hf hh (yv_move rfl) ?_; clear hf a; intro a hf
  refine o_call hf Tryz.en_99 rfl rfl rfl (c_nanK _ _) ?_; clear hf a; intro v a w hR hf
  obtain ⟨rfl, hx⟩ := hR; replace hh := hh.more hx; clear hx
  refine o_v hf hh (yv_assign rfl) ?_; clear hf a; intro a hf
  refine o_end ?_
  refine sy_seq ?_
  refine sy_sq ?_
  refine o_v hf hh (yv_move rfl) ?_; clear hf a; intro a hf
  refine o_end ?_
  refine c_f hf ?_
  refine sy_skip ?_
  refine then_n ?_
  refine sy_seq ?_
  refine sy_sq ?_
  refine o_v hf hh (yv_move rfl) ?_; clear hf a; intro a hf
  refine o_end ?_
  refine c_f hf ?_
  refine sy_skip ?_
  refine then_n ?_
  refine sy_seq ?_
  refine sy_sq ?_
  refine o_v hf hh (yv_move rfl) ?_; clear hf a; intro a hf
  refine o_v hf hh (yv_move rfl) ?_; clear hf a; intro a hf
  refine o_v hf hh (yv_bin rfl rfl rfl) ?_; clear hf a; intro a hf
  refine o_end ?_
  refine sy_cond hf rfl (fun hg4 => ?_) (fun hg4 => ?_)
  ·have hG4 := hg4; try simp only [gS] at hG4
   refine sy_sq ?_
   refine o_v hf hh (yv_assign rfl) ?_; clear hf a; intro a hf
   refine o_end ?_
   refine sy_ret ?_
   refine then_r ?_
   refine ret_r hf rfl rfl ?_
   refine ⟨?_, hh.ext⟩
   first
     | (rw [if_pos (by assumption)]; done)
     | (rw [if_neg (by omega), if_pos (by omega)]; done)
     | (rw [if_neg (by omega), if_neg (by omega)]; done)
     | (rw [if_pos (by assumption)]; rfl)
     | (rw [if_neg (by omega), if_pos (by omega)]; rfl)
     | (rw [if_neg (by omega), if_neg (by omega)]; rfl)
  ·have hG4 := hg4; try simp only [gS] at hG4
   refine sy_skip ?_
   refine then_n ?_
   refine sy_seq ?_
   refine sy_sq ?_
   refine o_v hf hh (yv_move rfl) ?_; clear hf a; intro a hf
   refine o_v hf hh (yv_move rfl) ?_; clear hf a; intro a hf
   refine o_v hf hh (yv_bin rfl rfl rfl) ?_; clear hf a; intro a hf
   refine o_end ?_
   refine sy_cond hf rfl (fun hg6 => ?_) (fun hg6 => ?_)
   ·have hG6 := hg6; try simp only [gS] at hG6
    refine sy_sq ?_
    refine o_v hf hh (yv_assign rfl) ?_; clear hf a; intro a hf
    refine o_end ?_
    refine sy_ret ?_
    refine then_r ?_
    refine ret_r hf rfl rfl ?_
    refine ⟨?_, hh.ext⟩
    first
      | (rw [if_pos (by assumption)]; done)
      | (rw [if_neg (by omega), if_pos (by omega)]; done)
      | (rw [if_neg (by omega), if_neg (by omega)]; done)
      | (rw [if_pos (by assumption)]; rfl)
      | (rw [if_neg (by omega), if_pos (by omega)]; rfl)
      | (rw [if_neg (by omega), if_neg (by omega)]; rfl)
   ·have hG6 := hg6; try simp only [gS] at hG6
    refine sy_skip ?_
    refine then_n ?_
    refine sy_sq ?_
    refine o_v hf hh (yv_assign rfl) ?_; clear hf a; intro a hf
    refine o_end ?_
    refine sy_ret ?_
    refine ret_r hf rfl rfl ?_
    refine ⟨?_, hh.ext⟩
    first
      | (rw [if_pos (by assumption)]; done)
      | (rw [if_neg (by omega), if_pos (by omega)]; done)
      | (rw [if_neg (by omega), if_neg (by omega)]; done)
      | (rw [if_pos (by assumption)]; rfl)
      | (rw [if_neg (by omega), if_pos (by omega)]; rfl)
      | (rw [if_neg (by omega), if_neg (by omega)]; rfl)
theorem orA_at (e : Edg) (i : Nat) (hi : i < 4) : (orA e)[1 + ((i : Nat) : Int).toNat * 1]? = some (.int .i64 (edN e i)) := by
  rw [Int.toNat_natCast, Nat.mul_one]
  match i, hi with
  | 0, _ => rfl
  | 1, _ => rfl
  | 2, _ => rfl
  | 3, _ => rfl
  | n + 4, h => exact absurd h (by omega)
theorem lex_at {a b : Edg} (h : LexE a b) {i : Nat} (hi : i ≤ 2) (hq : 0 < i → a.1 = b.1) : (edN a i < edN b i) ∨ (i < 2 ∧ edN a i = edN b i ∧ a.1 = b.1) := by
  rcases (show i = 0 ∨ i = 1 ∨ i = 2 by omega) with rfl | rfl | rfl
  · rcases h with h | ⟨h1, h2, h3⟩
    · exact .inl h
    · exact .inr ⟨by omega, h1, h1⟩
  · rcases h with h | ⟨h1, h2, h3⟩
    · exact absurd (hq (by omega)) (by omega)
    · exact .inr ⟨by omega, h2, h1⟩
  · rcases h with h | ⟨h1, h2, h3⟩
    · exact absurd (hq (by omega)) (by omega)
    · exact .inl h3
theorem c_compK (e f : Edg) (Ba Bb : Nat) (hl : LexE e f) (u : World) (ha : u.heap[Ba]? = some (.cells (orA e) 153 (0, 0))) (hb : u.heap[Bb]? = some (.cells (orA f) 153 (0, 0))) : Calls Tryz.prog 108 #[.slice (some ⟨Ba, 1, none⟩) 4 4, .slice (some ⟨Bb, 1, none⟩) 4 4] u (Ret fun v w' => v = .int .i64 (-1) ∧ Ext [] u w') := by
  refine calls_of Tryz.func108 rfl rfl (fun a hf => ?_)
  have hh := Hp.init u []
  refine sy_sq ?_
  refine o_v hf hh (yv_assign rfl) ?_; clear hf a; intro a hf
  refine o_end ?_
  refine sy_seq ?_
  refine sy_sq ?_
  refine o_v hf hh (yv_move rfl) ?_; clear hf a; intro a hf
  refine o_v hf hh (yv_len Tryz.se_108 rfl) ?_; clear hf a; intro a hf
  refine o_v hf hh (yv_move rfl) ?_; clear hf a; intro a hf
  refine o_end ?_
  refine sy_block ?_
  refine sy_loopH (σ := Nat) [4, 5, 6, 7, 8, 11, 12, 13, 14, 15, 16, 17, 18, 19, 20, 21, 22, 23, 24, 25, 26, 27, 28, 29, 30] (fun i => [(11, .int .i64 (i : Nat))]) (fun i => fun w' => (i ≤ 2 ∧ (0 < i → e.1 = f.1)) ∧ Hp u [] [] w') (fun i => 4 - i) (0) hf ?_ ?_ ?_
  · repeat' (first | exact True.intro | refine And.intro rfl ?_)
  · exact ⟨⟨Nat.zero_le _, fun h => absurd h (Nat.lt_irrefl _)⟩, hh⟩
  ·rintro i a w ⟨⟨hi2, hq⟩, hh⟩ hf
   refine sy_sq ?_
   refine o_v hf hh (yv_bin rfl rfl rfl) ?_; clear hf a; intro a hf
   refine o_end ?_
   refine sy_seq ?_
   refine sy_cond hf rfl (fun hg2 => ?_) (fun hg2 => ?_)
   ·have hG2 := hg2; try simp only [gS] at hG2
    refine sy_skip ?_
    refine then_n ?_
    refine sy_seq ?_
    refine sy_block ?_
    refine sy_seq ?_
    have na := orA_at e i (by omega)
    have nb := orA_at f i (by omega)
    have hla := lex_at hl hi2 hq
    have hi4 : i < 4 := by omega
    refine sy_ops ?_
    refine o_v hf hh (yv_move rfl) ?_; clear hf a; intro a hf
    refine o_v hf hh (y_ix Tryz.se_108 rfl rfl) ?_; clear hf a; intro a hf
    refine o_v hf hh (y_ld Tryz.sc_3 rfl) ?_; clear hf a; intro a hf
    refine o_v hf hh (yv_assign rfl) ?_; clear hf a; intro a hf
    refine o_v hf hh (yv_assign rfl) ?_; clear hf a; intro a hf
    refine o_end ?_
    refine sy_seq ?_
    refine sy_sq ?_
    refine o_v hf hh (yv_move rfl) ?_; clear hf a; intro a hf
    refine o_v hf hh (yv_move rfl) ?_; clear hf a; intro a hf
    refine o_v hf hh (yv_len Tryz.se_108 rfl) ?_; clear hf a; intro a hf
    refine o_v hf hh (yv_bin rfl rfl rfl) ?_; clear hf a; intro a hf
    refine o_end ?_
    refine c_f hf ?_
    refine sy_skip ?_
    refine then_n ?_
    refine sy_sq ?_
    refine o_v hf hh (yv_move rfl) ?_; clear hf a; intro a hf
    refine o_v hf hh (yv_move rfl) ?_; clear hf a; intro a hf
    refine o_v hf hh (y_ix Tryz.se_108 rfl rfl) ?_; clear hf a; intro a hf
    refine o_v hf hh (y_ld Tryz.sc_3 rfl) ?_; clear hf a; intro a hf
    refine o_v hf hh (yv_assign rfl) ?_; clear hf a; intro a hf
    refine o_end ?_
    refine sy_sq ?_
    refine o_v hf hh (yv_move rfl) ?_; clear hf a; intro a hf
    refine o_v hf hh (yv_move rfl) ?_; clear hf a; intro a hf
    refine o_call hf Tryz.en_63 rfl rfl rfl (c_cmpK (edN e i) (edN f i) _) ?_; clear hf a; intro v a w hR hf
    obtain ⟨rfl, hx⟩ := hR; replace hh := hh.more hx; clear hx
    refine o_v hf hh (yv_assign rfl) ?_; clear hf a; intro a hf
    refine o_end ?_
    refine sy_sq ?_
    refine o_v hf hh (yv_move rfl) ?_; clear hf a; intro a hf
    refine o_v hf hh (yv_bin rfl rfl rfl) ?_; clear hf a; intro a hf
    refine o_end ?_
    refine sy_cond hf rfl (fun hg6 => ?_) (fun hg6 => ?_)
    ·have hG6 := hg6; try simp only [gS] at hG6
     refine sy_sq ?_
     refine o_v hf hh (yv_move rfl) ?_; clear hf a; intro a hf
     refine o_v hf hh (yv_assign rfl) ?_; clear hf a; intro a hf
     refine o_end ?_
     refine sy_ret ?_
     refine blk_r ?_
     refine then_r ?_
     refine then_r ?_
     refine blk_r ?_
     refine then_r ?_
     refine ret_r hf rfl rfl ?_
     rcases hla with h | ⟨h1, h2, h3⟩
     · refine ⟨?_, hh.ext⟩
       rw [if_pos h]; rfl
     · exfalso
       clear hf hh
       have g1 : ¬ edN e i < edN f i := by omega
       have g2 : ¬ edN f i < edN e i := by omega
       simp_all
    ·have hG6 := hg6; try simp only [gS] at hG6
     refine sy_skip ?_
     refine blk_n ?_
     refine then_n ?_
     refine sy_ops ?_
     refine o_v hf hh (y_add rfl rfl) ?_; clear hf a; intro a hf
     refine o_v hf hh (yv_move rfl) ?_; clear hf a; intro a hf
     refine ops_end ?_
     refine then_n ?_
     rcases hla with h | ⟨h1, h2, h3⟩
     · exfalso
       clear hf hh
       simp_all
     · exact ⟨i + 1, ⟨⟨⟨by omega, fun _ => h3⟩, hh⟩, (hf.head (by repeat' (first | exact True.intro | refine And.intro rfl ?_)) (Keep.cons rfl (Keep.cons rfl (Keep.cons rfl (Keep.cons rfl (Keep.cons rfl (Keep.cons rfl (Keep.cons rfl (Keep.cons rfl (Keep.cons rfl (Keep.cons rfl (Keep.cons rfl (Keep.cons rfl (Keep.cons rfl (Keep.cons rfl (Keep.cons rfl (Keep.cons rfl (Keep.cons rfl (Keep.cons rfl (Keep.cons rfl (Keep.cons rfl (Keep.cons rfl (Keep.cons rfl (Keep.cons rfl (Keep.app rfl (Keep.rm rfl Keep.base))))))))))))))))))))))))))⟩, by omega⟩
   ·have hG2 := hg2; try simp only [gS] at hG2
    refine sy_exit ?_
    refine then_e ?_
    refine then_e ?_
    refine blk_e ?_
    refine then_n ?_
    refine sy_seq ?_
    refine sy_sq ?_
    refine o_v hf hh (yv_move rfl) ?_; clear hf a; intro a hf
    refine o_v hf hh (yv_len Tryz.se_108 rfl) ?_; clear hf a; intro a hf
    refine o_v hf hh (yv_move rfl) ?_; clear hf a; intro a hf
    refine o_v hf hh (yv_len Tryz.se_108 rfl) ?_; clear hf a; intro a hf
    refine o_v hf hh (yv_bin rfl rfl rfl) ?_; clear hf a; intro a hf
    refine o_end ?_
    refine sy_cond hf rfl (fun hg8 => ?_) (fun hg8 => ?_)
    ·have hG8 := hg8; try simp only [gS] at hG8
     refine sy_sq ?_
     refine o_v hf hh (yv_assign rfl) ?_; clear hf a; intro a hf
     refine o_end ?_
     refine sy_ret ?_
     refine then_r ?_
     refine ret_r hf rfl rfl ?_
     exfalso; omega
    ·have hG8 := hg8; try simp only [gS] at hG8
     refine sy_skip ?_
     refine then_n ?_
     refine sy_sq ?_
     refine o_v hf hh (yv_assign rfl) ?_; clear hf a; intro a hf
     refine o_end ?_
     refine sy_ret ?_
     refine ret_r hf rfl rfl ?_
     exfalso; omega
end Go.Proofs.YtccpgpnekoncoaaGreatDoor

namespace Go.Proofs.YtccpgpnekoncoaaGreatDoor
open Go Go.Sy Go.PaiM
set_option maxRecDepth 100000 in
theorem c_before (e f : Edg) (hs : sumE e = sumE f) (hl : LexE e f) (u : World) : Calls Tryz.prog 78 #[.agg (orA e), .agg (orA f)] u (Ret fun v w' => v = .bool true ∧ Ext [] u w') := by
  refine calls_of Tryz.func78 rfl rfl (fun a hf => ?_)
  have hh := Hp.init u []
  have hne : (!decide (orI e = orI f)) = true := by rw [Bool.not_eq_true', decide_eq_false_iff_not]; exact lex_ne hl
  refine sy_sq ?_
  refine o_box hf hh ?_; clear hf hh a; intro B2 a w hf hh
  refine o_box hf hh ?_; clear hf hh a; intro B3 a w hf hh
  refine o_v hf hh (yv_assign rfl) ?_; clear hf a; intro a hf
  refine o_end ?_
  refine sy_seq ?_
  refine sy_quiet (C := Hp _ _ _) Tryz.follows (by kernel_rfl) (hh.drawn _) ?_
  refine oq_v hf (y_lds Tryz.ag_153 rfl) ?_; clear hf a; intro a hf
  refine oq_v hf (y_lds Tryz.ag_153 rfl) ?_; clear hf a; intro a hf
  refine oq_v hf (yv_neF (orI e) (orI f) (by kernel_rfl) rfl rfl) ?_; clear hf a; intro a hf
  refine oq_v hf (yv_move rfl) ?_; clear hf a; intro a hf
  refine oq_v hf (yv_fieldAddr Tryz.fo_153_0 rfl) ?_; clear hf a; intro a hf
  refine oq_v hf (y_ld Tryz.sc_3 rfl) ?_; clear hf a; intro a hf
  refine oq_v hf (yv_fieldAddr Tryz.fo_153_0 rfl) ?_; clear hf a; intro a hf
  refine oq_v hf (y_ld Tryz.sc_3 rfl) ?_; clear hf a; intro a hf
  refine oq_v hf (yv_bin rfl rfl rfl) ?_; clear hf a; intro a hf
  refine oq_v hf (yv_move rfl) ?_; clear hf a; intro a hf
  refine oq_v hf (yv_fieldAddr Tryz.fo_153_0 rfl) ?_; clear hf a; intro a hf
  refine oq_v hf (y_ld Tryz.sc_3 rfl) ?_; clear hf a; intro a hf
  refine oq_v hf (yv_fieldAddr Tryz.fo_153_0 rfl) ?_; clear hf a; intro a hf
  refine oq_v hf (y_ld Tryz.sc_3 rfl) ?_; clear hf a; intro a hf
  refine oq_v hf (yv_bin rfl rfl rfl) ?_; clear hf a; intro a hf
  refine oq_v hf (yv_move rfl) ?_; clear hf a; intro a hf
  refine oq_v hf (yv_fieldAddr Tryz.fo_153_1 rfl) ?_; clear hf a; intro a hf
  refine q_v hf (yv_sliceArrO Tryz.ae_105 rfl) (gon rfl rfl rfl (by first | assumption | rfl | (simp; done) | (simp; omega))) rfl rfl ?_; clear hf a; intro a hf
  refine oq_v hf (yv_fieldAddr Tryz.fo_153_1 rfl) ?_; clear hf a; intro a hf
  refine q_v hf (yv_sliceArrO Tryz.ae_105 rfl) (gon rfl rfl rfl (by first | assumption | rfl | (simp; done) | (simp; omega))) rfl rfl ?_; clear hf a; intro a hf
  refine oq_call hf Tryz.en_108 rfl rfl rfl (fun w hh => c_compK e f B2 B3 hl _ (hh.at (i := 1) rfl) (hh.at (i := 0) rfl)) ?_; clear hf a; intro a hf
  refine oq_v hf (yv_bin rfl rfl rfl) ?_; clear hf a; intro a hf
  refine oq_v hf (y_pt rfl rfl) ?_; clear hf a; intro a hf
  refine oq_v hf (y_pf rfl rfl) ?_; clear hf a; intro a hf
  refine oq_v hf (y_pt rfl rfl) ?_; clear hf a; intro a hf
  refine oq_v hf (yv_assign rfl) ?_; clear hf a; intro a hf
  refine q_end fun w hh => ?_
  refine then_n ?_
  refine sy_ret ?_
  refine ret_r hf rfl rfl ?_
  exact ⟨rfl, hh.ext⟩
/-- What the iterator of trimmings looks at. -/
def MemT (c : CaD) (sa : Option Addr) (cp Bc bm Bt : Nat) (w : World) : Prop := w.heap[Bt]? = some (.cells #[ptr Bc 0] 98 (0, 0)) ∧ w.heap[Bc]? = some (.cells (kaA c sa cp bm) 103 (0, 0))
def edT (e : Edg) : Array Value := #[.agg (edA e)]
theorem at_trm {L D R : List Edg} {x : Edg} (h : L = D ++ x :: R) : (L.map edT)[D.length]? = some (edT x) := by
  subst h; simp
theorem ex_trm {L : List Edg} {k : Nat} {x : Array Value} (h : (L.map edT)[k]? = some x) : ∃ e, L[k]? = some e ∧ x = edT e := by
  rw [List.getElem?_map] at h
  cases e : L[k]? with
  | none => rw [e] at h; cases h
  | some y => rw [e] at h; cases h; exact ⟨y, rfl, rfl⟩
theorem c_trims (Bc : Nat) (u : World) : Calls Tryz.prog 77 #[ptr Bc 0] u (Ret fun v w' => ∃ Bt, v = .func (.func 107) #[] #[ptr Bt 0] ∧ Hp u [] [(Bt, .cells #[ptr Bc 0] 98)] w') := by
  refine calls_of Tryz.func77 rfl rfl (fun a hf => ?_)
  have hh := Hp.init u []
  refine sy_sq ?_
  refine o_box hf hh ?_; clear hf hh a; intro B1 a w hf hh
  refine o_v hf hh (yv_assign rfl) ?_; clear hf a; intro a hf
  refine o_end ?_
  refine sy_sq ?_
  refine o_v hf hh (yv_makeFunc rfl rfl) ?_; clear hf a; intro a hf
  refine o_v hf hh (yv_assign rfl) ?_; clear hf a; intro a hf
  refine o_end ?_
  refine sy_ret ?_
  refine ret_r hf rfl rfl ?_
  exact ⟨B1, rfl, hh⟩
set_option maxRecDepth 100000 in
theorem it_trm (c : CaD) (sa : Option Addr) (cp Bc bm Bt : Nat) (hc : CaOk c) : IterSpec Tryz.prog 107 #[] #[ptr Bt 0] ((trmL c.cuts).map edT) (MemT c sa cp Bc bm Bt) := by
  intro l J K u hJM hJe hKe hy hJ0
  obtain ⟨k1, k2⟩ := hc.cu
  show Calls Tryz.prog 107 #[.func (.yield l) #[] #[], ptr Bt 0] u _
  refine calls_of Tryz.func107 rfl rfl (fun a hf => ?_)
  have hh := Hp.init u []
  obtain ⟨m1, hb⟩ := hJM _ _ hJ0
  have hh := Hp.init u []
  refine sy_sq ?_
  refine o_v hf hh (y_ld Tryz.sc_98 rfl) ?_; clear hf a; intro a hf
  refine o_v hf hh (yv_nilCheck rfl) ?_; clear hf a; intro a hf
  refine o_v hf hh (yv_fieldAddr Tryz.fo_103_0 rfl) ?_; clear hf a; intro a hf
  refine o_v hf hh (yv_fieldAddr Tryz.fo_51_3 rfl) ?_; clear hf a; intro a hf
  refine o_v hf hh (y_ld Tryz.sc_3 rfl) ?_; clear hf a; intro a hf
  refine o_v hf hh (y_mul rfl rfl) ?_; clear hf a; intro a hf
  refine o_v hf hh (y_add rfl rfl) ?_; clear hf a; intro a hf
  refine o_v hf hh (yv_move rfl) ?_; clear hf a; intro a hf
  refine o_end ?_
  refine sy_block ?_
  refine sy_loopH (σ := Nat) [3, 4, 5, 13, 14, 15, 16, 17, 18, 19, 20, 21, 22, 23, 24, 25, 26, 27, 28, 29, 30, 31, 32, 33, 34, 35, 36, 37, 38, 39, 40, 41, 42, 43, 44, 45, 46, 47, 48, 49, 50, 51, 52, 53, 54, 55, 56, 57, 58, 59, 60, 61, 62, 63, 64, 65, 66] (fun one => [(13, .int .i64 ((one : Nat) : Int))]) (fun one => fun w' => one ≤ 81 ∧ ∃ done, trmL c.cuts = done ++ restO c.cuts one ∧ J done.length w') (fun one => 82 - one) (0) hf ?_ ?_ ?_
  · repeat' (first | exact True.intro | refine And.intro rfl ?_)
  · exact ⟨by omega, [], trm_rest _, hJe _ _ _ hJ0 hh.ext⟩
  ·rintro one a w ⟨ho, done, hx, hJ⟩ hf
   obtain ⟨m1, hb⟩ := hJM _ _ hJ
   have hh := Hp.init w []
   refine sy_sq ?_
   refine o_v hf hh (yv_bin rfl rfl rfl) ?_; clear hf a; intro a hf
   refine o_end ?_
   refine sy_seq ?_
   refine sy_cond hf rfl (fun hg2 => ?_) (fun hg2 => ?_)
   ·have hG2 := hg2; try simp only [gS] at hG2
    refine sy_skip ?_
    refine then_n ?_
    refine sy_seq ?_
    refine sy_block ?_
    refine sy_sq ?_
    refine o_v hf hh (yv_move rfl) ?_; clear hf a; intro a hf
    refine o_v hf hh (yv_assign rfl) ?_; clear hf a; intro a hf
    refine o_end ?_
    refine sy_sq ?_
    refine o_v hf hh (yv_move rfl) ?_; clear hf a; intro a hf
    refine o_v hf hh (y_ld Tryz.sc_98 rfl) ?_; clear hf a; intro a hf
    refine o_v hf hh (yv_nilCheck rfl) ?_; clear hf a; intro a hf
    refine o_v hf hh (yv_fieldAddr Tryz.fo_103_0 rfl) ?_; clear hf a; intro a hf
    refine o_v hf hh (yv_fieldAddr Tryz.fo_51_3 rfl) ?_; clear hf a; intro a hf
    refine o_v hf hh (y_ld Tryz.sc_3 rfl) ?_; clear hf a; intro a hf
    refine o_v hf hh (y_sub rfl rfl) ?_; clear hf a; intro a hf
    refine o_v hf hh (yv_max rfl rfl) ?_; clear hf a; intro a hf
    refine o_v hf hh (yv_assign rfl) ?_; clear hf a; intro a hf
    refine o_end ?_
    refine sy_block ?_
    refine sy_loopH (σ := Int) [4, 5, 24, 25, 26, 27, 28, 29, 30, 31, 32, 33, 34, 35, 36, 37, 38, 39, 40, 41, 42, 43, 44, 45, 46, 47, 48, 49, 50, 51, 52, 53, 54, 55, 56, 57, 58, 59, 60, 61, 62, 63, 64, 65] (fun p1 => [(4, .int .i64 p1)]) (fun p1 => fun w' => (max 0 (((one : Nat) : Int) - c.cuts) ≤ p1 ∧ p1 ≤ 82) ∧ ∃ done, trmL c.cuts = done ++ restA c.cuts one p1 ∧ J done.length w') (fun p1 => (83 - p1).toNat) (max 0 (((one : Nat) : Int) - c.cuts)) hf ?_ ?_ ?_
    · exact ⟨rfl, True.intro⟩
    · exact ⟨⟨Int.le_refl _, by omega⟩, done, by rw [hx, restO_step (by omega)], hJe _ _ _ hJ hh.ext⟩
    ·rintro p1 a w ⟨⟨hp1, hp2⟩, done2, hx2, hJ2⟩ hf
     obtain ⟨m1, hb⟩ := hJM _ _ hJ2
     have hh := Hp.init w []
     refine sy_seq ?_
     refine sy_sq ?_
     refine o_v hf hh (yv_move rfl) ?_; clear hf a; intro a hf
     refine o_v hf hh (yv_move rfl) ?_; clear hf a; intro a hf
     refine o_v hf hh (y_ld Tryz.sc_98 rfl) ?_; clear hf a; intro a hf
     refine o_v hf hh (yv_nilCheck rfl) ?_; clear hf a; intro a hf
     refine o_v hf hh (yv_fieldAddr Tryz.fo_103_0 rfl) ?_; clear hf a; intro a hf
     refine o_v hf hh (yv_fieldAddr Tryz.fo_51_3 rfl) ?_; clear hf a; intro a hf
     refine o_v hf hh (y_ld Tryz.sc_3 rfl) ?_; clear hf a; intro a hf
     refine o_v hf hh (yv_min rfl rfl) ?_; clear hf a; intro a hf
     refine o_v hf hh (yv_bin rfl rfl rfl) ?_; clear hf a; intro a hf
     refine o_end ?_
     refine sy_cond hf rfl (fun hg4 => ?_) (fun hg4 => ?_)
     ·have hG4 := hg4; try simp only [gS] at hG4
      refine sy_skip ?_
      refine then_n ?_
      refine sy_seq ?_
      refine sy_block ?_
      refine sy_sq ?_
      refine o_v hf hh (yv_move rfl) ?_; clear hf a; intro a hf
      refine o_v hf hh (y_ld Tryz.sc_98 rfl) ?_; clear hf a; intro a hf
      refine o_v hf hh (yv_nilCheck rfl) ?_; clear hf a; intro a hf
      refine o_v hf hh (yv_fieldAddr Tryz.fo_103_0 rfl) ?_; clear hf a; intro a hf
      refine o_v hf hh (yv_fieldAddr Tryz.fo_51_3 rfl) ?_; clear hf a; intro a hf
      refine o_v hf hh (y_ld Tryz.sc_3 rfl) ?_; clear hf a; intro a hf
      refine o_v hf hh (y_sub rfl rfl) ?_; clear hf a; intro a hf
      refine o_v hf hh (yv_max rfl rfl) ?_; clear hf a; intro a hf
      refine o_v hf hh (yv_assign rfl) ?_; clear hf a; intro a hf
      refine o_end ?_
      refine sy_block ?_
      refine sy_loopH (σ := Int) [5, 43, 44, 45, 46, 47, 48, 49, 50, 51, 52, 53, 54, 55, 56, 57, 58, 59, 60, 61, 62, 63, 64, 65] (fun q1 => [(5, .int .i64 q1)]) (fun q1 => fun w' => (max 0 (((one : Nat) : Int) - c.cuts) ≤ q1 ∧ q1 ≤ 82) ∧ ∃ done, trmL c.cuts = done ++ restD c.cuts one p1 q1 ∧ J done.length w') (fun q1 => (83 - q1).toNat) (max 0 (((one : Nat) : Int) - c.cuts)) hf ?_ ?_ ?_
      · exact ⟨rfl, True.intro⟩
      · exact ⟨⟨Int.le_refl _, by omega⟩, done2, by rw [hx2, restA_step (by omega)], hJe _ _ _ hJ2 hh.ext⟩
      ·rintro q1 a w ⟨⟨hq1, hq2⟩, done3, hx3, hJ3⟩ hf
       obtain ⟨m1, hb⟩ := hJM _ _ hJ3
       have hh := Hp.init w []
       refine sy_seq ?_
       refine sy_sq ?_
       refine o_v hf hh (yv_move rfl) ?_; clear hf a; intro a hf
       refine o_v hf hh (yv_move rfl) ?_; clear hf a; intro a hf
       refine o_v hf hh (y_ld Tryz.sc_98 rfl) ?_; clear hf a; intro a hf
       refine o_v hf hh (yv_nilCheck rfl) ?_; clear hf a; intro a hf
       refine o_v hf hh (yv_fieldAddr Tryz.fo_103_0 rfl) ?_; clear hf a; intro a hf
       refine o_v hf hh (yv_fieldAddr Tryz.fo_51_3 rfl) ?_; clear hf a; intro a hf
       refine o_v hf hh (y_ld Tryz.sc_3 rfl) ?_; clear hf a; intro a hf
       refine o_v hf hh (yv_min rfl rfl) ?_; clear hf a; intro a hf
       refine o_v hf hh (yv_bin rfl rfl rfl) ?_; clear hf a; intro a hf
       refine o_end ?_
       refine sy_cond hf rfl (fun hg6 => ?_) (fun hg6 => ?_)
       ·have hG6 := hg6; try simp only [gS] at hG6
        refine sy_skip ?_
        refine then_n ?_
        refine sy_seq ?_
        refine sy_block ?_
        refine sy_sq ?_
        refine o_v hf hh (yv_move rfl) ?_; clear hf a; intro a hf
        refine o_v hf hh (yv_move rfl) ?_; clear hf a; intro a hf
        refine o_v hf hh (yv_move rfl) ?_; clear hf a; intro a hf
        refine o_v hf hh (yv_move rfl) ?_; clear hf a; intro a hf
        refine o_v hf hh (y_sub rfl rfl) ?_; clear hf a; intro a hf
        refine o_v hf hh (yv_move rfl) ?_; clear hf a; intro a hf
        refine o_v hf hh (yv_move rfl) ?_; clear hf a; intro a hf
        refine o_v hf hh (yv_move rfl) ?_; clear hf a; intro a hf
        refine o_v hf hh (y_sub rfl rfl) ?_; clear hf a; intro a hf
        refine o_v hf hh (yv_buildA Tryz.ba_105 rfl rfl) ?_; clear hf a; intro a hf
        have hxy := hx3
        rw [restD_step (by omega)] at hxy
        refine ops_yield hf rfl rfl (.inl rfl) rfl (hy _ _ _ (at_trm hxy) (hJe _ _ _ hJ3 hh.ext)) ?_; clear hf a; intro v a w hR hf
        have hR2 : ∃ o : Bool, v = .bool o ∧ (o = true → J (done3.length + 1) w) ∧ (o = false → K done3.length w) := by
          rcases hR with ⟨rfl, h⟩ | ⟨rfl, h⟩
          · exact ⟨true, rfl, fun _ => h, fun h => by cases h⟩
          · exact ⟨false, rfl, (fun h => by cases h), fun _ => h⟩
        clear hR
        obtain ⟨o, rfl, ho1, ho2⟩ := hR2
        clear hh; have hh := Hp.init w []
        refine o_v hf hh (yv_not rfl) ?_; clear hf a; intro a hf
        refine o_end ?_
        refine sy_cond hf rfl (fun hg8 => ?_) (fun hg8 => ?_)
        ·have hG8 := hg8; try simp only [gS] at hG8
         refine sy_ret ?_
         refine blk_r ?_
         refine then_r ?_
         refine then_r ?_
         refine blk_r ?_
         refine blk_r ?_
         refine then_r ?_
         refine then_r ?_
         refine blk_r ?_
         refine blk_r ?_
         refine then_r ?_
         refine then_r ?_
         refine blk_r ?_
         refine ret_r hf rfl rfl ?_
         first
           | exact .inr ⟨_, hKe _ _ _ (ho2 (by simp_all)) hh.ext⟩
           | (refine .inl ?_
              have hle : trmL c.cuts = done := by rw [hx, restO_end (by omega), List.append_nil]
              rw [hle, List.length_map]
              exact hJe _ _ _ hJ hh.ext)
        ·have hG8 := hg8; try simp only [gS] at hG8
         refine sy_skip ?_
         refine blk_n ?_
         refine then_n ?_
         refine sy_ops ?_
         refine o_v hf hh (yv_move rfl) ?_; clear hf a; intro a hf
         refine o_v hf hh (y_add rfl rfl) ?_; clear hf a; intro a hf
         refine o_v hf hh (yv_assign rfl) ?_; clear hf a; intro a hf
         refine ops_end ?_
         refine then_n ?_
         refine ⟨q1 + 1, ⟨⟨⟨by omega, by omega⟩, done3 ++ [tupD one p1 q1], by rw [hxy, List.append_assoc]; rfl, ?_⟩, hf.head ⟨rfl, True.intro⟩ (Keep.cons rfl (Keep.cons rfl (Keep.cons rfl (Keep.cons rfl (Keep.cons rfl (Keep.cons rfl (Keep.cons rfl (Keep.cons rfl (Keep.cons rfl (Keep.cons rfl (Keep.cons rfl (Keep.cons rfl (Keep.cons rfl (Keep.cons rfl (Keep.cons rfl (Keep.cons rfl (Keep.cons rfl (Keep.cons rfl (Keep.cons rfl (Keep.cons rfl (Keep.cons rfl (Keep.cons rfl (Keep.cons rfl (Keep.cons rfl (Keep.app rfl (Keep.rm rfl Keep.base))))))))))))))))))))))))))⟩, by omega⟩
         rw [List.length_append]
         exact hJe _ _ _ (ho1 (by simp_all)) hh.ext
       ·have hG6 := hg6; try simp only [gS] at hG6
        refine sy_exit ?_
        refine then_e ?_
        refine then_e ?_
        refine blk_e ?_
        refine blk_n ?_
        refine then_n ?_
        refine sy_ops ?_
        refine o_v hf hh (yv_move rfl) ?_; clear hf a; intro a hf
        refine o_v hf hh (y_add rfl rfl) ?_; clear hf a; intro a hf
        refine o_v hf hh (yv_assign rfl) ?_; clear hf a; intro a hf
        refine ops_end ?_
        refine then_n ?_
        exact ⟨p1 + 1, ⟨⟨⟨by omega, by omega⟩, done3, by rw [hx3, restD_end (by omega)], hJe _ _ _ hJ3 hh.ext⟩, hf.head ⟨rfl, True.intro⟩ (Keep.cons rfl (Keep.cons rfl (Keep.cons rfl (Keep.cons rfl (Keep.cons rfl (Keep.cons rfl (Keep.cons rfl (Keep.cons rfl (Keep.cons rfl (Keep.cons rfl (Keep.cons rfl (Keep.cons rfl (Keep.app rfl (Keep.rm rfl (Keep.cons rfl (Keep.cons rfl (Keep.cons rfl (Keep.cons rfl (Keep.cons rfl (Keep.cons rfl (Keep.cons rfl (Keep.cons rfl (Keep.cons rfl (Keep.cons rfl (Keep.cons rfl (Keep.cons rfl (Keep.cons rfl (Keep.cons rfl (Keep.cons rfl (Keep.cons rfl (Keep.cons rfl (Keep.cons rfl (Keep.app rfl (Keep.rm rfl Keep.base))))))))))))))))))))))))))))))))))⟩, by omega⟩
     ·have hG4 := hg4; try simp only [gS] at hG4
      refine sy_exit ?_
      refine then_e ?_
      refine then_e ?_
      refine blk_e ?_
      refine blk_n ?_
      refine then_n ?_
      refine sy_ops ?_
      refine o_v hf hh (y_add rfl rfl) ?_; clear hf a; intro a hf
      refine o_v hf hh (yv_move rfl) ?_; clear hf a; intro a hf
      refine ops_end ?_
      refine then_n ?_
      exact ⟨one + 1, ⟨⟨by omega, done2, by rw [hx2, restA_end (by omega)], hJe _ _ _ hJ2 hh.ext⟩, (hf.head (by repeat' (first | exact True.intro | refine And.intro rfl ?_)) (Keep.cons rfl (Keep.cons rfl (Keep.cons rfl (Keep.cons rfl (Keep.cons rfl (Keep.cons rfl (Keep.cons rfl (Keep.cons rfl (Keep.cons rfl (Keep.cons rfl (Keep.cons rfl (Keep.app rfl (Keep.rm rfl (Keep.cons rfl (Keep.cons rfl (Keep.cons rfl (Keep.cons rfl (Keep.cons rfl (Keep.cons rfl (Keep.cons rfl (Keep.cons rfl (Keep.cons rfl (Keep.cons rfl (Keep.cons rfl (Keep.cons rfl (Keep.app rfl (Keep.rm rfl Keep.base))))))))))))))))))))))))))))⟩, by omega⟩
   ·have hG2 := hg2; try simp only [gS] at hG2
    refine sy_exit ?_
    refine then_e ?_
    refine then_e ?_
    refine blk_e ?_
    refine ret_n hf rfl rfl ?_
    first
      | exact .inr ⟨_, hKe _ _ _ (ho2 (by simp_all)) hh.ext⟩
      | (refine .inl ?_
         have hle : trmL c.cuts = done := by rw [hx, restO_end (by omega), List.append_nil]
         rw [hle, List.length_map]
         exact hJe _ _ _ hJ hh.ext)
end Go.Proofs.YtccpgpnekoncoaaGreatDoor

namespace Go.Proofs.YtccpgpnekoncoaaGreatDoor
open Go Go.Sy Go.PaiM
/-- The edges of what was found. -/
abbrev ox (o : Option Edg) : Edg := o.getD (0, 0, 0, 0)
theorem hur2_fine {c : CaD} {y : Int × Int} {e : Edg} : (hurP c y e).2 = 0 ↔ fineB c y e = true := by
  rw [← hur_fine]
  unfold hurP
  split
  · rename_i h; exact ⟨fun _ => h, fun _ => rfl⟩
  · rename_i i h
    have h2 := List.find?_some h
    have h3 := of_decide_eq_true h2
    dsimp only
    exact ⟨fun e => by omega, fun e => by rw [e] at h; cases h⟩
set_option maxRecDepth 100000 in
set_option maxHeartbeats 4000000 in
theorem c_best (c : CaD) (y : Int × Int) (sa : Option Addr) (cp Bc : Nat) (u : World) (hC : CarAt u c y sa cp Bc) : Calls Tryz.prog 47 #[ptr Bc 0] u (Ret fun v w' => v = .tuple #[.agg (edA (ox (bstO c y))), .bool (bstO c y).isSome] ∧ Ext [] u w') := by
  refine calls_ofM Tryz.func47 rfl rfl (fun a hf => ?_)
  have hh := Hp.init u []
  obtain ⟨bm, es, cm, hb, hm, hS⟩ := hC.ex
  have hnt := hC.ok.pr.nt
  have hc := hC.ok
  obtain ⟨k1, k2⟩ := hc.cu
  refine sy_sq ?_
  refine o_box hf hh ?_; clear hf hh a; intro B1 a w hf hh
  refine o_alloc hf hh Tryz.ze_105 ?_; clear hf hh a; intro B2 a w hf hh
  refine o_alloc hf hh Tryz.ze_4 ?_; clear hf hh a; intro B3 a w hf hh
  refine o_end ?_
  refine sy_scope ?_
  refine sy_sq ?_
  refine o_alloc hf hh Tryz.ze_153 ?_; clear hf hh a; intro B4 a w hf hh
  refine o_end ?_
  refine sy_seq ?_
  refine sy_label ?_
  refine then_n ?_
  refine sy_seq ?_
  refine sy_sq ?_
  refine o_v hf hh (y_ld Tryz.sc_98 rfl) ?_; clear hf a; intro a hf
  refine o_call hf Tryz.en_77 rfl rfl rfl (c_trims Bc _) ?_; clear hf a; intro v a w hR hf
  obtain ⟨Bt, rfl, hx⟩ := hR; replace hh := hh.join hx; clear hx
  replace hh : Hp u [] [(Bt, .cells #[ptr Bc 0] 98), (B4, .cells (orA (ox (none : Option Edg))) 153), (B3, .cells #[.bool (none : Option Edg).isSome] 4), (B2, .cells (edA (ox (none : Option Edg))) 105), (B1, .cells #[ptr Bc 0] 98)] w := hh
  refine o_end ?_
  refine sy_block ?_
  refine sy_range (I := fun k H => H = [(Bt, .cells #[ptr Bc 0] 98), (B4, .cells (orA (ox (bstT c y k))) 153), (B3, .cells #[.bool (bstT c y k).isSome] 4), (B2, .cells (edA (ox (bstT c y k))) 105), (B1, .cells #[ptr Bc 0] 98)]) (X := fun k q H => q = .exit 0 ∧ H = [(Bt, .cells #[ptr Bc 0] 98), (B4, .cells (orA (ox (bstO c y))) 153), (B3, .cells #[.bool (bstO c y).isSome] 4), (B2, .cells (edA (ox (bstO c y))) 105), (B1, .cells #[ptr Bc 0] 98)]) hf hh Tryz.en_107 rfl (it_trm c sa cp Bc bm Bt hc) rfl (by intro x hx; obtain ⟨y, _, rfl⟩ := List.mem_map.1 hx; rfl) ?_ ?_ ?_ ?_ ?_
  · rfl
  · rintro _ _ l D o w rfl h
    exact ⟨h.at (i := 2) rfl, h.old hb⟩
  ·rintro k x fn D l H w a tm hx rfl hh hf
   obtain ⟨x0, hx0, rfl⟩ := ex_trm hx
   refine sy_ops ?_
   refine o_alloc hf hh Tryz.ze_105 ?_; clear hf hh a; intro B5 a w hf hh
   refine o_store hf hh Tryz.sz_105 fun w hh => ?_
   refine ops_end ?_
   refine then_n (Go.Sy.begun (i := 1) hh rfl fun w hh => ?_)
   refine sy_block ?_
   refine sy_seq ?_
   have hE := edB_of hc ((trm_mem k1).1 (List.mem_of_getElem? hx0))
   obtain ⟨⟨a1, a2⟩, ⟨b1, b2⟩, ⟨c1, c2⟩, d1, d2⟩ := hE
   refine sy_ops ?_
   refine o_v hf hh (y_ia Tryz.ae_105 rfl rfl) ?_; clear hf a; intro a hf
   refine o_v hf hh (y_ld Tryz.sc_3 rfl) ?_; clear hf a; intro a hf
   refine o_v hf hh (y_ia Tryz.ae_105 rfl rfl) ?_; clear hf a; intro a hf
   refine o_v hf hh (y_ld Tryz.sc_3 rfl) ?_; clear hf a; intro a hf
   refine o_v hf hh (y_add rfl rfl) ?_; clear hf a; intro a hf
   refine o_v hf hh (y_ia Tryz.ae_105 rfl rfl) ?_; clear hf a; intro a hf
   refine o_v hf hh (y_ld Tryz.sc_3 rfl) ?_; clear hf a; intro a hf
   refine o_v hf hh (y_add rfl rfl) ?_; clear hf a; intro a hf
   refine o_v hf hh (y_ia Tryz.ae_105 rfl rfl) ?_; clear hf a; intro a hf
   refine o_v hf hh (y_ld Tryz.sc_3 rfl) ?_; clear hf a; intro a hf
   refine o_v hf hh (y_add rfl rfl) ?_; clear hf a; intro a hf
   refine o_v hf hh (y_lds Tryz.ag_105 rfl) ?_; clear hf a; intro a hf
   refine o_v hf hh (yv_buildS Tryz.bs_153 rfl rfl) ?_; clear hf a; intro a hf
   refine o_alloc hf hh Tryz.ze_153 ?_; clear hf hh a; intro B6 a w hf hh
   refine o_store hf hh Tryz.sz_153 fun w hh => ?_
   refine o_end ?_
   refine sy_seq ?_
   refine sy_seq ?_
   replace hh : Hp u [] ((B6, .cells (orA x0) 153) :: (B5, .cells (edA x0) 105) :: (l, _) :: (D, _) :: [(Bt, .cells #[ptr Bc 0] 98), (B4, .cells (orA (ox (bstT c y k))) 153), (B3, .cells #[.bool (bstT c y k).isSome] 4), (B2, .cells (edA (ox (bstT c y k))) 105), (B1, .cells #[ptr Bc 0] 98)]) w := hh
   refine sy_ops ?_
   refine o_v hf hh (y_ld Tryz.sc_4 rfl) ?_; clear hf a; intro a hf
   refine o_end ?_
   refine sy_cond hf rfl (fun hg4 => ?_) (fun hg4 => ?_)
   ·have hG4 := hg4; try simp only [gS] at hG4
    refine sy_seq ?_
    refine sy_seq ?_
    obtain ⟨e0, he0⟩ := Option.isSome_iff_exists.1 (show (bstT c y k).isSome = true by assumption)
    have e9 : ox (some e0) = e0 := rfl
    rw [he0, e9] at hh
    refine sy_ops ?_
    refine o_v hf hh (yv_fieldAddr Tryz.fo_153_0 rfl) ?_; clear hf a; intro a hf
    refine o_v hf hh (y_ld Tryz.sc_3 rfl) ?_; clear hf a; intro a hf
    refine o_v hf hh (yv_fieldAddr Tryz.fo_153_0 rfl) ?_; clear hf a; intro a hf
    refine o_v hf hh (y_ld Tryz.sc_3 rfl) ?_; clear hf a; intro a hf
    refine o_v hf hh (yv_bin rfl rfl rfl) ?_; clear hf a; intro a hf
    refine o_end ?_
    refine sy_cond hf rfl (fun hg6 => ?_) (fun hg6 => ?_)
    ·have hG6 := hg6; try simp only [gS] at hG6
     refine sy_exit ?_
     refine then_e ?_
     refine then_e ?_
     refine blk_x rfl ?_
     refine ⟨_, ⟨rfl, rfl⟩, ?_⟩
     rw [bst_done he0]; exact (hh.less (.cons _ (.cons _ (List.Sublist.refl _))))
    ·have hG6 := hg6; try simp only [gS] at hG6
     refine sy_skip ?_
     refine then_n ?_
     refine sy_seq ?_
     obtain ⟨hsm, hlx⟩ := bef_lex (bst_bef he0 hx0) (by omega)
     refine sy_ops ?_
     refine o_v hf hh (y_lds Tryz.ag_153 rfl) ?_; clear hf a; intro a hf
     refine o_v hf hh (y_lds Tryz.ag_153 rfl) ?_; clear hf a; intro a hf
     refine o_call hf Tryz.en_78 rfl rfl rfl (c_before e0 x0 hsm hlx _) ?_; clear hf a; intro v a w hR hf
     obtain ⟨rfl, hx⟩ := hR; replace hh := hh.more hx; clear hx
     refine o_end ?_
     refine c_t hf ?_
     refine sy_exit ?_
     refine then_e ?_
     refine blk_e ?_
     first
       | (refine ⟨_, rfl, ?_⟩
          rw [bst_keep he0]; exact (hh.less (.cons _ (.cons _ (List.Sublist.refl _)))))
       | (have hfi : fineB c y x0 = true := hur2_fine.1 (by assumption)
          refine ⟨_, rfl, ?_⟩
          rw [bst_new hno hx0, if_pos hfi]; exact (hh.less (.cons _ (.cons _ (List.Sublist.refl _)))))
       | (have hfi : ¬ fineB c y x0 = true := fun h => absurd (hur2_fine.2 h) (by assumption)
          refine ⟨_, rfl, ?_⟩
          rw [bst_new hno hx0, if_neg hfi]; exact (hh.less (.cons _ (.cons _ (List.Sublist.refl _)))))
   ·have hG4 := hg4; try simp only [gS] at hG4
    refine sy_skip ?_
    refine then_n ?_
    refine sy_seq ?_
    have hno : bstT c y k = none := by
      cases h : bstT c y k with
      | none => rfl
      | some e9 => simp_all
    have hE : EdB x0 := ⟨⟨a1, a2⟩, ⟨b1, b2⟩, ⟨c1, c2⟩, d1, d2⟩
    rw [hno] at hh
    refine sy_ops ?_
    refine o_v hf hh (y_ld Tryz.sc_98 rfl) ?_; clear hf a; intro a hf
    refine o_v hf hh (y_lds Tryz.ag_105 rfl) ?_; clear hf a; intro a hf
    refine o_v hf hh (yv_buildS Tryz.bs_160 rfl rfl) ?_; clear hf a; intro a hf
    refine o_call hf Tryz.en_79 rfl rfl rfl (c_hurt c y sa cp Bc x0 hE _ (hC.ext hh.ext)) ?_; clear hf a; intro v a w hR hf
    obtain ⟨rfl, hx⟩ := hR; replace hh := hh.more hx; clear hx
    refine o_v hf hh (yv_move rfl) ?_; clear hf a; intro a hf
    refine o_v hf hh (yv_extract rfl rfl) ?_; clear hf a; intro a hf
    refine o_v hf hh (yv_extract rfl rfl) ?_; clear hf a; intro a hf
    refine o_v hf hh (yv_assign rfl) ?_; clear hf a; intro a hf
    refine o_v hf hh (yv_assign rfl) ?_; clear hf a; intro a hf
    refine o_end ?_
    refine sy_sq ?_
    refine o_v hf hh (yv_move rfl) ?_; clear hf a; intro a hf
    refine o_v hf hh (yv_bin rfl rfl rfl) ?_; clear hf a; intro a hf
    refine o_end ?_
    refine sy_cond hf rfl (fun hg12 => ?_) (fun hg12 => ?_)
    ·have hG12 := hg12; try simp only [gS] at hG12
     refine sy_treeC (.q 0 0 (.q 0 1 (.e1 2 (.e1 3 (.e1 4 (.fin)))))) [[]] [(AtE u [] [(B6, .cells (orA x0) 153), (B5, .cells (edA x0) 105)], [])] Tryz.follows (by kernel_rfl) rfl hh (fun w hh => ?_)
     refine mc_q rfl rfl (AtE.of hh (by intro z hz; simp only [List.mem_cons, List.not_mem_nil, or_false] at hz ⊢; rcases hz with h | h <;> simp [h])) hf (y_lds Tryz.ag_105 rfl) (.inl rfl) rfl rfl ?_; clear hf a; intro a hf
     refine mc_q rfl rfl (AtE.of hh (by intro z hz; simp only [List.mem_cons, List.not_mem_nil, or_false] at hz ⊢; rcases hz with h | h <;> simp [h])) hf (y_lds Tryz.ag_153 rfl) (.inl rfl) rfl rfl ?_; clear hf a; intro a hf
     refine mc_e rfl fun Q1 => ?_
     refine o_store hf hh Tryz.sz_105 fun w hh => ?_
     refine ops_end ?_
     refine then_n ⟨⟨fun _ _ => (AtE.of hh (by intro z hz; simp only [List.mem_cons, List.not_mem_nil, or_false] at hz ⊢; rcases hz with h | h <;> simp [h])), trivial⟩, ?_⟩
     refine mc_e rfl fun Q1 => ?_
     refine o_store hf hh Tryz.sz_153 fun w hh => ?_
     refine ops_end ?_
     refine then_n ⟨⟨fun _ _ => (AtE.of hh (by intro z hz; simp only [List.mem_cons, List.not_mem_nil, or_false] at hz ⊢; rcases hz with h | h <;> simp [h])), trivial⟩, ?_⟩
     refine mc_e rfl fun Q1 => ?_
     refine o_store hf hh Tryz.sz_4 fun w hh => ?_
     refine ops_end ?_
     refine then_n ⟨⟨fun _ _ => (AtE.of hh (by intro z hz; simp only [List.mem_cons, List.not_mem_nil, or_false] at hz ⊢; rcases hz with h | h <;> simp [h])), trivial⟩, ?_⟩
     refine mc_end ?_
     refine blk_n ?_
     first
       | (refine ⟨_, rfl, ?_⟩
          rw [bst_keep he0]; exact (hh.less (.cons _ (.cons _ (List.Sublist.refl _)))))
       | (have hfi : fineB c y x0 = true := hur2_fine.1 (by assumption)
          refine ⟨_, rfl, ?_⟩
          rw [bst_new hno hx0, if_pos hfi]; exact (hh.less (.cons _ (.cons _ (List.Sublist.refl _)))))
       | (have hfi : ¬ fineB c y x0 = true := fun h => absurd (hur2_fine.2 h) (by assumption)
          refine ⟨_, rfl, ?_⟩
          rw [bst_new hno hx0, if_neg hfi]; exact (hh.less (.cons _ (.cons _ (List.Sublist.refl _)))))
    ·have hG12 := hg12; try simp only [gS] at hG12
     refine sy_skip ?_
     refine blk_n ?_
     first
       | (refine ⟨_, rfl, ?_⟩
          rw [bst_keep he0]; exact (hh.less (.cons _ (.cons _ (List.Sublist.refl _)))))
       | (have hfi : fineB c y x0 = true := hur2_fine.1 (by assumption)
          refine ⟨_, rfl, ?_⟩
          rw [bst_new hno hx0, if_pos hfi]; exact (hh.less (.cons _ (.cons _ (List.Sublist.refl _)))))
       | (have hfi : ¬ fineB c y x0 = true := fun h => absurd (hur2_fine.2 h) (by assumption)
          refine ⟨_, rfl, ?_⟩
          rw [bst_new hno hx0, if_neg hfi]; exact (hh.less (.cons _ (.cons _ (List.Sublist.refl _)))))
  ·rintro D H a w rfl hf hh
   rw [List.length_map, bst_all] at hh
   refine blk_n ?_
   refine then_n ?_
   refine sy_seq ?_
   refine sy_treeC (.q 0 0 (.q 1 1 (.e1 2 (.e1 3 (.fin))))) [[2, 3], [3]] [(AtE u [] [(B3, .cells #[.bool (bstO c y).isSome] 4), (B2, .cells (edA (ox (bstO c y))) 105)], [2, 3]), (AtE u [] [(B3, .cells #[.bool (bstO c y).isSome] 4)], [3])] Tryz.follows (by kernel_rfl) rfl hh (fun w hh => ?_)
   refine mc_q rfl rfl (AtE.of hh (by intro z hz; simp only [List.mem_cons, List.not_mem_nil, or_false] at hz ⊢; rcases hz with h | h <;> simp [h])) hf (y_lds Tryz.ag_105 rfl) (.inl rfl) rfl rfl ?_; clear hf a; intro a hf
   refine mc_q rfl rfl (AtE.of hh (by intro q hq; rw [List.mem_singleton.1 hq]; simp)) hf (y_ld Tryz.sc_4 rfl) (.inl rfl) rfl rfl ?_; clear hf a; intro a hf
   refine mc_e rfl fun Q1 => ?_
   refine o_store hf hh Tryz.sz_105 fun w hh => ?_
   refine ops_end ?_
   refine then_n ⟨⟨fun h => Bool.noConfusion (show true = false from h), fun _ _ => (AtE.of hh (by intro q hq; rw [List.mem_singleton.1 hq]; simp)), trivial⟩, ?_⟩
   refine mc_e rfl fun Q1 => ?_
   refine o_store hf hh Tryz.sz_4 fun w hh => ?_
   refine ops_end ?_
   refine then_n ⟨⟨fun h => Bool.noConfusion (show true = false from h), fun h => Bool.noConfusion (show true = false from h), trivial⟩, ?_⟩
   refine mc_end ?_
   refine then_n ?_
   refine sy_ret ?_
   refine ng_r ?_
   exact ret_m (Ds := [D]) (H := [(Bt, .cells #[ptr Bc 0] 98), (B4, .cells (orA (ox (bstO c y))) 153), (B3, .cells #[.bool (bstO c y).isSome] 4), (B2, .cells (edA (ox (bstO c y))) 105), (B1, .cells #[ptr Bc 0] 98)]) hf hh fun w' hh => ⟨[.agg (edA (ox (bstO c y))), .bool (bstO c y).isSome], ⟨⟨B2, 0, _, _, _, rfl, hh.at (i := 3) rfl, .inr ⟨4, _, Tryz.ag_105, rfl, rfl⟩⟩, ⟨B3, 0, _, _, _, rfl, hh.at (i := 2) rfl, .inl ⟨Tryz.sc_4, rfl⟩⟩, True.intro⟩, rfl, hh.ext⟩
  ·rintro k q D H a w hX hf hh
   obtain ⟨rfl, rfl⟩ := hX
   refine sy_exit ?_
   refine blk_e ?_
   refine then_n ?_
   refine sy_seq ?_
   refine sy_treeC (.q 0 0 (.q 1 1 (.e1 2 (.e1 3 (.fin))))) [[2, 3], [3]] [(AtE u [] [(B3, .cells #[.bool (bstO c y).isSome] 4), (B2, .cells (edA (ox (bstO c y))) 105)], [2, 3]), (AtE u [] [(B3, .cells #[.bool (bstO c y).isSome] 4)], [3])] Tryz.follows (by kernel_rfl) rfl hh (fun w hh => ?_)
   refine mc_q rfl rfl (AtE.of hh (by intro z hz; simp only [List.mem_cons, List.not_mem_nil, or_false] at hz ⊢; rcases hz with h | h <;> simp [h])) hf (y_lds Tryz.ag_105 rfl) (.inl rfl) rfl rfl ?_; clear hf a; intro a hf
   refine mc_q rfl rfl (AtE.of hh (by intro q hq; rw [List.mem_singleton.1 hq]; simp)) hf (y_ld Tryz.sc_4 rfl) (.inl rfl) rfl rfl ?_; clear hf a; intro a hf
   refine mc_e rfl fun Q1 => ?_
   refine o_store hf hh Tryz.sz_105 fun w hh => ?_
   refine ops_end ?_
   refine then_n ⟨⟨fun h => Bool.noConfusion (show true = false from h), fun _ _ => (AtE.of hh (by intro q hq; rw [List.mem_singleton.1 hq]; simp)), trivial⟩, ?_⟩
   refine mc_e rfl fun Q1 => ?_
   refine o_store hf hh Tryz.sz_4 fun w hh => ?_
   refine ops_end ?_
   refine then_n ⟨⟨fun h => Bool.noConfusion (show true = false from h), fun h => Bool.noConfusion (show true = false from h), trivial⟩, ?_⟩
   refine mc_end ?_
   refine then_n ?_
   refine sy_ret ?_
   refine ng_r ?_
   exact ret_m (Ds := [D]) (H := [(Bt, .cells #[ptr Bc 0] 98), (B4, .cells (orA (ox (bstO c y))) 153), (B3, .cells #[.bool (bstO c y).isSome] 4), (B2, .cells (edA (ox (bstO c y))) 105), (B1, .cells #[ptr Bc 0] 98)]) hf hh fun w' hh => ⟨[.agg (edA (ox (bstO c y))), .bool (bstO c y).isSome], ⟨⟨B2, 0, _, _, _, rfl, hh.at (i := 3) rfl, .inr ⟨4, _, Tryz.ag_105, rfl, rfl⟩⟩, ⟨B3, 0, _, _, _, rfl, hh.at (i := 2) rfl, .inl ⟨Tryz.sc_4, rfl⟩⟩, True.intro⟩, rfl, hh.ext⟩
theorem c_cuts (e : Edg) (u : World) : Calls Tryz.prog 84 #[.agg (edA e)] u (Ret fun v w' => v = .agg (edA e) ∧ Ext [] u w') := by
  refine calls_of Tryz.func84 rfl rfl (fun a hf => ?_)
  have hh := Hp.init u []
  refine sy_sq ?_
  refine o_box hf hh ?_; clear hf hh a; intro B1 a w hf hh
  refine o_alloc hf hh Tryz.ze_120 ?_; clear hf hh a; intro B2 a w hf hh
  refine o_end ?_
  refine sy_sq ?_
  refine o_v hf hh (y_ia Tryz.ae_105 rfl rfl) ?_; clear hf a; intro a hf
  refine o_v hf hh (y_ld Tryz.sc_3 rfl) ?_; clear hf a; intro a hf
  refine o_v hf hh (y_ia Tryz.ae_105 rfl rfl) ?_; clear hf a; intro a hf
  refine o_v hf hh (y_ld Tryz.sc_3 rfl) ?_; clear hf a; intro a hf
  refine o_v hf hh (y_ia Tryz.ae_105 rfl rfl) ?_; clear hf a; intro a hf
  refine o_v hf hh (y_ld Tryz.sc_3 rfl) ?_; clear hf a; intro a hf
  refine o_v hf hh (y_ia Tryz.ae_105 rfl rfl) ?_; clear hf a; intro a hf
  refine o_v hf hh (y_ld Tryz.sc_3 rfl) ?_; clear hf a; intro a hf
  refine o_v hf hh (yv_buildS Tryz.bs_120 rfl rfl) ?_; clear hf a; intro a hf
  refine o_store hf hh Tryz.sz_120 fun w hh => ?_
  refine o_end ?_
  refine sy_ret ?_
  refine ret_c (vs := [.agg (edA e)]) hf ?_ ?_
  · exact ⟨⟨B2, 0, _, _, _, rfl, hh.at (i := 0) rfl, .inr ⟨4, _, Tryz.ag_120, rfl, rfl⟩⟩, True.intro⟩
  · exact ⟨rfl, hh.ext⟩
set_option maxRecDepth 100000 in
theorem c_Trim (c : CaD) (sa : Option Addr) (cp : Nat) (y : Int × Int) (hc : CaOk c) (hy : powO c.pr = some y) (u : World) (hA : ThAt u sa c.pr.th) : Calls Tryz.prog 53 #[.agg (caA c sa cp)] u (Ret fun v w' => v = .tuple #[.agg (edA (ox (bstO c y))), .int .i64 (if (bstO c y).isSome then 0 else 11)] ∧ Ext [] u w') := by
  refine calls_of Tryz.func53 rfl rfl (fun a hf => ?_)
  have hh := Hp.init u []
  have hnt := hc.pr.nt
  refine sy_sq ?_
  refine o_box hf hh ?_; clear hf hh a; intro B1 a w hf hh
  refine o_alloc hf hh Tryz.ze_120 ?_; clear hf hh a; intro B2 a w hf hh
  refine o_v hf hh (yv_assign rfl) ?_; clear hf a; intro a hf
  refine o_end ?_
  refine sy_sq ?_
  refine o_v hf hh (y_lds Tryz.ag_51 rfl) ?_; clear hf a; intro a hf
  refine o_call hf Tryz.en_46 rfl rfl rfl (c_openM c sa cp y hc hy [] none 0 (fun e h => by simp at h) (by simp) _ (hA.ext hh.ext) (ed_nil _ _)) ?_; clear hf a; intro v a w hR hf
  obtain ⟨Bc, rfl, hC, hx⟩ := hR; replace hh := hh.more hx; clear hx
  refine o_v hf hh (yv_move rfl) ?_; clear hf a; intro a hf
  refine o_v hf hh (yv_extract rfl rfl) ?_; clear hf a; intro a hf
  refine o_v hf hh (yv_extract rfl rfl) ?_; clear hf a; intro a hf
  refine o_v hf hh (yv_assign rfl) ?_; clear hf a; intro a hf
  refine o_v hf hh (yv_assign rfl) ?_; clear hf a; intro a hf
  refine o_end ?_
  refine sy_seq ?_
  refine sy_sq ?_
  refine o_v hf hh (yv_move rfl) ?_; clear hf a; intro a hf
  refine o_v hf hh (yv_bin rfl rfl rfl) ?_; clear hf a; intro a hf
  refine o_end ?_
  refine c_f hf ?_
  refine sy_skip ?_
  refine then_n ?_
  refine sy_sq ?_
  refine o_v hf hh (yv_move rfl) ?_; clear hf a; intro a hf
  refine o_call hf Tryz.en_47 rfl rfl rfl (c_best c y sa cp Bc w hC) ?_; clear hf a; intro v a w hR hf
  obtain ⟨rfl, hx⟩ := hR; replace hh := hh.more hx; clear hx
  refine o_v hf hh (yv_move rfl) ?_; clear hf a; intro a hf
  refine o_v hf hh (yv_extract rfl rfl) ?_; clear hf a; intro a hf
  refine o_v hf hh (yv_extract rfl rfl) ?_; clear hf a; intro a hf
  refine o_alloc hf hh Tryz.ze_105 ?_; clear hf hh a; intro B6 a w hf hh
  refine o_store hf hh Tryz.sz_105 fun w hh => ?_
  refine o_v hf hh (yv_assign rfl) ?_; clear hf a; intro a hf
  refine o_end ?_
  refine sy_seq ?_
  refine sy_sq ?_
  refine o_v hf hh (yv_move rfl) ?_; clear hf a; intro a hf
  refine o_v hf hh (yv_not rfl) ?_; clear hf a; intro a hf
  refine o_end ?_
  refine sy_cond hf rfl (fun hg8 => ?_) (fun hg8 => ?_)
  ·have hG8 := hg8; try simp only [gS] at hG8
   refine sy_sq ?_
   refine o_v hf hh (yv_buildS Tryz.bs_120 rfl rfl) ?_; clear hf a; intro a hf
   refine o_store hf hh Tryz.sz_120 fun w hh => ?_
   refine o_v hf hh (yv_assign rfl) ?_; clear hf a; intro a hf
   refine o_end ?_
   refine sy_ret ?_
   refine then_r ?_
   refine ret_c (vs := [.agg (edA (0, 0, 0, 0)), .int .i64 11]) hf ?_ ?_
   · exact ⟨⟨B2, 0, _, _, _, rfl, hh.at (i := 1) rfl, .inr ⟨4, _, Tryz.ag_120, rfl, rfl⟩⟩, rfl, True.intro⟩
   · have h : bstO c y = none := by
       cases h : bstO c y with
       | none => rfl
       | some e => simp_all
     rw [h]; exact ⟨rfl, hh.ext⟩
  ·have hG8 := hg8; try simp only [gS] at hG8
   refine sy_skip ?_
   refine then_n ?_
   refine sy_sq ?_
   refine o_v hf hh (y_lds Tryz.ag_105 rfl) ?_; clear hf a; intro a hf
   refine o_call hf Tryz.en_84 rfl rfl rfl (c_cuts (ox (bstO c y)) _) ?_; clear hf a; intro v a w hR hf
   obtain ⟨rfl, hx⟩ := hR; replace hh := hh.more hx; clear hx
   refine o_store hf hh Tryz.sz_120 fun w hh => ?_
   refine o_v hf hh (yv_assign rfl) ?_; clear hf a; intro a hf
   refine o_end ?_
   refine sy_ret ?_
   refine ret_c (vs := [.agg (edA (ox (bstO c y))), .int .i64 0]) hf ?_ ?_
   · exact ⟨⟨B2, 0, _, _, _, rfl, hh.at (i := 1) rfl, .inr ⟨4, _, Tryz.ag_120, rfl, rfl⟩⟩, rfl, True.intro⟩
   · rw [if_pos (by simp_all)]; exact ⟨rfl, hh.ext⟩
end Go.Proofs.YtccpgpnekoncoaaGreatDoor

namespace Go.Proofs.YtccpgpnekoncoaaGreatDoor
open Go Go.Sy Go.PaiM
/-- Bounds lie in memory. -/
def PsAt (w : World) (sa : Option Addr) (l : List (Int × Int)) : Prop :=
  ∀ i t, l[i]? = some t → ∃ blk off c T fr, sa = some ⟨blk, off, none⟩ ∧ w.heap[blk]? = some (.cells c T fr) ∧ cellsAt c (off + ((i : Nat) : Int).toNat * 2) 2 = some [.int .i64 t.1, .int .i64 t.2]
theorem PsAt.ext {w w' : World} {sa : Option Addr} {l : List (Int × Int)} (h : PsAt w sa l) (e : Ext [] w w') : PsAt w' sa l := fun i s hi =>
  let ⟨blk, off, c, T, fr, h1, h2, h3⟩ := h i s hi
  ⟨blk, off, c, T, fr, h1, e.get h2, h3⟩
theorem ps_two {w : World} {B : Nat} {T : TypeId} {fr : Nat × Nat} {x z : Int × Int} (h : w.heap[B]? = some (.cells #[.int .i64 x.1, .int .i64 x.2, .int .i64 z.1, .int .i64 z.2] T fr)) : PsAt w (some ⟨B, 0, none⟩) [x, z] := fun i s hi2 => by
  match i, hi2 with
  | 0, hi2 => cases hi2; exact ⟨B, 0, _, T, _, rfl, h, rfl⟩
  | 1, hi2 => cases hi2; exact ⟨B, 0, _, T, _, rfl, h, rfl⟩
  | i + 2, hi2 => simp at hi2
theorem fold_take {l : List (Int × Int)} {i : Nat} {t x : Int × Int} (h : l[i]? = some t) : (l.take (i + 1)).foldl nar x = nar ((l.take i).foldl nar x) t := by
  rw [List.take_add_one, h, List.foldl_append]; rfl
theorem c_nrw (x : Int × Int) (l : List (Int × Int)) (sl : Option Addr) (cl : Nat) (u : World) (hL : PsAt u sl l) (hl : l.length ≤ 9223372036854775807) : Calls Tryz.prog 116 #[spV x, .slice sl l.length cl] u (Ret fun v w' => v = spV (l.foldl nar x) ∧ Ext [] u w') := by
  refine calls_of Tryz.func116 rfl rfl (fun a hf => ?_)
  have hh := Hp.init u []
  refine sy_sq ?_
  refine o_box hf hh ?_; clear hf hh a; intro B2 a w hf hh
  refine o_alloc hf hh Tryz.ze_151 ?_; clear hf hh a; intro B4 a w hf hh
  refine o_end ?_
  refine sy_seq ?_
  refine sy_sq ?_
  refine o_v hf hh (yv_move rfl) ?_; clear hf a; intro a hf
  refine o_v hf hh (yv_len Tryz.se_204 rfl) ?_; clear hf a; intro a hf
  refine o_v hf hh (yv_move rfl) ?_; clear hf a; intro a hf
  refine o_end ?_
  refine sy_block ?_
  refine sy_loopH (σ := Nat) [6, 9, 10, 11, 12, 13, 14, 15, 16, 17, 18, 19, 20, 21, 22, 23, 24] (fun i => [(9, .int .i64 (i : Nat))]) (fun i => fun w' => i ≤ l.length ∧ Hp u [] [(B4, .cells #[.int .i64 0, .int .i64 0] 151), (B2, .cells #[.int .i64 ((l.take i).foldl nar x).1, .int .i64 ((l.take i).foldl nar x).2] 151)] w') (fun i => l.length - i) (0) hf ?_ ?_ ?_
  · repeat' (first | exact True.intro | refine And.intro rfl ?_)
  · exact ⟨Nat.zero_le _, hh⟩
  ·rintro i a w ⟨hi, hh⟩ hf
   refine sy_sq ?_
   refine o_v hf hh (yv_bin rfl rfl rfl) ?_; clear hf a; intro a hf
   refine o_end ?_
   refine sy_seq ?_
   refine sy_cond hf rfl (fun hg2 => ?_) (fun hg2 => ?_)
   ·have hG2 := hg2; try simp only [gS] at hG2
    refine sy_skip ?_
    refine then_n ?_
    refine sy_seq ?_
    refine sy_block ?_
    refine sy_seq ?_
    obtain ⟨t, ht⟩ := ex_ofP (l := l) (i := i) (by omega)
    obtain ⟨blk, off, cc, TT, fr, esl, hb2, hcc⟩ := hL i t ht
    refine sy_ops ?_
    refine o_v hf hh (y_ix Tryz.se_204 (congrArg (fun z => some (Value.slice z l.length cl)) esl) rfl) ?_; clear hf a; intro a hf
    refine o_v hf hh (y_lds Tryz.ag_151 rfl) ?_; clear hf a; intro a hf
    refine o_alloc hf hh Tryz.ze_151 ?_; clear hf hh a; intro B6 a w hf hh
    refine o_store hf hh Tryz.sz_151 fun w hh => ?_
    refine o_end ?_
    refine sy_ops ?_
    refine o_v hf hh (yv_fieldAddr Tryz.fo_151_0 rfl) ?_; clear hf a; intro a hf
    refine o_v hf hh (y_ld Tryz.sc_3 rfl) ?_; clear hf a; intro a hf
    refine o_v hf hh (yv_fieldAddr Tryz.fo_151_0 rfl) ?_; clear hf a; intro a hf
    refine o_v hf hh (y_ld Tryz.sc_3 rfl) ?_; clear hf a; intro a hf
    refine o_v hf hh (yv_max rfl rfl) ?_; clear hf a; intro a hf
    refine o_v hf hh (yv_fieldAddr Tryz.fo_151_1 rfl) ?_; clear hf a; intro a hf
    refine o_v hf hh (y_ld Tryz.sc_3 rfl) ?_; clear hf a; intro a hf
    refine o_v hf hh (yv_fieldAddr Tryz.fo_151_1 rfl) ?_; clear hf a; intro a hf
    refine o_v hf hh (y_ld Tryz.sc_3 rfl) ?_; clear hf a; intro a hf
    refine o_v hf hh (yv_min rfl rfl) ?_; clear hf a; intro a hf
    refine o_v hf hh (yv_buildS Tryz.bs_151 rfl rfl) ?_; clear hf a; intro a hf
    refine o_store hf hh Tryz.sz_151 fun w hh => ?_
    refine ops_end ?_
    refine blk_n ?_
    refine then_n ?_
    refine sy_ops ?_
    refine o_v hf hh (y_add rfl rfl) ?_; clear hf a; intro a hf
    refine o_v hf hh (yv_move rfl) ?_; clear hf a; intro a hf
    refine ops_end ?_
    refine then_n ?_
    refine ⟨i + 1, ⟨⟨by omega, ?_⟩, (hf.head (by repeat' (first | exact True.intro | refine And.intro rfl ?_)) (Keep.cons rfl (Keep.cons rfl (Keep.cons rfl (Keep.cons rfl (Keep.cons rfl (Keep.cons rfl (Keep.cons rfl (Keep.cons rfl (Keep.cons rfl (Keep.cons rfl (Keep.cons rfl (Keep.cons rfl (Keep.cons rfl (Keep.cons rfl (Keep.cons rfl (Keep.cons rfl (Keep.cons rfl (Keep.app rfl (Keep.rm rfl Keep.base))))))))))))))))))))⟩, by omega⟩
    rw [fold_take ht]
    exact hh.less (.cons _ (.refl _))
   ·have hG2 := hg2; try simp only [gS] at hG2
    refine sy_exit ?_
    refine then_e ?_
    refine then_e ?_
    refine blk_e ?_
    refine then_n ?_
    refine sy_seq ?_
    obtain rfl : i = l.length := by omega
    rw [List.take_length] at hh
    refine sy_ops ?_
    refine o_v hf hh (y_lds Tryz.ag_151 rfl) ?_; clear hf a; intro a hf
    refine o_store hf hh Tryz.sz_151 fun w hh => ?_
    refine o_end ?_
    refine sy_ret ?_
    refine ret_c (vs := [spV (l.foldl nar x)]) hf ?_ ?_
    · exact ⟨⟨B4, 0, _, _, _, rfl, hh.at (i := 0) rfl, .inr ⟨2, _, Tryz.ag_151, rfl, rfl⟩⟩, True.intro⟩
    · exact ⟨rfl, hh.ext⟩
theorem c_empty (x : Int × Int) (u : World) : Calls Tryz.prog 92 #[spV x] u (Ret fun v w' => v = .bool (!neB x) ∧ Ext [] u w') := by
  refine calls_of Tryz.func92 rfl rfl (fun a hf => ?_)
  have hh := Hp.init u []
  refine sy_sq ?_
  refine o_box hf hh ?_; clear hf hh a; intro B1 a w hf hh
  refine o_v hf hh (yv_assign rfl) ?_; clear hf a; intro a hf
  refine o_end ?_
  refine sy_sq ?_
  refine o_v hf hh (yv_fieldAddr Tryz.fo_151_0 rfl) ?_; clear hf a; intro a hf
  refine o_v hf hh (y_ld Tryz.sc_3 rfl) ?_; clear hf a; intro a hf
  refine o_v hf hh (yv_fieldAddr Tryz.fo_151_1 rfl) ?_; clear hf a; intro a hf
  refine o_v hf hh (y_ld Tryz.sc_3 rfl) ?_; clear hf a; intro a hf
  refine o_v hf hh (yv_bin rfl rfl rfl) ?_; clear hf a; intro a hf
  refine o_v hf hh (yv_assign rfl) ?_; clear hf a; intro a hf
  refine o_end ?_
  refine sy_ret ?_
  refine ret_r hf rfl rfl ?_
  refine ⟨congrArg Value.bool ?_, hh.ext⟩
  unfold neB
  by_cases h : x.1 ≤ x.2
  · rw [decide_eq_true h, decide_eq_false (by omega)]; rfl
  · rw [decide_eq_false h, decide_eq_true (by omega)]; rfl
theorem c_spn (x : Int × Int) (u : World) : Calls Tryz.prog 93 #[spV x] u (Ret fun v w' => v = spV x ∧ Ext [] u w') := by
  refine calls_of Tryz.func93 rfl rfl (fun a hf => ?_)
  have hh := Hp.init u []
  refine sy_sq ?_
  refine o_box hf hh ?_; clear hf hh a; intro B1 a w hf hh
  refine o_alloc hf hh Tryz.ze_35 ?_; clear hf hh a; intro B2 a w hf hh
  refine o_end ?_
  refine sy_sq ?_
  refine o_v hf hh (yv_fieldAddr Tryz.fo_151_0 rfl) ?_; clear hf a; intro a hf
  refine o_v hf hh (y_ld Tryz.sc_3 rfl) ?_; clear hf a; intro a hf
  refine o_v hf hh (yv_fieldAddr Tryz.fo_151_1 rfl) ?_; clear hf a; intro a hf
  refine o_v hf hh (y_ld Tryz.sc_3 rfl) ?_; clear hf a; intro a hf
  refine o_v hf hh (yv_buildS Tryz.bs_35 rfl rfl) ?_; clear hf a; intro a hf
  refine o_store hf hh Tryz.sz_35 fun w hh => ?_
  refine o_end ?_
  refine sy_ret ?_
  refine ret_c (vs := [spV x]) hf ?_ ?_
  · exact ⟨⟨B2, 0, _, _, _, rfl, hh.at (i := 0) rfl, .inr ⟨2, _, Tryz.ag_35, rfl, rfl⟩⟩, True.intro⟩
  · exact ⟨rfl, hh.ext⟩
set_option maxRecDepth 100000 in
set_option maxHeartbeats 4000000 in
theorem c_room (c : CaD) (y : Int × Int) (sa : Option Addr) (cp Bc : Nat) (e : Edg) (he : EdB e) (u : World) (hC : CarAt u c y sa cp Bc) : Calls Tryz.prog 111 #[.agg (moA Bc e)] u (Ret fun v w' => v = spV (rooV c e) ∧ Ext [] u w') := by
  refine calls_of Tryz.func111 rfl rfl (fun a hf => ?_)
  have hh := Hp.init u []
  obtain ⟨bm, es, cm, hb, hm, hS⟩ := hC.ex
  have hnt := hC.ok.pr.nt
  have hc := hC.ok
  obtain ⟨e1, e2, e3⟩ := hc.ey; obtain ⟨p1, p2⟩ := hc.pm; obtain ⟨r1, r2⟩ := hc.sq; obtain ⟨f1, f2⟩ := hc.fr; obtain ⟨d1, d2⟩ := hc.de
  have w1 := win_bd hc he
  have w2 := apa_bd hc he
  refine sy_sq ?_
  refine o_box hf hh ?_; clear hf hh a; intro B1 a w hf hh
  refine o_alloc hf hh Tryz.ze_151 ?_; clear hf hh a; intro B2 a w hf hh
  refine o_end ?_
  refine sy_sq ?_
  refine o_v hf hh (yv_buildS Tryz.bs_151 rfl rfl) ?_; clear hf a; intro a hf
  refine o_v hf hh (yv_makeFunc rfl rfl) ?_; clear hf a; intro a hf
  refine o_v hf hh (yv_assign rfl) ?_; clear hf a; intro a hf
  refine o_end ?_
  refine sy_seq ?_
  refine sy_quiet (C := Hp _ _ _) Tryz.follows (by kernel_rfl) (hh.drawn _) ?_
  refine oq_v hf (y_lds Tryz.ag_160 rfl) ?_; clear hf a; intro a hf
  refine oq_call hf Tryz.en_117 rfl rfl rfl (fun w hh => c_window c y sa cp Bc e he _ (hC.ext hh.ext)) ?_; clear hf a; intro a hf
  refine oq_v hf (y_lds Tryz.ag_160 rfl) ?_; clear hf a; intro a hf
  refine oq_call hf Tryz.en_118 rfl rfl rfl (fun w hh => c_apart c y sa cp Bc e he _ (hC.ext hh.ext)) ?_; clear hf a; intro a hf
  refine oq_v hf (yv_assign rfl) ?_; clear hf a; intro a hf
  refine oq_v hf (yv_assign rfl) ?_; clear hf a; intro a hf
  refine q_end fun w hh => ?_
  refine then_n ?_
  refine sy_seq ?_
  replace hh : Hp u [] [(B2, .cells #[.int .i64 0, .int .i64 0] 151), (B1, .cells (moA Bc e) 160)] w := hh
  refine sy_treeC (.p 0 (.p 1 (.p 2 (.q 0 3 (.p 4 (.p 5 (.p 6 (.q 0 7 (.p 8 (.p 9 (.p 10 (.q 0 11 (.p 12 (.p 13 (.p 14 (.q 0 15 (.p 16 (.p 17 (.p 18 (.p 19 (.q 0 20 (.p 21 (.p 22 (.p 23 (.p 24 (.q 0 25 (.p 26 (.p 27 (.q 0 28 (.p 29 (.p 30 (.p 31 (.q 0 32 (.p 33 (.p 34 (.p 35 (.q 0 36 (.p 37 (.p 38 (.p 39 (.p 40 (.q 0 41 (.p 42 (.p 43 (.q 0 44 (.p 45 (.p 46 (.p 47 (.q 0 48 (.p 49 (.p 50 (.e1 51 (.e1 52 (.e1 53 (.fin))))))))))))))))))))))))))))))))))))))))))))))))))))))) [[]] [(AtE u [] [(B1, .cells (moA Bc e) 160)], [])] Tryz.follows (by kernel_rfl) rfl hh (fun w hh => ?_)
  refine mc_p rfl   hf (yv_move rfl) (.inl rfl) rfl rfl ?_; clear hf a; intro a hf
  refine mc_p rfl   hf (yv_move rfl) (.inl rfl) rfl rfl ?_; clear hf a; intro a hf
  refine mc_p rfl   hf (yv_fieldAddr Tryz.fo_160_0 rfl) (.inl rfl) rfl rfl ?_; clear hf a; intro a hf
  refine mc_q rfl rfl (AtE.of hh (by intro q hq; rw [List.mem_singleton.1 hq]; simp)) hf (y_ld Tryz.sc_98 rfl) (.inl rfl) rfl rfl ?_; clear hf a; intro a hf
  refine mc_p rfl   hf (yv_nilCheck rfl) (.inl rfl) rfl rfl ?_; clear hf a; intro a hf
  refine mc_p rfl   hf (yv_fieldAddr Tryz.fo_103_0 rfl) (.inl rfl) rfl rfl ?_; clear hf a; intro a hf
  refine mc_p rfl   hf (yv_fieldAddr Tryz.fo_51_8 rfl) (.inl rfl) rfl rfl ?_; clear hf a; intro a hf
  refine mc_q rfl rfl (AtE.of hh (by intro q hq; rw [List.mem_singleton.1 hq]; simp)) hf (y_ld Tryz.sc_3 rfl) (.inl rfl) rfl rfl ?_; clear hf a; intro a hf
  refine mc_p rfl   hf (y_sub rfl rfl) (.inl rfl) rfl rfl ?_; clear hf a; intro a hf
  refine mc_p rfl   hf (yv_move rfl) (.inl rfl) rfl rfl ?_; clear hf a; intro a hf
  refine mc_p rfl   hf (yv_fieldAddr Tryz.fo_160_0 rfl) (.inl rfl) rfl rfl ?_; clear hf a; intro a hf
  refine mc_q rfl rfl (AtE.of hh (by intro q hq; rw [List.mem_singleton.1 hq]; simp)) hf (y_ld Tryz.sc_98 rfl) (.inl rfl) rfl rfl ?_; clear hf a; intro a hf
  refine mc_p rfl   hf (yv_nilCheck rfl) (.inl rfl) rfl rfl ?_; clear hf a; intro a hf
  refine mc_p rfl   hf (yv_fieldAddr Tryz.fo_103_0 rfl) (.inl rfl) rfl rfl ?_; clear hf a; intro a hf
  refine mc_p rfl   hf (yv_fieldAddr Tryz.fo_51_7 rfl) (.inl rfl) rfl rfl ?_; clear hf a; intro a hf
  refine mc_q rfl rfl (AtE.of hh (by intro q hq; rw [List.mem_singleton.1 hq]; simp)) hf (y_ld Tryz.sc_3 rfl) (.inl rfl) rfl rfl ?_; clear hf a; intro a hf
  refine mc_p rfl   hf (y_add rfl rfl) (.inl rfl) rfl rfl ?_; clear hf a; intro a hf
  refine mc_p rfl   hf (yv_buildS Tryz.bs_151 rfl rfl) (.inl rfl) rfl rfl ?_; clear hf a; intro a hf
  refine mc_p rfl   hf (yv_move rfl) (.inl rfl) rfl rfl ?_; clear hf a; intro a hf
  refine mc_p rfl   hf (yv_fieldAddr Tryz.fo_160_0 rfl) (.inl rfl) rfl rfl ?_; clear hf a; intro a hf
  refine mc_q rfl rfl (AtE.of hh (by intro q hq; rw [List.mem_singleton.1 hq]; simp)) hf (y_ld Tryz.sc_98 rfl) (.inl rfl) rfl rfl ?_; clear hf a; intro a hf
  refine mc_p rfl   hf (yv_nilCheck rfl) (.inl rfl) rfl rfl ?_; clear hf a; intro a hf
  refine mc_p rfl   hf (yv_fieldAddr Tryz.fo_103_0 rfl) (.inl rfl) rfl rfl ?_; clear hf a; intro a hf
  refine mc_p rfl   hf (yv_fieldAddr Tryz.fo_51_4 rfl) (.inl rfl) rfl rfl ?_; clear hf a; intro a hf
  refine mc_p rfl   hf (yv_fieldAddr Tryz.fo_35_0 rfl) (.inl rfl) rfl rfl ?_; clear hf a; intro a hf
  refine mc_q rfl rfl (AtE.of hh (by intro q hq; rw [List.mem_singleton.1 hq]; simp)) hf (y_ld Tryz.sc_3 rfl) (.inl rfl) rfl rfl ?_; clear hf a; intro a hf
  refine mc_p rfl   hf (y_sub rfl rfl) (.inl rfl) rfl rfl ?_; clear hf a; intro a hf
  refine mc_p rfl   hf (yv_fieldAddr Tryz.fo_160_0 rfl) (.inl rfl) rfl rfl ?_; clear hf a; intro a hf
  refine mc_q rfl rfl (AtE.of hh (by intro q hq; rw [List.mem_singleton.1 hq]; simp)) hf (y_ld Tryz.sc_98 rfl) (.inl rfl) rfl rfl ?_; clear hf a; intro a hf
  refine mc_p rfl   hf (yv_nilCheck rfl) (.inl rfl) rfl rfl ?_; clear hf a; intro a hf
  refine mc_p rfl   hf (yv_fieldAddr Tryz.fo_103_0 rfl) (.inl rfl) rfl rfl ?_; clear hf a; intro a hf
  refine mc_p rfl   hf (yv_fieldAddr Tryz.fo_51_5 rfl) (.inl rfl) rfl rfl ?_; clear hf a; intro a hf
  refine mc_q rfl rfl (AtE.of hh (by intro q hq; rw [List.mem_singleton.1 hq]; simp)) hf (y_ld Tryz.sc_3 rfl) (.inl rfl) rfl rfl ?_; clear hf a; intro a hf
  refine mc_p rfl   hf (y_sub rfl rfl) (.inl rfl) rfl rfl ?_; clear hf a; intro a hf
  refine mc_p rfl   hf (yv_move rfl) (.inl rfl) rfl rfl ?_; clear hf a; intro a hf
  refine mc_p rfl   hf (yv_fieldAddr Tryz.fo_160_0 rfl) (.inl rfl) rfl rfl ?_; clear hf a; intro a hf
  refine mc_q rfl rfl (AtE.of hh (by intro q hq; rw [List.mem_singleton.1 hq]; simp)) hf (y_ld Tryz.sc_98 rfl) (.inl rfl) rfl rfl ?_; clear hf a; intro a hf
  refine mc_p rfl   hf (yv_nilCheck rfl) (.inl rfl) rfl rfl ?_; clear hf a; intro a hf
  refine mc_p rfl   hf (yv_fieldAddr Tryz.fo_103_0 rfl) (.inl rfl) rfl rfl ?_; clear hf a; intro a hf
  refine mc_p rfl   hf (yv_fieldAddr Tryz.fo_51_4 rfl) (.inl rfl) rfl rfl ?_; clear hf a; intro a hf
  refine mc_p rfl   hf (yv_fieldAddr Tryz.fo_35_1 rfl) (.inl rfl) rfl rfl ?_; clear hf a; intro a hf
  refine mc_q rfl rfl (AtE.of hh (by intro q hq; rw [List.mem_singleton.1 hq]; simp)) hf (y_ld Tryz.sc_3 rfl) (.inl rfl) rfl rfl ?_; clear hf a; intro a hf
  refine mc_p rfl   hf (y_sub rfl rfl) (.inl rfl) rfl rfl ?_; clear hf a; intro a hf
  refine mc_p rfl   hf (yv_fieldAddr Tryz.fo_160_0 rfl) (.inl rfl) rfl rfl ?_; clear hf a; intro a hf
  refine mc_q rfl rfl (AtE.of hh (by intro q hq; rw [List.mem_singleton.1 hq]; simp)) hf (y_ld Tryz.sc_98 rfl) (.inl rfl) rfl rfl ?_; clear hf a; intro a hf
  refine mc_p rfl   hf (yv_nilCheck rfl) (.inl rfl) rfl rfl ?_; clear hf a; intro a hf
  refine mc_p rfl   hf (yv_fieldAddr Tryz.fo_103_0 rfl) (.inl rfl) rfl rfl ?_; clear hf a; intro a hf
  refine mc_p rfl   hf (yv_fieldAddr Tryz.fo_51_6 rfl) (.inl rfl) rfl rfl ?_; clear hf a; intro a hf
  refine mc_q rfl rfl (AtE.of hh (by intro q hq; rw [List.mem_singleton.1 hq]; simp)) hf (y_ld Tryz.sc_3 rfl) (.inl rfl) rfl rfl ?_; clear hf a; intro a hf
  refine mc_p rfl   hf (y_add rfl rfl) (.inl rfl) rfl rfl ?_; clear hf a; intro a hf
  refine mc_p rfl   hf (yv_buildS Tryz.bs_151 rfl rfl) (.inl rfl) rfl rfl ?_; clear hf a; intro a hf
  refine mc_e rfl fun Q1 => ?_
  refine ops_buildSl hf hh Tryz.bl_204_2 rfl rfl (.inl rfl) rfl ?_; clear hf hh a; intro B63 a w hf hh
  replace hh : Hp u [] ((B63, .cells #[.int .i64 (winV c e - c.deep, winV c e + c.front).1, .int .i64 (winV c e - c.deep, winV c e + c.front).2, .int .i64 (apaV c e - c.eyes.1 - c.prism, apaV c e - c.eyes.2 + c.squeeze).1, .int .i64 (apaV c e - c.eyes.1 - c.prism, apaV c e - c.eyes.2 + c.squeeze).2] 151) :: _) w := hh
  refine ops_end ?_
  refine then_n ⟨⟨fun _ _ => (AtE.of hh (by intro q hq; rw [List.mem_singleton.1 hq]; simp)), trivial⟩, ?_⟩
  refine mc_e rfl fun Q1 => ?_
  refine o_call hf Tryz.en_116 rfl rfl rfl (c_nrw (0, 2000) [(winV c e - c.deep, winV c e + c.front), (apaV c e - c.eyes.1 - c.prism, apaV c e - c.eyes.2 + c.squeeze)] (some ⟨B63, 0, none⟩) 2 _ (ps_two (hh.at (i := 0) rfl)) (by simp)) ?_; clear hf a; intro v a w hR hf
  obtain ⟨rfl, hx⟩ := hR; replace hh := hh.more hx; clear hx
  refine ops_end ?_
  refine then_n ⟨⟨fun _ _ => (AtE.of hh (by intro q hq; rw [List.mem_singleton.1 hq]; simp)), trivial⟩, ?_⟩
  refine mc_e rfl fun Q1 => ?_
  refine o_store hf hh Tryz.sz_151 fun w hh => ?_
  refine ops_end ?_
  refine then_n ⟨⟨fun _ _ => (AtE.of hh (by intro q hq; rw [List.mem_singleton.1 hq]; simp)), trivial⟩, ?_⟩
  refine mc_end ?_
  refine then_n ?_
  refine sy_ret ?_
  refine ret_c (vs := [spV (rooV c e)]) hf ?_ ?_
  · exact ⟨⟨B2, 0, _, _, _, rfl, hh.at (i := 1) rfl, .inr ⟨2, _, Tryz.ag_151, rfl, rfl⟩⟩, True.intro⟩
  · exact ⟨rfl, hh.ext⟩
end Go.Proofs.YtccpgpnekoncoaaGreatDoor

namespace Go.Proofs.YtccpgpnekoncoaaGreatDoor
open Go Go.Sy Go.PaiM
set_option maxRecDepth 100000 in
theorem c_Room (c : CaD) (sa : Option Addr) (cp : Nat) (y : Int × Int) (hc : CaOk c) (hy : powO c.pr = some y) (e : Edg) (he : TrmOk c.cuts e) (u : World) (hA : ThAt u sa c.pr.th) : Calls Tryz.prog 86 #[.agg (caA c sa cp), .agg (edA e)] u (Ret fun v w' => v = .tuple #[spV (if neB (rooV c e) then rooV c e else (0, 0)), .int .i64 (if neB (rooV c e) then 0 else 4)] ∧ Ext [] u w') := by
  refine calls_of Tryz.func86 rfl rfl (fun a hf => ?_)
  have hh := Hp.init u []
  have hnt := hc.pr.nt
  have hE := edB_of hc he
  refine sy_sq ?_
  refine o_box hf hh ?_; clear hf hh a; intro B2 a w hf hh
  refine o_box hf hh ?_; clear hf hh a; intro B3 a w hf hh
  refine o_alloc hf hh Tryz.ze_35 ?_; clear hf hh a; intro B4 a w hf hh
  refine o_v hf hh (yv_assign rfl) ?_; clear hf a; intro a hf
  refine o_end ?_
  refine sy_sq ?_
  refine o_v hf hh (y_lds Tryz.ag_51 rfl) ?_; clear hf a; intro a hf
  refine o_v hf hh (y_lds Tryz.ag_120 rfl) ?_; clear hf a; intro a hf
  refine ops_buildSl hf hh Tryz.bl_145_1 rfl rfl (.inl rfl) rfl ?_; clear hf hh; clear a; intro B12 a w hf hh
  refine o_call hf Tryz.en_46 rfl rfl rfl (c_openH c sa cp y hc hy [e] (some ⟨B12, 0, none⟩) 1 (fun z h => by rw [List.mem_singleton.1 h]; exact he) (by simp) _ (hA.ext hh.ext) (ed_one (hh.at (i := 0) rfl))) ?_; clear hf a; intro v a w hR hf
  obtain ⟨Bc, bm, es, cm, rfl, hS, hx⟩ := hR; replace hh := hh.join hx; clear hx
  replace hh := hh.pick [0, 1, 3, 4, 5]
  replace hh : Hp u [] [(Bc, .cells (kaA c sa cp bm) 103), (bm, .map es cm), (B4, .cells #[.int .i64 0, .int .i64 0] 35), (B3, .cells (edA e) 120), (B2, .cells (caA c sa cp) 51)] w := hh
  refine o_v hf hh (yv_move rfl) ?_; clear hf a; intro a hf
  refine o_v hf hh (yv_extract rfl rfl) ?_; clear hf a; intro a hf
  refine o_v hf hh (yv_extract rfl rfl) ?_; clear hf a; intro a hf
  refine o_v hf hh (yv_assign rfl) ?_; clear hf a; intro a hf
  refine o_v hf hh (yv_assign rfl) ?_; clear hf a; intro a hf
  refine o_end ?_
  refine sy_seq ?_
  refine sy_sq ?_
  refine o_v hf hh (yv_move rfl) ?_; clear hf a; intro a hf
  refine o_v hf hh (yv_bin rfl rfl rfl) ?_; clear hf a; intro a hf
  refine o_end ?_
  refine c_f hf ?_
  refine sy_skip ?_
  refine then_n ?_
  refine sy_sq ?_
  refine o_v hf hh (yv_move rfl) ?_; clear hf a; intro a hf
  refine o_v hf hh (y_lds Tryz.ag_120 rfl) ?_; clear hf a; intro a hf
  refine o_call hf Tryz.en_72 rfl rfl rfl (c_edges e _) ?_; clear hf a; intro v a w hR hf
  obtain ⟨rfl, hx⟩ := hR; replace hh := hh.more hx; clear hx
  refine o_v hf hh (yv_buildS Tryz.bs_160 rfl rfl) ?_; clear hf a; intro a hf
  refine o_call hf Tryz.en_111 rfl rfl rfl (c_room c y sa cp Bc e hE _ ⟨hc, hy, hA.ext hh.ext, bm, es, cm, hh.get (Bc, .cells (kaA c sa cp bm) 103) (by simp), hh.get (bm, .map es cm) (by simp), hS⟩) ?_; clear hf a; intro v a w hR hf
  obtain ⟨rfl, hx⟩ := hR; replace hh := hh.more hx; clear hx
  refine o_alloc hf hh Tryz.ze_151 ?_; clear hf hh a; intro B8 a w hf hh
  refine o_store hf hh Tryz.sz_151 fun w hh => ?_
  refine o_end ?_
  refine sy_seq ?_
  refine sy_sq ?_
  refine o_v hf hh (y_lds Tryz.ag_151 rfl) ?_; clear hf a; intro a hf
  refine o_call hf Tryz.en_92 rfl rfl rfl (c_empty (rooV c e) _) ?_; clear hf a; intro v a w hR hf
  obtain ⟨rfl, hx⟩ := hR; replace hh := hh.more hx; clear hx
  refine o_end ?_
  refine sy_cond hf rfl (fun hg8 => ?_) (fun hg8 => ?_)
  ·have hG8 := hg8; try simp only [gS] at hG8
   refine sy_sq ?_
   refine o_v hf hh (yv_buildS Tryz.bs_35 rfl rfl) ?_; clear hf a; intro a hf
   refine o_store hf hh Tryz.sz_35 fun w hh => ?_
   refine o_v hf hh (yv_assign rfl) ?_; clear hf a; intro a hf
   refine o_end ?_
   refine sy_ret ?_
   refine then_r ?_
   refine ret_c (vs := [spV (0, 0), .int .i64 4]) hf ?_ ?_
   · exact ⟨⟨B4, 0, _, _, _, rfl, hh.at (i := 3) rfl, .inr ⟨2, _, Tryz.ag_35, rfl, rfl⟩⟩, rfl, True.intro⟩
   · have h : neB (rooV c e) = false := by simp_all
     rw [h]; exact ⟨rfl, hh.ext⟩
  ·have hG8 := hg8; try simp only [gS] at hG8
   refine sy_skip ?_
   refine then_n ?_
   refine sy_sq ?_
   refine o_v hf hh (y_lds Tryz.ag_151 rfl) ?_; clear hf a; intro a hf
   refine o_call hf Tryz.en_93 rfl rfl rfl (c_spn (rooV c e) _) ?_; clear hf a; intro v a w hR hf
   obtain ⟨rfl, hx⟩ := hR; replace hh := hh.more hx; clear hx
   refine o_store hf hh Tryz.sz_35 fun w hh => ?_
   refine o_v hf hh (yv_assign rfl) ?_; clear hf a; intro a hf
   refine o_end ?_
   refine sy_ret ?_
   refine ret_c (vs := [spV (rooV c e), .int .i64 0]) hf ?_ ?_
   · exact ⟨⟨B4, 0, _, _, _, rfl, hh.at (i := 3) rfl, .inr ⟨2, _, Tryz.ag_35, rfl, rfl⟩⟩, rfl, True.intro⟩
   · have h : neB (rooV c e) = true := by simp_all
     rw [h]; exact ⟨rfl, hh.ext⟩
end Go.Proofs.YtccpgpnekoncoaaGreatDoor

namespace Go.PaiM
open Go Go.Sy
theorem ediv_anti {x y z : Int} (hx : 0 ≤ x) (hy : 0 < y) (h : y ≤ z) : x / z ≤ x / y := by
  have h3 := Int.ediv_mul_le x (show z ≠ 0 by omega)
  refine Int.le_ediv_of_mul_le hy (Int.le_trans ?_ h3)
  exact Int.mul_le_mul_of_nonneg_left h (Int.ediv_nonneg hx (by omega))
theorem dp1_mono {p : PrD} {w r : Int × Int} (hw : 0 ≤ w.2) (hn : 0 < p.near) {i j : Nat} (h : i ≤ j) (hi : dp1 p w r i = true) : dp1 p w r j = true := by
  unfold dp1 at hi ⊢
  have h1 := of_decide_eq_true hi
  have h2 := ediv_anti hw (y := p.near + (i : Nat)) (z := p.near + (j : Nat)) (by omega) (by omega)
  exact decide_eq_true (Int.le_trans h2 h1)
theorem dp2_mono {p : PrD} {w r : Int × Int} (hw : 0 ≤ w.1) (hn : 0 < p.near) {i j : Nat} (h : i ≤ j) (hi : dp2 p w r i = true) : dp2 p w r j = true := by
  unfold dp2 at hi ⊢
  have h1 := of_decide_eq_true hi
  have h2 := ediv_anti hw (y := p.near + (i : Nat)) (z := p.near + (j : Nat)) (by omega) (by omega)
  exact decide_eq_true (Int.lt_of_le_of_lt h2 h1)
/-- What Depths tells. -/
def depO (c : CaD) (w : Int × Int) (e : Edg) : Option (Int × Int) := if neB (rooV c e) then (if neB (depV c.pr w (rooV c e)) then some (depV c.pr w (rooV c e)) else none) else none
theorem dep_no {c : CaD} {w : Int × Int} {e : Edg} (h : neB (rooV c e) = false) : depO c w e = none := by unfold depO; rw [h]; rfl
theorem dep_yes {c : CaD} {w : Int × Int} {e : Edg} (h : neB (rooV c e) = true) (h2 : neB (depV c.pr w (rooV c e)) = true) : depO c w e = some (depV c.pr w (rooV c e)) := by unfold depO; rw [h, h2]; rfl
theorem dep_em {c : CaD} {w : Int × Int} {e : Edg} (h : neB (rooV c e) = true) (h2 : neB (depV c.pr w (rooV c e)) = false) : depO c w e = none := by unfold depO; rw [h, h2]; rfl
end Go.PaiM

namespace Go.Proofs.YtccpgpnekoncoaaGreatDoor
open Go Go.Sy Go.PaiM
theorem c_search (n F : Nat) (f : Nat → Bool) (cs : Array Value) (u : World) (hn : n ≤ 2147483648) (hE : Enters Tryz.prog F) (hmo : ∀ i j, i ≤ j → f i = true → f j = true) (hc : ∀ i, i < n → ∀ w1 : World, Ext [] u w1 → Calls Tryz.prog F (#[.int .i64 (i : Nat)] ++ cs) w1 (Ret fun v w2 => v = .bool (f i) ∧ Ext [] w1 w2)) : Calls Tryz.prog 88 #[.int .i64 (n : Nat), .func (.func F) #[] cs] u (Ret fun v w' => v = .int .i64 ((lstN f n : Nat) : Int) ∧ Ext [] u w') := by
  refine calls_of Tryz.func88 rfl rfl (fun a hf => ?_)
  have hh := Hp.init u []
  refine sy_sq ?_
  refine o_v hf hh (yv_assign rfl) ?_; clear hf a; intro a hf
  refine o_end ?_
  refine sy_sq ?_
  refine o_v hf hh (yv_move rfl) ?_; clear hf a; intro a hf
  refine o_v hf hh (yv_assign rfl) ?_; clear hf a; intro a hf
  refine o_v hf hh (yv_assign rfl) ?_; clear hf a; intro a hf
  refine o_end ?_
  refine sy_seq ?_
  refine sy_block ?_
  refine sy_loopH (σ := Nat × Nat) [5, 6, 7, 9, 10, 11, 12, 13, 14, 15, 16, 17, 18, 19, 20, 21, 22, 23, 24] (fun s => [(5, .int .i64 (s.1 : Nat)), (6, .int .i64 (s.2 : Nat))]) (fun s => fun w' => (s.1 ≤ s.2 ∧ s.2 ≤ n) ∧ (∀ k, k < s.1 → f k = false) ∧ (s.2 < n → f s.2 = true) ∧ Hp u [] [] w') (fun s => s.2 - s.1) ((0, n)) hf ?_ ?_ ?_
  · repeat' (first | exact True.intro | refine And.intro rfl ?_)
  · exact ⟨⟨Nat.zero_le _, Nat.le_refl _⟩, fun k h => absurd h (Nat.not_lt_zero _), fun h => absurd h (Nat.lt_irrefl _), hh⟩
  ·rintro s a w ⟨⟨hi, hj⟩, hlow, hhigh, hh⟩ hf
   obtain ⟨i, j⟩ := s; simp only at hi hj hlow hhigh hh hf ⊢
   refine sy_seq ?_
   refine sy_sq ?_
   refine o_v hf hh (yv_move rfl) ?_; clear hf a; intro a hf
   refine o_v hf hh (yv_move rfl) ?_; clear hf a; intro a hf
   refine o_v hf hh (yv_bin rfl rfl rfl) ?_; clear hf a; intro a hf
   refine o_end ?_
   refine sy_cond hf rfl (fun hg2 => ?_) (fun hg2 => ?_)
   ·have hG2 := hg2; try simp only [gS] at hG2
    refine sy_skip ?_
    refine then_n ?_
    refine sy_block ?_
    refine sy_seq ?_
    have hij : i < j := by omega
    obtain ⟨h, hhd⟩ : ∃ h, h = (i + j) / 2 := ⟨_, rfl⟩
    have hlo : i ≤ h := by omega
    have hhi : h < j := by omega
    refine sy_ops ?_
    refine o_v hf hh (yv_move rfl) ?_; clear hf a; intro a hf
    refine o_v hf hh (yv_move rfl) ?_; clear hf a; intro a hf
    refine ops_v hf hh (yv_cast (y_add rfl rfl (by omega) (by omega)) (intv (b := ((i + j : Nat) : Int)) (by omega))) (.inl rfl) rfl rfl rfl ?_; clear hf a; intro a hf
    refine ops_v hf hh (yv_cast (yv_convx (.inr rfl) (by kernel_rfl) Tryz.un_74 rfl (by omega) (by simp only [IntKind.top]; omega)) (intv (b := ((i + j : Nat) : Int)) rfl)) (.inl rfl) rfl rfl rfl ?_; clear hf a; intro a hf
    refine ops_v hf hh (yv_cast (yv_shrx (.inr rfl) rfl rfl (by omega) (by omega) (by omega)) (intv (b := ((h : Nat) : Int)) (by rw [Int.toNat_natCast, hhd, show (1 : Int).toNat = 1 from rfl, Nat.shiftRight_eq_div_pow]))) (.inl rfl) rfl rfl rfl ?_; clear hf a; intro a hf
    refine ops_v hf hh (yv_cast (yv_convx (.inl rfl) (by kernel_rfl) Tryz.un_3 rfl (by omega) (by simp only [IntKind.top]; omega)) (intv (b := ((h : Nat) : Int)) rfl)) (.inl rfl) rfl rfl rfl ?_; clear hf a; intro a hf
    refine o_v hf hh (yv_assign rfl) ?_; clear hf a; intro a hf
    refine o_end ?_
    refine sy_sq ?_
    refine o_v hf hh (yv_move rfl) ?_; clear hf a; intro a hf
    refine o_v hf hh (yv_move rfl) ?_; clear hf a; intro a hf
    refine o_call hf hE rfl rfl rfl (hc h (by omega) w hh.ext) ?_; clear hf a; intro v a w hR hf
    obtain ⟨rfl, hx⟩ := hR; replace hh := hh.more hx; clear hx
    refine o_v hf hh (yv_not rfl) ?_; clear hf a; intro a hf
    refine o_end ?_
    refine sy_cond hf rfl (fun hg8 => ?_) (fun hg8 => ?_)
    ·have hG8 := hg8; try simp only [gS] at hG8
     have hfh : f h = false := by simp_all
     have hlow2 : ∀ k, k < h + 1 → f k = false := fun k hk => by
       cases hk2 : f k with
       | false => rfl
       | true => rw [hmo k h (by omega) hk2] at hfh; cases hfh
     refine sy_ops ?_
     refine o_v hf hh (yv_move rfl) ?_; clear hf a; intro a hf
     refine ops_v hf hh (yv_cast (y_add rfl rfl (by omega) (by omega)) (intv (b := ((h + 1 : Nat) : Int)) (by omega))) (.inl rfl) rfl rfl rfl ?_; clear hf a; intro a hf
     refine o_v hf hh (yv_assign rfl) ?_; clear hf a; intro a hf
     refine ops_end ?_
     refine blk_n ?_
     refine then_n ?_
     first
       | exact ⟨(h + 1, j), ⟨⟨⟨by show h + 1 ≤ j; omega, hj⟩, hlow2, hhigh, hh⟩, hf.head ⟨rfl, rfl, True.intro⟩ (Keep.cons rfl (Keep.cons rfl (Keep.cons rfl (Keep.cons rfl (Keep.cons rfl (Keep.cons rfl (Keep.cons rfl (Keep.cons rfl (Keep.cons rfl (Keep.cons rfl (Keep.cons rfl (Keep.cons rfl (Keep.cons rfl (Keep.cons rfl (Keep.cons rfl (Keep.cons rfl (Keep.cons rfl (Keep.app rfl (Keep.rm rfl Keep.base)))))))))))))))))))⟩, by show j - (h + 1) < j - i; omega⟩
       | exact ⟨(i, h), ⟨⟨⟨hlo, by show h ≤ n; omega⟩, hlow, fun _ => hfh, hh⟩, hf.head ⟨rfl, rfl, True.intro⟩ (Keep.cons rfl (Keep.cons rfl (Keep.cons rfl (Keep.cons rfl (Keep.cons rfl (Keep.cons rfl (Keep.cons rfl (Keep.cons rfl (Keep.cons rfl (Keep.cons rfl (Keep.cons rfl (Keep.cons rfl (Keep.cons rfl (Keep.cons rfl (Keep.cons rfl (Keep.cons rfl (Keep.cons rfl (Keep.app rfl (Keep.rm rfl Keep.base)))))))))))))))))))⟩, by show h - i < j - i; omega⟩
    ·have hG8 := hg8; try simp only [gS] at hG8
     have hfh : f h = true := by simp_all
     refine sy_ops ?_
     refine o_v hf hh (yv_move rfl) ?_; clear hf a; intro a hf
     refine o_v hf hh (yv_assign rfl) ?_; clear hf a; intro a hf
     refine ops_end ?_
     refine blk_n ?_
     refine then_n ?_
     first
       | exact ⟨(h + 1, j), ⟨⟨⟨by show h + 1 ≤ j; omega, hj⟩, hlow2, hhigh, hh⟩, hf.head ⟨rfl, rfl, True.intro⟩ (Keep.cons rfl (Keep.cons rfl (Keep.cons rfl (Keep.cons rfl (Keep.cons rfl (Keep.cons rfl (Keep.cons rfl (Keep.cons rfl (Keep.cons rfl (Keep.cons rfl (Keep.cons rfl (Keep.cons rfl (Keep.cons rfl (Keep.cons rfl (Keep.cons rfl (Keep.cons rfl (Keep.app rfl (Keep.rm rfl Keep.base))))))))))))))))))⟩, by show j - (h + 1) < j - i; omega⟩
       | exact ⟨(i, h), ⟨⟨⟨hlo, by show h ≤ n; omega⟩, hlow, fun _ => hfh, hh⟩, hf.head ⟨rfl, rfl, True.intro⟩ (Keep.cons rfl (Keep.cons rfl (Keep.cons rfl (Keep.cons rfl (Keep.cons rfl (Keep.cons rfl (Keep.cons rfl (Keep.cons rfl (Keep.cons rfl (Keep.cons rfl (Keep.cons rfl (Keep.cons rfl (Keep.cons rfl (Keep.cons rfl (Keep.cons rfl (Keep.cons rfl (Keep.app rfl (Keep.rm rfl Keep.base))))))))))))))))))⟩, by show h - i < j - i; omega⟩
   ·have hG2 := hg2; try simp only [gS] at hG2
    refine sy_exit ?_
    refine then_e ?_
    refine then_e ?_
    refine blk_e ?_
    refine then_n ?_
    refine sy_sq ?_
    refine o_v hf hh (yv_move rfl) ?_; clear hf a; intro a hf
    refine o_v hf hh (yv_assign rfl) ?_; clear hf a; intro a hf
    refine o_end ?_
    refine sy_ret ?_
    refine ret_r hf rfl rfl ?_
    obtain rfl : i = j := by omega
    rw [lst_uniq hj hlow hhigh]
    exact ⟨rfl, hh.ext⟩
theorem c_dep2 (r s : Int × Int) (B6 : Nat) (u : World) (h6 : u.heap[B6]? = some (.cells #[.int .i64 r.1, .int .i64 r.2] 35 (0, 0))) : Calls Tryz.prog 90 #[spV s, ptr B6 0] u (Ret fun v w' => v = .bool (decide (s.2 ≤ r.2)) ∧ Ext [] u w') := by
  refine calls_of Tryz.func90 rfl rfl (fun a hf => ?_)
  have hh := Hp.init u []
  refine sy_sq ?_
  refine o_box hf hh ?_; clear hf hh a; intro B2 a w hf hh
  refine o_v hf hh (yv_assign rfl) ?_; clear hf a; intro a hf
  refine o_end ?_
  refine sy_sq ?_
  refine o_v hf hh (yv_fieldAddr Tryz.fo_35_1 rfl) ?_; clear hf a; intro a hf
  refine o_v hf hh (y_ld Tryz.sc_3 rfl) ?_; clear hf a; intro a hf
  refine o_v hf hh (yv_fieldAddr Tryz.fo_35_1 rfl) ?_; clear hf a; intro a hf
  refine o_v hf hh (y_ld Tryz.sc_3 rfl) ?_; clear hf a; intro a hf
  refine o_v hf hh (yv_bin rfl rfl rfl) ?_; clear hf a; intro a hf
  refine o_v hf hh (yv_assign rfl) ?_; clear hf a; intro a hf
  refine o_end ?_
  refine sy_ret ?_
  refine ret_r hf rfl rfl ?_
  exact ⟨rfl, hh.ext⟩
theorem c_dep3 (r s : Int × Int) (B6 : Nat) (u : World) (h6 : u.heap[B6]? = some (.cells #[.int .i64 r.1, .int .i64 r.2] 35 (0, 0))) : Calls Tryz.prog 91 #[spV s, ptr B6 0] u (Ret fun v w' => v = .bool (decide (s.1 < r.1)) ∧ Ext [] u w') := by
  refine calls_of Tryz.func91 rfl rfl (fun a hf => ?_)
  have hh := Hp.init u []
  refine sy_sq ?_
  refine o_box hf hh ?_; clear hf hh a; intro B2 a w hf hh
  refine o_v hf hh (yv_assign rfl) ?_; clear hf a; intro a hf
  refine o_end ?_
  refine sy_sq ?_
  refine o_v hf hh (yv_fieldAddr Tryz.fo_35_0 rfl) ?_; clear hf a; intro a hf
  refine o_v hf hh (y_ld Tryz.sc_3 rfl) ?_; clear hf a; intro a hf
  refine o_v hf hh (yv_fieldAddr Tryz.fo_35_0 rfl) ?_; clear hf a; intro a hf
  refine o_v hf hh (y_ld Tryz.sc_3 rfl) ?_; clear hf a; intro a hf
  refine o_v hf hh (yv_bin rfl rfl rfl) ?_; clear hf a; intro a hf
  refine o_v hf hh (yv_assign rfl) ?_; clear hf a; intro a hf
  refine o_end ?_
  refine sy_ret ?_
  refine ret_r hf rfl rfl ?_
  exact ⟨rfl, hh.ext⟩
theorem c_StandsS (p : PrD) (sa : Option Addr) (cp : Nat) (y : Int × Int) (z : Int) (hp : PrOk p) (hz : p.near ≤ z ∧ z ≤ p.far) (hy : powO p = some y) (u : World) (hA : ThAt u sa p.th) : Calls Tryz.prog 10 #[.agg (prA p sa cp), .int .i64 z] u (Ret fun v w' => v = .tuple #[spV (y.1 / z, y.2 / z), .int .i64 0] ∧ Ext [] u w') := by
  have hl := hp.nt
  have h := c_Stands p sa cp y z (by omega) (fun _ => inP_iff.2 hz) (fun _ => hy) u hA
  rw [prB_iff.2 hp, if_pos rfl] at h
  exact h
theorem c_dep11 (c : CaD) (sa : Option Addr) (cp : Nat) (y : Int × Int) (hc : CaOk c) (hy : powO c.pr = some y) (B1 B2 g : Nat) (cs : Array Value) (G : Int × Int → Bool) (hE : Enters Tryz.prog g) (i : Nat) (hi : i < depN c.pr) (u : World) (hA : ThAt u sa c.pr.th) (h1 : u.heap[B1]? = some (.cells (caA c sa cp) 51 (0, 0))) (h2 : u.heap[B2]? = some (.cells #[.func (.func g) #[] cs] 166 (0, 0))) (hG : ∀ (s : Int × Int) (w1 : World), Ext [] u w1 → Calls Tryz.prog g (#[spV s] ++ cs) w1 (Ret fun v w2 => v = .bool (G s) ∧ Ext [] w1 w2)) : Calls Tryz.prog 89 #[.int .i64 (i : Nat), ptr B1 0, ptr B2 0] u (Ret fun v w' => v = .bool (G (y.1 / (c.pr.near + (i : Nat)), y.2 / (c.pr.near + (i : Nat)))) ∧ Ext [] u w') := by
  refine calls_of Tryz.func89 rfl rfl (fun a hf => ?_)
  have hh := Hp.init u []
  obtain ⟨n1, n2⟩ := hc.pr.ne
  obtain ⟨f1, f2⟩ := hc.pr.fa
  unfold depN at hi
  refine sy_sq ?_
  refine o_v hf hh (yv_assign rfl) ?_; clear hf a; intro a hf
  refine o_end ?_
  refine sy_sq ?_
  refine o_v hf hh (yv_fieldAddr Tryz.fo_51_0 rfl) ?_; clear hf a; intro a hf
  refine o_v hf hh (y_lds Tryz.ag_38 rfl) ?_; clear hf a; intro a hf
  refine o_v hf hh (yv_fieldAddr Tryz.fo_51_0 rfl) ?_; clear hf a; intro a hf
  refine o_v hf hh (yv_fieldAddr Tryz.fo_38_3 rfl) ?_; clear hf a; intro a hf
  refine o_v hf hh (y_ld Tryz.sc_3 rfl) ?_; clear hf a; intro a hf
  refine o_v hf hh (yv_move rfl) ?_; clear hf a; intro a hf
  refine o_v hf hh (y_add rfl rfl) ?_; clear hf a; intro a hf
  refine o_call hf Tryz.en_10 rfl rfl rfl (c_StandsS c.pr sa cp y (c.pr.near + (i : Nat)) hc.pr ⟨by omega, by omega⟩ hy _ (hA.ext hh.ext)) ?_; clear hf a; intro v a w hR hf
  obtain ⟨rfl, hx⟩ := hR; replace hh := hh.more hx; clear hx
  refine o_v hf hh (yv_move rfl) ?_; clear hf a; intro a hf
  refine o_v hf hh (yv_extract rfl rfl) ?_; clear hf a; intro a hf
  refine o_v hf hh (yv_extract rfl rfl) ?_; clear hf a; intro a hf
  refine o_alloc hf hh Tryz.ze_35 ?_; clear hf hh a; intro B5 a w hf hh
  refine o_store hf hh Tryz.sz_35 fun w hh => ?_
  refine o_v hf hh (yv_assign rfl) ?_; clear hf a; intro a hf
  refine o_end ?_
  refine sy_sq ?_
  refine o_v hf hh (y_ld Tryz.sc_166 rfl) ?_; clear hf a; intro a hf
  refine o_v hf hh (y_lds Tryz.ag_35 rfl) ?_; clear hf a; intro a hf
  refine o_call hf hE rfl rfl rfl (hG (y.1 / (c.pr.near + (i : Nat)), y.2 / (c.pr.near + (i : Nat))) w hh.ext) ?_; clear hf a; intro v a w hR hf
  obtain ⟨rfl, hx⟩ := hR; replace hh := hh.more hx; clear hx
  refine o_v hf hh (yv_assign rfl) ?_; clear hf a; intro a hf
  refine o_end ?_
  refine sy_ret ?_
  refine ret_r hf rfl rfl ?_
  exact ⟨rfl, hh.ext⟩
theorem c_dep1 (c : CaD) (sa : Option Addr) (cp : Nat) (y : Int × Int) (hc : CaOk c) (hy : powO c.pr = some y) (B1 g : Nat) (cs : Array Value) (G : Int × Int → Bool) (hE : Enters Tryz.prog g) (u : World) (hA : ThAt u sa c.pr.th) (h1 : u.heap[B1]? = some (.cells (caA c sa cp) 51 (0, 0))) (hmo : ∀ i j : Nat, i ≤ j → G (y.1 / (c.pr.near + (i : Nat)), y.2 / (c.pr.near + (i : Nat))) = true → G (y.1 / (c.pr.near + (j : Nat)), y.2 / (c.pr.near + (j : Nat))) = true) (hG : ∀ (s : Int × Int) (w1 : World), Ext [] u w1 → Calls Tryz.prog g (#[spV s] ++ cs) w1 (Ret fun v w2 => v = .bool (G s) ∧ Ext [] w1 w2)) : Calls Tryz.prog 87 #[.func (.func g) #[] cs, ptr B1 0] u (Ret fun v w' => v = .int .i64 (c.pr.near + ((lstN (fun i => G (y.1 / (c.pr.near + (i : Nat)), y.2 / (c.pr.near + (i : Nat)))) (depN c.pr) : Nat) : Int)) ∧ Ext [] u w') := by
  refine calls_of Tryz.func87 rfl rfl (fun a hf => ?_)
  have hh := Hp.init u []
  obtain ⟨n1, n2⟩ := hc.pr.ne
  obtain ⟨f1, f2⟩ := hc.pr.fa
  have hdn : ((depN c.pr : Nat) : Int) = c.pr.far - c.pr.near + 1 := by unfold depN; omega
  have hls := lst_le (fun i => G (y.1 / (c.pr.near + (i : Nat)), y.2 / (c.pr.near + (i : Nat)))) (depN c.pr)
  refine sy_sq ?_
  refine o_box hf hh ?_; clear hf hh a; intro B2 a w hf hh
  refine o_v hf hh (yv_assign rfl) ?_; clear hf a; intro a hf
  refine o_end ?_
  refine sy_seq ?_
  refine sy_quiet (C := Hp _ _ _) Tryz.follows (by kernel_rfl) (hh.drawn _) ?_
  refine oq_v hf (yv_fieldAddr Tryz.fo_51_0 rfl) ?_; clear hf a; intro a hf
  refine oq_v hf (yv_fieldAddr Tryz.fo_38_3 rfl) ?_; clear hf a; intro a hf
  refine oq_v hf (y_ld Tryz.sc_3 rfl) ?_; clear hf a; intro a hf
  refine oq_v hf (yv_fieldAddr Tryz.fo_51_0 rfl) ?_; clear hf a; intro a hf
  refine oq_v hf (yv_fieldAddr Tryz.fo_38_4 rfl) ?_; clear hf a; intro a hf
  refine oq_v hf (y_ld Tryz.sc_3 rfl) ?_; clear hf a; intro a hf
  refine oq_v hf (yv_fieldAddr Tryz.fo_51_0 rfl) ?_; clear hf a; intro a hf
  refine oq_v hf (yv_fieldAddr Tryz.fo_38_3 rfl) ?_; clear hf a; intro a hf
  refine oq_v hf (y_ld Tryz.sc_3 rfl) ?_; clear hf a; intro a hf
  refine oq_v hf (y_sub rfl rfl) ?_; clear hf a; intro a hf
  refine q_v hf (yv_cast (y_add rfl rfl (by omega) (by omega)) (intv (b := ((depN c.pr : Nat) : Int)) (by omega))) (.inl rfl) rfl rfl ?_; clear hf a; intro a hf
  refine oq_v hf (yv_makeFunc rfl rfl) ?_; clear hf a; intro a hf
  refine oq_call hf Tryz.en_88 rfl rfl rfl (fun w hh => c_search (depN c.pr) 89 (fun i => G (y.1 / (c.pr.near + (i : Nat)), y.2 / (c.pr.near + (i : Nat)))) #[ptr B1 0, ptr B2 0] _ (by omega) Tryz.en_89 hmo (fun i hi w1 e => c_dep11 c sa cp y hc hy B1 B2 g cs G hE i hi w1 ((hA.ext hh.ext).ext e) (e.get (hh.old h1)) (e.get (hh.at (i := 0) rfl)) (fun s w2 e2 => hG s w2 ((hh.ext.trans e).trans e2)))) ?_; clear hf a; intro a hf
  refine oq_v hf (y_add rfl rfl) ?_; clear hf a; intro a hf
  refine oq_v hf (yv_assign rfl) ?_; clear hf a; intro a hf
  refine q_end fun w hh => ?_
  refine then_n ?_
  refine sy_ret ?_
  refine ret_r hf rfl rfl ?_
  exact ⟨rfl, hh.ext⟩
set_option maxRecDepth 100000 in
set_option maxHeartbeats 4000000 in
theorem c_Depths (c : CaD) (sa : Option Addr) (cp : Nat) (y : Int × Int) (hc : CaOk c) (hy : powO c.pr = some y) (e0 : Edg) (he : TrmOk c.cuts e0) (u : World) (hA : ThAt u sa c.pr.th) : Calls Tryz.prog 55 #[.agg (caA c sa cp), .agg (edA e0)] u (Ret fun v w' => v = .tuple #[spV ((depO c y e0).getD (0, 0)), .int .i64 (if (depO c y e0).isSome then 0 else 4)] ∧ Ext [] u w') := by
  refine calls_of Tryz.func55 rfl rfl (fun a hf => ?_)
  have hh := Hp.init u []
  have hnt := hc.pr.nt
  obtain ⟨n1, n2⟩ := hc.pr.ne
  obtain ⟨f1, f2⟩ := hc.pr.fa
  obtain ⟨-, y1, y2, y3⟩ := pow_bd hc.pr hy
  have hdn : ((depN c.pr : Nat) : Int) = c.pr.far - c.pr.near + 1 := by unfold depN; omega
  have hl1 := lst_le (dp1 c.pr y (rooV c e0)) (depN c.pr)
  have hl2 := lst_le (dp2 c.pr y (rooV c e0)) (depN c.pr)
  refine sy_sq ?_
  refine o_box hf hh ?_; clear hf hh a; intro B2 a w hf hh
  refine o_box hf hh ?_; clear hf hh a; intro B3 a w hf hh
  refine o_alloc hf hh Tryz.ze_35 ?_; clear hf hh a; intro B4 a w hf hh
  refine o_v hf hh (yv_assign rfl) ?_; clear hf a; intro a hf
  refine o_end ?_
  refine sy_sq ?_
  refine o_v hf hh (y_lds Tryz.ag_51 rfl) ?_; clear hf a; intro a hf
  refine o_v hf hh (y_lds Tryz.ag_120 rfl) ?_; clear hf a; intro a hf
  refine o_call hf Tryz.en_86 rfl rfl rfl (c_Room c sa cp y hc hy e0 he _ (hA.ext hh.ext)) ?_; clear hf a; intro v a w hR hf
  obtain ⟨rfl, hx⟩ := hR; replace hh := hh.more hx; clear hx
  refine o_v hf hh (yv_move rfl) ?_; clear hf a; intro a hf
  refine o_v hf hh (yv_extract rfl rfl) ?_; clear hf a; intro a hf
  refine o_v hf hh (yv_extract rfl rfl) ?_; clear hf a; intro a hf
  refine o_alloc hf hh Tryz.ze_35 ?_; clear hf hh a; intro B6 a w hf hh
  refine o_store hf hh Tryz.sz_35 fun w hh => ?_
  refine o_v hf hh (yv_assign rfl) ?_; clear hf a; intro a hf
  refine o_end ?_
  refine sy_seq ?_
  refine sy_sq ?_
  refine o_v hf hh (yv_move rfl) ?_; clear hf a; intro a hf
  refine o_v hf hh (yv_bin rfl rfl rfl) ?_; clear hf a; intro a hf
  refine o_end ?_
  refine sy_cond hf rfl (fun hg5 => ?_) (fun hg5 => ?_)
  ·have hG5 := hg5; try simp only [gS] at hG5
   refine sy_sq ?_
   refine o_v hf hh (yv_buildS Tryz.bs_35 rfl rfl) ?_; clear hf a; intro a hf
   refine o_v hf hh (yv_move rfl) ?_; clear hf a; intro a hf
   refine o_store hf hh Tryz.sz_35 fun w hh => ?_
   refine o_v hf hh (yv_assign rfl) ?_; clear hf a; intro a hf
   refine o_end ?_
   refine sy_ret ?_
   refine then_r ?_
   refine ret_c (vs := [spV (0, 0), .int .i64 4]) hf ?_ ?_
   · exact ⟨⟨B4, 0, _, _, _, rfl, hh.at (i := 1) rfl, .inr ⟨2, _, Tryz.ag_35, rfl, rfl⟩⟩, by
       have h : neB (rooV c e0) = false := by
         cases h : neB (rooV c e0)
         · rfl
         · simp_all
       rw [h]; rfl, True.intro⟩
   · have h : neB (rooV c e0) = false := by
       cases h : neB (rooV c e0)
       · rfl
       · simp_all
     rw [dep_no h]; exact ⟨rfl, hh.ext⟩
  ·have hG5 := hg5; try simp only [gS] at hG5
   refine sy_skip ?_
   refine then_n ?_
   refine sy_seq ?_
   have hne : neB (rooV c e0) = true := by
     cases h : neB (rooV c e0)
     · simp_all
     · rfl
   rw [if_pos hne] at hh
   replace hh : Hp u [] [(B6, .cells #[.int .i64 (rooV c e0).1, .int .i64 (rooV c e0).2] 35), (B4, .cells #[.int .i64 0, .int .i64 0] 35), (B3, .cells (edA e0) 120), (B2, .cells (caA c sa cp) 51)] w := hh
   refine sy_ops ?_
   refine o_v hf hh (yv_makeFunc rfl rfl) ?_; clear hf a; intro a hf
   refine o_v hf hh (yv_assign rfl) ?_; clear hf a; intro a hf
   refine o_end ?_
   refine sy_sq ?_
   refine o_v hf hh (yv_move rfl) ?_; clear hf a; intro a hf
   refine o_v hf hh (yv_makeFunc rfl rfl) ?_; clear hf a; intro a hf
   refine o_call hf Tryz.en_87 rfl rfl rfl (c_dep1 c sa cp y hc hy B2 90 #[ptr B6 0] (fun s => decide (s.2 ≤ (rooV c e0).2)) Tryz.en_90 _ (hA.ext hh.ext) (hh.get (B2, .cells (caA c sa cp) 51) (by simp)) (fun i j h hi => dp1_mono (p := c.pr) (w := y) (r := rooV c e0) (by omega) (by omega) h hi) (fun s w1 e => c_dep2 (rooV c e0) s B6 w1 (e.get (hh.get (B6, .cells #[.int .i64 (rooV c e0).1, .int .i64 (rooV c e0).2] 35) (by simp))))) ?_; clear hf a; intro v a w hR hf
   obtain ⟨rfl, hx⟩ := hR; replace hh := hh.more hx; clear hx
   refine o_v hf hh (yv_move rfl) ?_; clear hf a; intro a hf
   refine o_v hf hh (yv_makeFunc rfl rfl) ?_; clear hf a; intro a hf
   refine o_call hf Tryz.en_87 rfl rfl rfl (c_dep1 c sa cp y hc hy B2 91 #[ptr B6 0] (fun s => decide (s.1 < (rooV c e0).1)) Tryz.en_91 _ (hA.ext hh.ext) (hh.get (B2, .cells (caA c sa cp) 51) (by simp)) (fun i j h hi => dp2_mono (p := c.pr) (w := y) (r := rooV c e0) (by omega) (by omega) h hi) (fun s w1 e => c_dep3 (rooV c e0) s B6 w1 (e.get (hh.get (B6, .cells #[.int .i64 (rooV c e0).1, .int .i64 (rooV c e0).2] 35) (by simp))))) ?_; clear hf a; intro v a w hR hf
   obtain ⟨rfl, hx⟩ := hR; replace hh := hh.more hx; clear hx
   refine o_v hf hh (y_sub rfl rfl (by show -9223372036854775808 ≤ c.pr.near + ((lstN (dp2 c.pr y (rooV c e0)) (depN c.pr) : Nat) : Int) - 1; omega) (by show c.pr.near + ((lstN (dp2 c.pr y (rooV c e0)) (depN c.pr) : Nat) : Int) - 1 ≤ 9223372036854775807; omega)) ?_; clear hf a; intro a hf
   refine o_v hf hh (yv_buildS Tryz.bs_151 rfl rfl) ?_; clear hf a; intro a hf
   refine o_alloc hf hh Tryz.ze_151 ?_; clear hf hh a; intro B9 a w hf hh
   refine o_store hf hh Tryz.sz_151 fun w hh => ?_
   refine o_end ?_
   refine sy_seq ?_
   refine sy_seq ?_
   replace hh : Hp u [] [(B9, .cells #[.int .i64 (depV c.pr y (rooV c e0)).1, .int .i64 (depV c.pr y (rooV c e0)).2] 151), (B6, .cells #[.int .i64 (rooV c e0).1, .int .i64 (rooV c e0).2] 35), (B4, .cells #[.int .i64 0, .int .i64 0] 35), (B3, .cells (edA e0) 120), (B2, .cells (caA c sa cp) 51)] w := hh
   refine sy_ops ?_
   refine o_v hf hh (y_lds Tryz.ag_151 rfl) ?_; clear hf a; intro a hf
   refine o_call hf Tryz.en_92 rfl rfl rfl (c_empty (depV c.pr y (rooV c e0)) _) ?_; clear hf a; intro v a w hR hf
   obtain ⟨rfl, hx⟩ := hR; replace hh := hh.more hx; clear hx
   refine o_end ?_
   refine sy_cond hf rfl (fun hg10 => ?_) (fun hg10 => ?_)
   ·have hG10 := hg10; try simp only [gS] at hG10
    refine sy_sq ?_
    refine o_v hf hh (yv_buildS Tryz.bs_35 rfl rfl) ?_; clear hf a; intro a hf
    refine o_store hf hh Tryz.sz_35 fun w hh => ?_
    refine o_v hf hh (yv_assign rfl) ?_; clear hf a; intro a hf
    refine o_end ?_
    refine sy_ret ?_
    refine then_r ?_
    refine ret_c (vs := [spV (0, 0), .int .i64 4]) hf ?_ ?_
    · exact ⟨⟨B4, 0, _, _, _, rfl, hh.at (i := 2) rfl, .inr ⟨2, _, Tryz.ag_35, rfl, rfl⟩⟩, rfl, True.intro⟩
    · rw [dep_em hne (by simp_all)]; exact ⟨rfl, hh.ext⟩
   ·have hG10 := hg10; try simp only [gS] at hG10
    refine sy_skip ?_
    refine then_n ?_
    refine sy_sq ?_
    refine o_v hf hh (y_lds Tryz.ag_151 rfl) ?_; clear hf a; intro a hf
    refine o_call hf Tryz.en_93 rfl rfl rfl (c_spn (depV c.pr y (rooV c e0)) _) ?_; clear hf a; intro v a w hR hf
    obtain ⟨rfl, hx⟩ := hR; replace hh := hh.more hx; clear hx
    refine o_store hf hh Tryz.sz_35 fun w hh => ?_
    refine o_v hf hh (yv_assign rfl) ?_; clear hf a; intro a hf
    refine o_end ?_
    refine sy_ret ?_
    refine ret_c (vs := [spV (depV c.pr y (rooV c e0)), .int .i64 0]) hf ?_ ?_
    · exact ⟨⟨B4, 0, _, _, _, rfl, hh.at (i := 2) rfl, .inr ⟨2, _, Tryz.ag_35, rfl, rfl⟩⟩, rfl, True.intro⟩
    · rw [dep_yes hne (by simp_all)]; exact ⟨rfl, hh.ext⟩
end Go.Proofs.YtccpgpnekoncoaaGreatDoor

namespace Go.PaiM
open Go Go.Sy
def t03 (i : Nat) : ThD := if i = 0 then ⟨(100, 101), (0, 1), (-96, -95), (0, 2), 3000⟩ else ⟨(50, 50), (10, 12), (-10, -8), (14, 15), 0⟩
def ca03 : CaD := ⟨⟨(9000, 9000), (65, 66), 5, 2000, 100000, [t03 0, t03 1]⟩, 3200, 50, 20, (6000, 6500), 300, 900, 100, 200⟩
def y03 : Int × Int := (585000, 593999)
def e03 : Edg := (2, 1, 0, 3)
theorem ok03 : CaOk ca03 := caB_iff.1 (by kernel_rfl)
theorem pow03 : powO ca03.pr = some y03 := by kernel_rfl
theorem bst03 : bstO ca03 y03 = some e03 := by kernel_rfl
theorem trm03 : TrmOk ca03.cuts e03 := by
  unfold TrmOk ca03 e03
  dsimp only
  omega
theorem st03 : stB ca03.pr (t03 1) y03 = true := by kernel_rfl
theorem dis03 : dstV ca03.pr (t03 1) y03 = (9591, 10241) := by kernel_rfl
theorem roo03 : neB (rooV ca03 e03) = true := by kernel_rfl
theorem lst_at {f : Nat → Bool} {n k : Nat} (hm : ∀ i j, i ≤ j → f i = true → f j = true) (h0 : f k = false) (h1 : f (k + 1) = true) (hk : k + 1 ≤ n) : lstN f n = k + 1 := by
  refine lst_uniq hk (fun i hi => ?_) fun _ => h1
  cases h : f i with
  | false => rfl
  | true => rw [hm i k (by omega) h] at h0; cases h0
theorem dep03 : depO ca03 y03 e03 = some (2956, 11700) := by
  have h1 : lstN (dp1 ca03.pr y03 (rooV ca03 e03)) (depN ca03.pr) = 955 + 1 := lst_at (fun i j h hi => dp1_mono (by decide) (by decide) h hi) (by kernel_rfl) (by kernel_rfl) (by decide)
  have h2 : lstN (dp2 ca03.pr y03 (rooV ca03 e03)) (depN ca03.pr) = 9700 + 1 := lst_at (fun i j h hi => dp2_mono (by decide) (by decide) h hi) (by kernel_rfl) (by kernel_rfl) (by decide)
  have h3 : depV ca03.pr y03 (rooV ca03 e03) = (2956, 11700) := by
    unfold depV
    rw [h1, h2]; rfl
  rw [dep_yes roo03 (by rw [h3]; rfl), h3]
end Go.PaiM

namespace Go.Proofs.YtccpgpnekoncoaaGreatDoor
open Go Go.Sy Go.PaiM
set_option maxRecDepth 100000 in
set_option maxHeartbeats 4000000 in
theorem c_Card (c : CaD) (sa : Option Addr) (cp : Nat) (u : World) (hA : ThAt u sa c.pr.th) (hl : c.pr.th.length ≤ 9223372036854775807) : Calls Tryz.prog 13 #[.agg (caA c sa cp)] u (Ret fun v w' => v = .bool (caB c) ∧ Ext [] u w') := by
  refine calls_of Tryz.func13 rfl rfl (fun a hf => ?_)
  have hh := Hp.init u []
  unfold caB
  refine sy_sq ?_
  refine o_box hf hh ?_; clear hf hh a; intro B1 a w hf hh
  refine o_v hf hh (yv_assign rfl) ?_; clear hf a; intro a hf
  refine o_end ?_
  refine sy_sq ?_
  refine o_v hf hh (yv_fieldAddr Tryz.fo_51_1 rfl) ?_; clear hf a; intro a hf
  refine o_v hf hh (y_ld Tryz.sc_3 rfl) ?_; clear hf a; intro a hf
  refine o_call hf Tryz.en_44 rfl rfl rfl (c_in3 c.half 1 4000 _) ?_; clear hf a; intro v a w hR hf
  obtain ⟨rfl, hx⟩ := hR; replace hh := hh.more hx; clear hx
  refine o_v hf hh (yv_move rfl) ?_; clear hf a; intro a hf
  refine guard_split hf (t := 7) rfl (fun hg2 => ?_) (fun hg2 => ?_)
  ·have hG2 := hg2; try simp only [gS] at hG2
   refine o_v hf hh (yv_fieldAddr Tryz.fo_51_2 rfl) ?_; clear hf a; intro a hf
   refine o_v hf hh (y_ld Tryz.sc_3 rfl) ?_; clear hf a; intro a hf
   refine o_call hf Tryz.en_44 rfl rfl rfl (c_in3 c.step 1 100 _) ?_; clear hf a; intro v a w hR hf
   obtain ⟨rfl, hx⟩ := hR; replace hh := hh.more hx; clear hx
   refine o_v hf hh (y_pt rfl rfl) ?_; clear hf a; intro a hf
   refine o_v hf hh (yv_move rfl) ?_; clear hf a; intro a hf
   refine guard_split hf (t := 12) rfl (fun hg4 => ?_) (fun hg4 => ?_)
   ·have hG4 := hg4; try simp only [gS] at hG4
    refine o_v hf hh (yv_fieldAddr Tryz.fo_51_3 rfl) ?_; clear hf a; intro a hf
    refine o_v hf hh (y_ld Tryz.sc_3 rfl) ?_; clear hf a; intro a hf
    refine o_call hf Tryz.en_44 rfl rfl rfl (c_in3 c.cuts 0 40 _) ?_; clear hf a; intro v a w hR hf
    obtain ⟨rfl, hx⟩ := hR; replace hh := hh.more hx; clear hx
    refine o_v hf hh (y_pt rfl rfl) ?_; clear hf a; intro a hf
    refine o_v hf hh (yv_move rfl) ?_; clear hf a; intro a hf
    refine guard_split hf (t := 17) rfl (fun hg6 => ?_) (fun hg6 => ?_)
    ·have hG6 := hg6; try simp only [gS] at hG6
     refine o_v hf hh (yv_fieldAddr Tryz.fo_51_4 rfl) ?_; clear hf a; intro a hf
     refine o_v hf hh (yv_fieldAddr Tryz.fo_35_0 rfl) ?_; clear hf a; intro a hf
     refine o_v hf hh (y_ld Tryz.sc_3 rfl) ?_; clear hf a; intro a hf
     refine o_v hf hh (yv_bin rfl rfl rfl) ?_; clear hf a; intro a hf
     refine o_v hf hh (y_pt rfl rfl) ?_; clear hf a; intro a hf
     refine o_v hf hh (yv_move rfl) ?_; clear hf a; intro a hf
     refine guard_split hf (t := 23) rfl (fun hg8 => ?_) (fun hg8 => ?_)
     ·have hG8 := hg8; try simp only [gS] at hG8
      refine o_v hf hh (yv_fieldAddr Tryz.fo_51_4 rfl) ?_; clear hf a; intro a hf
      refine o_v hf hh (yv_fieldAddr Tryz.fo_35_0 rfl) ?_; clear hf a; intro a hf
      refine o_v hf hh (y_ld Tryz.sc_3 rfl) ?_; clear hf a; intro a hf
      refine o_v hf hh (yv_fieldAddr Tryz.fo_51_4 rfl) ?_; clear hf a; intro a hf
      refine o_v hf hh (yv_fieldAddr Tryz.fo_35_1 rfl) ?_; clear hf a; intro a hf
      refine o_v hf hh (y_ld Tryz.sc_3 rfl) ?_; clear hf a; intro a hf
      refine o_v hf hh (yv_bin rfl rfl rfl) ?_; clear hf a; intro a hf
      refine o_v hf hh (y_pt rfl rfl) ?_; clear hf a; intro a hf
      refine o_v hf hh (yv_move rfl) ?_; clear hf a; intro a hf
      refine guard_split hf (t := 32) rfl (fun hg10 => ?_) (fun hg10 => ?_)
      ·have hG10 := hg10; try simp only [gS] at hG10
       refine o_v hf hh (yv_fieldAddr Tryz.fo_51_4 rfl) ?_; clear hf a; intro a hf
       refine o_v hf hh (yv_fieldAddr Tryz.fo_35_1 rfl) ?_; clear hf a; intro a hf
       refine o_v hf hh (y_ld Tryz.sc_3 rfl) ?_; clear hf a; intro a hf
       refine o_v hf hh (yv_bin rfl rfl rfl) ?_; clear hf a; intro a hf
       refine o_v hf hh (y_pt rfl rfl) ?_; clear hf a; intro a hf
       refine o_v hf hh (yv_assign rfl) ?_; clear hf a; intro a hf
       refine o_end ?_
       refine sy_sq ?_
       refine o_v hf hh (yv_move rfl) ?_; clear hf a; intro a hf
       refine o_v hf hh (yv_move rfl) ?_; clear hf a; intro a hf
       refine guard_split hf (t := 39) rfl (fun hg12 => ?_) (fun hg12 => ?_)
       ·have hG12 := hg12; try simp only [gS] at hG12
        refine o_v hf hh (yv_fieldAddr Tryz.fo_51_5 rfl) ?_; clear hf a; intro a hf
        refine o_v hf hh (y_ld Tryz.sc_3 rfl) ?_; clear hf a; intro a hf
        refine o_call hf Tryz.en_44 rfl rfl rfl (c_in3 c.prism 0 10000 _) ?_; clear hf a; intro v a w hR hf
        obtain ⟨rfl, hx⟩ := hR; replace hh := hh.more hx; clear hx
        refine o_v hf hh (y_pt rfl rfl) ?_; clear hf a; intro a hf
        refine o_v hf hh (yv_move rfl) ?_; clear hf a; intro a hf
        refine guard_split hf (t := 44) rfl (fun hg14 => ?_) (fun hg14 => ?_)
        ·have hG14 := hg14; try simp only [gS] at hG14
         refine o_v hf hh (yv_fieldAddr Tryz.fo_51_6 rfl) ?_; clear hf a; intro a hf
         refine o_v hf hh (y_ld Tryz.sc_3 rfl) ?_; clear hf a; intro a hf
         refine o_call hf Tryz.en_44 rfl rfl rfl (c_in3 c.squeeze 0 10000 _) ?_; clear hf a; intro v a w hR hf
         obtain ⟨rfl, hx⟩ := hR; replace hh := hh.more hx; clear hx
         refine o_v hf hh (y_pt rfl rfl) ?_; clear hf a; intro a hf
         refine o_v hf hh (yv_move rfl) ?_; clear hf a; intro a hf
         refine guard_split hf (t := 49) rfl (fun hg16 => ?_) (fun hg16 => ?_)
         ·have hG16 := hg16; try simp only [gS] at hG16
          refine o_v hf hh (yv_fieldAddr Tryz.fo_51_7 rfl) ?_; clear hf a; intro a hf
          refine o_v hf hh (y_ld Tryz.sc_3 rfl) ?_; clear hf a; intro a hf
          refine o_call hf Tryz.en_44 rfl rfl rfl (c_in3 c.front 0 10000 _) ?_; clear hf a; intro v a w hR hf
          obtain ⟨rfl, hx⟩ := hR; replace hh := hh.more hx; clear hx
          refine o_v hf hh (y_pt rfl rfl) ?_; clear hf a; intro a hf
          refine o_v hf hh (yv_move rfl) ?_; clear hf a; intro a hf
          refine guard_split hf (t := 54) rfl (fun hg18 => ?_) (fun hg18 => ?_)
          ·have hG18 := hg18; try simp only [gS] at hG18
           refine o_v hf hh (yv_fieldAddr Tryz.fo_51_8 rfl) ?_; clear hf a; intro a hf
           refine o_v hf hh (y_ld Tryz.sc_3 rfl) ?_; clear hf a; intro a hf
           refine o_call hf Tryz.en_44 rfl rfl rfl (c_in3 c.deep 0 10000 _) ?_; clear hf a; intro v a w hR hf
           obtain ⟨rfl, hx⟩ := hR; replace hh := hh.more hx; clear hx
           refine o_v hf hh (y_pt rfl rfl) ?_; clear hf a; intro a hf
           refine o_v hf hh (yv_move rfl) ?_; clear hf a; intro a hf
           refine guard_split hf (t := 59) rfl (fun hg20 => ?_) (fun hg20 => ?_)
           ·have hG20 := hg20; try simp only [gS] at hG20
            refine o_v hf hh (yv_fieldAddr Tryz.fo_51_0 rfl) ?_; clear hf a; intro a hf
            refine o_v hf hh (y_lds Tryz.ag_38 rfl) ?_; clear hf a; intro a hf
            refine o_call hf Tryz.en_45 rfl rfl rfl (c_pair c.pr sa cp _ (hA.ext hh.ext) hl) ?_; clear hf a; intro v a w hR hf
            obtain ⟨rfl, hx⟩ := hR; replace hh := hh.more hx; clear hx
            refine o_v hf hh (y_pt rfl rfl) ?_; clear hf a; intro a hf
            refine o_v hf hh (yv_assign rfl) ?_; clear hf a; intro a hf
            refine o_end ?_
            refine sy_ret ?_
            refine ret_r hf rfl rfl ?_
            refine ⟨congrArg Value.bool ?_, hh.ext⟩
            clear hf hh
            first
              | rfl
              | (simp_all; done)
              | (simp only [*, Bool.false_and, Bool.and_false, Bool.true_and, Bool.and_true, Bool.not_true, Bool.not_false]; done)
              | (rw [Bool.eq_iff_iff]; simp_all <;> omega)
           ·have hG20 := hg20; try simp only [gS] at hG20
            refine o_off hf ?_; clear hf a; intro a hf
            refine o_off hf ?_; clear hf a; intro a hf
            refine o_off hf ?_; clear hf a; intro a hf
            refine o_v hf hh (y_pf rfl rfl) ?_; clear hf a; intro a hf
            refine o_v hf hh (yv_assign rfl) ?_; clear hf a; intro a hf
            refine o_end ?_
            refine sy_ret ?_
            refine ret_r hf rfl rfl ?_
            refine ⟨congrArg Value.bool ?_, hh.ext⟩
            clear hf hh
            first
              | rfl
              | (simp_all; done)
              | (simp only [*, Bool.false_and, Bool.and_false, Bool.true_and, Bool.and_true, Bool.not_true, Bool.not_false]; done)
              | (rw [Bool.eq_iff_iff]; simp_all <;> omega)
          ·have hG18 := hg18; try simp only [gS] at hG18
           refine o_off hf ?_; clear hf a; intro a hf
           refine o_off hf ?_; clear hf a; intro a hf
           refine o_off hf ?_; clear hf a; intro a hf
           refine o_v hf hh (y_pf rfl rfl) ?_; clear hf a; intro a hf
           refine o_v hf hh (yv_move rfl) ?_; clear hf a; intro a hf
           refine o_off hf ?_; clear hf a; intro a hf
           refine o_off hf ?_; clear hf a; intro a hf
           refine o_off hf ?_; clear hf a; intro a hf
           refine o_v hf hh (y_pf rfl rfl) ?_; clear hf a; intro a hf
           refine o_v hf hh (yv_assign rfl) ?_; clear hf a; intro a hf
           refine o_end ?_
           refine sy_ret ?_
           refine ret_r hf rfl rfl ?_
           refine ⟨congrArg Value.bool ?_, hh.ext⟩
           clear hf hh
           first
             | rfl
             | (simp_all; done)
             | (simp only [*, Bool.false_and, Bool.and_false, Bool.true_and, Bool.and_true, Bool.not_true, Bool.not_false]; done)
             | (rw [Bool.eq_iff_iff]; simp_all <;> omega)
         ·have hG16 := hg16; try simp only [gS] at hG16
          refine o_off hf ?_; clear hf a; intro a hf
          refine o_off hf ?_; clear hf a; intro a hf
          refine o_off hf ?_; clear hf a; intro a hf
          refine o_v hf hh (y_pf rfl rfl) ?_; clear hf a; intro a hf
          refine o_v hf hh (yv_move rfl) ?_; clear hf a; intro a hf
          refine o_off hf ?_; clear hf a; intro a hf
          refine o_off hf ?_; clear hf a; intro a hf
          refine o_off hf ?_; clear hf a; intro a hf
          refine o_v hf hh (y_pf rfl rfl) ?_; clear hf a; intro a hf
          refine o_v hf hh (yv_move rfl) ?_; clear hf a; intro a hf
          refine o_off hf ?_; clear hf a; intro a hf
          refine o_off hf ?_; clear hf a; intro a hf
          refine o_off hf ?_; clear hf a; intro a hf
          refine o_v hf hh (y_pf rfl rfl) ?_; clear hf a; intro a hf
          refine o_v hf hh (yv_assign rfl) ?_; clear hf a; intro a hf
          refine o_end ?_
          refine sy_ret ?_
          refine ret_r hf rfl rfl ?_
          refine ⟨congrArg Value.bool ?_, hh.ext⟩
          clear hf hh
          first
            | rfl
            | (simp_all; done)
            | (simp only [*, Bool.false_and, Bool.and_false, Bool.true_and, Bool.and_true, Bool.not_true, Bool.not_false]; done)
            | (rw [Bool.eq_iff_iff]; simp_all <;> omega)
        ·have hG14 := hg14; try simp only [gS] at hG14
         refine o_off hf ?_; clear hf a; intro a hf
         refine o_off hf ?_; clear hf a; intro a hf
         refine o_off hf ?_; clear hf a; intro a hf
         refine o_v hf hh (y_pf rfl rfl) ?_; clear hf a; intro a hf
         refine o_v hf hh (yv_move rfl) ?_; clear hf a; intro a hf
         refine o_off hf ?_; clear hf a; intro a hf
         refine o_off hf ?_; clear hf a; intro a hf
         refine o_off hf ?_; clear hf a; intro a hf
         refine o_v hf hh (y_pf rfl rfl) ?_; clear hf a; intro a hf
         refine o_v hf hh (yv_move rfl) ?_; clear hf a; intro a hf
         refine o_off hf ?_; clear hf a; intro a hf
         refine o_off hf ?_; clear hf a; intro a hf
         refine o_off hf ?_; clear hf a; intro a hf
         refine o_v hf hh (y_pf rfl rfl) ?_; clear hf a; intro a hf
         refine o_v hf hh (yv_move rfl) ?_; clear hf a; intro a hf
         refine o_off hf ?_; clear hf a; intro a hf
         refine o_off hf ?_; clear hf a; intro a hf
         refine o_off hf ?_; clear hf a; intro a hf
         refine o_v hf hh (y_pf rfl rfl) ?_; clear hf a; intro a hf
         refine o_v hf hh (yv_assign rfl) ?_; clear hf a; intro a hf
         refine o_end ?_
         refine sy_ret ?_
         refine ret_r hf rfl rfl ?_
         refine ⟨congrArg Value.bool ?_, hh.ext⟩
         clear hf hh
         first
           | rfl
           | (simp_all; done)
           | (simp only [*, Bool.false_and, Bool.and_false, Bool.true_and, Bool.and_true, Bool.not_true, Bool.not_false]; done)
           | (rw [Bool.eq_iff_iff]; simp_all <;> omega)
       ·have hG12 := hg12; try simp only [gS] at hG12
        refine o_off hf ?_; clear hf a; intro a hf
        refine o_off hf ?_; clear hf a; intro a hf
        refine o_off hf ?_; clear hf a; intro a hf
        refine o_v hf hh (y_pf rfl rfl) ?_; clear hf a; intro a hf
        refine o_v hf hh (yv_move rfl) ?_; clear hf a; intro a hf
        refine o_off hf ?_; clear hf a; intro a hf
        refine o_off hf ?_; clear hf a; intro a hf
        refine o_off hf ?_; clear hf a; intro a hf
        refine o_v hf hh (y_pf rfl rfl) ?_; clear hf a; intro a hf
        refine o_v hf hh (yv_move rfl) ?_; clear hf a; intro a hf
        refine o_off hf ?_; clear hf a; intro a hf
        refine o_off hf ?_; clear hf a; intro a hf
        refine o_off hf ?_; clear hf a; intro a hf
        refine o_v hf hh (y_pf rfl rfl) ?_; clear hf a; intro a hf
        refine o_v hf hh (yv_move rfl) ?_; clear hf a; intro a hf
        refine o_off hf ?_; clear hf a; intro a hf
        refine o_off hf ?_; clear hf a; intro a hf
        refine o_off hf ?_; clear hf a; intro a hf
        refine o_v hf hh (y_pf rfl rfl) ?_; clear hf a; intro a hf
        refine o_v hf hh (yv_move rfl) ?_; clear hf a; intro a hf
        refine o_off hf ?_; clear hf a; intro a hf
        refine o_off hf ?_; clear hf a; intro a hf
        refine o_off hf ?_; clear hf a; intro a hf
        refine o_v hf hh (y_pf rfl rfl) ?_; clear hf a; intro a hf
        refine o_v hf hh (yv_assign rfl) ?_; clear hf a; intro a hf
        refine o_end ?_
        refine sy_ret ?_
        refine ret_r hf rfl rfl ?_
        refine ⟨congrArg Value.bool ?_, hh.ext⟩
        clear hf hh
        first
          | rfl
          | (simp_all; done)
          | (simp only [*, Bool.false_and, Bool.and_false, Bool.true_and, Bool.and_true, Bool.not_true, Bool.not_false]; done)
          | (rw [Bool.eq_iff_iff]; simp_all <;> omega)
      ·have hG10 := hg10; try simp only [gS] at hG10
       refine o_off hf ?_; clear hf a; intro a hf
       refine o_off hf ?_; clear hf a; intro a hf
       refine o_off hf ?_; clear hf a; intro a hf
       refine o_off hf ?_; clear hf a; intro a hf
       refine o_v hf hh (y_pf rfl rfl) ?_; clear hf a; intro a hf
       refine o_v hf hh (yv_assign rfl) ?_; clear hf a; intro a hf
       refine o_end ?_
       refine sy_sq ?_
       refine o_v hf hh (yv_move rfl) ?_; clear hf a; intro a hf
       refine o_v hf hh (yv_move rfl) ?_; clear hf a; intro a hf
       refine o_off hf ?_; clear hf a; intro a hf
       refine o_off hf ?_; clear hf a; intro a hf
       refine o_off hf ?_; clear hf a; intro a hf
       refine o_v hf hh (y_pf rfl rfl) ?_; clear hf a; intro a hf
       refine o_v hf hh (yv_move rfl) ?_; clear hf a; intro a hf
       refine o_off hf ?_; clear hf a; intro a hf
       refine o_off hf ?_; clear hf a; intro a hf
       refine o_off hf ?_; clear hf a; intro a hf
       refine o_v hf hh (y_pf rfl rfl) ?_; clear hf a; intro a hf
       refine o_v hf hh (yv_move rfl) ?_; clear hf a; intro a hf
       refine o_off hf ?_; clear hf a; intro a hf
       refine o_off hf ?_; clear hf a; intro a hf
       refine o_off hf ?_; clear hf a; intro a hf
       refine o_v hf hh (y_pf rfl rfl) ?_; clear hf a; intro a hf
       refine o_v hf hh (yv_move rfl) ?_; clear hf a; intro a hf
       refine o_off hf ?_; clear hf a; intro a hf
       refine o_off hf ?_; clear hf a; intro a hf
       refine o_off hf ?_; clear hf a; intro a hf
       refine o_v hf hh (y_pf rfl rfl) ?_; clear hf a; intro a hf
       refine o_v hf hh (yv_move rfl) ?_; clear hf a; intro a hf
       refine o_off hf ?_; clear hf a; intro a hf
       refine o_off hf ?_; clear hf a; intro a hf
       refine o_off hf ?_; clear hf a; intro a hf
       refine o_v hf hh (y_pf rfl rfl) ?_; clear hf a; intro a hf
       refine o_v hf hh (yv_assign rfl) ?_; clear hf a; intro a hf
       refine o_end ?_
       refine sy_ret ?_
       refine ret_r hf rfl rfl ?_
       refine ⟨congrArg Value.bool ?_, hh.ext⟩
       clear hf hh
       first
         | rfl
         | (simp_all; done)
         | (simp only [*, Bool.false_and, Bool.and_false, Bool.true_and, Bool.and_true, Bool.not_true, Bool.not_false]; done)
         | (rw [Bool.eq_iff_iff]; simp_all <;> omega)
     ·have hG8 := hg8; try simp only [gS] at hG8
      refine o_off hf ?_; clear hf a; intro a hf
      refine o_off hf ?_; clear hf a; intro a hf
      refine o_off hf ?_; clear hf a; intro a hf
      refine o_off hf ?_; clear hf a; intro a hf
      refine o_off hf ?_; clear hf a; intro a hf
      refine o_off hf ?_; clear hf a; intro a hf
      refine o_off hf ?_; clear hf a; intro a hf
      refine o_v hf hh (y_pf rfl rfl) ?_; clear hf a; intro a hf
      refine o_v hf hh (yv_move rfl) ?_; clear hf a; intro a hf
      refine o_off hf ?_; clear hf a; intro a hf
      refine o_off hf ?_; clear hf a; intro a hf
      refine o_off hf ?_; clear hf a; intro a hf
      refine o_off hf ?_; clear hf a; intro a hf
      refine o_v hf hh (y_pf rfl rfl) ?_; clear hf a; intro a hf
      refine o_v hf hh (yv_assign rfl) ?_; clear hf a; intro a hf
      refine o_end ?_
      refine sy_sq ?_
      refine o_v hf hh (yv_move rfl) ?_; clear hf a; intro a hf
      refine o_v hf hh (yv_move rfl) ?_; clear hf a; intro a hf
      refine o_off hf ?_; clear hf a; intro a hf
      refine o_off hf ?_; clear hf a; intro a hf
      refine o_off hf ?_; clear hf a; intro a hf
      refine o_v hf hh (y_pf rfl rfl) ?_; clear hf a; intro a hf
      refine o_v hf hh (yv_move rfl) ?_; clear hf a; intro a hf
      refine o_off hf ?_; clear hf a; intro a hf
      refine o_off hf ?_; clear hf a; intro a hf
      refine o_off hf ?_; clear hf a; intro a hf
      refine o_v hf hh (y_pf rfl rfl) ?_; clear hf a; intro a hf
      refine o_v hf hh (yv_move rfl) ?_; clear hf a; intro a hf
      refine o_off hf ?_; clear hf a; intro a hf
      refine o_off hf ?_; clear hf a; intro a hf
      refine o_off hf ?_; clear hf a; intro a hf
      refine o_v hf hh (y_pf rfl rfl) ?_; clear hf a; intro a hf
      refine o_v hf hh (yv_move rfl) ?_; clear hf a; intro a hf
      refine o_off hf ?_; clear hf a; intro a hf
      refine o_off hf ?_; clear hf a; intro a hf
      refine o_off hf ?_; clear hf a; intro a hf
      refine o_v hf hh (y_pf rfl rfl) ?_; clear hf a; intro a hf
      refine o_v hf hh (yv_move rfl) ?_; clear hf a; intro a hf
      refine o_off hf ?_; clear hf a; intro a hf
      refine o_off hf ?_; clear hf a; intro a hf
      refine o_off hf ?_; clear hf a; intro a hf
      refine o_v hf hh (y_pf rfl rfl) ?_; clear hf a; intro a hf
      refine o_v hf hh (yv_assign rfl) ?_; clear hf a; intro a hf
      refine o_end ?_
      refine sy_ret ?_
      refine ret_r hf rfl rfl ?_
      refine ⟨congrArg Value.bool ?_, hh.ext⟩
      clear hf hh
      first
        | rfl
        | (simp_all; done)
        | (simp only [*, Bool.false_and, Bool.and_false, Bool.true_and, Bool.and_true, Bool.not_true, Bool.not_false]; done)
        | (rw [Bool.eq_iff_iff]; simp_all <;> omega)
    ·have hG6 := hg6; try simp only [gS] at hG6
     refine o_off hf ?_; clear hf a; intro a hf
     refine o_off hf ?_; clear hf a; intro a hf
     refine o_off hf ?_; clear hf a; intro a hf
     refine o_off hf ?_; clear hf a; intro a hf
     refine o_v hf hh (y_pf rfl rfl) ?_; clear hf a; intro a hf
     refine o_v hf hh (yv_move rfl) ?_; clear hf a; intro a hf
     refine o_off hf ?_; clear hf a; intro a hf
     refine o_off hf ?_; clear hf a; intro a hf
     refine o_off hf ?_; clear hf a; intro a hf
     refine o_off hf ?_; clear hf a; intro a hf
     refine o_off hf ?_; clear hf a; intro a hf
     refine o_off hf ?_; clear hf a; intro a hf
     refine o_off hf ?_; clear hf a; intro a hf
     refine o_v hf hh (y_pf rfl rfl) ?_; clear hf a; intro a hf
     refine o_v hf hh (yv_move rfl) ?_; clear hf a; intro a hf
     refine o_off hf ?_; clear hf a; intro a hf
     refine o_off hf ?_; clear hf a; intro a hf
     refine o_off hf ?_; clear hf a; intro a hf
     refine o_off hf ?_; clear hf a; intro a hf
     refine o_v hf hh (y_pf rfl rfl) ?_; clear hf a; intro a hf
     refine o_v hf hh (yv_assign rfl) ?_; clear hf a; intro a hf
     refine o_end ?_
     refine sy_sq ?_
     refine o_v hf hh (yv_move rfl) ?_; clear hf a; intro a hf
     refine o_v hf hh (yv_move rfl) ?_; clear hf a; intro a hf
     refine o_off hf ?_; clear hf a; intro a hf
     refine o_off hf ?_; clear hf a; intro a hf
     refine o_off hf ?_; clear hf a; intro a hf
     refine o_v hf hh (y_pf rfl rfl) ?_; clear hf a; intro a hf
     refine o_v hf hh (yv_move rfl) ?_; clear hf a; intro a hf
     refine o_off hf ?_; clear hf a; intro a hf
     refine o_off hf ?_; clear hf a; intro a hf
     refine o_off hf ?_; clear hf a; intro a hf
     refine o_v hf hh (y_pf rfl rfl) ?_; clear hf a; intro a hf
     refine o_v hf hh (yv_move rfl) ?_; clear hf a; intro a hf
     refine o_off hf ?_; clear hf a; intro a hf
     refine o_off hf ?_; clear hf a; intro a hf
     refine o_off hf ?_; clear hf a; intro a hf
     refine o_v hf hh (y_pf rfl rfl) ?_; clear hf a; intro a hf
     refine o_v hf hh (yv_move rfl) ?_; clear hf a; intro a hf
     refine o_off hf ?_; clear hf a; intro a hf
     refine o_off hf ?_; clear hf a; intro a hf
     refine o_off hf ?_; clear hf a; intro a hf
     refine o_v hf hh (y_pf rfl rfl) ?_; clear hf a; intro a hf
     refine o_v hf hh (yv_move rfl) ?_; clear hf a; intro a hf
     refine o_off hf ?_; clear hf a; intro a hf
     refine o_off hf ?_; clear hf a; intro a hf
     refine o_off hf ?_; clear hf a; intro a hf
     refine o_v hf hh (y_pf rfl rfl) ?_; clear hf a; intro a hf
     refine o_v hf hh (yv_assign rfl) ?_; clear hf a; intro a hf
     refine o_end ?_
     refine sy_ret ?_
     refine ret_r hf rfl rfl ?_
     refine ⟨congrArg Value.bool ?_, hh.ext⟩
     clear hf hh
     first
       | rfl
       | (simp_all; done)
       | (simp only [*, Bool.false_and, Bool.and_false, Bool.true_and, Bool.and_true, Bool.not_true, Bool.not_false]; done)
       | (rw [Bool.eq_iff_iff]; simp_all <;> omega)
   ·have hG4 := hg4; try simp only [gS] at hG4
    refine o_off hf ?_; clear hf a; intro a hf
    refine o_off hf ?_; clear hf a; intro a hf
    refine o_off hf ?_; clear hf a; intro a hf
    refine o_v hf hh (y_pf rfl rfl) ?_; clear hf a; intro a hf
    refine o_v hf hh (yv_move rfl) ?_; clear hf a; intro a hf
    refine o_off hf ?_; clear hf a; intro a hf
    refine o_off hf ?_; clear hf a; intro a hf
    refine o_off hf ?_; clear hf a; intro a hf
    refine o_off hf ?_; clear hf a; intro a hf
    refine o_v hf hh (y_pf rfl rfl) ?_; clear hf a; intro a hf
    refine o_v hf hh (yv_move rfl) ?_; clear hf a; intro a hf
    refine o_off hf ?_; clear hf a; intro a hf
    refine o_off hf ?_; clear hf a; intro a hf
    refine o_off hf ?_; clear hf a; intro a hf
    refine o_off hf ?_; clear hf a; intro a hf
    refine o_off hf ?_; clear hf a; intro a hf
    refine o_off hf ?_; clear hf a; intro a hf
    refine o_off hf ?_; clear hf a; intro a hf
    refine o_v hf hh (y_pf rfl rfl) ?_; clear hf a; intro a hf
    refine o_v hf hh (yv_move rfl) ?_; clear hf a; intro a hf
    refine o_off hf ?_; clear hf a; intro a hf
    refine o_off hf ?_; clear hf a; intro a hf
    refine o_off hf ?_; clear hf a; intro a hf
    refine o_off hf ?_; clear hf a; intro a hf
    refine o_v hf hh (y_pf rfl rfl) ?_; clear hf a; intro a hf
    refine o_v hf hh (yv_assign rfl) ?_; clear hf a; intro a hf
    refine o_end ?_
    refine sy_sq ?_
    refine o_v hf hh (yv_move rfl) ?_; clear hf a; intro a hf
    refine o_v hf hh (yv_move rfl) ?_; clear hf a; intro a hf
    refine o_off hf ?_; clear hf a; intro a hf
    refine o_off hf ?_; clear hf a; intro a hf
    refine o_off hf ?_; clear hf a; intro a hf
    refine o_v hf hh (y_pf rfl rfl) ?_; clear hf a; intro a hf
    refine o_v hf hh (yv_move rfl) ?_; clear hf a; intro a hf
    refine o_off hf ?_; clear hf a; intro a hf
    refine o_off hf ?_; clear hf a; intro a hf
    refine o_off hf ?_; clear hf a; intro a hf
    refine o_v hf hh (y_pf rfl rfl) ?_; clear hf a; intro a hf
    refine o_v hf hh (yv_move rfl) ?_; clear hf a; intro a hf
    refine o_off hf ?_; clear hf a; intro a hf
    refine o_off hf ?_; clear hf a; intro a hf
    refine o_off hf ?_; clear hf a; intro a hf
    refine o_v hf hh (y_pf rfl rfl) ?_; clear hf a; intro a hf
    refine o_v hf hh (yv_move rfl) ?_; clear hf a; intro a hf
    refine o_off hf ?_; clear hf a; intro a hf
    refine o_off hf ?_; clear hf a; intro a hf
    refine o_off hf ?_; clear hf a; intro a hf
    refine o_v hf hh (y_pf rfl rfl) ?_; clear hf a; intro a hf
    refine o_v hf hh (yv_move rfl) ?_; clear hf a; intro a hf
    refine o_off hf ?_; clear hf a; intro a hf
    refine o_off hf ?_; clear hf a; intro a hf
    refine o_off hf ?_; clear hf a; intro a hf
    refine o_v hf hh (y_pf rfl rfl) ?_; clear hf a; intro a hf
    refine o_v hf hh (yv_assign rfl) ?_; clear hf a; intro a hf
    refine o_end ?_
    refine sy_ret ?_
    refine ret_r hf rfl rfl ?_
    refine ⟨congrArg Value.bool ?_, hh.ext⟩
    clear hf hh
    first
      | rfl
      | (simp_all; done)
      | (simp only [*, Bool.false_and, Bool.and_false, Bool.true_and, Bool.and_true, Bool.not_true, Bool.not_false]; done)
      | (rw [Bool.eq_iff_iff]; simp_all <;> omega)
  ·have hG2 := hg2; try simp only [gS] at hG2
   refine o_off hf ?_; clear hf a; intro a hf
   refine o_off hf ?_; clear hf a; intro a hf
   refine o_off hf ?_; clear hf a; intro a hf
   refine o_v hf hh (y_pf rfl rfl) ?_; clear hf a; intro a hf
   refine o_v hf hh (yv_move rfl) ?_; clear hf a; intro a hf
   refine o_off hf ?_; clear hf a; intro a hf
   refine o_off hf ?_; clear hf a; intro a hf
   refine o_off hf ?_; clear hf a; intro a hf
   refine o_v hf hh (y_pf rfl rfl) ?_; clear hf a; intro a hf
   refine o_v hf hh (yv_move rfl) ?_; clear hf a; intro a hf
   refine o_off hf ?_; clear hf a; intro a hf
   refine o_off hf ?_; clear hf a; intro a hf
   refine o_off hf ?_; clear hf a; intro a hf
   refine o_off hf ?_; clear hf a; intro a hf
   refine o_v hf hh (y_pf rfl rfl) ?_; clear hf a; intro a hf
   refine o_v hf hh (yv_move rfl) ?_; clear hf a; intro a hf
   refine o_off hf ?_; clear hf a; intro a hf
   refine o_off hf ?_; clear hf a; intro a hf
   refine o_off hf ?_; clear hf a; intro a hf
   refine o_off hf ?_; clear hf a; intro a hf
   refine o_off hf ?_; clear hf a; intro a hf
   refine o_off hf ?_; clear hf a; intro a hf
   refine o_off hf ?_; clear hf a; intro a hf
   refine o_v hf hh (y_pf rfl rfl) ?_; clear hf a; intro a hf
   refine o_v hf hh (yv_move rfl) ?_; clear hf a; intro a hf
   refine o_off hf ?_; clear hf a; intro a hf
   refine o_off hf ?_; clear hf a; intro a hf
   refine o_off hf ?_; clear hf a; intro a hf
   refine o_off hf ?_; clear hf a; intro a hf
   refine o_v hf hh (y_pf rfl rfl) ?_; clear hf a; intro a hf
   refine o_v hf hh (yv_assign rfl) ?_; clear hf a; intro a hf
   refine o_end ?_
   refine sy_sq ?_
   refine o_v hf hh (yv_move rfl) ?_; clear hf a; intro a hf
   refine o_v hf hh (yv_move rfl) ?_; clear hf a; intro a hf
   refine o_off hf ?_; clear hf a; intro a hf
   refine o_off hf ?_; clear hf a; intro a hf
   refine o_off hf ?_; clear hf a; intro a hf
   refine o_v hf hh (y_pf rfl rfl) ?_; clear hf a; intro a hf
   refine o_v hf hh (yv_move rfl) ?_; clear hf a; intro a hf
   refine o_off hf ?_; clear hf a; intro a hf
   refine o_off hf ?_; clear hf a; intro a hf
   refine o_off hf ?_; clear hf a; intro a hf
   refine o_v hf hh (y_pf rfl rfl) ?_; clear hf a; intro a hf
   refine o_v hf hh (yv_move rfl) ?_; clear hf a; intro a hf
   refine o_off hf ?_; clear hf a; intro a hf
   refine o_off hf ?_; clear hf a; intro a hf
   refine o_off hf ?_; clear hf a; intro a hf
   refine o_v hf hh (y_pf rfl rfl) ?_; clear hf a; intro a hf
   refine o_v hf hh (yv_move rfl) ?_; clear hf a; intro a hf
   refine o_off hf ?_; clear hf a; intro a hf
   refine o_off hf ?_; clear hf a; intro a hf
   refine o_off hf ?_; clear hf a; intro a hf
   refine o_v hf hh (y_pf rfl rfl) ?_; clear hf a; intro a hf
   refine o_v hf hh (yv_move rfl) ?_; clear hf a; intro a hf
   refine o_off hf ?_; clear hf a; intro a hf
   refine o_off hf ?_; clear hf a; intro a hf
   refine o_off hf ?_; clear hf a; intro a hf
   refine o_v hf hh (y_pf rfl rfl) ?_; clear hf a; intro a hf
   refine o_v hf hh (yv_assign rfl) ?_; clear hf a; intro a hf
   refine o_end ?_
   refine sy_ret ?_
   refine ret_r hf rfl rfl ?_
   refine ⟨congrArg Value.bool ?_, hh.ext⟩
   clear hf hh
   first
     | rfl
     | (simp_all; done)
     | (simp only [*, Bool.false_and, Bool.and_false, Bool.true_and, Bool.and_true, Bool.not_true, Bool.not_false]; done)
     | (rw [Bool.eq_iff_iff]; simp_all <;> omega)
theorem c_sp3 (x z : Int) (u : World) : Calls Tryz.prog 9 #[.int .i64 x, .int .i64 z] u (Ret fun v w' => v = .agg #[.int .i64 x, .int .i64 z] ∧ Ext [] u w') := by
  refine calls_of Tryz.func9 rfl rfl (fun a hf => ?_)
  have hh := Hp.init u []
  refine sy_sq ?_
  refine o_alloc hf hh Tryz.ze_35 ?_; clear hf hh a; intro B4 a w hf hh
  refine o_end ?_
  refine sy_sq ?_
  refine o_v hf hh (yv_move rfl) ?_; clear hf a; intro a hf
  refine o_v hf hh (yv_move rfl) ?_; clear hf a; intro a hf
  refine o_v hf hh (yv_buildS Tryz.bs_35 rfl rfl) ?_; clear hf a; intro a hf
  refine o_store hf hh Tryz.sz_35 fun w hh => ?_
  refine o_end ?_
  refine sy_ret ?_
  refine ret_c (vs := [.agg #[.int .i64 x, .int .i64 z]]) hf ?_ ?_
  · exact ⟨⟨B4, 0, _, _, _, rfl, hh.at (i := 0) rfl, .inr ⟨2, _, Tryz.ag_35, rfl, rfl⟩⟩, True.intro⟩
  · exact ⟨rfl, hh.ext⟩
theorem c_th3 (p0 p1 p2 p3 p4 p5 p6 p7 p8 : Int) (u : World) : Calls Tryz.prog 85 #[.int .i64 p0, .int .i64 p1, .int .i64 p2, .int .i64 p3, .int .i64 p4, .int .i64 p5, .int .i64 p6, .int .i64 p7, .int .i64 p8] u (Ret fun v w' => v = .agg #[.int .i64 p1, .int .i64 p2, .int .i64 p3, .int .i64 p4, .int .i64 p5, .int .i64 p6, .int .i64 p7, .int .i64 p8, .int .i64 p0] ∧ Ext [] u w') := by
  refine calls_of Tryz.func85 rfl rfl (fun a hf => ?_)
  have hh := Hp.init u []
  refine sy_sq ?_
  refine o_alloc hf hh Tryz.ze_46 ?_; clear hf hh a; intro B18 a w hf hh
  refine o_end ?_
  refine sy_sq ?_
  refine o_v hf hh (yv_move rfl) ?_; clear hf a; intro a hf
  refine o_v hf hh (yv_move rfl) ?_; clear hf a; intro a hf
  refine o_call hf Tryz.en_9 rfl rfl rfl (c_sp3 p1 p2 _) ?_; clear hf a; intro v a w hR hf
  obtain ⟨rfl, hx⟩ := hR; replace hh := hh.more hx; clear hx
  refine o_v hf hh (yv_move rfl) ?_; clear hf a; intro a hf
  refine o_v hf hh (yv_move rfl) ?_; clear hf a; intro a hf
  refine o_call hf Tryz.en_9 rfl rfl rfl (c_sp3 p3 p4 _) ?_; clear hf a; intro v a w hR hf
  obtain ⟨rfl, hx⟩ := hR; replace hh := hh.more hx; clear hx
  refine o_v hf hh (yv_cast (v' := .agg #[.int .i64 p1, .int .i64 p2, .int .i64 p3, .int .i64 p4]) (yv_buildS Tryz.bs_44 rfl rfl) rfl) ?_; clear hf a; intro a hf
  refine o_v hf hh (yv_move rfl) ?_; clear hf a; intro a hf
  refine o_v hf hh (yv_move rfl) ?_; clear hf a; intro a hf
  refine o_call hf Tryz.en_9 rfl rfl rfl (c_sp3 p5 p6 _) ?_; clear hf a; intro v a w hR hf
  obtain ⟨rfl, hx⟩ := hR; replace hh := hh.more hx; clear hx
  refine o_v hf hh (yv_move rfl) ?_; clear hf a; intro a hf
  refine o_v hf hh (yv_move rfl) ?_; clear hf a; intro a hf
  refine o_call hf Tryz.en_9 rfl rfl rfl (c_sp3 p7 p8 _) ?_; clear hf a; intro v a w hR hf
  obtain ⟨rfl, hx⟩ := hR; replace hh := hh.more hx; clear hx
  refine o_v hf hh (yv_cast (v' := .agg #[.int .i64 p5, .int .i64 p6, .int .i64 p7, .int .i64 p8]) (yv_buildS Tryz.bs_44 rfl rfl) rfl) ?_; clear hf a; intro a hf
  refine o_v hf hh (yv_move rfl) ?_; clear hf a; intro a hf
  refine o_v hf hh (yv_cast (v' := .agg #[.int .i64 p1, .int .i64 p2, .int .i64 p3, .int .i64 p4, .int .i64 p5, .int .i64 p6, .int .i64 p7, .int .i64 p8, .int .i64 p0]) (yv_buildS Tryz.bs_46 rfl rfl) rfl) ?_; clear hf a; intro a hf
  refine o_store hf hh Tryz.sz_46 fun w hh => ?_
  refine o_end ?_
  refine sy_ret ?_
  refine ret_c (vs := [.agg #[.int .i64 p1, .int .i64 p2, .int .i64 p3, .int .i64 p4, .int .i64 p5, .int .i64 p6, .int .i64 p7, .int .i64 p8, .int .i64 p0]]) hf ?_ ?_
  · exact ⟨⟨B18, 0, _, _, _, rfl, hh.at (i := 0) rfl, .inr ⟨9, _, Tryz.ag_46, rfl, rfl⟩⟩, True.intro⟩
  · exact ⟨rfl, hh.ext⟩
/-- The cells of the document's things. -/
def ts03 : Array Value := ((thC (t03 0)) ++ (thC (t03 1))).toArray
theorem th03_at {w : World} {B : Nat} {T : TypeId} {fr : Nat × Nat} (h : w.heap[B]? = some (.cells ts03 T fr)) : ThAt w (some ⟨B, 0, none⟩) ca03.pr.th := fun i s hi2 => by
  match i, hi2 with
  | 0, hi2 => cases hi2; exact ⟨B, 0, _, T, _, rfl, h, rfl⟩
  | 1, hi2 => cases hi2; exact ⟨B, 0, _, T, _, rfl, h, rfl⟩
  | i + 2, hi2 => simp [ca03] at hi2
set_option maxRecDepth 100000 in
theorem c_card03 (u : World) : Calls Tryz.prog 54 #[] u (Ret fun v w' => ∃ B, v = .agg (caA ca03 (some ⟨B, 0, none⟩) 2) ∧ Hp u [] [(B, .cells ts03 46)] w') := by
  refine calls_of Tryz.func54 rfl rfl (fun a hf => ?_)
  have hh := Hp.init u []
  refine sy_sq ?_
  refine o_alloc hf hh Tryz.ze_51 ?_; clear hf hh a; intro B0 a w hf hh
  refine o_end ?_
  refine sy_sq ?_
  refine o_v hf hh (yv_assign rfl) ?_; clear hf a; intro a hf
  refine o_end ?_
  refine sy_sq ?_
  refine o_call hf Tryz.en_9 rfl rfl rfl (c_sp3 9000 9000 _) ?_; clear hf a; intro v a w hR hf
  obtain ⟨rfl, hx⟩ := hR; replace hh := hh.more hx; clear hx
  refine o_call hf Tryz.en_9 rfl rfl rfl (c_sp3 65 66 _) ?_; clear hf a; intro v a w hR hf
  obtain ⟨rfl, hx⟩ := hR; replace hh := hh.more hx; clear hx
  refine o_v hf hh (yv_cast (v' := .agg #[.int .i64 9000, .int .i64 9000, .int .i64 65, .int .i64 66, .int .i64 5, .int .i64 2000, .int .i64 100000, .slice none 0 0]) (yv_buildS Tryz.bs_38 rfl rfl) rfl) ?_; clear hf a; intro a hf
  refine o_alloc hf hh Tryz.ze_38 ?_; clear hf hh a; intro B2 a w hf hh
  refine o_store hf hh Tryz.sz_38 fun w hh => ?_
  refine o_end ?_
  refine sy_seq ?_
  replace hh : Hp u [] [(B2, .cells #[.int .i64 9000, .int .i64 9000, .int .i64 65, .int .i64 66, .int .i64 5, .int .i64 2000, .int .i64 100000, .slice none 0 0] 38), (B0, .cells #[.int .i64 0, .int .i64 0, .int .i64 0, .int .i64 0, .int .i64 0, .int .i64 0, .int .i64 0, .slice none 0 0, .int .i64 0, .int .i64 0, .int .i64 0, .int .i64 0, .int .i64 0, .int .i64 0, .int .i64 0, .int .i64 0, .int .i64 0] 51)] w := hh
  refine sy_ops ?_
  refine o_v hf hh (yv_move rfl) ?_; clear hf a; intro a hf
  refine o_call hf Tryz.en_85 rfl rfl rfl (c_th3 3000 100 101 0 1 (-96) (-95) 0 2 _) ?_; clear hf a; intro v a w hR hf
  obtain ⟨rfl, hx⟩ := hR; replace hh := hh.more hx; clear hx
  refine o_v hf hh (yv_move rfl) ?_; clear hf a; intro a hf
  refine o_call hf Tryz.en_85 rfl rfl rfl (c_th3 0 50 50 10 12 (-10) (-8) 14 15 _) ?_; clear hf a; intro v a w hR hf
  obtain ⟨rfl, hx⟩ := hR; replace hh := hh.more hx; clear hx
  refine ops_buildSl hf hh Tryz.bl_36_2 rfl rfl (.inl rfl) rfl ?_; clear hf hh; clear a; intro B10 a w hf hh
  refine o_v hf hh (yv_fieldAddr Tryz.fo_38_5 rfl) ?_; clear hf a; intro a hf
  replace hh : Hp u [] [(B10, .cells ts03 46), (B2, .cells #[.int .i64 9000, .int .i64 9000, .int .i64 65, .int .i64 66, .int .i64 5, .int .i64 2000, .int .i64 100000, .slice none 0 0] 38), (B0, .cells #[.int .i64 0, .int .i64 0, .int .i64 0, .int .i64 0, .int .i64 0, .int .i64 0, .int .i64 0, .slice none 0 0, .int .i64 0, .int .i64 0, .int .i64 0, .int .i64 0, .int .i64 0, .int .i64 0, .int .i64 0, .int .i64 0, .int .i64 0] 51)] w := hh
  refine o_store hf hh Tryz.sz_36 fun w hh => ?_
  refine o_end ?_
  refine sy_seq ?_
  replace hh : Hp u [] [(B10, .cells ts03 46), (B2, .cells #[.int .i64 9000, .int .i64 9000, .int .i64 65, .int .i64 66, .int .i64 5, .int .i64 2000, .int .i64 100000, .slice (some ⟨B10, 0, none⟩) 2 2] 38), (B0, .cells #[.int .i64 0, .int .i64 0, .int .i64 0, .int .i64 0, .int .i64 0, .int .i64 0, .int .i64 0, .slice none 0 0, .int .i64 0, .int .i64 0, .int .i64 0, .int .i64 0, .int .i64 0, .int .i64 0, .int .i64 0, .int .i64 0, .int .i64 0] 51)] w := hh
  refine sy_tail (C := Hp _ _ _) 3 Tryz.follows (by kernel_rfl) rfl rfl (hh.drawn _) ?_
  refine oq_v hf (yv_cast (v' := .agg #[.int .i64 9000, .int .i64 9000, .int .i64 65, .int .i64 66, .int .i64 5, .int .i64 2000, .int .i64 100000, .slice (some ⟨B10, 0, none⟩) 2 2]) (y_lds Tryz.ag_38 rfl) rfl) ?_; clear hf a; intro a hf
  refine oq_call hf Tryz.en_9 rfl rfl rfl (fun w hh => c_sp3 6000 6500 _) ?_; clear hf a; intro a hf
  refine oq_v hf (yv_cast (v' := .agg #[.int .i64 9000, .int .i64 9000, .int .i64 65, .int .i64 66, .int .i64 5, .int .i64 2000, .int .i64 100000, .slice (some ⟨B10, 0, none⟩) 2 2, .int .i64 3200, .int .i64 50, .int .i64 20, .int .i64 6000, .int .i64 6500, .int .i64 300, .int .i64 900, .int .i64 100, .int .i64 200]) (yv_buildS Tryz.bs_51 rfl rfl) rfl) ?_; clear hf a; intro a hf
  refine q_end fun w hh => ?_
  refine o_store hf hh Tryz.sz_51 fun w hh => ?_
  refine o_end ?_
  refine sy_ret ?_
  refine ret_c (vs := [.agg #[.int .i64 9000, .int .i64 9000, .int .i64 65, .int .i64 66, .int .i64 5, .int .i64 2000, .int .i64 100000, .slice (some ⟨B10, 0, none⟩) 2 2, .int .i64 3200, .int .i64 50, .int .i64 20, .int .i64 6000, .int .i64 6500, .int .i64 300, .int .i64 900, .int .i64 100, .int .i64 200]]) hf ?_ ?_
  · exact ⟨⟨B0, 0, _, _, _, rfl, hh.at (i := 2) rfl, .inr ⟨17, _, Tryz.ag_51, rfl, rfl⟩⟩, True.intro⟩
  · exact ⟨B10, rfl, hh.less (.cons_cons _ (.cons _ (.cons _ (.refl _))))⟩
end Go.Proofs.YtccpgpnekoncoaaGreatDoor

