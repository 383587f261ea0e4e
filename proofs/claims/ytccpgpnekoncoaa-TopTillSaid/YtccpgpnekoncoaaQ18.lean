/- Lemmas, in order: The store: panics, numbers that are valid, formes. The store: deals that are valid. The store: a press that is opened; how many cards a forme gives. The store: what is printed, and sold.. -/
import Derived.Test.YtccpgpnekoncoaaQ17
namespace Go.Proofs.Ytccpgpnekoncoaa
open Go Go.Sy Go.RoyM
/-- The panic of what cannot be done. -/
abbrev misS (e : Int) : List PanicEntry := [{ v := .iface 169 (.agg #[.int .i64 e]), recovered := false }]
theorem s33 (b : Bool) (e : Int) (u : World) : Calls Try.prog 33 #[.bool b, .int .i64 e] u (RetX (fun v w' => b = true ∧ Ext [] u w') (fun ch w' => b = false ∧ ch = misS e ∧ Ext [] u w')) := by
  refine calls_ofX Try.func33 rfl rfl (fun a hf => ?_)
  have hh := Hp.init u []
  refine sy_sq ?_
  refine o_v hf hh (yv_move rfl) ?_; clear hf a; intro a hf
  refine o_v hf hh (yv_not rfl) ?_; clear hf a; intro a hf
  refine o_end ?_
  refine sy_cond hf rfl (fun hg2 => ?_) (fun hg2 => ?_)
  ·have hG2 := hg2; try simp only [gS] at hG2
   refine sy_ops ?_
   refine o_v hf hh (yv_move rfl) ?_; clear hf a; intro a hf
   refine o_v hf hh (yv_buildS Try.bs_169 rfl rfl) ?_; clear hf a; intro a hf
   refine o_v hf hh (yv_makeIface (by kernel_rfl) rfl) ?_; clear hf a; intro a hf
   refine o_panic hf fun hf => ?_
   refine pan_x hf ?_
   exact ⟨by simp_all, rfl, hh.ext⟩
  ·have hG2 := hg2; try simp only [gS] at hG2
   refine sy_skip ?_
   refine ret_xn ?_
   refine ret_n hf rfl rfl ?_
   exact ⟨by simp_all, hh.ext⟩
theorem s34 (n l h : Int) (w : World) : Calls Try.prog 34 #[.int .i64 n, .int .i64 l, .int .i64 h] w (Ret fun v w' => v = .bool (inI n l h) ∧ Ext [] w w') := by
  refine calls_of Try.func34 rfl rfl (fun a hf => ?_)
  have hh := Hp.init w []
  refine sy_sq ?_
  refine o_v hf hh (yv_assign rfl) ?_; clear hf a; intro a hf
  refine o_end ?_
  refine sy_sq ?_
  refine o_v hf hh (yv_move rfl) ?_; clear hf a; intro a hf
  refine o_v hf hh (yv_move rfl) ?_; clear hf a; intro a hf
  refine o_v hf hh (yv_bin rfl rfl rfl) ?_; clear hf a; intro a hf
  refine o_v hf hh (yv_move rfl) ?_; clear hf a; intro a hf
  refine guard_split hf (t := 10) rfl (fun hg2 => ?_) (fun hg2 => ?_)
  ·have hG2 := hg2; try simp only [gS] at hG2
   refine o_v hf hh (yv_move rfl) ?_; clear hf a; intro a hf
   refine o_v hf hh (yv_move rfl) ?_; clear hf a; intro a hf
   refine o_v hf hh (yv_bin rfl rfl rfl) ?_; clear hf a; intro a hf
   refine o_v hf hh (y_pt rfl rfl) ?_; clear hf a; intro a hf
   refine o_v hf hh (yv_assign rfl) ?_; clear hf a; intro a hf
   refine o_end ?_
   refine sy_ret ?_
   refine ret_r hf rfl rfl ?_
   unfold inI
   first
     | (rw [decide_eq_true (show l ≤ n by omega), Bool.true_and]; exact ⟨rfl, hh.ext⟩)
     | (rw [decide_eq_false (show ¬ l ≤ n by omega), Bool.false_and]; exact ⟨rfl, hh.ext⟩)
  ·have hG2 := hg2; try simp only [gS] at hG2
   refine o_off hf ?_; clear hf a; intro a hf
   refine o_off hf ?_; clear hf a; intro a hf
   refine o_off hf ?_; clear hf a; intro a hf
   refine o_v hf hh (y_pf rfl rfl) ?_; clear hf a; intro a hf
   refine o_v hf hh (yv_assign rfl) ?_; clear hf a; intro a hf
   refine o_end ?_
   refine sy_ret ?_
   refine ret_r hf rfl rfl ?_
   unfold inI
   first
     | (rw [decide_eq_true (show l ≤ n by omega), Bool.true_and]; exact ⟨rfl, hh.ext⟩)
     | (rw [decide_eq_false (show ¬ l ≤ n by omega), Bool.false_and]; exact ⟨rfl, hh.ext⟩)
theorem d31r (Be : Nat) (w : World) : CallsDIn (FR none) 0 Try.prog 31 #[ptr Be 0] .returning w (fun e u' w' => (∃ v, e = .returned v) ∧ u' = .returning ∧ Ext [] w w') := by
  refine callsDIn_of_wpSIn Try.func31 rfl trivial fun c₀ cs hu => ?_
  refine wpSIn_seq ?_
  refine wpSIn_recover (v := .nilIface) (cs' := c₀ :: cs) rfl rfl (.inr ⟨by simp [recoverD, hu], rfl, rfl⟩) ?_
  have hf := (Fr.enter [ptr Be 0] Try.f31.ntmps (Nat.le_of_ble_eq_true rfl)).put (d := 5) (blt_lt rfl) (.nilIface)
  have hh := Hp.init w []
  refine o_v hf hh (yv_assign rfl) ?_; clear hf; intro a hf
  refine ops_end ?_
  refine wpSIn_of_wpIn rfl ?_
  show WP _ none _ _ _ _
  refine sy_sq ?_
  refine o_v hf hh (yv_move rfl) ?_; clear hf a; intro a hf
  refine o_v hf hh (yv_neqNil (by kernel_rfl) rfl rfl) ?_; clear hf a; intro a hf
  refine o_end ?_
  refine c_f hf ?_
  refine sy_skip ?_
  exact ends_s hf rfl (frame_same hu) ⟨⟨_, rfl⟩, rfl, hh.ext⟩
theorem d31p (Be : Nat) (e x : Int) (w : World) (hb : w.heap[Be]? = some (.cells #[.int .i64 x] 42 (0, 0))) : CallsDIn (FR none) 0 Try.prog 31 #[ptr Be 0] (.panicking (misS e)) w (fun e' u' w' => (∃ v, e' = .returned v) ∧ u' = .panicking [{ v := .iface 169 (.agg #[.int .i64 e]), recovered := true }] ∧ Hp w [Be] [(Be, .cells #[.int .i64 e] 42)] w') := by
  refine callsDIn_of_wpSIn Try.func31 rfl trivial fun c₀ cs hu => ?_
  refine wpSIn_seq ?_
  refine wpSIn_recover (v := .iface 169 (.agg #[.int .i64 e])) (cs' := { c₀ with mode := .panicking [{ v := .iface 169 (.agg #[.int .i64 e]), recovered := true }] } :: cs) rfl rfl (.inl (by simp [recoverD, hu])) ?_
  have hf := (Fr.enter [ptr Be 0] Try.f31.ntmps (Nat.le_of_ble_eq_true rfl)).put (d := 5) (blt_lt rfl) (.iface 169 (.agg #[.int .i64 e]))
  have hh := Hp.init1 hb
  refine o_v hf hh (yv_assign rfl) ?_; clear hf; intro a hf
  refine ops_end ?_
  refine wpSIn_of_wpIn rfl ?_
  show WP _ none _ _ _ _
  refine sy_sq ?_
  refine o_v hf hh (yv_move rfl) ?_; clear hf a; intro a hf
  refine o_v hf hh (yv_neqSome (by kernel_rfl) rfl rfl) ?_; clear hf a; intro a hf
  refine o_end ?_
  refine c_t hf ?_
  refine sy_sq ?_
  refine o_v hf hh (yv_move rfl) ?_; clear hf a; intro a hf
  refine o_v hf hh (yv_assert (by kernel_rfl) rfl) ?_; clear hf a; intro a hf
  refine o_v hf hh (yv_move rfl) ?_; clear hf a; intro a hf
  refine o_v hf hh (yv_extract rfl rfl) ?_; clear hf a; intro a hf
  refine o_v hf hh (yv_extract rfl rfl) ?_; clear hf a; intro a hf
  refine o_alloc hf hh Try.ze_169 ?_; clear hf hh a; intro B3 a w hf hh
  refine o_store hf hh Try.sz_169 fun w hh => ?_
  refine o_v hf hh (yv_assign rfl) ?_; clear hf a; intro a hf
  refine o_end ?_
  refine sy_seq ?_
  refine sy_sq ?_
  refine o_v hf hh (yv_move rfl) ?_; clear hf a; intro a hf
  refine o_v hf hh (yv_not rfl) ?_; clear hf a; intro a hf
  refine o_end ?_
  refine c_f hf ?_
  refine sy_skip ?_
  refine then_n ?_
  refine sy_ops ?_
  refine o_v hf hh (yv_move rfl) ?_; clear hf a; intro a hf
  refine o_v hf hh (yv_fieldAddr Try.fo_169_0 rfl) ?_; clear hf a; intro a hf
  refine o_v hf hh (y_ld Try.sc_42 rfl) ?_; clear hf a; intro a hf
  refine o_v hf hh (yv_nilCheck rfl) ?_; clear hf a; intro a hf
  refine o_store hf hh Try.sz_42 fun w hh => ?_
  refine ops_end ?_
  exact ends_s hf rfl rfl ⟨⟨_, rfl⟩, rfl, hh.less (.cons _ (.refl _))⟩
theorem s119 (n : Int) (w : World) : Calls Try.prog 119 #[.int .i64 n] w (Ret fun v w' => v = .bool (!inI n 0 6) ∧ Ext [] w w') := by
  refine calls_of Try.func119 rfl rfl (fun a hf => ?_)
  have hh := Hp.init w []
  refine sy_sq ?_
  refine o_v hf hh (yv_assign rfl) ?_; clear hf a; intro a hf
  refine o_end ?_
  refine sy_sq ?_
  refine o_v hf hh (yv_move rfl) ?_; clear hf a; intro a hf
  refine o_call hf Try.en_34 rfl rfl rfl (s34 _ _ _ _) ?_; clear hf a; intro v a w hR hf
  obtain ⟨rfl, hx⟩ := hR; replace hh := hh.more hx; clear hx
  refine o_v hf hh (yv_not rfl) ?_; clear hf a; intro a hf
  refine o_v hf hh (yv_assign rfl) ?_; clear hf a; intro a hf
  refine o_end ?_
  refine sy_ret ?_
  refine ret_r hf rfl rfl ?_
  exact ⟨rfl, hh.ext⟩
theorem s125 (n : Int) (w : World) : Calls Try.prog 125 #[.int .i64 n] w (Ret fun v w' => v = .bool (!inI n 0 60) ∧ Ext [] w w') := by
  refine calls_of Try.func125 rfl rfl (fun a hf => ?_)
  have hh := Hp.init w []
  refine sy_sq ?_
  refine o_v hf hh (yv_assign rfl) ?_; clear hf a; intro a hf
  refine o_end ?_
  refine sy_sq ?_
  refine o_v hf hh (yv_move rfl) ?_; clear hf a; intro a hf
  refine o_call hf Try.en_34 rfl rfl rfl (s34 _ _ _ _) ?_; clear hf a; intro v a w hR hf
  obtain ⟨rfl, hx⟩ := hR; replace hh := hh.more hx; clear hx
  refine o_v hf hh (yv_not rfl) ?_; clear hf a; intro a hf
  refine o_v hf hh (yv_assign rfl) ?_; clear hf a; intro a hf
  refine o_end ?_
  refine sy_ret ?_
  refine ret_r hf rfl rfl ?_
  exact ⟨rfl, hh.ext⟩
theorem s127 (n : Int) (w : World) : Calls Try.prog 127 #[.int .i64 n] w (Ret fun v w' => v = .bool (inI n 0 1099511627776) ∧ Ext [] w w') := by
  refine calls_of Try.func127 rfl rfl (fun a hf => ?_)
  have hh := Hp.init w []
  refine sy_sq ?_
  refine o_v hf hh (yv_assign rfl) ?_; clear hf a; intro a hf
  refine o_end ?_
  refine sy_sq ?_
  refine o_v hf hh (yv_move rfl) ?_; clear hf a; intro a hf
  refine o_call hf Try.en_34 rfl rfl rfl (s34 _ _ _ _) ?_; clear hf a; intro v a w hR hf
  obtain ⟨rfl, hx⟩ := hR; replace hh := hh.more hx; clear hx
  refine o_v hf hh (yv_assign rfl) ?_; clear hf a; intro a hf
  refine o_end ?_
  refine sy_ret ?_
  refine ret_r hf rfl rfl ?_
  exact ⟨rfl, hh.ext⟩
theorem s126 (n : Int) (w : World) : Calls Try.prog 126 #[.int .i64 n] w (Ret fun v w' => v = .bool (!inI n 0 1099511627776) ∧ Ext [] w w') := by
  refine calls_of Try.func126 rfl rfl (fun a hf => ?_)
  have hh := Hp.init w []
  refine sy_sq ?_
  refine o_v hf hh (yv_assign rfl) ?_; clear hf a; intro a hf
  refine o_end ?_
  refine sy_sq ?_
  refine o_v hf hh (yv_move rfl) ?_; clear hf a; intro a hf
  refine o_call hf Try.en_127 rfl rfl rfl (s127 _ _) ?_; clear hf a; intro v a w hR hf
  obtain ⟨rfl, hx⟩ := hR; replace hh := hh.more hx; clear hx
  refine o_v hf hh (yv_not rfl) ?_; clear hf a; intro a hf
  refine o_v hf hh (yv_assign rfl) ?_; clear hf a; intro a hf
  refine o_end ?_
  refine sy_ret ?_
  refine ret_r hf rfl rfl ?_
  exact ⟨rfl, hh.ext⟩
theorem s120 (sa : Option Addr) (ca : Nat) (u : World) (hA : IAt u sa [1]) : Calls Try.prog 120 #[.slice sa 1 ca] u (Ret fun v w' => v = .int .i64 1 ∧ Ext [] u w') := by
  refine calls_of Try.func120 rfl rfl (fun a hf => ?_)
  have hh := Hp.init u []
  refine sy_sq ?_
  refine o_v hf hh (yv_assign rfl) ?_; clear hf a; intro a hf
  refine o_end ?_
  refine sy_seq ?_
  refine sy_sq ?_
  refine o_v hf hh (yv_move rfl) ?_; clear hf a; intro a hf
  refine o_v hf hh (yv_len Try.se_25 rfl) ?_; clear hf a; intro a hf
  refine o_v hf hh (yv_move rfl) ?_; clear hf a; intro a hf
  refine o_end ?_
  refine sy_block ?_
  refine sy_loopF (σ := Nat) [2, 4, 7, 8, 9, 10, 11, 12, 13, 14] (fun i => [(7, .int .i64 (i : Nat)), (2, .int .i64 (i : Nat))]) (fun i => i ≤ 1) (fun i => 1 - i) (0) hf hh ?_ ?_ ?_
  · repeat' (first | exact True.intro | refine And.intro rfl ?_)
  · exact Nat.zero_le _
  ·rintro i a w hi hf hh
   refine sy_sq ?_
   refine o_v hf hh (yv_bin rfl rfl rfl) ?_; clear hf a; intro a hf
   refine o_end ?_
   refine sy_seq ?_
   refine sy_cond hf rfl (fun hg2 => ?_) (fun hg2 => ?_)
   ·have hG2 := hg2; try simp only [gS] at hG2
    refine sy_skip ?_
    refine then_n ?_
    refine sy_seq ?_
    refine sy_block ?_
    refine sy_seq ?_
    obtain rfl : i = 0 := by omega
    obtain ⟨blk, off, cc, TT, fr, e, hb, hc⟩ := hA 0 1 rfl; subst e
    refine sy_ops ?_
    refine o_v hf hh (y_ix Try.se_25 rfl rfl) ?_; clear hf a; intro a hf
    refine o_v hf hh (y_ld Try.sc_3 rfl) ?_; clear hf a; intro a hf
    refine o_v hf hh (yv_assign rfl) ?_; clear hf a; intro a hf
    refine o_end ?_
    refine sy_ops ?_
    refine o_v hf hh (yv_move rfl) ?_; clear hf a; intro a hf
    refine o_v hf hh (yv_move rfl) ?_; clear hf a; intro a hf
    refine o_v hf hh (y_add rfl rfl) ?_; clear hf a; intro a hf
    refine o_v hf hh (yv_assign rfl) ?_; clear hf a; intro a hf
    refine ops_end ?_
    refine blk_n ?_
    refine then_n ?_
    refine sy_ops ?_
    refine o_v hf hh (y_add rfl rfl) ?_; clear hf a; intro a hf
    refine o_v hf hh (yv_move rfl) ?_; clear hf a; intro a hf
    refine ops_end ?_
    refine then_n ?_
    exact ⟨1, ⟨by omega, (hf.head (by repeat' (first | exact True.intro | refine And.intro rfl ?_)) (Keep.cons rfl (Keep.cons rfl (Keep.cons rfl (Keep.cons rfl (Keep.cons rfl (Keep.cons rfl (Keep.cons rfl (Keep.cons rfl (Keep.cons rfl (Keep.cons rfl (Keep.app rfl (Keep.rm rfl Keep.base))))))))))))), hh⟩, by omega⟩
   ·have hG2 := hg2; try simp only [gS] at hG2
    refine sy_exit ?_
    refine then_e ?_
    refine then_e ?_
    refine blk_e ?_
    refine then_n ?_
    refine sy_sq ?_
    refine o_v hf hh (yv_move rfl) ?_; clear hf a; intro a hf
    refine o_v hf hh (yv_assign rfl) ?_; clear hf a; intro a hf
    refine o_end ?_
    refine sy_ret ?_
    refine ret_r hf rfl rfl ?_
    obtain rfl : i = 1 := by omega
    exact ⟨rfl, hh.ext⟩
set_option maxRecDepth 100000 in
theorem s86 (pp : Int) (sw sd : Option Addr) (cw nd cd : Nat) (t : Int) (sa : Option Addr) (ca : Nat) (u : World) (hA : IAt u sa [1]) (ht : 1 ≤ t ∧ t ≤ 1048576) : Calls Try.prog 86 #[.agg (prC pp sw cw sd nd cd), .agg #[.slice sa 1 ca, .int .i64 t]] u (Ret fun v w' => v = .bool true ∧ Ext [] u w') := by
  refine calls_of Try.func86 rfl rfl (fun a hf => ?_)
  have hh := Hp.init u []
  refine sy_sq ?_
  refine o_box hf hh ?_; clear hf hh a; intro B2 a w hf hh
  refine o_box hf hh ?_; clear hf hh a; intro B3 a w hf hh
  refine o_v hf hh (yv_assign rfl) ?_; clear hf a; intro a hf
  refine o_end ?_
  refine sy_sq ?_
  refine o_v hf hh (yv_assign rfl) ?_; clear hf a; intro a hf
  refine o_end ?_
  refine sy_seq ?_
  refine sy_tree1 (.p 0 (.q 0 1 (.p 2 (.p 3 (.q 0 4 (.p 5 (.p 6 (.p 7 (.p 8 (.q 0 9 (.p 10 (.e1 11 (.p 12 (.p 13 (.p 14 (.p 15 (.q 0 16 (.p 18 (.q 0 19 (.e1 17 (.e1 20 (.p 21 (.p 22 (.p 23 (.q 0 24 (.e1 25 (.p 26 (.p 27 (.fin))))))))))))))))))))))))))))) [] Try.follows (by kernel_rfl) hh (fun w hh => ?_)
  refine mc_p rfl   hf (yv_fieldAddr Try.fo_30_0 rfl) (.inl rfl) rfl rfl ?_; clear hf a; intro a hf
  refine mc_q rfl rfl hh hf (y_ld Try.sc_25 rfl) (.inl rfl) rfl rfl ?_; clear hf a; intro a hf
  refine mc_p rfl   hf (yv_len Try.se_25 rfl) (.inl rfl) rfl rfl ?_; clear hf a; intro a hf
  refine mc_p rfl   hf (yv_fieldAddr Try.fo_38_5 rfl) (.inl rfl) rfl rfl ?_; clear hf a; intro a hf
  refine mc_q rfl rfl hh hf (y_ld Try.sc_25 rfl) (.inl rfl) rfl rfl ?_; clear hf a; intro a hf
  refine mc_p rfl   hf (yv_len Try.se_25 rfl) (.inl rfl) rfl rfl ?_; clear hf a; intro a hf
  refine mc_p rfl   hf (yv_bin rfl rfl rfl) (.inl rfl) rfl rfl ?_; clear hf a; intro a hf
  refine mc_p rfl   hf (yv_move rfl) (.inl rfl) rfl rfl ?_; clear hf a; intro a hf
  refine mc_p rfl   hf (yv_fieldAddr Try.fo_30_0 rfl) (gon rfl rfl rfl (by first | assumption | rfl | (simp; done) | (simp; omega))) rfl rfl ?_; clear hf a; intro a hf
  refine mc_q rfl rfl hh hf (y_ld Try.sc_25 rfl) (gon rfl rfl rfl (by first | assumption | rfl | (simp; done) | (simp; omega))) rfl rfl ?_; clear hf a; intro a hf
  refine mc_p rfl   hf (yv_move rfl) (gon rfl rfl rfl (by first | assumption | rfl | (simp; done) | (simp; omega))) rfl rfl ?_; clear hf a; intro a hf
  refine mc_e rfl fun Q1 => ?_
  refine o_call hf Try.en_95 rfl rfl rfl (p90 (fun s => inI s 0 6) [1] sa ca 119 #[] _ (hA.ext hh.ext) (by decide) Try.en_119 (fun x _ w1 _ => s119 x w1)) ?_; clear hf a; intro v a w hR hf
  obtain ⟨rfl, hx⟩ := hR; replace hh := hh.more hx; clear hx
  refine ops_end ?_
  refine then_n ⟨⟨fun _ _ => hh, trivial⟩, ?_⟩
  refine mc_p rfl   hf (yv_not rfl) (gon rfl rfl rfl (by first | assumption | rfl | (simp; done) | (simp; omega))) rfl rfl ?_; clear hf a; intro a hf
  refine mc_p rfl   hf (y_pt rfl rfl) (.inl rfl) rfl rfl ?_; clear hf a; intro a hf
  refine mc_p rfl   hf (yv_move rfl) (.inl rfl) rfl rfl ?_; clear hf a; intro a hf
  refine guard_any hf (t := 20) rfl (fun hg3 => ?_) (fun hg3 => ?_)
  ·have hG3 := hg3; try simp only [gS] at hG3
   refine mc_p rfl   hf (yv_fieldAddr Try.fo_30_0 rfl) (gon rfl rfl rfl (by first | assumption | rfl | (simp; done) | (simp; omega))) rfl rfl ?_; clear hf a; intro a hf
   refine mc_q rfl rfl hh hf (y_ld Try.sc_25 rfl) (gon rfl rfl rfl (by first | assumption | rfl | (simp; done) | (simp; omega))) rfl rfl ?_; clear hf a; intro a hf
   refine mc_p rfl   hf (yv_fieldAddr Try.fo_38_0 rfl) (gon rfl rfl rfl (by first | assumption | rfl | (simp; done) | (simp; omega))) rfl rfl ?_; clear hf a; intro a hf
   refine mc_q rfl rfl hh hf (y_ld Try.sc_3 rfl) (gon rfl rfl rfl (by first | assumption | rfl | (simp; done) | (simp; omega))) rfl rfl ?_; clear hf a; intro a hf
   refine mc_e rfl fun Q1 => ?_
   refine o_call hf Try.en_120 rfl rfl rfl (s120 sa ca _ (hA.ext hh.ext)) ?_; clear hf a; intro v a w hR hf
   obtain ⟨rfl, hx⟩ := hR; replace hh := hh.more hx; clear hx
   refine ops_end ?_
   refine then_n ⟨⟨fun _ _ => hh, trivial⟩, ?_⟩
   refine mc_e rfl fun Q1 => ?_
   refine o_call hf Try.en_34 rfl rfl rfl (s34 _ _ _ _) ?_; clear hf a; intro v a w hR hf
   obtain ⟨rfl, hx⟩ := hR; replace hh := hh.more hx; clear hx
   refine ops_end ?_
   refine then_n ⟨⟨fun _ _ => hh, trivial⟩, ?_⟩
   refine mc_p rfl   hf (y_pt rfl rfl) (.inl rfl) rfl rfl ?_; clear hf a; intro a hf
   refine mc_p rfl   hf (yv_move rfl) (.inl rfl) rfl rfl ?_; clear hf a; intro a hf
   refine guard_any hf (t := 28) rfl (fun hg6 => ?_) (fun hg6 => ?_)
   ·have hG6 := hg6; try simp only [gS] at hG6
    refine mc_p rfl   hf (yv_fieldAddr Try.fo_30_1 rfl) (gon rfl rfl rfl (by first | assumption | rfl | (simp; done) | (simp; omega))) rfl rfl ?_; clear hf a; intro a hf
    refine mc_q rfl rfl hh hf (y_ld Try.sc_3 rfl) (gon rfl rfl rfl (by first | assumption | rfl | (simp; done) | (simp; omega))) rfl rfl ?_; clear hf a; intro a hf
    refine mc_e rfl fun Q1 => ?_
    refine o_call hf Try.en_34 rfl rfl rfl (s34 _ _ _ _) ?_; clear hf a; intro v a w hR hf
    obtain ⟨rfl, hx⟩ := hR; replace hh := hh.more hx; clear hx
    refine ops_end ?_
    refine then_n ⟨⟨fun _ _ => hh, trivial⟩, ?_⟩
    refine mc_p rfl   hf (y_pt rfl rfl) (.inl rfl) rfl rfl ?_; clear hf a; intro a hf
    refine mc_p rfl   hf (yv_assign rfl) (.inl rfl) rfl rfl ?_; clear hf a; intro a hf
    refine mc_end ?_
    refine then_n ?_
    refine sy_ret ?_
    refine ret_r hf rfl rfl ?_
    refine ⟨congrArg Value.bool ?_, hh.ext⟩
    have g1 : inI t 1 1048576 = true := by unfold inI; simp only [Bool.and_eq_true, decide_eq_true_eq]; omega
    simp_all [inI]
   ·have hG6 := hg6; try simp only [gS] at hG6
    refine mc_off rfl hf (goff rfl rfl rfl (by first | assumption | rfl | (simp; done) | (simp; omega))) rfl rfl ?_; clear hf a; intro a hf
    refine mc_offq rfl rfl hh hf (goff rfl rfl rfl (by first | assumption | rfl | (simp; done) | (simp; omega))) rfl rfl ?_; clear hf a; intro a hf
    refine mc_e rfl fun Q1 => ?_
    refine o_off hf ?_; clear hf a; intro a hf
    refine ops_end ?_
    refine then_n ⟨⟨fun _ _ => hh, trivial⟩, ?_⟩
    refine mc_p rfl   hf (y_pf rfl rfl) (.inl rfl) rfl rfl ?_; clear hf a; intro a hf
    refine mc_p rfl   hf (yv_assign rfl) (.inl rfl) rfl rfl ?_; clear hf a; intro a hf
    refine mc_end ?_
    refine then_n ?_
    refine sy_ret ?_
    refine ret_r hf rfl rfl ?_
    refine ⟨congrArg Value.bool ?_, hh.ext⟩
    have g1 : inI t 1 1048576 = true := by unfold inI; simp only [Bool.and_eq_true, decide_eq_true_eq]; omega
    simp_all [inI]
  ·have hG3 := hg3; try simp only [gS] at hG3
   refine mc_off rfl hf (goff rfl rfl rfl (by first | assumption | rfl | (simp; done) | (simp; omega))) rfl rfl ?_; clear hf a; intro a hf
   refine mc_offq rfl rfl hh hf (goff rfl rfl rfl (by first | assumption | rfl | (simp; done) | (simp; omega))) rfl rfl ?_; clear hf a; intro a hf
   refine mc_off rfl hf (goff rfl rfl rfl (by first | assumption | rfl | (simp; done) | (simp; omega))) rfl rfl ?_; clear hf a; intro a hf
   refine mc_offq rfl rfl hh hf (goff rfl rfl rfl (by first | assumption | rfl | (simp; done) | (simp; omega))) rfl rfl ?_; clear hf a; intro a hf
   refine mc_e rfl fun Q1 => ?_
   refine o_off hf ?_; clear hf a; intro a hf
   refine ops_end ?_
   refine then_n ⟨⟨fun _ _ => hh, trivial⟩, ?_⟩
   refine mc_e rfl fun Q1 => ?_
   refine o_off hf ?_; clear hf a; intro a hf
   refine ops_end ?_
   refine then_n ⟨⟨fun _ _ => hh, trivial⟩, ?_⟩
   refine mc_p rfl   hf (y_pf rfl rfl) (.inl rfl) rfl rfl ?_; clear hf a; intro a hf
   refine mc_p rfl   hf (yv_move rfl) (.inl rfl) rfl rfl ?_; clear hf a; intro a hf
   refine mc_off rfl hf (goff rfl rfl rfl (by first | assumption | rfl | (simp; done) | (simp; omega))) rfl rfl ?_; clear hf a; intro a hf
   refine mc_offq rfl rfl hh hf (goff rfl rfl rfl (by first | assumption | rfl | (simp; done) | (simp; omega))) rfl rfl ?_; clear hf a; intro a hf
   refine mc_e rfl fun Q1 => ?_
   refine o_off hf ?_; clear hf a; intro a hf
   refine ops_end ?_
   refine then_n ⟨⟨fun _ _ => hh, trivial⟩, ?_⟩
   refine mc_p rfl   hf (y_pf rfl rfl) (.inl rfl) rfl rfl ?_; clear hf a; intro a hf
   refine mc_p rfl   hf (yv_assign rfl) (.inl rfl) rfl rfl ?_; clear hf a; intro a hf
   refine mc_end ?_
   refine then_n ?_
   refine sy_ret ?_
   refine ret_r hf rfl rfl ?_
   refine ⟨congrArg Value.bool ?_, hh.ext⟩
   have g1 : inI t 1 1048576 = true := by unfold inI; simp only [Bool.and_eq_true, decide_eq_true_eq]; omega
   simp_all [inI]
end Go.Proofs.Ytccpgpnekoncoaa
namespace Go.Proofs.Ytccpgpnekoncoaa
open Go Go.Sy Go.RoyM
theorem s33t (e : Int) (u : World) : Calls Try.prog 33 #[.bool true, .int .i64 e] u (Ret fun v w' => Ext [] u w') := (s33 true e u).mono fun x w' h => by
  cases x with
  | returned v => exact h.2
  | panicked c => exact absurd h.1 (by decide)
  | outgrown => exact h
def kindM : Int → Option Value := putM (putM (putM (fun _ => none) 0 (.agg #[.func (.func 152) #[] #[], .func (.func 153) #[] #[]])) 1 (.agg #[.func (.func 154) #[] #[], .func (.func 155) #[] #[]])) 2 (.agg #[.func (.func 156) #[] #[], .func (.func 157) #[] #[]])
theorem s123 (u : World) : Calls Try.prog 123 #[] u (Ret fun v w' => ∃ B es c, v = .map (some B) ∧ MapI .i64 kindM es ∧ Hp u [] [(B, .map es c)] w') := by
  refine calls_of Try.func123 rfl rfl (fun a hf => ?_)
  have hh := Hp.init u []
  refine sy_sq ?_
  refine o_v hf hh (yv_assign rfl) ?_; clear hf a; intro a hf
  refine o_end ?_
  refine sy_sq ?_
  refine ops_makeMap hf hh (.inl rfl) rfl ?_; clear hf hh; clear a; intro B1 a w hf hh
  refine o_v hf hh (yv_buildS Try.bs_222 rfl rfl) ?_; clear hf a; intro a hf
  have hM := MapI.nil .i64
  refine ops_insI (i := 0) hf hh Try.mt_217 rfl rfl rfl rfl hM (.inl rfl) fun es1 c1 w hM hh => ?_
  refine o_v hf hh (yv_buildS Try.bs_222 rfl rfl) ?_; clear hf a; intro a hf
  refine ops_insI (i := 0) hf hh Try.mt_217 rfl rfl rfl rfl hM (.inl rfl) fun es2 c2 w hM hh => ?_
  refine o_v hf hh (yv_buildS Try.bs_222 rfl rfl) ?_; clear hf a; intro a hf
  refine ops_insI (i := 0) hf hh Try.mt_217 rfl rfl rfl rfl hM (.inl rfl) fun es3 c3 w hM hh => ?_
  refine o_v hf hh (yv_move rfl) ?_; clear hf a; intro a hf
  refine o_v hf hh (yv_assign rfl) ?_; clear hf a; intro a hf
  refine o_end ?_
  refine sy_ret ?_
  refine ret_r hf rfl rfl ?_
  exact ⟨B1, es3, c3, rfl, hM, hh⟩
set_option maxRecDepth 100000 in
theorem s154 (pp : Int) (sw sd : Option Addr) (cw nd cd : Nat) (t : Int) (sa : Option Addr) (ca : Nat) (u : World) (hA : IAt u sa [1]) (ht : 1 ≤ t ∧ t ≤ 1048576) : Calls Try.prog 154 #[.agg (prC pp sw cw sd nd cd), .agg (dlC (.pr t sa ca)).toArray] u (Ret fun v w' => v = .bool true ∧ Ext [] u w') := by
  refine calls_of Try.func154 rfl rfl (fun a hf => ?_)
  have hh := Hp.init u []
  refine sy_sq ?_
  refine o_box hf hh ?_; clear hf hh a; intro B2 a w hf hh
  refine o_box hf hh ?_; clear hf hh a; intro B3 a w hf hh
  refine o_v hf hh (yv_assign rfl) ?_; clear hf a; intro a hf
  refine o_end ?_
  refine sy_seq ?_
  replace hh : Hp u [] [(B3, .cells #[.int .i64 1, .slice sa 1 ca, .int .i64 t, .int .i64 0, .int .i64 0, .int .i64 0] 32), (B2, .cells (prC pp sw cw sd nd cd) 38)] w := hh
  refine sy_ops ?_
  refine o_v hf hh (y_lds Try.ag_38 rfl) ?_; clear hf a; intro a hf
  refine o_v hf hh (yv_fieldAddr Try.fo_32_1 rfl) ?_; clear hf a; intro a hf
  refine o_v hf hh (y_lds Try.ag_30 rfl) ?_; clear hf a; intro a hf
  refine o_call hf Try.en_86 rfl rfl rfl (s86 pp sw sd cw nd cd t sa ca _ (hA.ext hh.ext) ht) ?_; clear hf a; intro v a w hR hf
  obtain ⟨rfl, hx⟩ := hR; replace hh := hh.more hx; clear hx
  refine o_v hf hh (yv_assign rfl) ?_; clear hf a; intro a hf
  refine o_end ?_
  refine sy_ret ?_
  refine ret_r hf rfl rfl ?_
  exact ⟨rfl, hh.ext⟩
set_option maxRecDepth 100000 in
theorem s156 (pp : Int) (sw sd : Option Addr) (cw nd cd : Nat) (m x : Int) (u : World) (hm : 1 ≤ m ∧ m ≤ 1048576) (hx : 0 ≤ x ∧ x ≤ 1099511627776) : Calls Try.prog 156 #[.agg (prC pp sw cw sd nd cd), .agg (dlC (.se m x)).toArray] u (Ret fun v w' => v = .bool true ∧ Ext [] u w') := by
  refine calls_of Try.func156 rfl rfl (fun a hf => ?_)
  have hh := Hp.init u []
  refine sy_sq ?_
  refine o_box hf hh ?_; clear hf hh a; intro B2 a w hf hh
  refine o_box hf hh ?_; clear hf hh a; intro B3 a w hf hh
  refine o_v hf hh (yv_assign rfl) ?_; clear hf a; intro a hf
  refine o_end ?_
  refine sy_seq ?_
  replace hh : Hp u [] [(B3, .cells #[.int .i64 2, .slice none 0 0, .int .i64 0, .int .i64 0, .int .i64 m, .int .i64 x] 32), (B2, .cells (prC pp sw cw sd nd cd) 38)] w := hh
  have g1 : inI m 1 1048576 = true := by unfold inI; simp only [Bool.and_eq_true, decide_eq_true_eq]; omega
  have g2 : inI x 0 1099511627776 = true := by unfold inI; simp only [Bool.and_eq_true, decide_eq_true_eq]; omega
  refine sy_ops ?_
  refine o_v hf hh (yv_fieldAddr Try.fo_32_2 rfl) ?_; clear hf a; intro a hf
  refine o_v hf hh (y_ld Try.sc_3 rfl) ?_; clear hf a; intro a hf
  refine o_v hf hh (yv_fieldAddr Try.fo_38_5 rfl) ?_; clear hf a; intro a hf
  refine o_v hf hh (y_ld Try.sc_25 rfl) ?_; clear hf a; intro a hf
  refine o_v hf hh (yv_len Try.se_25 rfl) ?_; clear hf a; intro a hf
  refine o_v hf hh (y_sub rfl rfl) ?_; clear hf a; intro a hf
  refine o_call hf Try.en_34 rfl rfl rfl (s34 _ _ _ _) ?_; clear hf a; intro v a w hR hf
  obtain ⟨rfl, hx⟩ := hR; replace hh := hh.more hx; clear hx
  refine o_v hf hh (yv_move rfl) ?_; clear hf a; intro a hf
  refine o_v hf hh (yv_fieldAddr Try.fo_32_3 rfl) ?_; clear hf a; intro a hf
  refine o_v hf hh (y_ld Try.sc_3 rfl) ?_; clear hf a; intro a hf
  refine o_call hf Try.en_34 rfl rfl rfl (s34 _ _ _ _) ?_; clear hf a; intro v a w hR hf
  obtain ⟨rfl, hx⟩ := hR; replace hh := hh.more hx; clear hx
  refine o_v hf hh (y_pt rfl rfl) ?_; clear hf a; intro a hf
  refine o_v hf hh (yv_move rfl) ?_; clear hf a; intro a hf
  refine o_v hf hh (yv_fieldAddr Try.fo_32_4 rfl) ?_; clear hf a; intro a hf
  refine o_v hf hh (y_ld Try.sc_3 rfl) ?_; clear hf a; intro a hf
  refine o_call hf Try.en_127 rfl rfl rfl (s127 _ _) ?_; clear hf a; intro v a w hR hf
  obtain ⟨rfl, hx⟩ := hR; replace hh := hh.more hx; clear hx
  refine o_v hf hh (y_pt rfl rfl) ?_; clear hf a; intro a hf
  refine o_v hf hh (yv_assign rfl) ?_; clear hf a; intro a hf
  refine o_end ?_
  refine sy_ret ?_
  refine ret_r hf rfl rfl ?_
  exact ⟨by simp_all [tup], hh.ext⟩
set_option maxRecDepth 100000 in
theorem s124p (pp : Int) (sw sd : Option Addr) (cw nd cd : Nat) (t : Int) (sa : Option Addr) (ca : Nat) (Bk Bp Bm c : Nat) (es : Array MapEntry) (u : World) (hk : u.heap[Bk]? = some (.cells #[.map (some Bm)] 217 (0, 0))) (hb : u.heap[Bm]? = some (.map es c)) (hM : MapI .i64 kindM es) (hp : u.heap[Bp]? = some (.cells (prC pp sw cw sd nd cd) 38 (0, 0))) (hA : IAt u sa [1]) (ht : 1 ≤ t ∧ t ≤ 1048576) : Calls Try.prog 124 #[.agg (dlC (.pr t sa ca)).toArray, ptr Bk 0, ptr Bp 0] u (Ret fun v w' => v = .bool false ∧ Ext [] u w') := by
  refine calls_of Try.func124 rfl rfl (fun a hf => ?_)
  have hh := Hp.init u []
  refine sy_sq ?_
  refine o_box hf hh ?_; clear hf hh a; intro B3 a w hf hh
  refine o_v hf hh (yv_assign rfl) ?_; clear hf a; intro a hf
  refine o_end ?_
  refine sy_seq ?_
  replace hh : Hp u [] [(B3, .cells #[.int .i64 1, .slice sa 1 ca, .int .i64 t, .int .i64 0, .int .i64 0, .int .i64 0] 32)] w := hh
  refine sy_ops ?_
  refine o_v hf hh (y_ld Try.sc_217 rfl) ?_; clear hf a; intro a hf
  refine o_v hf hh (yv_fieldAddr Try.fo_32_0 rfl) ?_; clear hf a; intro a hf
  refine o_v hf hh (y_ld Try.sc_3 rfl) ?_; clear hf a; intro a hf
  refine o_v hf hh (yv_cast (yv_getI2 Try.mt_217 Try.ze_222 rfl rfl (fun _ h => h.old hb) hM) (show _ = Value.tuple #[.agg #[.func (.func 154) #[] #[], .func (.func 155) #[] #[]], .bool true] from rfl)) ?_; clear hf a; intro a hf
  refine o_v hf hh (yv_move rfl) ?_; clear hf a; intro a hf
  refine o_v hf hh (yv_extract rfl rfl) ?_; clear hf a; intro a hf
  refine o_v hf hh (yv_extract rfl rfl) ?_; clear hf a; intro a hf
  refine o_alloc hf hh Try.ze_222 ?_; clear hf hh a; intro B5 a w hf hh
  refine o_store hf hh Try.sz_222 fun w hh => ?_
  refine o_v hf hh (yv_assign rfl) ?_; clear hf a; intro a hf
  refine o_end ?_
  refine sy_seq ?_
  replace hh : Hp u [] [(B5, .cells #[.func (.func 154) #[] #[], .func (.func 155) #[] #[]] 222), (B3, .cells #[.int .i64 1, .slice sa 1 ca, .int .i64 t, .int .i64 0, .int .i64 0, .int .i64 0] 32)] w := hh
  refine sy_ops ?_
  refine o_v hf hh (yv_move rfl) ?_; clear hf a; intro a hf
  refine o_v hf hh (yv_not rfl) ?_; clear hf a; intro a hf
  refine o_v hf hh (yv_move rfl) ?_; clear hf a; intro a hf
  refine o_v hf hh (yv_fieldAddr Try.fo_222_0 rfl) ?_; clear hf a; intro a hf
  refine o_v hf hh (y_ld Try.sc_219 rfl) ?_; clear hf a; intro a hf
  refine o_v hf hh (y_lds Try.ag_38 rfl) ?_; clear hf a; intro a hf
  refine o_v hf hh (y_lds Try.ag_32 rfl) ?_; clear hf a; intro a hf
  refine o_call hf Try.en_154 rfl rfl rfl (s154 pp sw sd cw nd cd t sa ca _ (hA.ext hh.ext) ht) ?_; clear hf a; intro v a w hR hf
  obtain ⟨rfl, hx⟩ := hR; replace hh := hh.more hx; clear hx
  refine o_v hf hh (yv_not rfl) ?_; clear hf a; intro a hf
  refine o_v hf hh (y_pf rfl rfl) ?_; clear hf a; intro a hf
  refine o_v hf hh (yv_assign rfl) ?_; clear hf a; intro a hf
  refine o_end ?_
  refine sy_ret ?_
  refine ret_r hf rfl rfl ?_
  exact ⟨rfl, hh.ext⟩
set_option maxRecDepth 100000 in
theorem s124s (pp : Int) (sw sd : Option Addr) (cw nd cd : Nat) (m x : Int) (Bk Bp Bm c : Nat) (es : Array MapEntry) (u : World) (hk : u.heap[Bk]? = some (.cells #[.map (some Bm)] 217 (0, 0))) (hb : u.heap[Bm]? = some (.map es c)) (hM : MapI .i64 kindM es) (hp : u.heap[Bp]? = some (.cells (prC pp sw cw sd nd cd) 38 (0, 0))) (hm : 1 ≤ m ∧ m ≤ 1048576) (hx : 0 ≤ x ∧ x ≤ 1099511627776) : Calls Try.prog 124 #[.agg (dlC (.se m x)).toArray, ptr Bk 0, ptr Bp 0] u (Ret fun v w' => v = .bool false ∧ Ext [] u w') := by
  refine calls_of Try.func124 rfl rfl (fun a hf => ?_)
  have hh := Hp.init u []
  refine sy_sq ?_
  refine o_box hf hh ?_; clear hf hh a; intro B3 a w hf hh
  refine o_v hf hh (yv_assign rfl) ?_; clear hf a; intro a hf
  refine o_end ?_
  refine sy_seq ?_
  replace hh : Hp u [] [(B3, .cells #[.int .i64 2, .slice none 0 0, .int .i64 0, .int .i64 0, .int .i64 m, .int .i64 x] 32)] w := hh
  refine sy_ops ?_
  refine o_v hf hh (y_ld Try.sc_217 rfl) ?_; clear hf a; intro a hf
  refine o_v hf hh (yv_fieldAddr Try.fo_32_0 rfl) ?_; clear hf a; intro a hf
  refine o_v hf hh (y_ld Try.sc_3 rfl) ?_; clear hf a; intro a hf
  refine o_v hf hh (yv_cast (yv_getI2 Try.mt_217 Try.ze_222 rfl rfl (fun _ h => h.old hb) hM) (show _ = Value.tuple #[.agg #[.func (.func 156) #[] #[], .func (.func 157) #[] #[]], .bool true] from rfl)) ?_; clear hf a; intro a hf
  refine o_v hf hh (yv_move rfl) ?_; clear hf a; intro a hf
  refine o_v hf hh (yv_extract rfl rfl) ?_; clear hf a; intro a hf
  refine o_v hf hh (yv_extract rfl rfl) ?_; clear hf a; intro a hf
  refine o_alloc hf hh Try.ze_222 ?_; clear hf hh a; intro B5 a w hf hh
  refine o_store hf hh Try.sz_222 fun w hh => ?_
  refine o_v hf hh (yv_assign rfl) ?_; clear hf a; intro a hf
  refine o_end ?_
  refine sy_seq ?_
  replace hh : Hp u [] [(B5, .cells #[.func (.func 156) #[] #[], .func (.func 157) #[] #[]] 222), (B3, .cells #[.int .i64 2, .slice none 0 0, .int .i64 0, .int .i64 0, .int .i64 m, .int .i64 x] 32)] w := hh
  refine sy_ops ?_
  refine o_v hf hh (yv_move rfl) ?_; clear hf a; intro a hf
  refine o_v hf hh (yv_not rfl) ?_; clear hf a; intro a hf
  refine o_v hf hh (yv_move rfl) ?_; clear hf a; intro a hf
  refine o_v hf hh (yv_fieldAddr Try.fo_222_0 rfl) ?_; clear hf a; intro a hf
  refine o_v hf hh (y_ld Try.sc_219 rfl) ?_; clear hf a; intro a hf
  refine o_v hf hh (y_lds Try.ag_38 rfl) ?_; clear hf a; intro a hf
  refine o_v hf hh (y_lds Try.ag_32 rfl) ?_; clear hf a; intro a hf
  refine o_call hf Try.en_156 rfl rfl rfl (s156 pp sw sd cw nd cd m x _ hm hx) ?_; clear hf a; intro v a w hR hf
  obtain ⟨rfl, hx⟩ := hR; replace hh := hh.more hx; clear hx
  refine o_v hf hh (yv_not rfl) ?_; clear hf a; intro a hf
  refine o_v hf hh (y_pf rfl rfl) ?_; clear hf a; intro a hf
  refine o_v hf hh (yv_assign rfl) ?_; clear hf a; intro a hf
  refine o_end ?_
  refine sy_ret ?_
  refine ret_r hf rfl rfl ?_
  exact ⟨rfl, hh.ext⟩
theorem s124 (pp : Int) (sw sd : Option Addr) (cw nd cd : Nat) (Bk Bp Bm c : Nat) (es : Array MapEntry) (u : World) (hk : u.heap[Bk]? = some (.cells #[.map (some Bm)] 217 (0, 0))) (hb : u.heap[Bm]? = some (.map es c)) (hM : MapI .i64 kindM es) (hp : u.heap[Bp]? = some (.cells (prC pp sw cw sd nd cd) 38 (0, 0))) : ∀ d : DlD, DlOk u d → Calls Try.prog 124 #[.agg (dlC d).toArray, ptr Bk 0, ptr Bp 0] u (Ret fun v w' => v = .bool false ∧ Ext [] u w')
  | .pr t sa ca, h => s124p pp sw sd cw nd cd t sa ca Bk Bp Bm c es u hk hb hM hp h.1 h.2
  | .se m x, h => s124s pp sw sd cw nd cd m x Bk Bp Bm c es u hk hb hM hp ⟨h.1, h.2.1⟩ h.2.2
theorem s158 (l : List DlD) (sa : Option Addr) (c0 : Nat) (f : Nat) (fcs : Array Value) (u : World) (hM : TAt 6 dlC u sa l) (hl : l.length ≤ 1000) (hE : Enters Try.prog f) (hcall : ∀ (x : DlD), x ∈ l → ∀ (w1 : World), Ext [] u w1 → Calls Try.prog f (#[] ++ [.agg (dlC x).toArray].toArray ++ fcs) w1 (Ret fun v w'' => v = .bool false ∧ Ext [] w1 w'')) : Calls Try.prog 158 #[.slice sa l.length c0, .func (.func f) #[] fcs] u (Ret fun v w' => v = .int .i64 (-1) ∧ Ext [] u w') := by
  refine calls_of Try.func158 rfl rfl (fun a hf => ?_)
  have hh := Hp.init u []
  refine sy_sq ?_
  refine o_v hf hh (yv_assign rfl) ?_; clear hf a; intro a hf
  refine o_end ?_
  refine sy_seq ?_
  refine sy_sq ?_
  refine o_v hf hh (yv_move rfl) ?_; clear hf a; intro a hf
  refine o_v hf hh (yv_len Try.se_34 rfl) ?_; clear hf a; intro a hf
  refine o_v hf hh (yv_move rfl) ?_; clear hf a; intro a hf
  refine o_end ?_
  refine sy_block ?_
  refine sy_loopF (σ := Nat) [4, 5, 8, 9, 10, 11, 12, 13, 14, 15, 16, 17, 18] (fun i => [(8, .int .i64 i)]) (fun i => i ≤ l.length) (fun i => l.length - i) (0) hf hh ?_ ?_ ?_
  · repeat' (first | exact True.intro | refine And.intro rfl ?_)
  · exact Nat.zero_le _
  ·rintro i a w hi hf hh
   refine sy_sq ?_
   refine o_v hf hh (yv_bin rfl rfl rfl) ?_; clear hf a; intro a hf
   refine o_end ?_
   refine sy_seq ?_
   refine sy_cond hf rfl (fun hg2 => ?_) (fun hg2 => ?_)
   ·have hG2 := hg2; try simp only [gS] at hG2
    refine sy_skip ?_
    refine then_n ?_
    refine sy_seq ?_
    refine sy_block ?_
    refine sy_seq ?_
    obtain ⟨m, hm⟩ := ex_of (l := l) (i := i) (by omega)
    obtain ⟨blk, off, cc, TT, fr, e, hb, hc⟩ := hM i m hm; subst e
    refine sy_ops ?_
    refine o_v hf hh (yv_move rfl) ?_; clear hf a; intro a hf
    refine o_v hf hh (yv_assign rfl) ?_; clear hf a; intro a hf
    refine o_end ?_
    refine sy_sq ?_
    refine o_v hf hh (yv_move rfl) ?_; clear hf a; intro a hf
    refine o_v hf hh (yv_move rfl) ?_; clear hf a; intro a hf
    refine o_v hf hh (yv_move rfl) ?_; clear hf a; intro a hf
    refine o_v hf hh (y_ix Try.se_34 rfl rfl) ?_; clear hf a; intro a hf
    refine o_v hf hh (y_lds Try.ag_32 rfl) ?_; clear hf a; intro a hf
    refine o_call hf hE rfl rfl rfl (hcall m (List.mem_of_getElem? hm) _ hh.ext) ?_; clear hf a; intro v a w hR hf
    obtain ⟨rfl, hx⟩ := hR; replace hh := hh.more hx; clear hx
    refine o_end ?_
    refine c_f hf ?_
    refine sy_skip ?_
    refine blk_n ?_
    refine then_n ?_
    refine sy_ops ?_
    refine o_v hf hh (y_add rfl rfl) ?_; clear hf a; intro a hf
    refine o_v hf hh (yv_move rfl) ?_; clear hf a; intro a hf
    refine ops_end ?_
    refine then_n ?_
    exact ⟨i + 1, ⟨by omega, (hf.head (by repeat' (first | exact True.intro | refine And.intro rfl ?_)) (Keep.cons rfl (Keep.cons rfl (Keep.cons rfl (Keep.cons rfl (Keep.cons rfl (Keep.cons rfl (Keep.cons rfl (Keep.cons rfl (Keep.cons rfl (Keep.cons rfl (Keep.cons rfl (Keep.app rfl (Keep.rm rfl Keep.base)))))))))))))), hh⟩, by omega⟩
   ·have hG2 := hg2; try simp only [gS] at hG2
    refine sy_exit ?_
    refine then_e ?_
    refine then_e ?_
    refine blk_e ?_
    refine then_n ?_
    refine sy_sq ?_
    refine o_v hf hh (yv_assign rfl) ?_; clear hf a; intro a hf
    refine o_end ?_
    refine sy_ret ?_
    refine ret_r hf rfl rfl ?_
    exact ⟨rfl, hh.ext⟩
theorem s128 (l : List DlD) (sa : Option Addr) (c0 : Nat) (f : Nat) (fcs : Array Value) (u : World) (hM : TAt 6 dlC u sa l) (hl : l.length ≤ 1000) (hE : Enters Try.prog f) (hcall : ∀ (x : DlD), x ∈ l → ∀ (w1 : World), Ext [] u w1 → Calls Try.prog f (#[] ++ [.agg (dlC x).toArray].toArray ++ fcs) w1 (Ret fun v w'' => v = .bool false ∧ Ext [] w1 w'')) : Calls Try.prog 128 #[.slice sa l.length c0, .func (.func f) #[] fcs] u (Ret fun v w' => v = .bool false ∧ Ext [] u w') := by
  refine calls_of Try.func128 rfl rfl (fun a hf => ?_)
  have hh := Hp.init u []
  refine sy_sq ?_
  refine o_v hf hh (yv_assign rfl) ?_; clear hf a; intro a hf
  refine o_end ?_
  refine sy_sq ?_
  refine o_v hf hh (yv_move rfl) ?_; clear hf a; intro a hf
  refine o_v hf hh (yv_move rfl) ?_; clear hf a; intro a hf
  refine o_call hf Try.en_158 rfl rfl rfl (s158 l sa c0 f fcs _ (hM.ext hh.ext) hl hE (fun x hx w1 e => hcall x hx w1 (hh.ext.trans e))) ?_; clear hf a; intro v a w hR hf
  obtain ⟨rfl, hx⟩ := hR; replace hh := hh.more hx; clear hx
  refine o_v hf hh (yv_bin rfl rfl rfl) ?_; clear hf a; intro a hf
  refine o_v hf hh (yv_assign rfl) ?_; clear hf a; intro a hf
  refine o_end ?_
  refine sy_ret ?_
  refine ret_r hf rfl rfl ?_
  exact ⟨rfl, hh.ext⟩
end Go.Proofs.Ytccpgpnekoncoaa
namespace Go.Proofs.Ytccpgpnekoncoaa
open Go Go.Sy Go.RoyM
set_option maxRecDepth 100000 in
set_option maxHeartbeats 4000000 in
theorem s88 (pp wn : Int) (sw sd : Option Addr) (cw cd : Nat) (dl : List DlD) (u : World) (hA : PrAt u pp wn sw sd dl) : Calls Try.prog 88 #[.agg (prC pp sw cw sd dl.length cd)] u (Ret fun v w' => v = .bool true ∧ Ext [] u w') := by
  refine calls_of Try.func88 rfl rfl (fun a hf => ?_)
  have hh := Hp.init u []
  have hnl := hA.n; have hp0 := hA.p0; have hp1 := hA.p1; have hb0 := hA.b0; have hb1 := hA.b1
  have gw : (!([wn].all fun n => inI n 0 60)) = false := by simp [inI]; omega
  have gp : (!([0, 0, pp, 0].all fun n => inI n 0 1099511627776)) = false := by simp [inI]; omega
  refine sy_sq ?_
  refine o_box hf hh ?_; clear hf hh a; intro B1 a w hf hh
  refine o_v hf hh (yv_assign rfl) ?_; clear hf a; intro a hf
  refine o_end ?_
  refine sy_sq ?_
  refine o_call hf Try.en_123 rfl rfl rfl (s123 _) ?_; clear hf a; intro v a w hR hf
  obtain ⟨Bm, es, c, rfl, hM, hx⟩ := hR; replace hh := hh.join hx; clear hx
  refine o_alloc hf hh Try.ze_217 ?_; clear hf hh a; intro B3 a w hf hh
  refine o_store hf hh Try.sz_217 fun w hh => ?_
  refine o_end ?_
  refine sy_seq ?_
  replace hh : Hp u [] [(B3, .cells #[.map (some Bm)] 217), (Bm, .map es c), (B1, .cells (prC pp sw cw sd dl.length cd) 38)] w := hh
  refine sy_ops ?_
  refine o_v hf hh (yv_makeFunc rfl rfl) ?_; clear hf a; intro a hf
  refine o_v hf hh (yv_assign rfl) ?_; clear hf a; intro a hf
  refine o_end ?_
  refine sy_sq ?_
  refine o_v hf hh (yv_assign rfl) ?_; clear hf a; intro a hf
  refine o_end ?_
  refine sy_sq ?_
  refine o_v hf hh (yv_assign rfl) ?_; clear hf a; intro a hf
  refine o_end ?_
  refine sy_sq ?_
  refine o_v hf hh (yv_fieldAddr Try.fo_38_0 rfl) ?_; clear hf a; intro a hf
  refine o_v hf hh (y_ld Try.sc_3 rfl) ?_; clear hf a; intro a hf
  refine o_call hf Try.en_34 rfl rfl rfl (s34 _ _ _ _) ?_; clear hf a; intro v a w hR hf
  obtain ⟨rfl, hx⟩ := hR; replace hh := hh.more hx; clear hx
  refine o_v hf hh (yv_move rfl) ?_; clear hf a; intro a hf
  refine o_v hf hh (yv_fieldAddr Try.fo_38_1 rfl) ?_; clear hf a; intro a hf
  refine o_v hf hh (y_ld Try.sc_3 rfl) ?_; clear hf a; intro a hf
  refine o_call hf Try.en_34 rfl rfl rfl (s34 _ _ _ _) ?_; clear hf a; intro v a w hR hf
  obtain ⟨rfl, hx⟩ := hR; replace hh := hh.more hx; clear hx
  refine o_v hf hh (y_pt rfl rfl) ?_; clear hf a; intro a hf
  refine o_v hf hh (yv_move rfl) ?_; clear hf a; intro a hf
  refine o_v hf hh (yv_fieldAddr Try.fo_38_5 rfl) ?_; clear hf a; intro a hf
  refine o_v hf hh (y_ld Try.sc_25 rfl) ?_; clear hf a; intro a hf
  refine o_v hf hh (yv_len Try.se_25 rfl) ?_; clear hf a; intro a hf
  refine o_call hf Try.en_34 rfl rfl rfl (s34 _ _ _ _) ?_; clear hf a; intro v a w hR hf
  obtain ⟨rfl, hx⟩ := hR; replace hh := hh.more hx; clear hx
  refine o_v hf hh (y_pt rfl rfl) ?_; clear hf a; intro a hf
  refine o_v hf hh (yv_move rfl) ?_; clear hf a; intro a hf
  refine o_v hf hh (yv_fieldAddr Try.fo_38_8 rfl) ?_; clear hf a; intro a hf
  refine o_v hf hh (y_ld Try.sc_34 rfl) ?_; clear hf a; intro a hf
  refine o_v hf hh (yv_len Try.se_34 rfl) ?_; clear hf a; intro a hf
  refine o_v hf hh (yv_bin rfl rfl rfl) ?_; clear hf a; intro a hf
  refine o_v hf hh (y_pt rfl rfl) ?_; clear hf a; intro a hf
  refine o_v hf hh (yv_assign rfl) ?_; clear hf a; intro a hf
  refine o_end ?_
  refine sy_sq ?_
  refine o_v hf hh (yv_fieldAddr Try.fo_38_2 rfl) ?_; clear hf a; intro a hf
  refine o_v hf hh (yv_fieldAddr Try.fo_36_0 rfl) ?_; clear hf a; intro a hf
  refine o_v hf hh (y_ld Try.sc_3 rfl) ?_; clear hf a; intro a hf
  refine o_v hf hh (yv_bin rfl rfl rfl) ?_; clear hf a; intro a hf
  refine o_v hf hh (yv_move rfl) ?_; clear hf a; intro a hf
  refine o_v hf hh (yv_fieldAddr Try.fo_38_2 rfl) ?_; clear hf a; intro a hf
  refine o_v hf hh (yv_fieldAddr Try.fo_36_0 rfl) ?_; clear hf a; intro a hf
  refine o_v hf hh (y_ld Try.sc_3 rfl) ?_; clear hf a; intro a hf
  refine o_v hf hh (yv_fieldAddr Try.fo_38_2 rfl) ?_; clear hf a; intro a hf
  refine o_v hf hh (yv_fieldAddr Try.fo_36_1 rfl) ?_; clear hf a; intro a hf
  refine o_v hf hh (y_ld Try.sc_3 rfl) ?_; clear hf a; intro a hf
  refine o_v hf hh (yv_bin rfl rfl rfl) ?_; clear hf a; intro a hf
  refine o_v hf hh (y_pt rfl rfl) ?_; clear hf a; intro a hf
  refine o_v hf hh (yv_move rfl) ?_; clear hf a; intro a hf
  refine o_v hf hh (yv_fieldAddr Try.fo_38_2 rfl) ?_; clear hf a; intro a hf
  refine o_v hf hh (yv_fieldAddr Try.fo_36_1 rfl) ?_; clear hf a; intro a hf
  refine o_v hf hh (y_ld Try.sc_3 rfl) ?_; clear hf a; intro a hf
  refine o_v hf hh (yv_bin rfl rfl rfl) ?_; clear hf a; intro a hf
  refine o_v hf hh (y_pt rfl rfl) ?_; clear hf a; intro a hf
  refine o_v hf hh (yv_assign rfl) ?_; clear hf a; intro a hf
  refine o_end ?_
  refine sy_sq ?_
  refine o_v hf hh (yv_move rfl) ?_; clear hf a; intro a hf
  refine o_v hf hh (yv_move rfl) ?_; clear hf a; intro a hf
  refine o_v hf hh (yv_move rfl) ?_; clear hf a; intro a hf
  refine o_v hf hh (y_pt rfl rfl) ?_; clear hf a; intro a hf
  refine o_v hf hh (yv_move rfl) ?_; clear hf a; intro a hf
  refine o_v hf hh (yv_fieldAddr Try.fo_38_5 rfl) ?_; clear hf a; intro a hf
  refine o_v hf hh (y_ld Try.sc_25 rfl) ?_; clear hf a; intro a hf
  refine o_v hf hh (yv_move rfl) ?_; clear hf a; intro a hf
  refine o_call hf Try.en_95 rfl rfl rfl (Calls.ret_mono (R' := fun v w' => v = .bool false ∧ Ext [] w w') (p90 (fun n => inI n 0 60) [wn] sw cw 125 #[] _ (hA.w1.ext hh.ext) (by simp) Try.en_125 (fun x _ w1 _ => s125 x w1)) fun v w' h => ⟨h.1.trans (congrArg Value.bool gw), h.2⟩) ?_; clear hf a; intro v a w hR hf
  obtain ⟨rfl, hx⟩ := hR; replace hh := hh.more hx; clear hx
  refine o_v hf hh (yv_not rfl) ?_; clear hf a; intro a hf
  refine o_v hf hh (y_pt rfl rfl) ?_; clear hf a; intro a hf
  refine o_v hf hh (yv_move rfl) ?_; clear hf a; intro a hf
  refine o_v hf hh (yv_fieldAddr Try.fo_38_3 rfl) ?_; clear hf a; intro a hf
  refine o_v hf hh (y_ld Try.sc_3 rfl) ?_; clear hf a; intro a hf
  refine o_v hf hh (yv_fieldAddr Try.fo_38_4 rfl) ?_; clear hf a; intro a hf
  refine o_v hf hh (y_ld Try.sc_3 rfl) ?_; clear hf a; intro a hf
  refine o_v hf hh (yv_fieldAddr Try.fo_38_6 rfl) ?_; clear hf a; intro a hf
  refine o_v hf hh (y_ld Try.sc_3 rfl) ?_; clear hf a; intro a hf
  refine o_v hf hh (yv_fieldAddr Try.fo_38_7 rfl) ?_; clear hf a; intro a hf
  refine o_v hf hh (y_ld Try.sc_3 rfl) ?_; clear hf a; intro a hf
  refine ops_buildSl hf hh Try.bl_25_4 rfl rfl (gon rfl rfl rfl (by first | assumption | rfl | (simp; done) | (simp; omega))) rfl ?_; clear hf hh; clear a; intro B70 a w hf hh
  refine o_v hf hh (yv_move rfl) ?_; clear hf a; intro a hf
  refine o_call hf Try.en_95 rfl rfl rfl (Calls.ret_mono (R' := fun v w' => v = .bool false ∧ Ext [] w w') (p90 (fun n => inI n 0 1099511627776) [0, 0, pp, 0] _ _ 126 #[] _ (iat_cells (hh.at (i := 0) rfl)) (by simp) Try.en_126 (fun x _ w1 _ => s126 x w1)) fun v w' h => ⟨h.1.trans (congrArg Value.bool gp), h.2⟩) ?_; clear hf a; intro v a w hR hf
  obtain ⟨rfl, hx⟩ := hR; replace hh := hh.more hx; clear hx
  refine o_v hf hh (yv_not rfl) ?_; clear hf a; intro a hf
  refine o_v hf hh (y_pt rfl rfl) ?_; clear hf a; intro a hf
  refine o_v hf hh (yv_move rfl) ?_; clear hf a; intro a hf
  refine o_v hf hh (yv_fieldAddr Try.fo_38_8 rfl) ?_; clear hf a; intro a hf
  refine o_v hf hh (y_ld Try.sc_34 rfl) ?_; clear hf a; intro a hf
  refine o_v hf hh (yv_move rfl) ?_; clear hf a; intro a hf
  refine o_call hf Try.en_128 rfl rfl rfl (s128 dl sd cd 124 #[ptr B3 0, ptr B1 0] _ (hA.ds.ext hh.ext) (by omega) Try.en_124 (fun x hx w1 e => s124 pp sw sd cw dl.length cd B3 B1 Bm c es w1 (e.get (hh.at (i := 1) rfl)) (e.get (hh.at (i := 2) rfl)) hM (e.get (hh.at (i := 3) rfl)) x ((hA.ok x hx).ext (hh.ext.trans e)))) ?_; clear hf a; intro v a w hR hf
  obtain ⟨rfl, hx⟩ := hR; replace hh := hh.more hx; clear hx
  refine o_v hf hh (yv_not rfl) ?_; clear hf a; intro a hf
  refine o_v hf hh (y_pt rfl rfl) ?_; clear hf a; intro a hf
  refine o_v hf hh (yv_assign rfl) ?_; clear hf a; intro a hf
  refine o_end ?_
  refine sy_ret ?_
  refine ret_r hf rfl rfl ?_
  exact ⟨rfl, hh.ext⟩
set_option maxRecDepth 100000 in
theorem s32 (pp wn : Int) (sw sd : Option Addr) (cw cd : Nat) (dl : List DlD) (u : World) (hA : PrAt u pp wn sw sd dl) : Calls Try.prog 32 #[.agg (prC pp sw cw sd dl.length cd)] u (Ret fun v w' => ∃ B, v = ptr B 0 ∧ Hp u [] [(B, .cells (prC pp sw cw sd dl.length cd) 97)] w') := by
  refine calls_of Try.func32 rfl rfl (fun a hf => ?_)
  have hh := Hp.init u []
  refine sy_sq ?_
  refine o_box hf hh ?_; clear hf hh a; intro B1 a w hf hh
  refine o_v hf hh (yv_assign rfl) ?_; clear hf a; intro a hf
  refine o_end ?_
  refine sy_sq ?_
  refine o_v hf hh (y_lds Try.ag_38 rfl) ?_; clear hf a; intro a hf
  refine o_call hf Try.en_88 rfl rfl rfl (s88 pp wn sw sd cw cd dl _ (hA.ext hh.ext)) ?_; clear hf a; intro v a w hR hf
  obtain ⟨rfl, hx⟩ := hR; replace hh := hh.more hx; clear hx
  refine o_call hf Try.en_33 rfl rfl rfl (s33t 1 _) ?_; clear hf a; intro v a w hR hf
  replace hh := hh.more hR; clear hR
  refine o_end ?_
  refine sy_sq ?_
  refine o_v hf hh (y_lds Try.ag_38 rfl) ?_; clear hf a; intro a hf
  refine o_v hf hh (yv_buildS Try.bs_97 rfl rfl) ?_; clear hf a; intro a hf
  refine o_box hf hh ?_; clear hf hh a; intro B8 a w hf hh
  refine o_v hf hh (yv_assign rfl) ?_; clear hf a; intro a hf
  refine o_end ?_
  refine sy_ret ?_
  refine ret_r hf rfl rfl ?_
  exact ⟨B8, rfl, hh.less (.cons_cons _ (List.nil_sublist _))⟩
set_option maxRecDepth 100000 in
theorem s121 (pp : Int) (sw sd : Option Addr) (cw nd cd Bv : Nat) (n : Int) (u : World) (hBv : u.heap[Bv]? = some (.cells (prC pp sw cw sd nd cd) 97 (0, 0))) (hn : -1152921504606846976 ≤ n ∧ n ≤ 1152921504606846976) : Calls Try.prog 121 #[ptr Bv 0, .int .i64 n] u (Ret fun v w' => v = .agg #[.int .i64 n, .int .i64 n] ∧ Ext [] u w') := by
  refine calls_of Try.func121 rfl rfl (fun a hf => ?_)
  have hh := Hp.init u []
  refine sy_sq ?_
  refine o_alloc hf hh Try.ze_215 ?_; clear hf hh a; intro B4 a w hf hh
  refine o_end ?_
  refine sy_seq ?_
  refine sy_tree1 (.p 0 (.p 1 (.p 2 (.p 3 (.p 4 (.p 5 (.p 6 (.q 0 7 (.p 8 (.p 9 (.p 10 (.p 11 (.p 12 (.p 13 (.p 14 (.p 15 (.p 16 (.p 17 (.p 18 (.q 0 19 (.p 20 (.p 21 (.p 22 (.p 23 (.e1 24 (.fin)))))))))))))))))))))))))) [24] Try.follows (by kernel_rfl) hh (fun w hh => ?_)
  refine mc_p rfl   hf (yv_move rfl) (.inl rfl) rfl rfl ?_; clear hf a; intro a hf
  refine mc_p rfl   hf (yv_move rfl) (.inl rfl) rfl rfl ?_; clear hf a; intro a hf
  refine mc_p rfl   hf (yv_move rfl) (.inl rfl) rfl rfl ?_; clear hf a; intro a hf
  refine mc_p rfl   hf (yv_nilCheck rfl) (.inl rfl) rfl rfl ?_; clear hf a; intro a hf
  refine mc_p rfl   hf (yv_fieldAddr Try.fo_97_0 rfl) (.inl rfl) rfl rfl ?_; clear hf a; intro a hf
  refine mc_p rfl   hf (yv_fieldAddr Try.fo_38_2 rfl) (.inl rfl) rfl rfl ?_; clear hf a; intro a hf
  refine mc_p rfl   hf (yv_fieldAddr Try.fo_36_1 rfl) (.inl rfl) rfl rfl ?_; clear hf a; intro a hf
  refine mc_q rfl rfl hh hf (y_ld Try.sc_3 rfl) (.inl rfl) rfl rfl ?_; clear hf a; intro a hf
  refine mc_p rfl   hf (y_mul rfl rfl) (.inl rfl) rfl rfl ?_; clear hf a; intro a hf
  refine mc_p rfl   hf (y_add rfl rfl) (.inl rfl) rfl rfl ?_; clear hf a; intro a hf
  refine mc_p rfl   hf (yv_cast (yv_quo rfl rfl (by omega) (by omega) (by omega)) (intv (b := 0) (by omega))) (.inl rfl) rfl rfl ?_; clear hf a; intro a hf
  refine mc_p rfl   hf (yv_cast (yv_sub rfl rfl (by omega) (by omega)) (intv (b := n) (by omega))) (.inl rfl) rfl rfl ?_; clear hf a; intro a hf
  refine mc_p rfl   hf (yv_move rfl) (.inl rfl) rfl rfl ?_; clear hf a; intro a hf
  refine mc_p rfl   hf (yv_move rfl) (.inl rfl) rfl rfl ?_; clear hf a; intro a hf
  refine mc_p rfl   hf (yv_move rfl) (.inl rfl) rfl rfl ?_; clear hf a; intro a hf
  refine mc_p rfl   hf (yv_nilCheck rfl) (.inl rfl) rfl rfl ?_; clear hf a; intro a hf
  refine mc_p rfl   hf (yv_fieldAddr Try.fo_97_0 rfl) (.inl rfl) rfl rfl ?_; clear hf a; intro a hf
  refine mc_p rfl   hf (yv_fieldAddr Try.fo_38_2 rfl) (.inl rfl) rfl rfl ?_; clear hf a; intro a hf
  refine mc_p rfl   hf (yv_fieldAddr Try.fo_36_0 rfl) (.inl rfl) rfl rfl ?_; clear hf a; intro a hf
  refine mc_q rfl rfl hh hf (y_ld Try.sc_3 rfl) (.inl rfl) rfl rfl ?_; clear hf a; intro a hf
  refine mc_p rfl   hf (y_mul rfl rfl) (.inl rfl) rfl rfl ?_; clear hf a; intro a hf
  refine mc_p rfl   hf (yv_cast (yv_quo rfl rfl (by omega) (by omega) (by omega)) (intv (b := 0) (by omega))) (.inl rfl) rfl rfl ?_; clear hf a; intro a hf
  refine mc_p rfl   hf (yv_cast (yv_sub rfl rfl (by omega) (by omega)) (intv (b := n) (by omega))) (.inl rfl) rfl rfl ?_; clear hf a; intro a hf
  refine mc_p rfl   hf (yv_buildS Try.bs_215 rfl rfl) (.inl rfl) rfl rfl ?_; clear hf a; intro a hf
  refine mc_e rfl fun Q1 => ?_
  refine o_store hf hh Try.sz_215 fun w hh => ?_
  refine ops_end ?_
  refine then_n ⟨⟨fun h => Bool.noConfusion (show true = false from h), trivial⟩, ?_⟩
  refine mc_end ?_
  refine then_n ?_
  refine sy_ret ?_
  refine ret_c (vs := [.agg #[.int .i64 n, .int .i64 n]]) hf ?_ ?_
  · exact ⟨⟨B4, 0, _, _, _, rfl, hh.at (i := 0) rfl, .inr ⟨2, _, Try.ag_215, rfl, rfl⟩⟩, True.intro⟩
  · exact ⟨rfl, hh.ext⟩
theorem s122t (a b : Int) (u : World) : Calls Try.prog 122 #[.agg #[.int .i64 a, .int .i64 b], .bool true] u (Ret fun v w' => v = .int .i64 a ∧ Ext [] u w') := by
  refine calls_of Try.func122 rfl rfl (fun a hf => ?_)
  have hh := Hp.init u []
  refine sy_sq ?_
  refine o_box hf hh ?_; clear hf hh a; intro B2 a w hf hh
  refine o_v hf hh (yv_assign rfl) ?_; clear hf a; intro a hf
  refine o_end ?_
  refine sy_seq ?_
  refine sy_sq ?_
  refine o_v hf hh (yv_move rfl) ?_; clear hf a; intro a hf
  refine o_end ?_
  refine c_t hf ?_
  refine sy_sq ?_
  refine o_v hf hh (yv_fieldAddr Try.fo_215_0 rfl) ?_; clear hf a; intro a hf
  refine o_v hf hh (y_ld Try.sc_3 rfl) ?_; clear hf a; intro a hf
  refine o_v hf hh (yv_assign rfl) ?_; clear hf a; intro a hf
  refine o_end ?_
  refine sy_ret ?_
  refine then_r ?_
  refine ret_r hf rfl rfl ?_
  exact ⟨rfl, hh.ext⟩
theorem s122f (a b : Int) (u : World) : Calls Try.prog 122 #[.agg #[.int .i64 a, .int .i64 b], .bool false] u (Ret fun v w' => v = .int .i64 b ∧ Ext [] u w') := by
  refine calls_of Try.func122 rfl rfl (fun a hf => ?_)
  have hh := Hp.init u []
  refine sy_sq ?_
  refine o_box hf hh ?_; clear hf hh a; intro B2 a w hf hh
  refine o_v hf hh (yv_assign rfl) ?_; clear hf a; intro a hf
  refine o_end ?_
  refine sy_seq ?_
  refine sy_sq ?_
  refine o_v hf hh (yv_move rfl) ?_; clear hf a; intro a hf
  refine o_end ?_
  refine c_f hf ?_
  refine sy_skip ?_
  refine then_n ?_
  refine sy_sq ?_
  refine o_v hf hh (yv_fieldAddr Try.fo_215_1 rfl) ?_; clear hf a; intro a hf
  refine o_v hf hh (y_ld Try.sc_3 rfl) ?_; clear hf a; intro a hf
  refine o_v hf hh (yv_assign rfl) ?_; clear hf a; intro a hf
  refine o_end ?_
  refine sy_ret ?_
  refine ret_r hf rfl rfl ?_
  exact ⟨rfl, hh.ext⟩
set_option maxRecDepth 100000 in
theorem s87 (pp : Int) (sw sd : Option Addr) (cw nd cd Bv : Nat) (t : Int) (sa : Option Addr) (ca : Nat) (u : World) (hBv : u.heap[Bv]? = some (.cells (prC pp sw cw sd nd cd) 97 (0, 0))) (hA : IAt u sa [1]) (ht : 1 ≤ t ∧ t ≤ 1048576) : Calls Try.prog 87 #[ptr Bv 0, .agg #[.slice sa 1 ca, .int .i64 t], .int .i64 0] u (Ret fun v w' => v = .agg #[.int .i64 t, .int .i64 t] ∧ Ext [] u w') := by
  refine calls_of Try.func87 rfl rfl (fun a hf => ?_)
  have hh := Hp.init u []
  obtain ⟨blk, off, cc, TT, fr, e, hb, hc⟩ := hA 0 1 rfl
  have hc2 : cc[off + (0 : Int).toNat * 1]? = some (.int .i64 1) := hc
  refine sy_sq ?_
  refine o_box hf hh ?_; clear hf hh a; intro B4 a w hf hh
  refine o_alloc hf hh Try.ze_36 ?_; clear hf hh a; intro B6 a w hf hh
  refine o_end ?_
  refine sy_sq ?_
  refine o_v hf hh (yv_move rfl) ?_; clear hf a; intro a hf
  refine o_v hf hh (yv_fieldAddr Try.fo_30_1 rfl) ?_; clear hf a; intro a hf
  refine o_v hf hh (y_ld Try.sc_3 rfl) ?_; clear hf a; intro a hf
  refine o_call hf Try.en_121 rfl rfl rfl (s121 pp sw sd cw nd cd Bv t _ (hh.old hBv) (by omega)) ?_; clear hf a; intro v a w hR hf
  obtain ⟨rfl, hx⟩ := hR; replace hh := hh.more hx; clear hx
  refine o_v hf hh (yv_makeFunc rfl rfl) ?_; clear hf a; intro a hf
  refine o_v hf hh (yv_assign rfl) ?_; clear hf a; intro a hf
  refine o_end ?_
  refine sy_seq ?_
  subst e
  refine sy_tree1 (.p 0 (.q 0 1 (.p 2 (.p 3 (.q 0 4 (.p 5 (.p 8 (.q 0 9 (.p 10 (.p 11 (.q 0 12 (.p 13 (.e1 6 (.p 7 (.e1 14 (.p 15 (.p 16 (.e1 17 (.fin))))))))))))))))))) [17] Try.follows (by kernel_rfl) hh (fun w hh => ?_)
  refine mc_p rfl   hf (yv_fieldAddr Try.fo_30_0 rfl) (.inl rfl) rfl rfl ?_; clear hf a; intro a hf
  refine mc_q rfl rfl hh hf (y_ld Try.sc_25 rfl) (.inl rfl) rfl rfl ?_; clear hf a; intro a hf
  refine mc_p rfl   hf (yv_move rfl) (.inl rfl) rfl rfl ?_; clear hf a; intro a hf
  refine mc_p rfl   hf (y_ix Try.se_25 rfl rfl) (.inl rfl) rfl rfl ?_; clear hf a; intro a hf
  refine mc_q rfl rfl hh hf (y_ld Try.sc_3 rfl) (.inl rfl) rfl rfl ?_; clear hf a; intro a hf
  refine mc_p rfl   hf (yv_move rfl) (.inl rfl) rfl rfl ?_; clear hf a; intro a hf
  refine mc_p rfl   hf (yv_fieldAddr Try.fo_30_0 rfl) (.inl rfl) rfl rfl ?_; clear hf a; intro a hf
  refine mc_q rfl rfl hh hf (y_ld Try.sc_25 rfl) (.inl rfl) rfl rfl ?_; clear hf a; intro a hf
  refine mc_p rfl   hf (yv_move rfl) (.inl rfl) rfl rfl ?_; clear hf a; intro a hf
  refine mc_p rfl   hf (y_ix Try.se_25 rfl rfl) (.inl rfl) rfl rfl ?_; clear hf a; intro a hf
  refine mc_q rfl rfl hh hf (y_ld Try.sc_3 rfl) (.inl rfl) rfl rfl ?_; clear hf a; intro a hf
  refine mc_p rfl   hf (yv_move rfl) (.inl rfl) rfl rfl ?_; clear hf a; intro a hf
  refine mc_e rfl fun Q1 => ?_
  refine o_call hf Try.en_122 rfl rfl rfl (s122t t t _) ?_; clear hf a; intro v a w hR hf
  obtain ⟨rfl, hx⟩ := hR; replace hh := hh.more hx; clear hx
  refine ops_end ?_
  refine then_n ⟨⟨fun _ _ => hh, trivial⟩, ?_⟩
  refine mc_p rfl   hf (yv_cast (yv_mul rfl rfl (by omega) (by omega)) (intv (b := t) (by omega))) (.inl rfl) rfl rfl ?_; clear hf a; intro a hf
  refine mc_e rfl fun Q1 => ?_
  refine o_call hf Try.en_122 rfl rfl rfl (s122f t t _) ?_; clear hf a; intro v a w hR hf
  obtain ⟨rfl, hx⟩ := hR; replace hh := hh.more hx; clear hx
  refine ops_end ?_
  refine then_n ⟨⟨fun _ _ => hh, trivial⟩, ?_⟩
  refine mc_p rfl   hf (yv_cast (yv_mul rfl rfl (by omega) (by omega)) (intv (b := t) (by omega))) (.inl rfl) rfl rfl ?_; clear hf a; intro a hf
  refine mc_p rfl   hf (yv_buildS Try.bs_36 rfl rfl) (.inl rfl) rfl rfl ?_; clear hf a; intro a hf
  refine mc_e rfl fun Q1 => ?_
  refine o_store hf hh Try.sz_36 fun w hh => ?_
  refine ops_end ?_
  refine then_n ⟨⟨fun h => Bool.noConfusion (show true = false from h), trivial⟩, ?_⟩
  refine mc_end ?_
  refine then_n ?_
  refine sy_ret ?_
  refine ret_c (vs := [.agg #[.int .i64 t, .int .i64 t]]) hf ?_ ?_
  · exact ⟨⟨B6, 0, _, _, _, rfl, hh.at (i := 0) rfl, .inr ⟨2, _, Try.ag_36, rfl, rfl⟩⟩, True.intro⟩
  · exact ⟨rfl, hh.ext⟩
end Go.Proofs.Ytccpgpnekoncoaa
namespace Go.Proofs.Ytccpgpnekoncoaa
open Go Go.Sy Go.RoyM
set_option maxRecDepth 100000 in
set_option maxHeartbeats 4000000 in
theorem s155 (pp : Int) (sw sd : Option Addr) (cw nd cd Bv : Nat) (t : Int) (sa : Option Addr) (ca : Nat) (Bs Bc k : Nat) (s : ShD) (u : World) (hBv : u.heap[Bv]? = some (.cells (prC pp sw cw sd nd cd) 97 (0, 0))) (hBs : u.heap[Bs]? = some (.cells #[.int .i64 s.p, .int .i64 s.m, .slice (some ⟨Bc, 0, none⟩) 1 1] 41 (0, 0))) (hBc : u.heap[Bc]? = some (.cells #[.int .i64 s.lo, .int .i64 s.hi] 36 (0, 0))) (hne : Bs ≠ Bc) (hv1 : Bv ≠ Bs) (hv2 : Bv ≠ Bc) (hB : ShB s k) (hk : k ≤ 30) (hA : IAt u sa [1]) (ht : 1 ≤ t ∧ t ≤ 1048576) (hsn : ∀ blk off, sa = some ⟨blk, off, none⟩ → blk ∉ [Bs, Bc]) : Calls Try.prog 155 #[ptr Bv 0, ptr Bs 0, .agg (dlC (.pr t sa ca)).toArray] u (RetX (fun v w' => (0 ≤ s.m ∧ t ≤ s.p) ∧ Hp u [Bs, Bc] [(Bs, .cells #[.int .i64 (s.p - t), .int .i64 (s.m), .slice (some ⟨Bc, 0, none⟩) 1 1] 41), (Bc, .cells #[.int .i64 (s.lo + t), .int .i64 (s.hi + t)] 36)] w') (fun ch w' => ¬ (0 ≤ s.m ∧ t ≤ s.p) ∧ ch = misS 10 ∧ Hp u [Bs, Bc] [(Bs, .cells #[.int .i64 (s.p), .int .i64 (s.m), .slice (some ⟨Bc, 0, none⟩) 1 1] 41), (Bc, .cells #[.int .i64 (s.lo), .int .i64 (s.hi)] 36)] w')) := by
  refine calls_ofX Try.func155 rfl rfl (fun a hf => ?_)
  have hh := hp_init2 hBs hBc hne
  obtain ⟨a1, a2, a3, a4, a5, a6, a7, a8⟩ := hB
  have hvn : Bv ∉ [Bs, Bc] := by simp [hv1, hv2]
  refine sy_sq ?_
  refine o_box hf hh ?_; clear hf hh a; intro B5 a w hf hh
  refine o_end ?_
  refine sy_cut (σ := Nat) [9, 10, 11, 12, 13, 14, 15, 16, 17, 18, 19, 20, 21, 22, 23, 24, 25, 26, 27, 28, 29] (fun q => []) (fun q => fun w' => (0 ≤ s.m ∧ t ≤ s.p) ∧ Hp u [Bs, Bc] [(B5, .cells #[.int .i64 1, .slice sa 1 ca, .int .i64 t, .int .i64 0, .int .i64 0, .int .i64 0] 32), (Bs, .cells #[.int .i64 (s.p), .int .i64 (s.m), .slice (some ⟨Bc, 0, none⟩) 1 1] 41), (Bc, .cells (#[.int .i64 s.lo, .int .i64 s.hi]) 36)] w') hf ?_ ?_
  ·replace hh : Hp u [Bs, Bc] [(B5, .cells #[.int .i64 1, .slice sa 1 ca, .int .i64 t, .int .i64 0, .int .i64 0, .int .i64 0] 32), (Bs, .cells #[.int .i64 (s.p), .int .i64 (s.m), .slice (some ⟨Bc, 0, none⟩) 1 1] 41), (Bc, .cells (#[.int .i64 s.lo, .int .i64 s.hi]) 36)] w := hh
   refine sy_treeX1 (.p 0 (.p 1 (.p 2 (.q 0 3 (.p 4 (.p 5 (.p 6 (.p 7 (.q 0 8 (.p 9 (.p 10 (.p 11 (.p 12 (.p 13 (.q 0 14 (.p 15 (.p 16 (.q 0 17 (.p 18 (.p 19 (.e1 20 (.fin)))))))))))))))))))))) [] (fun ch w => ¬ (0 ≤ s.m ∧ t ≤ s.p) ∧ ch = misS 10 ∧ Hp u [Bs, Bc] [(Bs, .cells #[.int .i64 (s.p), .int .i64 (s.m), .slice (some ⟨Bc, 0, none⟩) 1 1] 41), (Bc, .cells #[.int .i64 (s.lo), .int .i64 (s.hi)] 36)] w) ([(0, ptr Bv 0), (1, ptr Bs 0)]) Try.follows (by kernel_rfl) hf (by repeat' (first | exact True.intro | refine And.intro rfl ?_)) (by rfl) hh ?_ (fun w hh => ?_)
   ·intro ch a w hX hf
    obtain ⟨hnn, rfl, hh⟩ := hX
    refine then_p ?_
    refine pan_x hf ?_
    exact ⟨hnn, rfl, hh⟩
   refine mz_p rfl   hf (yv_move rfl) (.inl rfl) rfl rfl ?_; clear hf a; intro a hf
   refine mz_p rfl   hf (yv_nilCheck rfl) (.inl rfl) rfl rfl ?_; clear hf a; intro a hf
   refine mz_p rfl   hf (yv_fieldAddr Try.fo_41_1 rfl) (.inl rfl) rfl rfl ?_; clear hf a; intro a hf
   refine mz_q rfl rfl hh hf (y_ld Try.sc_3 rfl) (.inl rfl) rfl rfl ?_; clear hf a; intro a hf
   refine mz_p rfl   hf (yv_move rfl) (.inl rfl) rfl rfl ?_; clear hf a; intro a hf
   refine mz_p rfl   hf (yv_nilCheck rfl) (.inl rfl) rfl rfl ?_; clear hf a; intro a hf
   refine mz_p rfl   hf (yv_fieldAddr Try.fo_97_0 rfl) (.inl rfl) rfl rfl ?_; clear hf a; intro a hf
   refine mz_p rfl   hf (yv_fieldAddr Try.fo_38_3 rfl) (.inl rfl) rfl rfl ?_; clear hf a; intro a hf
   refine mz_q rfl rfl hh hf (y_ld Try.sc_3 rfl) (.inl rfl) rfl rfl ?_; clear hf a; intro a hf
   refine mz_p rfl   hf (yv_bin rfl rfl rfl) (.inl rfl) rfl rfl ?_; clear hf a; intro a hf
   refine mz_p rfl   hf (yv_move rfl) (.inl rfl) rfl rfl ?_; clear hf a; intro a hf
   refine guard_any hf (t := 19) rfl (fun hg2 => ?_) (fun hg2 => ?_)
   ·have hG2 := hg2; try simp only [gS] at hG2
    refine mz_p rfl   hf (yv_move rfl) (gon rfl rfl rfl (by first | assumption | rfl | (simp; done) | (simp; omega))) rfl rfl ?_; clear hf a; intro a hf
    refine mz_p rfl   hf (yv_nilCheck rfl) (gon rfl rfl rfl (by first | assumption | rfl | (simp; done) | (simp; omega))) rfl rfl ?_; clear hf a; intro a hf
    refine mz_p rfl   hf (yv_fieldAddr Try.fo_41_0 rfl) (gon rfl rfl rfl (by first | assumption | rfl | (simp; done) | (simp; omega))) rfl rfl ?_; clear hf a; intro a hf
    refine mz_q rfl rfl hh hf (y_ld Try.sc_3 rfl) (gon rfl rfl rfl (by first | assumption | rfl | (simp; done) | (simp; omega))) rfl rfl ?_; clear hf a; intro a hf
    refine mz_p rfl   hf (yv_fieldAddr Try.fo_32_1 rfl) (gon rfl rfl rfl (by first | assumption | rfl | (simp; done) | (simp; omega))) rfl rfl ?_; clear hf a; intro a hf
    refine mz_p rfl   hf (yv_fieldAddr Try.fo_30_1 rfl) (gon rfl rfl rfl (by first | assumption | rfl | (simp; done) | (simp; omega))) rfl rfl ?_; clear hf a; intro a hf
    refine mz_q rfl rfl hh hf (y_ld Try.sc_3 rfl) (gon rfl rfl rfl (by first | assumption | rfl | (simp; done) | (simp; omega))) rfl rfl ?_; clear hf a; intro a hf
    refine mz_p rfl   hf (yv_bin rfl rfl rfl) (gon rfl rfl rfl (by first | assumption | rfl | (simp; done) | (simp; omega))) rfl rfl ?_; clear hf a; intro a hf
    refine mz_p rfl   hf (y_pt rfl rfl) (.inl rfl) rfl rfl ?_; clear hf a; intro a hf
    refine mz_e rfl ?_
    refine o_callX hf Try.en_33 rfl rfl rfl (s33 _ 10 _) ?_ ?_
    ·clear hf a; intro v a w hR hf
     obtain ⟨hz, hx⟩ := hR; replace hh := hh.more hx; clear hx
     refine ops_end ?_
     refine qx_n ⟨hf.sub (by repeat' (first | exact True.intro | refine And.intro rfl ?_)), ⟨fun _ _ => hh, trivial⟩, ?_⟩
     refine mz_end ?_
     refine then_n ?_
     first
       | exact ⟨0, ⟨⟨by assumption, of_decide_eq_true hz⟩, hh⟩, hf.head True.intro (Keep.cons rfl (Keep.cons rfl (Keep.cons rfl (Keep.cons rfl (Keep.cons rfl (Keep.cons rfl (Keep.cons rfl (Keep.cons rfl (Keep.cons rfl (Keep.cons rfl (Keep.cons rfl (Keep.cons rfl (Keep.cons rfl (Keep.cons rfl (Keep.cons rfl (Keep.cons rfl (Keep.cons rfl (Keep.cons rfl (Keep.cons rfl (Keep.cons rfl (Keep.cons rfl (Keep.base))))))))))))))))))))))⟩
       | cases hz
    ·intro ch w hX hf
     obtain ⟨hz, rfl, hx⟩ := hX; exact qx_p ⟨(by clear hf hh; rintro ⟨h1, h2⟩; first | omega | (have := of_decide_eq_false hz; omega)), rfl, (hh.more hx).less (.cons _ (.refl _))⟩
   ·have hG2 := hg2; try simp only [gS] at hG2
    refine mz_off rfl hf (goff rfl rfl rfl (by first | assumption | rfl | (simp; done) | (simp; omega))) rfl rfl ?_; clear hf a; intro a hf
    refine mz_off rfl hf (goff rfl rfl rfl (by first | assumption | rfl | (simp; done) | (simp; omega))) rfl rfl ?_; clear hf a; intro a hf
    refine mz_off rfl hf (goff rfl rfl rfl (by first | assumption | rfl | (simp; done) | (simp; omega))) rfl rfl ?_; clear hf a; intro a hf
    refine mz_offq rfl rfl hh hf (goff rfl rfl rfl (by first | assumption | rfl | (simp; done) | (simp; omega))) rfl rfl ?_; clear hf a; intro a hf
    refine mz_off rfl hf (goff rfl rfl rfl (by first | assumption | rfl | (simp; done) | (simp; omega))) rfl rfl ?_; clear hf a; intro a hf
    refine mz_off rfl hf (goff rfl rfl rfl (by first | assumption | rfl | (simp; done) | (simp; omega))) rfl rfl ?_; clear hf a; intro a hf
    refine mz_offq rfl rfl hh hf (goff rfl rfl rfl (by first | assumption | rfl | (simp; done) | (simp; omega))) rfl rfl ?_; clear hf a; intro a hf
    refine mz_off rfl hf (goff rfl rfl rfl (by first | assumption | rfl | (simp; done) | (simp; omega))) rfl rfl ?_; clear hf a; intro a hf
    refine mz_p rfl   hf (y_pf rfl rfl) (.inl rfl) rfl rfl ?_; clear hf a; intro a hf
    refine mz_e rfl ?_
    refine o_callX hf Try.en_33 rfl rfl rfl (s33 _ 10 _) ?_ ?_
    ·clear hf a; intro v a w hR hf
     obtain ⟨hz, hx⟩ := hR; replace hh := hh.more hx; clear hx
     refine ops_end ?_
     refine qx_n ⟨hf.sub (by repeat' (first | exact True.intro | refine And.intro rfl ?_)), ⟨fun _ _ => hh, trivial⟩, ?_⟩
     refine mz_end ?_
     refine then_n ?_
     first
       | exact ⟨0, ⟨⟨by assumption, of_decide_eq_true hz⟩, hh⟩, hf.head True.intro (Keep.cons rfl (Keep.cons rfl (Keep.cons rfl (Keep.cons rfl (Keep.cons rfl (Keep.cons rfl (Keep.cons rfl (Keep.cons rfl (Keep.cons rfl (Keep.cons rfl (Keep.cons rfl (Keep.cons rfl (Keep.cons rfl (Keep.cons rfl (Keep.cons rfl (Keep.cons rfl (Keep.cons rfl (Keep.cons rfl (Keep.cons rfl (Keep.cons rfl (Keep.cons rfl (Keep.base))))))))))))))))))))))⟩
       | cases hz
    ·intro ch w hX hf
     obtain ⟨hz, rfl, hx⟩ := hX; exact qx_p ⟨(by clear hf hh; rintro ⟨h1, h2⟩; first | omega | (have := of_decide_eq_false hz; omega)), rfl, (hh.more hx).less (.cons _ (.refl _))⟩
  ·rintro q a w ⟨hok, hh⟩ hf
   refine sy_cut (σ := Nat) [30, 31, 32, 33, 34, 35, 36, 37, 38, 39, 40, 41, 42, 43, 44, 45, 46, 47, 48, 49, 50, 51, 52, 53] (fun q => []) (fun q => fun w' => Hp u [Bs, Bc] [(B5, .cells #[.int .i64 1, .slice sa 1 ca, .int .i64 t, .int .i64 0, .int .i64 0, .int .i64 0] 32), (Bs, .cells #[.int .i64 (s.p - t), .int .i64 (s.m), .slice (some ⟨Bc, 0, none⟩) 1 1] 41), (Bc, .cells (#[.int .i64 s.lo, .int .i64 s.hi]) 36)] w') hf ?_ ?_
   ·refine sy_treeC (.p 0 (.p 1 (.p 2 (.p 3 (.p 4 (.q 0 5 (.p 6 (.p 7 (.p 8 (.p 9 (.q 0 10 (.p 11 (.p 12 (.p 13 (.p 14 (.q 0 15 (.p 16 (.p 17 (.q 1 18 (.p 19 (.p 20 (.p 21 (.e1 22 (.p 23 (.p 24 (.e1 25 (.fin))))))))))))))))))))))))))) [[22, 25], []] [(AtE u [Bs, Bc] [(B5, .cells #[.int .i64 1, .slice sa 1 ca, .int .i64 t, .int .i64 0, .int .i64 0, .int .i64 0] 32), (Bs, .cells #[.int .i64 (s.p), .int .i64 (s.m), .slice (some ⟨Bc, 0, none⟩) 1 1] 41), (Bc, .cells (#[.int .i64 s.lo, .int .i64 s.hi]) 36)], [22, 25]), (AtE u [Bs, Bc] [(B5, .cells #[.int .i64 1, .slice sa 1 ca, .int .i64 t, .int .i64 0, .int .i64 0, .int .i64 0] 32)], [])] Try.follows (by kernel_rfl) rfl hh (fun w hh => ?_)
    refine mc_p rfl   hf (yv_move rfl) (.inl rfl) rfl rfl ?_; clear hf a; intro a hf
    refine mc_p rfl   hf (yv_move rfl) (.inl rfl) rfl rfl ?_; clear hf a; intro a hf
    refine mc_p rfl   hf (yv_move rfl) (.inl rfl) rfl rfl ?_; clear hf a; intro a hf
    refine mc_p rfl   hf (yv_nilCheck rfl) (.inl rfl) rfl rfl ?_; clear hf a; intro a hf
    refine mc_p rfl   hf (yv_fieldAddr Try.fo_41_1 rfl) (.inl rfl) rfl rfl ?_; clear hf a; intro a hf
    refine mc_q rfl rfl (AtE.of hh (by intro p hp; simp only [List.mem_cons, List.not_mem_nil, or_false] at hp; rcases hp with h | h | h <;> simp [h])) hf (y_ld Try.sc_3 rfl) (.inl rfl) rfl rfl ?_; clear hf a; intro a hf
    refine mc_p rfl   hf (yv_move rfl) (.inl rfl) rfl rfl ?_; clear hf a; intro a hf
    refine mc_p rfl   hf (yv_nilCheck rfl) (.inl rfl) rfl rfl ?_; clear hf a; intro a hf
    refine mc_p rfl   hf (yv_fieldAddr Try.fo_97_0 rfl) (.inl rfl) rfl rfl ?_; clear hf a; intro a hf
    refine mc_p rfl   hf (yv_fieldAddr Try.fo_38_3 rfl) (.inl rfl) rfl rfl ?_; clear hf a; intro a hf
    refine mc_q rfl rfl (AtE.of hh (by intro p hp; simp only [List.mem_cons, List.not_mem_nil, or_false] at hp; rcases hp with h | h | h <;> simp [h])) hf (y_ld Try.sc_3 rfl) (.inl rfl) rfl rfl ?_; clear hf a; intro a hf
    refine mc_p rfl   hf (yv_cast (yv_sub rfl rfl (by omega) (by omega)) (intv (b := s.m) (by omega))) (.inl rfl) rfl rfl ?_; clear hf a; intro a hf
    refine mc_p rfl   hf (yv_move rfl) (.inl rfl) rfl rfl ?_; clear hf a; intro a hf
    refine mc_p rfl   hf (yv_nilCheck rfl) (.inl rfl) rfl rfl ?_; clear hf a; intro a hf
    refine mc_p rfl   hf (yv_fieldAddr Try.fo_41_0 rfl) (.inl rfl) rfl rfl ?_; clear hf a; intro a hf
    refine mc_q rfl rfl (AtE.of hh (by intro p hp; simp only [List.mem_cons, List.not_mem_nil, or_false] at hp; rcases hp with h | h | h <;> simp [h])) hf (y_ld Try.sc_3 rfl) (.inl rfl) rfl rfl ?_; clear hf a; intro a hf
    refine mc_p rfl   hf (yv_fieldAddr Try.fo_32_1 rfl) (.inl rfl) rfl rfl ?_; clear hf a; intro a hf
    refine mc_p rfl   hf (yv_fieldAddr Try.fo_30_1 rfl) (.inl rfl) rfl rfl ?_; clear hf a; intro a hf
    refine mc_q rfl rfl (AtE.of hh (by intro p hp; rw [List.mem_singleton.1 hp]; simp)) hf (y_ld Try.sc_3 rfl) (.inl rfl) rfl rfl ?_; clear hf a; intro a hf
    refine mc_p rfl   hf (y_sub rfl rfl) (.inl rfl) rfl rfl ?_; clear hf a; intro a hf
    refine mc_p rfl   hf (yv_nilCheck rfl) (.inl rfl) rfl rfl ?_; clear hf a; intro a hf
    refine mc_p rfl   hf (yv_fieldAddr Try.fo_41_1 rfl) (.inl rfl) rfl rfl ?_; clear hf a; intro a hf
    refine mc_e rfl fun Q1 => ?_
    refine o_store hf hh Try.sz_3 fun w hh => ?_
    refine ops_end ?_
    refine then_n ⟨⟨fun h => Bool.noConfusion (show true = false from h), fun _ _ => (AtE.of hh (by intro p hp; rw [List.mem_singleton.1 hp]; simp)), trivial⟩, ?_⟩
    refine mc_p rfl   hf (yv_nilCheck rfl) (.inl rfl) rfl rfl ?_; clear hf a; intro a hf
    refine mc_p rfl   hf (yv_fieldAddr Try.fo_41_0 rfl) (.inl rfl) rfl rfl ?_; clear hf a; intro a hf
    refine mc_e rfl fun Q1 => ?_
    refine o_store hf hh Try.sz_3 fun w hh => ?_
    refine ops_end ?_
    refine then_n ⟨⟨fun h => Bool.noConfusion (show true = false from h), fun _ _ => (AtE.of hh (by intro p hp; rw [List.mem_singleton.1 hp]; simp)), trivial⟩, ?_⟩
    refine mc_end ?_
    refine then_n ?_
    exact ⟨0, hh, hf.head True.intro (Keep.cons rfl (Keep.cons rfl (Keep.cons rfl (Keep.cons rfl (Keep.cons rfl (Keep.cons rfl (Keep.cons rfl (Keep.cons rfl (Keep.cons rfl (Keep.cons rfl (Keep.cons rfl (Keep.cons rfl (Keep.cons rfl (Keep.cons rfl (Keep.cons rfl (Keep.cons rfl (Keep.cons rfl (Keep.cons rfl (Keep.cons rfl (Keep.cons rfl (Keep.cons rfl (Keep.cons rfl (Keep.cons rfl (Keep.cons rfl (Keep.base)))))))))))))))))))))))))⟩
   ·rintro q a w hh hf
    refine sy_sq ?_
    refine o_v hf hh (yv_move rfl) ?_; clear hf a; intro a hf
    refine o_v hf hh (yv_nilCheck rfl) ?_; clear hf a; intro a hf
    refine o_v hf hh (yv_fieldAddr Try.fo_41_2 rfl) ?_; clear hf a; intro a hf
    refine o_v hf hh (y_ld Try.sc_39 rfl) ?_; clear hf a; intro a hf
    refine o_v hf hh (yv_len Try.se_39 rfl) ?_; clear hf a; intro a hf
    refine o_v hf hh (yv_move rfl) ?_; clear hf a; intro a hf
    refine o_end ?_
    refine sy_block ?_
    refine sy_loopH (σ := Nat) [6, 7, 8, 59, 60, 61, 62, 63, 64, 65, 66, 67, 68, 69, 70, 71, 72, 73, 74, 75, 76, 77, 78, 79, 80, 81, 82, 83, 84, 85, 86] (fun i => [(59, .int .i64 (i : Nat))]) (fun i => fun w' => i ≤ 1 ∧ Hp u [Bs, Bc] [(B5, .cells #[.int .i64 1, .slice sa 1 ca, .int .i64 t, .int .i64 0, .int .i64 0, .int .i64 0] 32), (Bs, .cells #[.int .i64 (s.p - t), .int .i64 (s.m), .slice (some ⟨Bc, 0, none⟩) 1 1] 41), (Bc, .cells (cdA s t i) 36)] w') (fun i => 1 - i) (0) hf ?_ ?_ ?_
    · repeat' (first | exact True.intro | refine And.intro rfl ?_)
    · exact ⟨Nat.zero_le _, hh⟩
    ·rintro i a w ⟨hi, hh⟩ hf
     refine sy_sq ?_
     refine o_v hf hh (yv_bin rfl rfl rfl) ?_; clear hf a; intro a hf
     refine o_end ?_
     refine sy_seq ?_
     refine sy_cond hf rfl (fun hg8 => ?_) (fun hg8 => ?_)
     ·have hG8 := hg8; try simp only [gS] at hG8
      refine sy_skip ?_
      refine then_n ?_
      refine sy_seq ?_
      refine sy_block ?_
      refine sy_seq ?_
      obtain rfl : i = 0 := by omega
      refine sy_ops ?_
      refine o_v hf hh (yv_move rfl) ?_; clear hf a; intro a hf
      refine o_v hf hh (y_ix Try.se_39 rfl rfl) ?_; clear hf a; intro a hf
      refine o_v hf hh (y_lds Try.ag_36 rfl) ?_; clear hf a; intro a hf
      refine o_alloc hf hh Try.ze_36 ?_; clear hf hh a; intro B7 a w hf hh
      refine o_v hf hh (yv_assign rfl) ?_; clear hf a; intro a hf
      refine o_store hf hh Try.sz_36 fun w hh => ?_
      refine o_end ?_
      refine sy_sq ?_
      refine o_v hf hh (yv_move rfl) ?_; clear hf a; intro a hf
      refine o_v hf hh (yv_fieldAddr Try.fo_32_1 rfl) ?_; clear hf a; intro a hf
      refine o_v hf hh (y_lds Try.ag_30 rfl) ?_; clear hf a; intro a hf
      refine o_v hf hh (yv_move rfl) ?_; clear hf a; intro a hf
      refine o_call hf Try.en_87 rfl rfl rfl (s87 pp sw sd cw nd cd Bv t sa ca _ (hh.oldM hBv hvn) (iat_M hA hh.ext hsn) ht) ?_; clear hf a; intro v a w hR hf
      obtain ⟨rfl, hx⟩ := hR; replace hh := hh.more hx; clear hx
      refine o_alloc hf hh Try.ze_36 ?_; clear hf hh a; intro B8 a w hf hh
      refine o_store hf hh Try.sz_36 fun w hh => ?_
      refine o_end ?_
      refine sy_tree1 (.p 0 (.p 1 (.p 2 (.q 0 3 (.p 4 (.p 5 (.q 0 6 (.p 7 (.q 0 8 (.p 9 (.p 10 (.q 0 11 (.p 12 (.q 0 13 (.p 14 (.p 15 (.p 16 (.e1 17 (.fin))))))))))))))))))) [17] Try.follows (by kernel_rfl) hh (fun w hh => ?_)
      refine mc_p rfl   hf (yv_move rfl) (.inl rfl) rfl rfl ?_; clear hf a; intro a hf
      refine mc_p rfl   hf (yv_nilCheck rfl) (.inl rfl) rfl rfl ?_; clear hf a; intro a hf
      refine mc_p rfl   hf (yv_fieldAddr Try.fo_41_2 rfl) (.inl rfl) rfl rfl ?_; clear hf a; intro a hf
      refine mc_q rfl rfl hh hf (y_ld Try.sc_39 rfl) (.inl rfl) rfl rfl ?_; clear hf a; intro a hf
      refine mc_p rfl   hf (yv_move rfl) (.inl rfl) rfl rfl ?_; clear hf a; intro a hf
      refine mc_p rfl   hf (yv_fieldAddr Try.fo_36_0 rfl) (.inl rfl) rfl rfl ?_; clear hf a; intro a hf
      refine mc_q rfl rfl hh hf (y_ld Try.sc_3 rfl) (.inl rfl) rfl rfl ?_; clear hf a; intro a hf
      refine mc_p rfl   hf (yv_fieldAddr Try.fo_36_0 rfl) (.inl rfl) rfl rfl ?_; clear hf a; intro a hf
      refine mc_q rfl rfl hh hf (y_ld Try.sc_3 rfl) (.inl rfl) rfl rfl ?_; clear hf a; intro a hf
      refine mc_p rfl   hf (y_add rfl rfl) (.inl rfl) rfl rfl ?_; clear hf a; intro a hf
      refine mc_p rfl   hf (yv_fieldAddr Try.fo_36_1 rfl) (.inl rfl) rfl rfl ?_; clear hf a; intro a hf
      refine mc_q rfl rfl hh hf (y_ld Try.sc_3 rfl) (.inl rfl) rfl rfl ?_; clear hf a; intro a hf
      refine mc_p rfl   hf (yv_fieldAddr Try.fo_36_1 rfl) (.inl rfl) rfl rfl ?_; clear hf a; intro a hf
      refine mc_q rfl rfl hh hf (y_ld Try.sc_3 rfl) (.inl rfl) rfl rfl ?_; clear hf a; intro a hf
      refine mc_p rfl   hf (y_add rfl rfl) (.inl rfl) rfl rfl ?_; clear hf a; intro a hf
      refine mc_p rfl   hf (yv_buildS Try.bs_36 rfl rfl) (.inl rfl) rfl rfl ?_; clear hf a; intro a hf
      refine mc_p rfl   hf (y_ix Try.se_39 rfl rfl) (.inl rfl) rfl rfl ?_; clear hf a; intro a hf
      refine mc_e rfl fun Q1 => ?_
      refine o_store hf hh Try.sz_36 fun w hh => ?_
      refine ops_end ?_
      refine then_n ⟨⟨fun h => Bool.noConfusion (show true = false from h), trivial⟩, ?_⟩
      refine mc_end ?_
      refine blk_n ?_
      refine then_n ?_
      refine sy_ops ?_
      refine o_v hf hh (y_add rfl rfl) ?_; clear hf a; intro a hf
      refine o_v hf hh (yv_move rfl) ?_; clear hf a; intro a hf
      refine ops_end ?_
      refine then_n ?_
      exact ⟨1, ⟨⟨by omega, hh.less (.cons _ (.cons _ (.refl _)))⟩, (hf.head (by repeat' (first | exact True.intro | refine And.intro rfl ?_)) (Keep.cons rfl (Keep.cons rfl (Keep.cons rfl (Keep.cons rfl (Keep.cons rfl (Keep.cons rfl (Keep.cons rfl (Keep.cons rfl (Keep.cons rfl (Keep.cons rfl (Keep.cons rfl (Keep.cons rfl (Keep.cons rfl (Keep.cons rfl (Keep.cons rfl (Keep.cons rfl (Keep.cons rfl (Keep.cons rfl (Keep.cons rfl (Keep.cons rfl (Keep.cons rfl (Keep.cons rfl (Keep.cons rfl (Keep.cons rfl (Keep.cons rfl (Keep.cons rfl (Keep.cons rfl (Keep.cons rfl (Keep.cons rfl (Keep.cons rfl (Keep.cons rfl (Keep.app rfl (Keep.rm rfl Keep.base))))))))))))))))))))))))))))))))))⟩, by omega⟩
     ·have hG8 := hg8; try simp only [gS] at hG8
      refine sy_exit ?_
      refine then_e ?_
      refine then_e ?_
      refine blk_e ?_
      refine ret_xn ?_
      refine ret_n hf rfl rfl ?_
      obtain rfl : i = 1 := by omega
      exact ⟨hok, hh.less (.cons _ (.refl _))⟩
set_option maxRecDepth 100000 in
set_option maxHeartbeats 4000000 in
theorem s157 (pp : Int) (sw sd : Option Addr) (cw nd cd Bv : Nat) (m x : Int) (Bs Bc k : Nat) (s : ShD) (u : World) (hBv : u.heap[Bv]? = some (.cells (prC pp sw cw sd nd cd) 97 (0, 0))) (hBs : u.heap[Bs]? = some (.cells #[.int .i64 s.p, .int .i64 s.m, .slice (some ⟨Bc, 0, none⟩) 1 1] 41 (0, 0))) (hBc : u.heap[Bc]? = some (.cells #[.int .i64 s.lo, .int .i64 s.hi] 36 (0, 0))) (hne : Bs ≠ Bc) (hv1 : Bv ≠ Bs) (hv2 : Bv ≠ Bc) (hB : ShB s k) (hk : k ≤ 30) (hm : 1 ≤ m ∧ m ≤ 1048576) (hxb : 0 ≤ x ∧ x ≤ 1099511627776) : Calls Try.prog 157 #[ptr Bv 0, ptr Bs 0, .agg (dlC (.se m x)).toArray] u (RetX (fun v w' => (m ≤ s.lo) ∧ Hp u [Bs, Bc] [(Bs, .cells #[.int .i64 (s.p), .int .i64 (s.m + x), .slice (some ⟨Bc, 0, none⟩) 1 1] 41), (Bc, .cells #[.int .i64 (s.lo - m), .int .i64 (s.hi - m)] 36)] w') (fun ch w' => ¬ (m ≤ s.lo) ∧ ch = misS 10 ∧ Hp u [Bs, Bc] [(Bs, .cells #[.int .i64 (s.p), .int .i64 (s.m), .slice (some ⟨Bc, 0, none⟩) 1 1] 41), (Bc, .cells #[.int .i64 (s.lo), .int .i64 (s.hi)] 36)] w')) := by
  refine calls_ofX Try.func157 rfl rfl (fun a hf => ?_)
  have hh := hp_init2 hBs hBc hne
  obtain ⟨a1, a2, a3, a4, a5, a6, a7, a8⟩ := hB
  have hvn : Bv ∉ [Bs, Bc] := by simp [hv1, hv2]
  refine sy_sq ?_
  refine o_box hf hh ?_; clear hf hh a; intro B5 a w hf hh
  refine o_end ?_
  refine sy_seq ?_
  replace hh : Hp u [Bs, Bc] [(B5, .cells #[.int .i64 2, .slice none 0 0, .int .i64 0, .int .i64 0, .int .i64 m, .int .i64 x] 32), (Bs, .cells #[.int .i64 (s.p), .int .i64 (s.m), .slice (some ⟨Bc, 0, none⟩) 1 1] 41), (Bc, .cells (#[.int .i64 s.lo, .int .i64 s.hi]) 36)] w := hh
  refine sy_quiet (C := Hp _ _ _) Try.follows (by kernel_rfl) (hh.drawn _) ?_
  refine oq_v hf (yv_move rfl) ?_; clear hf a; intro a hf
  refine oq_v hf (yv_nilCheck rfl) ?_; clear hf a; intro a hf
  refine oq_v hf (yv_fieldAddr Try.fo_41_2 rfl) ?_; clear hf a; intro a hf
  refine oq_v hf (y_ld Try.sc_39 rfl) ?_; clear hf a; intro a hf
  refine oq_v hf (yv_fieldAddr Try.fo_32_2 rfl) ?_; clear hf a; intro a hf
  refine oq_v hf (y_ld Try.sc_3 rfl) ?_; clear hf a; intro a hf
  refine oq_v hf (y_ix Try.se_39 rfl rfl) ?_; clear hf a; intro a hf
  refine oq_v hf (yv_assign rfl) ?_; clear hf a; intro a hf
  refine q_end fun w hh => ?_
  refine then_n ?_
  refine sy_cut (σ := Nat) [14, 15, 16, 17, 18, 19, 20, 21] (fun q => []) (fun q => fun w' => m ≤ s.lo ∧ Hp u [Bs, Bc] [(B5, .cells #[.int .i64 2, .slice none 0 0, .int .i64 0, .int .i64 0, .int .i64 m, .int .i64 x] 32), (Bs, .cells #[.int .i64 (s.p), .int .i64 (s.m), .slice (some ⟨Bc, 0, none⟩) 1 1] 41), (Bc, .cells (#[.int .i64 s.lo, .int .i64 s.hi]) 36)] w') hf ?_ ?_
  ·refine sy_treeX1 (.p 0 (.p 1 (.p 2 (.q 0 3 (.p 4 (.q 0 5 (.p 6 (.e1 7 (.fin))))))))) [] (fun ch w => ¬ (m ≤ s.lo) ∧ ch = misS 10 ∧ Hp u [Bs, Bc] [(Bs, .cells #[.int .i64 (s.p), .int .i64 (s.m), .slice (some ⟨Bc, 0, none⟩) 1 1] 41), (Bc, .cells #[.int .i64 (s.lo), .int .i64 (s.hi)] 36)] w) ([(0, ptr Bv 0), (1, ptr Bs 0)]) Try.follows (by kernel_rfl) hf (by repeat' (first | exact True.intro | refine And.intro rfl ?_)) (by rfl) hh ?_ (fun w hh => ?_)
   ·intro ch a w hX hf
    obtain ⟨hnn, rfl, hh⟩ := hX
    refine then_p ?_
    refine pan_x hf ?_
    exact ⟨hnn, rfl, hh⟩
   refine mz_p rfl   hf (yv_move rfl) (.inl rfl) rfl rfl ?_; clear hf a; intro a hf
   refine mz_p rfl   hf (yv_nilCheck rfl) (.inl rfl) rfl rfl ?_; clear hf a; intro a hf
   refine mz_p rfl   hf (yv_fieldAddr Try.fo_36_0 rfl) (.inl rfl) rfl rfl ?_; clear hf a; intro a hf
   refine mz_q rfl rfl hh hf (y_ld Try.sc_3 rfl) (.inl rfl) rfl rfl ?_; clear hf a; intro a hf
   refine mz_p rfl   hf (yv_fieldAddr Try.fo_32_3 rfl) (.inl rfl) rfl rfl ?_; clear hf a; intro a hf
   refine mz_q rfl rfl hh hf (y_ld Try.sc_3 rfl) (.inl rfl) rfl rfl ?_; clear hf a; intro a hf
   refine mz_p rfl   hf (yv_bin rfl rfl rfl) (.inl rfl) rfl rfl ?_; clear hf a; intro a hf
   refine mz_e rfl ?_
   refine o_callX hf Try.en_33 rfl rfl rfl (s33 _ 10 _) ?_ ?_
   ·clear hf a; intro v a w hR hf
    obtain ⟨hz, hx⟩ := hR; replace hh := hh.more hx; clear hx
    refine ops_end ?_
    refine qx_n ⟨hf.sub (by repeat' (first | exact True.intro | refine And.intro rfl ?_)), ⟨fun _ _ => hh, trivial⟩, ?_⟩
    refine mz_end ?_
    refine then_n ?_
    exact ⟨0, ⟨of_decide_eq_true hz, hh⟩, hf.head True.intro (Keep.cons rfl (Keep.cons rfl (Keep.cons rfl (Keep.cons rfl (Keep.cons rfl (Keep.cons rfl (Keep.cons rfl (Keep.cons rfl (Keep.base)))))))))⟩
   ·intro ch w hX hf
    obtain ⟨hz, rfl, hx⟩ := hX; exact qx_p ⟨(by clear hf hh; have := of_decide_eq_false hz; omega), rfl, (hh.more hx).less (.cons _ (.refl _))⟩
  ·rintro q a w ⟨hok, hh⟩ hf
   refine sy_cut (σ := Nat) [22, 23, 24, 25, 26, 27, 28, 29, 30, 31, 32, 33, 34, 35, 36, 37, 38, 39, 40, 41] (fun q => []) (fun q => fun w' => Hp u [Bs, Bc] [(B5, .cells #[.int .i64 2, .slice none 0 0, .int .i64 0, .int .i64 0, .int .i64 m, .int .i64 x] 32), (Bs, .cells #[.int .i64 (s.p), .int .i64 (s.m), .slice (some ⟨Bc, 0, none⟩) 1 1] 41), (Bc, .cells (#[.int .i64 (s.lo - m), .int .i64 (s.hi - m)]) 36)] w') hf ?_ ?_
   ·refine sy_treeC (.p 0 (.p 1 (.p 2 (.p 3 (.p 4 (.q 0 5 (.p 6 (.q 0 7 (.p 8 (.p 9 (.p 10 (.p 11 (.q 0 12 (.p 13 (.q 1 14 (.p 15 (.p 16 (.p 17 (.e1 18 (.p 19 (.p 20 (.e1 21 (.fin))))))))))))))))))))))) [[18, 21], []] [(AtE u [Bs, Bc] [(B5, .cells #[.int .i64 2, .slice none 0 0, .int .i64 0, .int .i64 0, .int .i64 m, .int .i64 x] 32), (Bs, .cells #[.int .i64 (s.p), .int .i64 (s.m), .slice (some ⟨Bc, 0, none⟩) 1 1] 41), (Bc, .cells (#[.int .i64 s.lo, .int .i64 s.hi]) 36)], [18, 21]), (AtE u [Bs, Bc] [(B5, .cells #[.int .i64 2, .slice none 0 0, .int .i64 0, .int .i64 0, .int .i64 m, .int .i64 x] 32)], [])] Try.follows (by kernel_rfl) rfl hh (fun w hh => ?_)
    refine mc_p rfl   hf (yv_move rfl) (.inl rfl) rfl rfl ?_; clear hf a; intro a hf
    refine mc_p rfl   hf (yv_move rfl) (.inl rfl) rfl rfl ?_; clear hf a; intro a hf
    refine mc_p rfl   hf (yv_move rfl) (.inl rfl) rfl rfl ?_; clear hf a; intro a hf
    refine mc_p rfl   hf (yv_nilCheck rfl) (.inl rfl) rfl rfl ?_; clear hf a; intro a hf
    refine mc_p rfl   hf (yv_fieldAddr Try.fo_36_0 rfl) (.inl rfl) rfl rfl ?_; clear hf a; intro a hf
    refine mc_q rfl rfl (AtE.of hh (by intro p hp; simp only [List.mem_cons, List.not_mem_nil, or_false] at hp; rcases hp with h | h | h <;> simp [h])) hf (y_ld Try.sc_3 rfl) (.inl rfl) rfl rfl ?_; clear hf a; intro a hf
    refine mc_p rfl   hf (yv_fieldAddr Try.fo_32_3 rfl) (.inl rfl) rfl rfl ?_; clear hf a; intro a hf
    refine mc_q rfl rfl (AtE.of hh (by intro p hp; simp only [List.mem_cons, List.not_mem_nil, or_false] at hp; rcases hp with h | h | h <;> simp [h])) hf (y_ld Try.sc_3 rfl) (.inl rfl) rfl rfl ?_; clear hf a; intro a hf
    refine mc_p rfl   hf (y_sub rfl rfl) (.inl rfl) rfl rfl ?_; clear hf a; intro a hf
    refine mc_p rfl   hf (yv_move rfl) (.inl rfl) rfl rfl ?_; clear hf a; intro a hf
    refine mc_p rfl   hf (yv_nilCheck rfl) (.inl rfl) rfl rfl ?_; clear hf a; intro a hf
    refine mc_p rfl   hf (yv_fieldAddr Try.fo_36_1 rfl) (.inl rfl) rfl rfl ?_; clear hf a; intro a hf
    refine mc_q rfl rfl (AtE.of hh (by intro p hp; simp only [List.mem_cons, List.not_mem_nil, or_false] at hp; rcases hp with h | h | h <;> simp [h])) hf (y_ld Try.sc_3 rfl) (.inl rfl) rfl rfl ?_; clear hf a; intro a hf
    refine mc_p rfl   hf (yv_fieldAddr Try.fo_32_3 rfl) (.inl rfl) rfl rfl ?_; clear hf a; intro a hf
    refine mc_q rfl rfl (AtE.of hh (by intro p hp; rw [List.mem_singleton.1 hp]; simp)) hf (y_ld Try.sc_3 rfl) (.inl rfl) rfl rfl ?_; clear hf a; intro a hf
    refine mc_p rfl   hf (y_sub rfl rfl) (.inl rfl) rfl rfl ?_; clear hf a; intro a hf
    refine mc_p rfl   hf (yv_nilCheck rfl) (.inl rfl) rfl rfl ?_; clear hf a; intro a hf
    refine mc_p rfl   hf (yv_fieldAddr Try.fo_36_0 rfl) (.inl rfl) rfl rfl ?_; clear hf a; intro a hf
    refine mc_e rfl fun Q1 => ?_
    refine o_store hf hh Try.sz_3 fun w hh => ?_
    refine ops_end ?_
    refine then_n ⟨⟨fun h => Bool.noConfusion (show true = false from h), fun _ _ => (AtE.of hh (by intro p hp; rw [List.mem_singleton.1 hp]; simp)), trivial⟩, ?_⟩
    refine mc_p rfl   hf (yv_nilCheck rfl) (.inl rfl) rfl rfl ?_; clear hf a; intro a hf
    refine mc_p rfl   hf (yv_fieldAddr Try.fo_36_1 rfl) (.inl rfl) rfl rfl ?_; clear hf a; intro a hf
    refine mc_e rfl fun Q1 => ?_
    refine o_store hf hh Try.sz_3 fun w hh => ?_
    refine ops_end ?_
    refine then_n ⟨⟨fun h => Bool.noConfusion (show true = false from h), fun _ _ => (AtE.of hh (by intro p hp; rw [List.mem_singleton.1 hp]; simp)), trivial⟩, ?_⟩
    refine mc_end ?_
    refine then_n ?_
    exact ⟨0, hh, hf.head True.intro (Keep.cons rfl (Keep.cons rfl (Keep.cons rfl (Keep.cons rfl (Keep.cons rfl (Keep.cons rfl (Keep.cons rfl (Keep.cons rfl (Keep.cons rfl (Keep.cons rfl (Keep.cons rfl (Keep.cons rfl (Keep.cons rfl (Keep.cons rfl (Keep.cons rfl (Keep.cons rfl (Keep.cons rfl (Keep.cons rfl (Keep.cons rfl (Keep.cons rfl (Keep.base)))))))))))))))))))))⟩
   ·rintro q a w hh hf
    refine sy_tree1 (.p 0 (.p 1 (.p 2 (.q 0 3 (.p 4 (.q 0 5 (.p 6 (.p 7 (.p 8 (.e1 9 (.fin))))))))))) [9] Try.follows (by kernel_rfl) hh (fun w hh => ?_)
    refine mc_p rfl   hf (yv_move rfl) (.inl rfl) rfl rfl ?_; clear hf a; intro a hf
    refine mc_p rfl   hf (yv_nilCheck rfl) (.inl rfl) rfl rfl ?_; clear hf a; intro a hf
    refine mc_p rfl   hf (yv_fieldAddr Try.fo_41_1 rfl) (.inl rfl) rfl rfl ?_; clear hf a; intro a hf
    refine mc_q rfl rfl hh hf (y_ld Try.sc_3 rfl) (.inl rfl) rfl rfl ?_; clear hf a; intro a hf
    refine mc_p rfl   hf (yv_fieldAddr Try.fo_32_4 rfl) (.inl rfl) rfl rfl ?_; clear hf a; intro a hf
    refine mc_q rfl rfl hh hf (y_ld Try.sc_3 rfl) (.inl rfl) rfl rfl ?_; clear hf a; intro a hf
    refine mc_p rfl   hf (y_add rfl rfl) (.inl rfl) rfl rfl ?_; clear hf a; intro a hf
    refine mc_p rfl   hf (yv_nilCheck rfl) (.inl rfl) rfl rfl ?_; clear hf a; intro a hf
    refine mc_p rfl   hf (yv_fieldAddr Try.fo_41_1 rfl) (.inl rfl) rfl rfl ?_; clear hf a; intro a hf
    refine mc_e rfl fun Q1 => ?_
    refine o_store hf hh Try.sz_3 fun w hh => ?_
    refine ops_end ?_
    refine then_n ⟨⟨fun h => Bool.noConfusion (show true = false from h), trivial⟩, ?_⟩
    refine mc_end ?_
    refine ret_xn ?_
    refine ret_n hf rfl rfl ?_
    exact ⟨hok, hh.less (.cons _ (.refl _))⟩
end Go.Proofs.Ytccpgpnekoncoaa
