/- Lemmas, in order: Who truly sold the cards. RoyalLeast. What a law is handed, opened: royalties, terms, numbers.. -/
import Derived.Test.YtkfkifkdncdhoaaQ16
import Derived.Test.YtkfkifkdncdhoaaRows
import Derived.Test.YtkfkifkdncdhoaaChecked
import Derived.JoinedOf
import Derived.LaidLaws
import Derived.RowKit
import Derived.RowKitTokens
import Derived.LaidHandle
import Derived.Stop.Joined
import Derived.Lay
import Derived.SizedLaws
import Derived.SevenTiedAt
namespace Go.Proofs.Ytkfkifkdncdhoaa
open Go Go.Sy Go.RoyM
set_option maxRecDepth 100000 in
set_option maxHeartbeats 4000000 in
theorem p41 (d : RoyD) (p : Pl) (k : Int) (y : List Int) (sy : Option Addr) (cy : Nat) (u : World) (hR : RoyAt u d p) (hO : RoyOk d) (hY : BAt u sy y) (hy0 : 0 < y.length) (hyl : y.length ≤ 9223372036854775807) (hyb : ∀ z ∈ y, 0 ≤ z ∧ z ≤ 255) : Calls Try.prog 41 #[.agg (royC d p), .int .i64 k, .slice sy y.length cy] u (Ret fun v w' => ∃ t X, t ∈ truL d k ∧ OwnSl 3 1 v t.length (nvs t) X ∧ Hp u [] X w') := by
  refine calls_of Try.func41 rfl rfl (fun a hf => ?_)
  have hh := Hp.init u []
  have hnt := hO.nt
  refine sy_sq ?_
  refine o_box hf hh ?_; clear hf hh a; intro B3 a w hf hh
  refine o_v hf hh (yv_assign rfl) ?_; clear hf a; intro a hf
  refine o_end ?_
  refine sy_sq ?_
  refine o_v hf hh (yv_assign rfl) ?_; clear hf a; intro a hf
  refine o_end ?_
  refine sy_seq ?_
  refine sy_sq ?_
  refine o_v hf hh (y_lds Try.ag_37 rfl) ?_; clear hf a; intro a hf
  refine o_v hf hh (yv_move rfl) ?_; clear hf a; intro a hf
  refine o_call hf Try.en_42 rfl rfl rfl (p42 d p k _ (hR.ext hh.ext) hO) ?_; clear hf a; intro v a w hR hf
  obtain ⟨X4, hO4, hx⟩ := hR; obtain ⟨oa4, cp4, rfl, _, hN⟩ := own_nat hO4 hx.get
  have hh9 := hh.more hx.ext
  have hR9 := hR.ext hh9.ext
  have hY9 := hY.ext hh9.ext
  have q3 := hh9.at (i := 0) rfl
  obtain ⟨w9, rfl⟩ : ∃ z, z = w := ⟨_, rfl⟩
  clear hh hx
  have hh := Hp.init w9 []
  obtain ⟨cs, hcs⟩ : ∃ cs, cs = csL d k := ⟨_, rfl⟩
  obtain ⟨ws, hws⟩ : ∃ ws, ws = wsL d k := ⟨_, rfl⟩
  have hlen : cs.length = ws.length := by rw [hcs, hws, cs_len]
  have hw12 : ws.length ≤ 12 := by rw [hws]; exact ws_len d k
  rw [← hcs] at hN hf
  refine o_v hf hh (yv_len Try.se_22 rfl) ?_; clear hf a; intro a hf
  refine o_v hf hh (yv_move rfl) ?_; clear hf a; intro a hf
  refine o_end ?_
  refine sy_block ?_
  refine sy_loopH (σ := Nat × List Nat × Value × List (Nat × Obj)) [7, 8, 9, 10, 15, 16, 17, 18, 19, 20, 21, 22, 23, 24, 25, 26, 27, 28, 29, 30, 31, 32, 33, 34, 35, 36, 37, 38, 39, 40, 41] (fun s => [(7, s.2.2.1), (15, .int .i64 (s.1 : Nat))]) (fun s => fun w' => s.1 ≤ ws.length ∧ TruT d.terms.length ws s.2.1 s.1 ∧ OwnSl 3 1 s.2.2.1 s.2.1.length (nvs s.2.1) s.2.2.2 ∧ Hp w9 [] s.2.2.2 w') (fun s => ws.length - s.1) ((0, [], .slice none 0 0, [])) hf ?_ ?_ ?_
  · repeat' (first | exact True.intro | refine And.intro rfl ?_)
  · exact ⟨Nat.zero_le _, .zero _ _, OwnSl.nil _ _, hh⟩
  ·rintro s a w ⟨hi, hT, hOt, hh⟩ hf
   obtain ⟨i, t, v7, X7⟩ := s; simp only at hi hT hOt hh hf ⊢
   refine sy_sq ?_
   refine o_v hf hh (yv_bin rfl rfl rfl) ?_; clear hf a; intro a hf
   refine o_end ?_
   refine sy_seq ?_
   refine sy_cond hf rfl (fun hg3 => ?_) (fun hg3 => ?_)
   ·have hG3 := hg3; try simp only [gS] at hG3
    refine sy_skip ?_
    refine then_n ?_
    refine sy_seq ?_
    refine sy_block ?_
    refine sy_seq ?_
    obtain ⟨c, hc⟩ := ex_of (l := cs) (i := i) (by omega)
    obtain ⟨wn, hwn⟩ := ex_of (l := ws) (i := i) (by omega)
    obtain ⟨blkc, offc, ccc, Tc, frc, e, hbc, hcc⟩ := hN i c hc; subst e
    refine sy_ops ?_
    refine o_v hf hh (yv_move rfl) ?_; clear hf a; intro a hf
    refine o_v hf hh (y_ix Try.se_22 rfl rfl) ?_; clear hf a; intro a hf
    refine o_v hf hh (y_ld Try.sc_3 rfl) ?_; clear hf a; intro a hf
    refine o_v hf hh (yv_assign rfl) ?_; clear hf a; intro a hf
    refine o_v hf hh (yv_assign rfl) ?_; clear hf a; intro a hf
    refine o_end ?_
    refine sy_sq ?_
    refine o_v hf hh (y_lds Try.ag_37 rfl) ?_; clear hf a; intro a hf
    refine o_v hf hh (yv_move rfl) ?_; clear hf a; intro a hf
    refine o_v hf hh (yv_move rfl) ?_; clear hf a; intro a hf
    refine o_call hf Try.en_44 rfl rfl rfl (p44 d p k c _ (hR9.ext hh.ext)) ?_; clear hf a; intro v a w hR hf
    obtain ⟨X5, hO5, hx⟩ := hR; rw [claW hO (by rw [← hcs]; exact hc) (by rw [← hws]; exact hwn)] at hO5
    have hll : (clrL d.terms.length wn).length ≤ d.terms.length := by
      unfold clrL
      refine Nat.le_trans (List.length_filter_le _ _) ?_
      rw [List.length_range]; exact Nat.le_refl _
    have hne : clrL d.terms.length wn ≠ [] := (by rw [hws] at hwn; exact sold_some hO k wn (List.mem_of_getElem? hwn))
    have hlp := List.length_pos_iff.2 hne
    obtain ⟨l, hl⟩ : ∃ l, l = clrL d.terms.length wn := ⟨_, rfl⟩
    rw [← hl] at hO5 hll hlp
    obtain ⟨oa5, cp5, rfl⟩ := own_val hO5
    replace hh := hh.join hx; clear hx
    refine o_v hf hh (yv_assign rfl) ?_; clear hf a; intro a hf
    refine o_end ?_
    obtain ⟨bi, hbi⟩ : ∃ bi : Nat, bi = i % y.length := ⟨_, rfl⟩
    have hbl2 : bi < y.length := by rw [hbi]; exact Nat.mod_lt _ hy0
    obtain ⟨z, hz⟩ := ex_of hbl2
    have hzb := hyb z (List.mem_of_getElem? hz)
    obtain ⟨blk2, off2, cc2, T2, fr2, e2, hb2, hc2⟩ := hY9 bi z hz; subst e2
    obtain ⟨zi, hzi⟩ : ∃ zi : Nat, (zi : Int) = z % (l.length : Nat) := ⟨(z % (l.length : Nat)).toNat, by have := Int.emod_nonneg z (show ((l.length : Nat) : Int) ≠ 0 by omega); omega⟩
    have hzl : zi < l.length := by have := Int.emod_lt_of_pos z (show (0 : Int) < (l.length : Nat) by omega); omega
    obtain ⟨g, hg⟩ := ex_of hzl
    obtain ⟨blk5, off5, cc5, T5, fr5, e5, hbl, hc5⟩ := nat_own hO5 (fun q hq => hh.get q (by simp [hq])) zi g hg; subst e5
    have hib : ((bi : Nat) : Int) = ((i : Nat) : Int) % ((y.length : Nat) : Int) := by rw [hbi]; exact Int.natCast_emod _ _
    refine sy_ops ?_
    refine o_v hf hh (yv_move rfl) ?_; clear hf a; intro a hf
    refine o_v hf hh (yv_move rfl) ?_; clear hf a; intro a hf
    refine o_v hf hh (yv_move rfl) ?_; clear hf a; intro a hf
    refine o_v hf hh (yv_move rfl) ?_; clear hf a; intro a hf
    refine o_v hf hh (yv_move rfl) ?_; clear hf a; intro a hf
    refine o_v hf hh (yv_len Try.se_58 rfl) ?_; clear hf a; intro a hf
    refine ops_v hf hh (yv_cast (yv_rem rfl rfl (by omega) (by omega)) (intv (b := ((bi : Nat) : Int)) hib.symm)) (.inl rfl) rfl rfl rfl ?_; clear hf a; intro a hf
    refine o_v hf hh (y_ix Try.se_58 rfl rfl) ?_; clear hf a; intro a hf
    refine o_v hf hh (y_ld Try.sc_5 rfl) ?_; clear hf a; intro a hf
    first | refine o_v hf hh (yv_convx (.inl rfl) (by kernel_rfl) Try.un_3 rfl (by omega) (by simp only [IntKind.top]; omega)) ?_; clear hf a; intro a hf | refine o_v hf hh (yv_conv (by kernel_rfl) Try.un_3 rfl) ?_; clear hf a; intro a hf
    refine o_v hf hh (yv_move rfl) ?_; clear hf a; intro a hf
    refine o_v hf hh (yv_len Try.se_22 rfl) ?_; clear hf a; intro a hf
    refine ops_v hf hh (yv_cast (yv_rem rfl rfl (by omega) (by omega)) (intv (b := ((zi : Nat) : Int)) hzi.symm)) (.inl rfl) rfl rfl rfl ?_; clear hf a; intro a hf
    refine o_v hf hh (y_ix Try.se_22 rfl rfl) ?_; clear hf a; intro a hf
    refine o_w hf (yv_ldw Try.sc_3 rfl hbl hc5) ?_; clear hf a; intro a hf
    refine ops_buildSl hf hh Try.bl_22_1 rfl rfl (.inl rfl) rfl ?_; clear hf hh; clear a; intro B39 a w hf hh
    refine ops_append (e := 3) (size := 1) (xs := nvs t) (X := X7) (Z := _) (m := t.length) (q := 1) hf (hh.perm (.cons _ (List.perm_append_comm (l₁ := X5) (l₂ := X7)))) Try.eb_22 rfl rfl hOt rfl rfl rfl (by simp only [maxLen]; have := hT.1; omega) (by have := hT.1; omega) (.inl rfl) rfl ?_; clear hf hh a; intro v7n X7n a w hO7n hf hh
    replace hh := hh.less (List.sublist_append_left _ _)
    refine o_v hf hh (yv_assign rfl) ?_; clear hf a; intro a hf
    refine ops_end ?_
    refine blk_n ?_
    refine then_n ?_
    refine sy_ops ?_
    refine o_v hf hh (y_add rfl rfl) ?_; clear hf a; intro a hf
    refine o_v hf hh (yv_move rfl) ?_; clear hf a; intro a hf
    refine ops_end ?_
    refine then_n ?_
    exact ⟨(i + 1, t ++ [g], v7n, X7n), ⟨⟨by simp only; omega, hT.put hwn (by rw [← hl]; exact List.mem_of_getElem? hg), by simp only; rw [nvs_app, List.length_append]; exact hO7n, hh⟩, (hf.head (by repeat' (first | exact True.intro | refine And.intro rfl ?_)) (Keep.cons rfl (Keep.cons rfl (Keep.cons rfl (Keep.cons rfl (Keep.cons rfl (Keep.cons rfl (Keep.cons rfl (Keep.cons rfl (Keep.cons rfl (Keep.cons rfl (Keep.cons rfl (Keep.cons rfl (Keep.cons rfl (Keep.cons rfl (Keep.cons rfl (Keep.cons rfl (Keep.cons rfl (Keep.cons rfl (Keep.cons rfl (Keep.cons rfl (Keep.cons rfl (Keep.cons rfl (Keep.cons rfl (Keep.cons rfl (Keep.cons rfl (Keep.cons rfl (Keep.cons rfl (Keep.cons rfl (Keep.cons rfl (Keep.cons rfl (Keep.cons rfl (Keep.app rfl (Keep.rm rfl Keep.base))))))))))))))))))))))))))))))))))⟩, by simp only; omega⟩
   ·have hG3 := hg3; try simp only [gS] at hG3
    refine sy_exit ?_
    refine then_e ?_
    refine then_e ?_
    refine blk_e ?_
    refine then_n ?_
    refine sy_sq ?_
    refine o_v hf hh (yv_move rfl) ?_; clear hf a; intro a hf
    refine o_v hf hh (yv_assign rfl) ?_; clear hf a; intro a hf
    refine o_end ?_
    refine sy_ret ?_
    refine ret_r hf rfl rfl ?_
    obtain rfl : i = ws.length := by omega
    have hhz : Hp u [] X7 w := (hh9.join hh).less (List.sublist_append_left _ _)
    exact ⟨t, X7, by unfold truL; rw [← hws]; exact hT.done, hOt, hhz⟩
end Go.Proofs.Ytkfkifkdncdhoaa
namespace Go.Proofs.Ytkfkifkdncdhoaa
open Go Go.Sy Go.RoyM
theorem lead_facts {d : RoyD} {k : Int} (he : allE d k = 0) : royB d = true ∧ isKd d k = true := openE_zero.1 he
set_option maxRecDepth 100000 in
set_option maxHeartbeats 4000000 in
theorem p10 (d : RoyD) (p : Pl) (k : Int) (y : List Int) (sy : Option Addr) (cy : Nat) (u : World) (hR : RoyIn u d p) (hY : BAt u sy y) (hyl : y.length ≤ 9223372036854775807) (hyb : ∀ z ∈ y, 0 ≤ z ∧ z ≤ 255) : Calls Try.prog 10 #[.agg (royC d p), .int .i64 k, .slice sy y.length cy] u (Ret fun v w' => v = .bool true ∧ Ext [] u w') := by
  refine calls_of Try.func10 rfl rfl (fun a hf => ?_)
  have hh := Hp.init u []
  refine sy_sq ?_
  refine o_box hf hh ?_; clear hf hh a; intro B3 a w hf hh
  refine o_v hf hh (yv_assign rfl) ?_; clear hf a; intro a hf
  refine o_end ?_
  refine sy_seq ?_
  refine sy_sq ?_
  refine o_v hf hh (y_lds Try.ag_37 rfl) ?_; clear hf a; intro a hf
  refine o_call hf Try.en_20 rfl rfl rfl (p20 d p _ (hR.ext hh.ext)) ?_; clear hf a; intro v a w hR hf
  obtain ⟨rfl, hx⟩ := hR; replace hh := hh.more hx; clear hx
  refine o_v hf hh (yv_move rfl) ?_; clear hf a; intro a hf
  refine guard_split hf (t := 22) rfl (fun hg2 => ?_) (fun hg2 => ?_)
  ·have hG2 := hg2; try simp only [gS] at hG2
   refine o_off hf ?_; clear hf a; intro a hf
   refine o_off hf ?_; clear hf a; intro a hf
   refine o_off hf ?_; clear hf a; intro a hf
   refine o_v hf hh (y_pt rfl rfl) ?_; clear hf a; intro a hf
   refine o_end ?_
   refine c_t hf ?_
   refine sy_sq ?_
   refine o_call hf Try.en_14 rfl rfl rfl (p14 _) ?_; clear hf a; intro v a w hR hf
   obtain ⟨rfl, hx⟩ := hR; replace hh := hh.more hx; clear hx
   refine o_v hf hh (yv_assign rfl) ?_; clear hf a; intro a hf
   refine o_end ?_
   refine sy_ret ?_
   refine then_r ?_
   refine ret_r hf rfl rfl ?_
   first
     | exact ⟨rfl, hh.ext⟩
     | exact ⟨rfl, hx0.trans hh.ext⟩
     | exact ⟨rfl, hx0.trans (hh8.ext.trans hh.ext)⟩
     | (exfalso; clear hf hh; omega)
     | (exfalso; clear hf hh; rcases e3 with ⟨h1, h2⟩ | ⟨h1, h2⟩ <;> omega)
     | (exfalso; clear hf hh; rw [show j = l.length by omega, List.take_length] at *; simp_all; done)
     | omega
  ·have hG2 := hg2; try simp only [gS] at hG2
   refine o_v hf hh (yv_move rfl) ?_; clear hf a; intro a hf
   refine o_v hf hh (yv_len Try.se_58 rfl) ?_; clear hf a; intro a hf
   refine o_v hf hh (yv_bin rfl rfl rfl) ?_; clear hf a; intro a hf
   refine o_v hf hh (y_pf rfl rfl) ?_; clear hf a; intro a hf
   refine o_end ?_
   refine sy_cond hf rfl (fun hg5 => ?_) (fun hg5 => ?_)
   ·have hG5 := hg5; try simp only [gS] at hG5
    refine sy_sq ?_
    refine o_call hf Try.en_14 rfl rfl rfl (p14 _) ?_; clear hf a; intro v a w hR hf
    obtain ⟨rfl, hx⟩ := hR; replace hh := hh.more hx; clear hx
    refine o_v hf hh (yv_assign rfl) ?_; clear hf a; intro a hf
    refine o_end ?_
    refine sy_ret ?_
    refine then_r ?_
    refine ret_r hf rfl rfl ?_
    first
      | exact ⟨rfl, hh.ext⟩
      | exact ⟨rfl, hx0.trans hh.ext⟩
      | exact ⟨rfl, hx0.trans (hh8.ext.trans hh.ext)⟩
      | (exfalso; clear hf hh; omega)
      | (exfalso; clear hf hh; rcases e3 with ⟨h1, h2⟩ | ⟨h1, h2⟩ <;> omega)
      | (exfalso; clear hf hh; rw [show j = l.length by omega, List.take_length] at *; simp_all; done)
      | omega
   ·have hG5 := hg5; try simp only [gS] at hG5
    refine sy_skip ?_
    refine then_n ?_
    refine sy_seq ?_
    have hA := hR.at (by assumption)
    have hy0 : 0 < y.length := by omega
    refine sy_ops ?_
    refine o_v hf hh (y_lds Try.ag_37 rfl) ?_; clear hf a; intro a hf
    refine o_v hf hh (yv_move rfl) ?_; clear hf a; intro a hf
    refine o_call hf Try.en_30 rfl rfl rfl (p30 d p k _ (hA.ext hh.ext)) ?_; clear hf a; intro v a w hR hf
    obtain ⟨sv, X, rfl, hOl, hx⟩ := hR; obtain ⟨oal, cpl, rfl⟩ := own_val hOl
    replace hh := (hh.join hx).perm List.perm_append_comm; clear hx
    refine o_v hf hh (yv_move rfl) ?_; clear hf a; intro a hf
    refine o_v hf hh (yv_extract rfl rfl) ?_; clear hf a; intro a hf
    refine o_v hf hh (yv_extract rfl rfl) ?_; clear hf a; intro a hf
    refine o_v hf hh (yv_assign rfl) ?_; clear hf a; intro a hf
    refine o_v hf hh (yv_assign rfl) ?_; clear hf a; intro a hf
    refine o_end ?_
    refine sy_sq ?_
    refine o_v hf hh (y_lds Try.ag_37 rfl) ?_; clear hf a; intro a hf
    refine o_v hf hh (yv_move rfl) ?_; clear hf a; intro a hf
    refine o_call hf Try.en_28 rfl rfl rfl (p28 d p k _ (hA.ext hh.ext)) ?_; clear hf a; intro v a w hR hf
    obtain ⟨rfl, hx⟩ := hR; replace hh := hh.more hx; clear hx
    refine o_v hf hh (yv_move rfl) ?_; clear hf a; intro a hf
    refine o_v hf hh (yv_extract rfl rfl) ?_; clear hf a; intro a hf
    refine o_v hf hh (yv_extract rfl rfl) ?_; clear hf a; intro a hf
    refine o_alloc hf hh Try.ze_43 ?_; clear hf hh a; intro B9 a w hf hh
    refine o_store hf hh Try.sz_43 fun w hh => ?_
    refine o_v hf hh (yv_assign rfl) ?_; clear hf a; intro a hf
    refine o_end ?_
    refine sy_seq ?_
    refine sy_sq ?_
    refine o_v hf hh (yv_move rfl) ?_; clear hf a; intro a hf
    refine o_v hf hh (yv_move rfl) ?_; clear hf a; intro a hf
    refine o_v hf hh (yv_bin rfl rfl rfl) ?_; clear hf a; intro a hf
    refine o_v hf hh (yv_move rfl) ?_; clear hf a; intro a hf
    refine o_v hf hh (yv_move rfl) ?_; clear hf a; intro a hf
    refine o_v hf hh (yv_bin rfl rfl rfl) ?_; clear hf a; intro a hf
    refine o_v hf hh (y_pf rfl rfl) ?_; clear hf a; intro a hf
    refine o_end ?_
    refine sy_cond hf rfl (fun hg15 => ?_) (fun hg15 => ?_)
    ·have hG15 := hg15; try simp only [gS] at hG15
     refine sy_seq ?_
     have he : ¬ allE d k = 0 := by assumption
     obtain ⟨e1, e2, e3⟩ := allE_facts he
     rw [e1] at hf
     rw [e2] at hh
     have e4 : (decide (allE d k = 1) == !royB d) = true := by rcases e3 with ⟨h1, h2⟩ | ⟨h1, h2⟩ <;> rw [h1, h2] <;> rfl
     refine sy_ops ?_
     refine o_v hf hh (yv_move rfl) ?_; clear hf a; intro a hf
     refine o_v hf hh (yv_move rfl) ?_; clear hf a; intro a hf
     refine o_v hf hh (yv_bin rfl rfl rfl) ?_; clear hf a; intro a hf
     refine o_v hf hh (yv_move rfl) ?_; clear hf a; intro a hf
     refine o_v hf hh (yv_move rfl) ?_; clear hf a; intro a hf
     refine o_v hf hh (yv_len Try.se_22 rfl) ?_; clear hf a; intro a hf
     refine o_v hf hh (yv_bin rfl rfl rfl) ?_; clear hf a; intro a hf
     refine o_v hf hh (y_pt rfl rfl) ?_; clear hf a; intro a hf
     refine o_v hf hh (yv_move rfl) ?_; clear hf a; intro a hf
     refine o_v hf hh (y_lds Try.ag_43 rfl) ?_; clear hf a; intro a hf
     refine o_v hf hh (yv_buildS Try.bs_43 rfl rfl) ?_; clear hf a; intro a hf
     refine o_v hf hh (yv_eqF [0, 0] [0, 0] fl43 rfl rfl) ?_; clear hf a; intro a hf
     refine o_v hf hh (y_pt rfl rfl) ?_; clear hf a; intro a hf
     refine o_v hf hh (yv_move rfl) ?_; clear hf a; intro a hf
     refine o_v hf hh (yv_move rfl) ?_; clear hf a; intro a hf
     refine o_v hf hh (yv_bin rfl rfl rfl) ?_; clear hf a; intro a hf
     refine o_v hf hh (y_lds Try.ag_37 rfl) ?_; clear hf a; intro a hf
     refine o_call hf Try.en_40 rfl rfl rfl (p40 d p _ (hA.ext hh.ext)) ?_; clear hf a; intro v a w hR hf
     obtain ⟨rfl, hx⟩ := hR; replace hh := hh.more hx; clear hx
     refine o_v hf hh (yv_not rfl) ?_; clear hf a; intro a hf
     refine o_v hf hh (yv_cast (yv_eqb Try.ub_4 rfl rfl) (congrArg Value.bool e4)) ?_; clear hf a; intro a hf
     refine o_v hf hh (y_pt rfl rfl) ?_; clear hf a; intro a hf
     refine o_v hf hh (yv_move rfl) ?_; clear hf a; intro a hf
     refine o_v hf hh (yv_move rfl) ?_; clear hf a; intro a hf
     refine o_v hf hh (yv_bin rfl rfl rfl) ?_; clear hf a; intro a hf
     refine o_v hf hh (yv_move rfl) ?_; clear hf a; intro a hf
     refine guard_split hf (t := 71) rfl (fun hg21 => ?_) (fun hg21 => ?_)
     ·have hG21 := hg21; try simp only [gS] at hG21
      refine o_off hf ?_; clear hf a; intro a hf
      refine o_off hf ?_; clear hf a; intro a hf
      refine o_v hf hh (y_pt rfl rfl) ?_; clear hf a; intro a hf
      refine o_v hf hh (y_pt rfl rfl) ?_; clear hf a; intro a hf
      refine o_v hf hh (yv_move rfl) ?_; clear hf a; intro a hf
      refine o_call hf Try.en_14 rfl rfl rfl (p14 _) ?_; clear hf a; intro v a w hR hf
      obtain ⟨rfl, hx⟩ := hR; replace hh := hh.more hx; clear hx
      refine o_v hf hh (y_pt rfl rfl) ?_; clear hf a; intro a hf
      refine o_v hf hh (yv_assign rfl) ?_; clear hf a; intro a hf
      refine o_end ?_
      refine sy_ret ?_
      refine then_r ?_
      refine ret_r hf rfl rfl ?_
      first
        | exact ⟨rfl, hh.ext⟩
        | exact ⟨rfl, hx0.trans hh.ext⟩
        | exact ⟨rfl, hx0.trans (hh8.ext.trans hh.ext)⟩
        | (exfalso; clear hf hh; omega)
        | (exfalso; clear hf hh; rcases e3 with ⟨h1, h2⟩ | ⟨h1, h2⟩ <;> omega)
        | (exfalso; clear hf hh; rw [show j = l.length by omega, List.take_length] at *; simp_all; done)
        | omega
     ·have hG21 := hg21; try simp only [gS] at hG21
      refine o_v hf hh (yv_move rfl) ?_; clear hf a; intro a hf
      refine o_v hf hh (yv_bin rfl rfl rfl) ?_; clear hf a; intro a hf
      refine o_v hf hh (y_pf rfl rfl) ?_; clear hf a; intro a hf
      refine o_v hf hh (y_pt rfl rfl) ?_; clear hf a; intro a hf
      refine o_v hf hh (yv_move rfl) ?_; clear hf a; intro a hf
      refine guard_split hf (t := 76) rfl (fun hg24 => ?_) (fun hg24 => ?_)
      ·have hG24 := hg24; try simp only [gS] at hG24
       refine o_call hf Try.en_14 rfl rfl rfl (p14 _) ?_; clear hf a; intro v a w hR hf
       obtain ⟨rfl, hx⟩ := hR; replace hh := hh.more hx; clear hx
       refine o_v hf hh (y_pt rfl rfl) ?_; clear hf a; intro a hf
       refine o_v hf hh (yv_assign rfl) ?_; clear hf a; intro a hf
       refine o_end ?_
       refine sy_ret ?_
       refine then_r ?_
       refine ret_r hf rfl rfl ?_
       first
         | exact ⟨rfl, hh.ext⟩
         | exact ⟨rfl, hx0.trans hh.ext⟩
         | exact ⟨rfl, hx0.trans (hh8.ext.trans hh.ext)⟩
         | (exfalso; clear hf hh; omega)
         | (exfalso; clear hf hh; rcases e3 with ⟨h1, h2⟩ | ⟨h1, h2⟩ <;> omega)
         | (exfalso; clear hf hh; rw [show j = l.length by omega, List.take_length] at *; simp_all; done)
         | omega
      ·have hG24 := hg24; try simp only [gS] at hG24
       refine o_off hf ?_; clear hf a; intro a hf
       refine o_v hf hh (y_pf rfl rfl) ?_; clear hf a; intro a hf
       refine o_v hf hh (yv_assign rfl) ?_; clear hf a; intro a hf
       refine o_end ?_
       refine sy_ret ?_
       refine then_r ?_
       refine ret_r hf rfl rfl ?_
       first
         | exact ⟨rfl, hh.ext⟩
         | exact ⟨rfl, hx0.trans hh.ext⟩
         | exact ⟨rfl, hx0.trans (hh8.ext.trans hh.ext)⟩
         | (exfalso; clear hf hh; omega)
         | (exfalso; clear hf hh; rcases e3 with ⟨h1, h2⟩ | ⟨h1, h2⟩ <;> omega)
         | (exfalso; clear hf hh; rw [show j = l.length by omega, List.take_length] at *; simp_all; done)
         | omega
    ·have hG15 := hg15; try simp only [gS] at hG15
     refine sy_skip ?_
     refine then_n ?_
     refine sy_seq ?_
     refine sy_seq ?_
     have he : allE d k = 0 := by assumption
     obtain ⟨hok, hkd⟩ := lead_facts he
     have hO := royB_iff.1 hok
     have hnt := hO.nt; have hnp := hO.np
     have hkd2 := hkd
     unfold isKd inI at hkd2
     simp only [Bool.and_eq_true, decide_eq_true_eq] at hkd2
     obtain ⟨q, rfl⟩ : ∃ q : Nat, k = q := ⟨k.toNat, by omega⟩
     obtain ⟨x, hx⟩ := ex_of (l := d.prices) (i := q) (by omega)
     have ep : priceN d q = x := getD_at hx
     refine sy_ops ?_
     refine o_v hf hh (y_lds Try.ag_37 rfl) ?_; clear hf a; intro a hf
     refine o_call hf Try.en_40 rfl rfl rfl (p40 d p _ (hA.ext hh.ext)) ?_; clear hf a; intro v a w hR hf
     rw [hok] at hR
     obtain ⟨rfl, hx⟩ := hR; replace hh := hh.more hx; clear hx
     refine o_v hf hh (yv_not rfl) ?_; clear hf a; intro a hf
     refine o_v hf hh (yv_move rfl) ?_; clear hf a; intro a hf
     refine o_v hf hh (y_lds Try.ag_37 rfl) ?_; clear hf a; intro a hf
     refine o_v hf hh (yv_move rfl) ?_; clear hf a; intro a hf
     refine o_call hf Try.en_43 rfl rfl rfl (p43 d p q _ hA.n2) ?_; clear hf a; intro v a w hR hf
     rw [hkd] at hR
     obtain ⟨rfl, hx⟩ := hR; replace hh := hh.more hx; clear hx
     refine o_v hf hh (yv_not rfl) ?_; clear hf a; intro a hf
     refine o_v hf hh (y_pf rfl rfl) ?_; clear hf a; intro a hf
     refine o_end ?_
     refine c_f hf ?_
     refine sy_skip ?_
     refine then_n ?_
     refine sy_sq ?_
     refine o_v hf hh (y_lds Try.ag_37 rfl) ?_; clear hf a; intro a hf
     refine o_v hf hh (yv_move rfl) ?_; clear hf a; intro a hf
     refine o_call hf Try.en_42 rfl rfl rfl (p42 d p q _ (hA.ext hh.ext) hO) ?_; clear hf a; intro v a w hR hf
     obtain ⟨Xc, hOc, hx⟩ := hR; obtain ⟨oac, cpc, rfl⟩ := own_val hOc
     have hNc := nat_own hOc hx.get
     replace hh := hh.more hx.ext; clear hx
     have hNl := nat_own hOl fun q hq => hh.get q (by simp [hq])
     have q3 := hh.at (i := 1) rfl
     have q9 := hh.at (i := 0) rfl
     have hx0 := hh.ext
     have hA9 := hA.ext hx0
     have hY9 := hY.ext hx0
     obtain ⟨w9, rfl⟩ : ∃ z, z = w := ⟨_, rfl⟩
     clear hh
     have hh := Hp.init w9 []
     have hmem := lea_mem hO q
     have hloF := lea_lo hO q
     obtain ⟨ll, hll⟩ : ∃ ll, ll = leaV d q := ⟨_, rfl⟩
     rw [← leaV_ok he, ← hll] at hmem hloF
     rw [← hll] at hNl hf
     rw [allV_ok he] at q9
     obtain ⟨lo, hlo⟩ : ∃ lo, lo = loL ((reachL d q).map (totV d (priceN d q))) := ⟨_, rfl⟩
     obtain ⟨hi2, hhi⟩ : ∃ hi, hi = hiL ((reachL d q).map (totV d (priceN d q))) := ⟨_, rfl⟩
     rw [← hlo, ← hhi] at q9
     rw [← hlo] at hloF
     obtain ⟨g1, g2, g3⟩ := tru_facts hO hmem
     obtain ⟨cs, hcs⟩ : ∃ cs, cs = csL d q := ⟨_, rfl⟩
     obtain ⟨ws, hws⟩ : ∃ ws, ws = wsL d q := ⟨_, rfl⟩
     have hlen : cs.length = ws.length := by rw [hcs, hws, cs_len]
     have hw12 : ws.length ≤ 12 := by rw [hws]; exact ws_len d q
     rw [← hcs] at hNc hf
     rw [← hws] at g3
     have hlc : ll.length = cs.length := by omega
     refine o_v hf hh (yv_assign rfl) ?_; clear hf a; intro a hf
     refine o_end ?_
     refine sy_seq ?_
     refine sy_sq ?_
     refine o_v hf hh (yv_move rfl) ?_; clear hf a; intro a hf
     refine o_v hf hh (yv_len Try.se_22 rfl) ?_; clear hf a; intro a hf
     refine o_v hf hh (yv_move rfl) ?_; clear hf a; intro a hf
     refine o_v hf hh (yv_len Try.se_22 rfl) ?_; clear hf a; intro a hf
     refine o_v hf hh (yv_bin rfl rfl rfl) ?_; clear hf a; intro a hf
     refine o_end ?_
     refine c_f hf ?_
     refine sy_skip ?_
     refine then_n ?_
     refine sy_seq ?_
     refine sy_sq ?_
     refine o_v hf hh (yv_move rfl) ?_; clear hf a; intro a hf
     refine o_v hf hh (yv_len Try.se_22 rfl) ?_; clear hf a; intro a hf
     refine o_v hf hh (yv_move rfl) ?_; clear hf a; intro a hf
     refine o_end ?_
     refine sy_block ?_
     refine sy_loopH (σ := Nat) [6, 12, 13, 14, 16, 98, 99, 100, 101, 102, 103, 104, 105, 106, 107, 108, 109, 110, 111, 112, 113, 114, 115, 116, 117, 118, 119, 120, 121, 122, 123, 124] (fun i => [(98, .int .i64 (i : Nat))]) (fun i => fun w' => i ≤ cs.length ∧ Hp w9 [] [] w') (fun i => cs.length - i) (0) hf ?_ ?_ ?_
     · repeat' (first | exact True.intro | refine And.intro rfl ?_)
     · exact ⟨Nat.zero_le _, hh⟩
     ·rintro i a w ⟨hi, hh⟩ hf
      refine sy_sq ?_
      refine o_v hf hh (yv_bin rfl rfl rfl) ?_; clear hf a; intro a hf
      refine o_end ?_
      refine sy_seq ?_
      refine sy_cond hf rfl (fun hg29 => ?_) (fun hg29 => ?_)
      ·have hG29 := hg29; try simp only [gS] at hG29
       refine sy_skip ?_
       refine then_n ?_
       refine sy_seq ?_
       refine sy_block ?_
       refine sy_seq ?_
       obtain ⟨c, hc⟩ := ex_of (l := cs) (i := i) (by omega)
       obtain ⟨wn, hwn⟩ := ex_of (l := ws) (i := i) (by omega)
       obtain ⟨g, hg⟩ := ex_of (l := ll) (i := i) (by omega)
       obtain ⟨blkc, offc, ccc, Tc, frc, e, hbc, hcc⟩ := hNc i c hc; subst e
       have hgw : g ∈ clrL d.terms.length wn := tru_at hmem hg (by rw [← hws]; exact hwn)
       refine sy_ops ?_
       refine o_v hf hh (yv_move rfl) ?_; clear hf a; intro a hf
       refine o_v hf hh (y_ix Try.se_22 rfl rfl) ?_; clear hf a; intro a hf
       refine o_v hf hh (y_ld Try.sc_3 rfl) ?_; clear hf a; intro a hf
       refine o_v hf hh (yv_assign rfl) ?_; clear hf a; intro a hf
       refine o_v hf hh (yv_assign rfl) ?_; clear hf a; intro a hf
       refine o_end ?_
       refine sy_sq ?_
       refine o_v hf hh (yv_assign rfl) ?_; clear hf a; intro a hf
       refine o_end ?_
       refine sy_seq ?_
       refine sy_sq ?_
       refine o_v hf hh (y_lds Try.ag_37 rfl) ?_; clear hf a; intro a hf
       refine o_v hf hh (yv_move rfl) ?_; clear hf a; intro a hf
       refine o_v hf hh (yv_move rfl) ?_; clear hf a; intro a hf
       refine o_call hf Try.en_44 rfl rfl rfl (p44 d p q c _ (hA9.ext hh.ext)) ?_; clear hf a; intro v a w hR hf
       obtain ⟨X5, hO5, hx⟩ := hR; rw [claW hO (by rw [← hcs]; exact hc) (by rw [← hws]; exact hwn)] at hO5
       obtain ⟨l, hl⟩ : ∃ l, l = clrL d.terms.length wn := ⟨_, rfl⟩
       rw [← hl] at hO5 hgw
       obtain ⟨oa5, cp5, rfl⟩ := own_val hO5
       have hll4 : l.length ≤ 4 := by
         rw [hl]; unfold clrL
         refine Nat.le_trans (List.length_filter_le _ _) ?_
         rw [List.length_range]; exact hnt
       replace hh := hh.join hx; clear hx
       rw [List.append_nil] at hh
       refine o_v hf hh (yv_len Try.se_22 rfl) ?_; clear hf a; intro a hf
       refine o_v hf hh (yv_move rfl) ?_; clear hf a; intro a hf
       refine o_end ?_
       refine sy_block ?_
       refine sy_loopH (σ := Nat) [14, 16, 108, 109, 110, 111, 112, 113, 114, 115, 116, 117, 118, 119, 120, 121] (fun j => [(14, .bool (decide (g ∈ l.take j))), (108, .int .i64 (j : Nat))]) (fun j => fun w' => j ≤ l.length ∧ Hp w9 [] X5 w') (fun j => l.length - j) (0) hf ?_ ?_ ?_
       · exact ⟨congrArg (fun z => some (Value.bool z)) (by simp), rfl, True.intro⟩
       · exact ⟨Nat.zero_le _, hh⟩
       ·rintro j a w ⟨hj, hh⟩ hf
        refine sy_sq ?_
        refine o_v hf hh (yv_bin rfl rfl rfl) ?_; clear hf a; intro a hf
        refine o_end ?_
        refine sy_seq ?_
        refine sy_cond hf rfl (fun hg32 => ?_) (fun hg32 => ?_)
        ·have hG32 := hg32; try simp only [gS] at hG32
         refine sy_skip ?_
         refine then_n ?_
         refine sy_seq ?_
         refine sy_block ?_
         refine sy_seq ?_
         obtain ⟨z, hz⟩ := ex_of (l := l) (i := j) (by omega)
         have hti : decide (g ∈ l.take (j + 1)) = (decide (g ∈ l.take j) || decide (g = z)) := by rw [Bool.eq_iff_iff]; simp [take_in (g := g) hz]
         obtain ⟨blkt, offt, cct, Tt, frt, e5, hbt5, hct5⟩ := nat_own hO5 (fun q hq => hh.get q hq) j z hz; subst e5
         obtain ⟨blkl, offl, ccl, Tl, frl, e6, hbl, hcl⟩ := hNl i g hg; subst e6
         refine sy_ops ?_
         refine o_v hf hh (y_ix Try.se_22 rfl rfl) ?_; clear hf a; intro a hf
         refine o_w hf (yv_ldw Try.sc_3 rfl hbt5 hct5) ?_; clear hf a; intro a hf
         refine o_v hf hh (yv_assign rfl) ?_; clear hf a; intro a hf
         refine o_end ?_
         refine sy_ops ?_
         refine o_v hf hh (yv_move rfl) ?_; clear hf a; intro a hf
         refine o_v hf hh (yv_move rfl) ?_; clear hf a; intro a hf
         refine guard_split hf (t := 113) rfl (fun hg35 => ?_) (fun hg35 => ?_)
         ·have hG35 := hg35; try simp only [gS] at hG35
          refine o_off hf ?_; clear hf a; intro a hf
          refine o_off hf ?_; clear hf a; intro a hf
          refine o_off hf ?_; clear hf a; intro a hf
          refine o_off hf ?_; clear hf a; intro a hf
          refine o_off hf ?_; clear hf a; intro a hf
          refine o_off hf ?_; clear hf a; intro a hf
          refine o_v hf hh (y_pt rfl rfl) ?_; clear hf a; intro a hf
          refine o_v hf hh (yv_assign rfl) ?_; clear hf a; intro a hf
          refine ops_end ?_
          refine blk_n ?_
          refine then_n ?_
          refine sy_ops ?_
          refine o_v hf hh (y_add rfl rfl) ?_; clear hf a; intro a hf
          refine o_v hf hh (yv_move rfl) ?_; clear hf a; intro a hf
          refine ops_end ?_
          refine then_n ?_
          refine ⟨j + 1, ⟨⟨by omega, hh⟩, hf.head ⟨congrArg (fun z => some (Value.bool z)) ?_, rfl, True.intro⟩ (Keep.cons rfl (Keep.cons rfl (Keep.cons rfl (Keep.cons rfl (Keep.cons rfl (Keep.cons rfl (Keep.cons rfl (Keep.cons rfl (Keep.cons rfl (Keep.cons rfl (Keep.cons rfl (Keep.cons rfl (Keep.cons rfl (Keep.cons rfl (Keep.cons rfl (Keep.cons rfl (Keep.app rfl (Keep.rm rfl Keep.base))))))))))))))))))⟩, by omega⟩
          clear hf hh
          rw [hti]
          first
            | (simp_all; done)
            | (rw [decide_eq_false (p := g ∈ l.take j) (by assumption), Bool.false_or]; exact decide_eq_decide.2 ⟨fun h => by omega, fun h => by omega⟩)
         ·have hG35 := hg35; try simp only [gS] at hG35
          refine o_v hf hh (yv_move rfl) ?_; clear hf a; intro a hf
          refine o_v hf hh (yv_move rfl) ?_; clear hf a; intro a hf
          refine o_v hf hh (yv_move rfl) ?_; clear hf a; intro a hf
          refine o_v hf hh (y_ix Try.se_22 rfl rfl) ?_; clear hf a; intro a hf
          refine o_v hf hh (y_ld Try.sc_3 rfl) ?_; clear hf a; intro a hf
          refine o_v hf hh (yv_bin rfl rfl rfl) ?_; clear hf a; intro a hf
          refine o_v hf hh (y_pf rfl rfl) ?_; clear hf a; intro a hf
          refine o_v hf hh (yv_assign rfl) ?_; clear hf a; intro a hf
          refine ops_end ?_
          refine blk_n ?_
          refine then_n ?_
          refine sy_ops ?_
          refine o_v hf hh (y_add rfl rfl) ?_; clear hf a; intro a hf
          refine o_v hf hh (yv_move rfl) ?_; clear hf a; intro a hf
          refine ops_end ?_
          refine then_n ?_
          refine ⟨j + 1, ⟨⟨by omega, hh⟩, hf.head ⟨congrArg (fun z => some (Value.bool z)) ?_, rfl, True.intro⟩ (Keep.cons rfl (Keep.cons rfl (Keep.cons rfl (Keep.cons rfl (Keep.cons rfl (Keep.cons rfl (Keep.cons rfl (Keep.cons rfl (Keep.cons rfl (Keep.cons rfl (Keep.cons rfl (Keep.cons rfl (Keep.cons rfl (Keep.cons rfl (Keep.cons rfl (Keep.cons rfl (Keep.app rfl (Keep.rm rfl Keep.base))))))))))))))))))⟩, by omega⟩
          clear hf hh
          rw [hti]
          first
            | (simp_all; done)
            | (rw [decide_eq_false (p := g ∈ l.take j) (by assumption), Bool.false_or]; exact decide_eq_decide.2 ⟨fun h => by omega, fun h => by omega⟩)
        ·have hG32 := hg32; try simp only [gS] at hG32
         refine sy_exit ?_
         refine then_e ?_
         refine then_e ?_
         refine blk_e ?_
         refine then_n ?_
         refine sy_sq ?_
         refine o_v hf hh (yv_move rfl) ?_; clear hf a; intro a hf
         refine o_v hf hh (yv_not rfl) ?_; clear hf a; intro a hf
         refine o_end ?_
         refine sy_cond hf rfl (fun hg38 => ?_) (fun hg38 => ?_)
         ·have hG38 := hg38; try simp only [gS] at hG38
          refine sy_sq ?_
          refine o_v hf hh (yv_assign rfl) ?_; clear hf a; intro a hf
          refine o_end ?_
          refine sy_ret ?_
          refine blk_r ?_
          refine then_r ?_
          refine then_r ?_
          refine blk_r ?_
          refine then_r ?_
          refine ret_r hf rfl rfl ?_
          first
            | exact ⟨rfl, hh.ext⟩
            | exact ⟨rfl, hx0.trans hh.ext⟩
            | exact ⟨rfl, hx0.trans (hh8.ext.trans hh.ext)⟩
            | (exfalso; clear hf hh; omega)
            | (exfalso; clear hf hh; rcases e3 with ⟨h1, h2⟩ | ⟨h1, h2⟩ <;> omega)
            | (exfalso; clear hf hh; rw [show j = l.length by omega, List.take_length] at *; simp_all; done)
            | omega
         ·have hG38 := hg38; try simp only [gS] at hG38
          refine sy_skip ?_
          refine blk_n ?_
          refine then_n ?_
          refine sy_ops ?_
          refine o_v hf hh (y_add rfl rfl) ?_; clear hf a; intro a hf
          refine o_v hf hh (yv_move rfl) ?_; clear hf a; intro a hf
          refine ops_end ?_
          refine then_n ?_
          exact ⟨i + 1, ⟨⟨by omega, hh.less (List.nil_sublist _)⟩, (hf.head (by repeat' (first | exact True.intro | refine And.intro rfl ?_)) (Keep.cons rfl (Keep.cons rfl (Keep.cons rfl (Keep.cons rfl (Keep.cons rfl (Keep.app rfl (Keep.rm rfl (Keep.cons rfl (Keep.cons rfl (Keep.cons rfl (Keep.cons rfl (Keep.cons rfl (Keep.cons rfl (Keep.cons rfl (Keep.cons rfl (Keep.cons rfl (Keep.cons rfl (Keep.cons rfl (Keep.cons rfl (Keep.cons rfl (Keep.app rfl (Keep.rm rfl Keep.base)))))))))))))))))))))))⟩, by omega⟩
      ·have hG29 := hg29; try simp only [gS] at hG29
       refine sy_exit ?_
       refine then_e ?_
       refine then_e ?_
       refine blk_e ?_
       refine then_n ?_
       refine sy_sq ?_
       refine o_v hf hh (y_lds Try.ag_37 rfl) ?_; clear hf a; intro a hf
       refine o_v hf hh (yv_move rfl) ?_; clear hf a; intro a hf
       refine o_v hf hh (yv_move rfl) ?_; clear hf a; intro a hf
       refine o_call hf Try.en_41 rfl rfl rfl (p41 d p q y sy cy _ (hA9.ext hh.ext) hO (hY9.ext hh.ext) hy0 hyl hyb) ?_; clear hf a; intro v a w hR hf
       obtain ⟨t, Xt, htm, hOt, hx⟩ := hR; obtain ⟨oat, cpt, rfl⟩ := own_val hOt
       have hNt := nat_own hOt hx.get
       have hh8 := hh.more hx.ext; clear hx hh
       replace q3 := hh8.old q3
       replace q9 := hh8.old q9
       replace hNl := hNl.ext hh8.ext
       replace hA9 := hA9.ext hh8.ext
       obtain ⟨w8, rfl⟩ : ∃ z, z = w := ⟨_, rfl⟩
       have hh := Hp.init w8 []
       obtain ⟨g4, g5, g6⟩ := tru_facts hO htm
       have htl : t.length = ll.length := by rw [g6, ← hws]; exact g3.symm
       have hsp := tru_span htm
       obtain ⟨N, hN⟩ : ∃ N, N = totF2 d (priceN d q) t := ⟨_, rfl⟩
       rw [← hN, ← hlo, ← hhi] at hsp
       have hN2 : totV d x (cnt (0, 0, 0, 0) t) = N := by rw [hN, ep]; rfl
       have hL2 : totV d x (cnt (0, 0, 0, 0) ll) = lo := by rw [← hloF, ep]; rfl
       have hfst : N = lo → t = ll ∨ lexlt ll t := fun h => by
         have h1 := lea_first hO htm (by rw [← hN, ← hlo]; exact h)
         rw [← leaV_ok he, ← hll] at h1
         exact h1
       refine o_v hf hh (yv_assign rfl) ?_; clear hf a; intro a hf
       refine o_end ?_
       refine sy_sq ?_
       refine o_v hf hh (y_lds Try.ag_37 rfl) ?_; clear hf a; intro a hf
       refine o_v hf hh (yv_move rfl) ?_; clear hf a; intro a hf
       refine o_v hf hh (yv_move rfl) ?_; clear hf a; intro a hf
       refine o_call hf Try.en_45 rfl rfl rfl (p45 d p q x t _ _ _ (hA9.ext hh.ext) hO hx (hNt.ext hh.ext) g4 g5) ?_; clear hf a; intro v a w hR hf
       rw [hN2] at hR
       obtain ⟨rfl, hx⟩ := hR; replace hh := hh.more hx; clear hx
       refine o_v hf hh (yv_assign rfl) ?_; clear hf a; intro a hf
       refine o_end ?_
       refine sy_seq ?_
       refine sy_seq ?_
       refine sy_tree1 (.q 0 0 (.p 1 (.p 2 (.p 4 (.q 0 5 (.e1 3 (.p 6 (.p 7 (.p 8 (.q 0 9 (.p 10 (.q 0 11 (.p 12 (.p 13 (.p 14 (.p 15 (.p 16 (.q 0 17 (.p 18 (.p 19 (.p 20 (.p 21 (.p 22 (.q 0 23 (.p 24 (.p 25 (.fin))))))))))))))))))))))))))) [] Try.follows (by kernel_rfl) hh (fun w hh => ?_)
       refine mc_q rfl rfl hh hf (y_lds Try.ag_37 rfl) (.inl rfl) rfl rfl ?_; clear hf a; intro a hf
       refine mc_p rfl   hf (yv_move rfl) (.inl rfl) rfl rfl ?_; clear hf a; intro a hf
       refine mc_p rfl   hf (yv_move rfl) (.inl rfl) rfl rfl ?_; clear hf a; intro a hf
       refine mc_p rfl   hf (yv_fieldAddr Try.fo_43_0 rfl) (.inl rfl) rfl rfl ?_; clear hf a; intro a hf
       refine mc_q rfl rfl hh hf (y_ld Try.sc_3 rfl) (.inl rfl) rfl rfl ?_; clear hf a; intro a hf
       refine mc_e rfl fun Q1 => ?_
       refine o_call hf Try.en_45 rfl rfl rfl (p45 d p q x ll _ _ _ (hA9.ext hh.ext) hO hx (hNl.ext hh.ext) g1 g2) ?_; clear hf a; intro v a w hR hf
       rw [hL2] at hR
       obtain ⟨rfl, hx⟩ := hR; replace hh := hh.more hx; clear hx
       refine ops_end ?_
       refine then_n ⟨⟨fun _ _ => hh, trivial⟩, ?_⟩
       refine mc_p rfl   hf (yv_bin rfl rfl rfl) (.inl rfl) rfl rfl ?_; clear hf a; intro a hf
       refine mc_p rfl   hf (yv_move rfl) (.inl rfl) rfl rfl ?_; clear hf a; intro a hf
       refine mc_p rfl   hf (yv_fieldAddr Try.fo_43_0 rfl) (gon rfl rfl rfl (by first | assumption | rfl | (simp; done) | (simp; omega))) rfl rfl ?_; clear hf a; intro a hf
       refine mc_q rfl rfl hh hf (y_ld Try.sc_3 rfl) (gon rfl rfl rfl (by first | assumption | rfl | (simp; done) | (simp; omega))) rfl rfl ?_; clear hf a; intro a hf
       refine mc_p rfl   hf (yv_fieldAddr Try.fo_43_1 rfl) (gon rfl rfl rfl (by first | assumption | rfl | (simp; done) | (simp; omega))) rfl rfl ?_; clear hf a; intro a hf
       refine mc_q rfl rfl hh hf (y_ld Try.sc_3 rfl) (gon rfl rfl rfl (by first | assumption | rfl | (simp; done) | (simp; omega))) rfl rfl ?_; clear hf a; intro a hf
       refine mc_p rfl   hf (yv_bin rfl rfl rfl) (gon rfl rfl rfl (by first | assumption | rfl | (simp; done) | (simp; omega))) rfl rfl ?_; clear hf a; intro a hf
       refine mc_p rfl   hf (y_pf rfl rfl) (.inl rfl) rfl rfl ?_; clear hf a; intro a hf
       refine mc_p rfl   hf (yv_move rfl) (.inl rfl) rfl rfl ?_; clear hf a; intro a hf
       refine guard_any hf (t := 147) rfl (fun hg44 => ?_) (fun hg44 => ?_)
       ·have hG44 := hg44; try simp only [gS] at hG44
        refine mc_off rfl hf (goff rfl rfl rfl (by first | assumption | rfl | (simp; done) | (simp; omega))) rfl rfl ?_; clear hf a; intro a hf
        refine mc_off rfl hf (goff rfl rfl rfl (by first | assumption | rfl | (simp; done) | (simp; omega))) rfl rfl ?_; clear hf a; intro a hf
        refine mc_offq rfl rfl hh hf (goff rfl rfl rfl (by first | assumption | rfl | (simp; done) | (simp; omega))) rfl rfl ?_; clear hf a; intro a hf
        refine mc_off rfl hf (goff rfl rfl rfl (by first | assumption | rfl | (simp; done) | (simp; omega))) rfl rfl ?_; clear hf a; intro a hf
        refine mc_p rfl   hf (y_pt rfl rfl) (.inl rfl) rfl rfl ?_; clear hf a; intro a hf
        refine mc_p rfl   hf (yv_move rfl) (.inl rfl) rfl rfl ?_; clear hf a; intro a hf
        refine mc_off rfl hf (goff rfl rfl rfl (by first | assumption | rfl | (simp; done) | (simp; omega))) rfl rfl ?_; clear hf a; intro a hf
        refine mc_off rfl hf (goff rfl rfl rfl (by first | assumption | rfl | (simp; done) | (simp; omega))) rfl rfl ?_; clear hf a; intro a hf
        refine mc_offq rfl rfl hh hf (goff rfl rfl rfl (by first | assumption | rfl | (simp; done) | (simp; omega))) rfl rfl ?_; clear hf a; intro a hf
        refine mc_off rfl hf (goff rfl rfl rfl (by first | assumption | rfl | (simp; done) | (simp; omega))) rfl rfl ?_; clear hf a; intro a hf
        refine mc_p rfl   hf (y_pt rfl rfl) (.inl rfl) rfl rfl ?_; clear hf a; intro a hf
        refine mc_end ?_
        refine then_n ?_
        refine c_t hf ?_
        refine sy_sq ?_
        refine o_v hf hh (yv_assign rfl) ?_; clear hf a; intro a hf
        refine o_end ?_
        refine sy_ret ?_
        refine then_r ?_
        refine ret_r hf rfl rfl ?_
        first
          | exact ⟨rfl, hh.ext⟩
          | exact ⟨rfl, hx0.trans hh.ext⟩
          | exact ⟨rfl, hx0.trans (hh8.ext.trans hh.ext)⟩
          | (exfalso; clear hf hh; omega)
          | (exfalso; clear hf hh; rcases e3 with ⟨h1, h2⟩ | ⟨h1, h2⟩ <;> omega)
          | (exfalso; clear hf hh; rw [show j = l.length by omega, List.take_length] at *; simp_all; done)
          | omega
       ·have hG44 := hg44; try simp only [gS] at hG44
        refine mc_p rfl   hf (yv_move rfl) (gon rfl rfl rfl (by first | assumption | rfl | (simp; done) | (simp; omega))) rfl rfl ?_; clear hf a; intro a hf
        refine mc_p rfl   hf (yv_fieldAddr Try.fo_43_0 rfl) (gon rfl rfl rfl (by first | assumption | rfl | (simp; done) | (simp; omega))) rfl rfl ?_; clear hf a; intro a hf
        refine mc_q rfl rfl hh hf (y_ld Try.sc_3 rfl) (gon rfl rfl rfl (by first | assumption | rfl | (simp; done) | (simp; omega))) rfl rfl ?_; clear hf a; intro a hf
        refine mc_p rfl   hf (yv_bin rfl rfl rfl) (gon rfl rfl rfl (by first | assumption | rfl | (simp; done) | (simp; omega))) rfl rfl ?_; clear hf a; intro a hf
        refine mc_p rfl   hf (y_pf rfl rfl) (.inl rfl) rfl rfl ?_; clear hf a; intro a hf
        refine mc_p rfl   hf (yv_move rfl) (.inl rfl) rfl rfl ?_; clear hf a; intro a hf
        refine guard_any hf (t := 153) rfl (fun hg46 => ?_) (fun hg46 => ?_)
        ·have hG46 := hg46; try simp only [gS] at hG46
         refine mc_off rfl hf (goff rfl rfl rfl (by first | assumption | rfl | (simp; done) | (simp; omega))) rfl rfl ?_; clear hf a; intro a hf
         refine mc_off rfl hf (goff rfl rfl rfl (by first | assumption | rfl | (simp; done) | (simp; omega))) rfl rfl ?_; clear hf a; intro a hf
         refine mc_offq rfl rfl hh hf (goff rfl rfl rfl (by first | assumption | rfl | (simp; done) | (simp; omega))) rfl rfl ?_; clear hf a; intro a hf
         refine mc_off rfl hf (goff rfl rfl rfl (by first | assumption | rfl | (simp; done) | (simp; omega))) rfl rfl ?_; clear hf a; intro a hf
         refine mc_p rfl   hf (y_pt rfl rfl) (.inl rfl) rfl rfl ?_; clear hf a; intro a hf
         refine mc_end ?_
         refine then_n ?_
         refine c_t hf ?_
         refine sy_sq ?_
         refine o_v hf hh (yv_assign rfl) ?_; clear hf a; intro a hf
         refine o_end ?_
         refine sy_ret ?_
         refine then_r ?_
         refine ret_r hf rfl rfl ?_
         first
           | exact ⟨rfl, hh.ext⟩
           | exact ⟨rfl, hx0.trans hh.ext⟩
           | exact ⟨rfl, hx0.trans (hh8.ext.trans hh.ext)⟩
           | (exfalso; clear hf hh; omega)
           | (exfalso; clear hf hh; rcases e3 with ⟨h1, h2⟩ | ⟨h1, h2⟩ <;> omega)
           | (exfalso; clear hf hh; rw [show j = l.length by omega, List.take_length] at *; simp_all; done)
           | omega
        ·have hG46 := hg46; try simp only [gS] at hG46
         refine mc_p rfl   hf (yv_move rfl) (gon rfl rfl rfl (by first | assumption | rfl | (simp; done) | (simp; omega))) rfl rfl ?_; clear hf a; intro a hf
         refine mc_p rfl   hf (yv_fieldAddr Try.fo_43_1 rfl) (gon rfl rfl rfl (by first | assumption | rfl | (simp; done) | (simp; omega))) rfl rfl ?_; clear hf a; intro a hf
         refine mc_q rfl rfl hh hf (y_ld Try.sc_3 rfl) (gon rfl rfl rfl (by first | assumption | rfl | (simp; done) | (simp; omega))) rfl rfl ?_; clear hf a; intro a hf
         refine mc_p rfl   hf (yv_bin rfl rfl rfl) (gon rfl rfl rfl (by first | assumption | rfl | (simp; done) | (simp; omega))) rfl rfl ?_; clear hf a; intro a hf
         refine mc_p rfl   hf (y_pf rfl rfl) (.inl rfl) rfl rfl ?_; clear hf a; intro a hf
         refine mc_end ?_
         refine then_n ?_
         refine sy_cond hf rfl (fun hg48 => ?_) (fun hg48 => ?_)
         ·have hG48 := hg48; try simp only [gS] at hG48
          refine sy_sq ?_
          refine o_v hf hh (yv_assign rfl) ?_; clear hf a; intro a hf
          refine o_end ?_
          refine sy_ret ?_
          refine then_r ?_
          refine ret_r hf rfl rfl ?_
          first
            | exact ⟨rfl, hh.ext⟩
            | exact ⟨rfl, hx0.trans hh.ext⟩
            | exact ⟨rfl, hx0.trans (hh8.ext.trans hh.ext)⟩
            | (exfalso; clear hf hh; omega)
            | (exfalso; clear hf hh; rcases e3 with ⟨h1, h2⟩ | ⟨h1, h2⟩ <;> omega)
            | (exfalso; clear hf hh; rw [show j = l.length by omega, List.take_length] at *; simp_all; done)
            | omega
         ·have hG48 := hg48; try simp only [gS] at hG48
          refine sy_skip ?_
          refine then_n ?_
          refine sy_seq ?_
          refine sy_sq ?_
          refine o_v hf hh (yv_move rfl) ?_; clear hf a; intro a hf
          refine o_v hf hh (yv_len Try.se_22 rfl) ?_; clear hf a; intro a hf
          refine o_v hf hh (yv_move rfl) ?_; clear hf a; intro a hf
          refine o_end ?_
          refine sy_block ?_
          refine sy_loopF (σ := Nat) [6, 19, 161, 162, 163, 164, 165, 166, 167, 168, 169, 170, 171, 172, 173, 174, 175, 176, 177, 178, 179, 180, 181, 182, 183, 184, 185, 186, 187, 188, 189, 190, 191] (fun i => [(161, .int .i64 (i : Nat))]) (fun i => i ≤ t.length ∧ ∀ j, j < i → N = lo → ll[j]? = t[j]?) (fun i => t.length - i) (0) hf hh ?_ ?_ ?_
          · repeat' (first | exact True.intro | refine And.intro rfl ?_)
          · exact ⟨Nat.zero_le _, fun j hj => absurd hj (by omega)⟩
          ·rintro i a w ⟨hi, hpr⟩ hf hh
           refine sy_sq ?_
           refine o_v hf hh (yv_bin rfl rfl rfl) ?_; clear hf a; intro a hf
           refine o_end ?_
           refine sy_seq ?_
           refine sy_cond hf rfl (fun hg50 => ?_) (fun hg50 => ?_)
           ·have hG50 := hg50; try simp only [gS] at hG50
            refine sy_skip ?_
            refine then_n ?_
            refine sy_seq ?_
            refine sy_block ?_
            refine sy_sq ?_
            refine o_v hf hh (yv_move rfl) ?_; clear hf a; intro a hf
            refine o_v hf hh (yv_assign rfl) ?_; clear hf a; intro a hf
            refine o_end ?_
            refine sy_seq ?_
            obtain ⟨z, hz⟩ := ex_of (l := t) (i := i) (by omega)
            obtain ⟨g, hg⟩ := ex_of (l := ll) (i := i) (by omega)
            obtain ⟨blkt, offt, cct, Tt, frt, e5, hbt, hct⟩ := hNt i z hz; subst e5
            obtain ⟨blkl, offl, ccl, Tl, frl, e6, hbl, hcl⟩ := hNl i g hg; subst e6
            refine sy_tree1 (.p 0 (.p 1 (.q 0 2 (.p 3 (.p 4 (.p 5 (.p 6 (.p 7 (.q 0 8 (.p 9 (.p 10 (.p 11 (.q 0 12 (.p 13 (.p 14 (.fin)))))))))))))))) [] Try.follows (by kernel_rfl) hh (fun w hh => ?_)
            refine mc_p rfl   hf (yv_move rfl) (.inl rfl) rfl rfl ?_; clear hf a; intro a hf
            refine mc_p rfl   hf (yv_fieldAddr Try.fo_43_0 rfl) (.inl rfl) rfl rfl ?_; clear hf a; intro a hf
            refine mc_q rfl rfl hh hf (y_ld Try.sc_3 rfl) (.inl rfl) rfl rfl ?_; clear hf a; intro a hf
            refine mc_p rfl   hf (yv_bin rfl rfl rfl) (.inl rfl) rfl rfl ?_; clear hf a; intro a hf
            refine mc_p rfl   hf (yv_move rfl) (.inl rfl) rfl rfl ?_; clear hf a; intro a hf
            refine guard_any hf (t := 168) rfl (fun hg52 => ?_) (fun hg52 => ?_)
            ·have hG52 := hg52; try simp only [gS] at hG52
             refine mc_p rfl   hf (yv_move rfl) (gon rfl rfl rfl (by first | assumption | rfl | (simp; done) | (simp; omega))) rfl rfl ?_; clear hf a; intro a hf
             refine mc_p rfl   hf (yv_move rfl) (gon rfl rfl rfl (by first | assumption | rfl | (simp; done) | (simp; omega))) rfl rfl ?_; clear hf a; intro a hf
             refine mc_p rfl   hf (y_ix Try.se_22 rfl rfl) (gon rfl rfl rfl (by first | assumption | rfl | (simp; done) | (simp; omega))) rfl rfl ?_; clear hf a; intro a hf
             refine mc_q rfl rfl hh hf (y_ld Try.sc_3 rfl) (gon rfl rfl rfl (by first | assumption | rfl | (simp; done) | (simp; omega))) rfl rfl ?_; clear hf a; intro a hf
             refine mc_p rfl   hf (yv_move rfl) (gon rfl rfl rfl (by first | assumption | rfl | (simp; done) | (simp; omega))) rfl rfl ?_; clear hf a; intro a hf
             refine mc_p rfl   hf (yv_move rfl) (gon rfl rfl rfl (by first | assumption | rfl | (simp; done) | (simp; omega))) rfl rfl ?_; clear hf a; intro a hf
             refine mc_p rfl   hf (y_ix Try.se_22 rfl rfl) (gon rfl rfl rfl (by first | assumption | rfl | (simp; done) | (simp; omega))) rfl rfl ?_; clear hf a; intro a hf
             refine mc_q rfl rfl hh hf (y_ld Try.sc_3 rfl) (gon rfl rfl rfl (by first | assumption | rfl | (simp; done) | (simp; omega))) rfl rfl ?_; clear hf a; intro a hf
             refine mc_p rfl   hf (yv_bin rfl rfl rfl) (gon rfl rfl rfl (by first | assumption | rfl | (simp; done) | (simp; omega))) rfl rfl ?_; clear hf a; intro a hf
             refine mc_p rfl   hf (y_pt rfl rfl) (.inl rfl) rfl rfl ?_; clear hf a; intro a hf
             refine mc_end ?_
             refine then_n ?_
             refine sy_cond hf rfl (fun hg54 => ?_) (fun hg54 => ?_)
             ·have hG54 := hg54; try simp only [gS] at hG54
              refine sy_seq ?_
              have hNl2 : N = lo := by assumption
              have hne : ¬ z = g := by omega
              have hlt : g < z := by
                rcases hfst hNl2 with h | h
                · rw [h, hg] at hz; cases hz; exact absurd rfl hne
                · exact lex_at h hg hz hne fun j hj => hpr j hj hNl2
              refine sy_tree1 (.p 0 (.p 1 (.p 2 (.q 0 3 (.p 4 (.p 5 (.p 6 (.q 0 7 (.p 8 (.p 9 (.e1 10 (.p 11 (.p 12 (.fin)))))))))))))) [] Try.follows (by kernel_rfl) hh (fun w hh => ?_)
              refine mc_p rfl   hf (yv_move rfl) (.inl rfl) rfl rfl ?_; clear hf a; intro a hf
              refine mc_p rfl   hf (yv_move rfl) (.inl rfl) rfl rfl ?_; clear hf a; intro a hf
              refine mc_p rfl   hf (y_ix Try.se_22 rfl rfl) (.inl rfl) rfl rfl ?_; clear hf a; intro a hf
              refine mc_q rfl rfl hh hf (y_ld Try.sc_3 rfl) (.inl rfl) rfl rfl ?_; clear hf a; intro a hf
              refine mc_p rfl   hf (yv_move rfl) (.inl rfl) rfl rfl ?_; clear hf a; intro a hf
              refine mc_p rfl   hf (yv_move rfl) (.inl rfl) rfl rfl ?_; clear hf a; intro a hf
              refine mc_p rfl   hf (y_ix Try.se_22 rfl rfl) (.inl rfl) rfl rfl ?_; clear hf a; intro a hf
              refine mc_q rfl rfl hh hf (y_ld Try.sc_3 rfl) (.inl rfl) rfl rfl ?_; clear hf a; intro a hf
              refine mc_p rfl   hf (yv_bin rfl rfl rfl) (.inl rfl) rfl rfl ?_; clear hf a; intro a hf
              refine mc_p rfl   hf (yv_move rfl) (.inl rfl) rfl rfl ?_; clear hf a; intro a hf
              refine mc_e rfl fun Q1 => ?_
              refine guard_any hf (t := 188) rfl (fun hg56 => ?_) (fun hg56 => ?_)
              ·have hG56 := hg56; try simp only [gS] at hG56
               refine o_call hf Try.en_14 rfl rfl rfl (p14 _) ?_; clear hf a; intro v a w hR hf
               obtain ⟨rfl, hx⟩ := hR; replace hh := hh.more hx; clear hx
               refine ops_end ?_
               refine then_n ⟨⟨fun _ _ => hh, trivial⟩, ?_⟩
               refine mc_p rfl   hf (y_pt rfl rfl) (.inl rfl) rfl rfl ?_; clear hf a; intro a hf
               refine mc_p rfl   hf (yv_assign rfl) (.inl rfl) rfl rfl ?_; clear hf a; intro a hf
               refine mc_end ?_
               refine then_n ?_
               refine sy_ret ?_
               refine blk_r ?_
               refine then_r ?_
               refine then_r ?_
               refine blk_r ?_
               refine then_r ?_
               refine ret_r hf rfl rfl ?_
               first
                 | exact ⟨rfl, hh.ext⟩
                 | exact ⟨rfl, hx0.trans hh.ext⟩
                 | exact ⟨rfl, hx0.trans (hh8.ext.trans hh.ext)⟩
                 | (exfalso; clear hf hh; omega)
                 | (exfalso; clear hf hh; rcases e3 with ⟨h1, h2⟩ | ⟨h1, h2⟩ <;> omega)
                 | (exfalso; clear hf hh; rw [show j = l.length by omega, List.take_length] at *; simp_all; done)
                 | omega
              ·have hG56 := hg56; try simp only [gS] at hG56
               refine o_off hf ?_; clear hf a; intro a hf
               refine ops_end ?_
               refine then_n ⟨⟨fun _ _ => hh, trivial⟩, ?_⟩
               refine mc_p rfl   hf (y_pf rfl rfl) (.inl rfl) rfl rfl ?_; clear hf a; intro a hf
               refine mc_p rfl   hf (yv_assign rfl) (.inl rfl) rfl rfl ?_; clear hf a; intro a hf
               refine mc_end ?_
               refine then_n ?_
               refine sy_ret ?_
               refine blk_r ?_
               refine then_r ?_
               refine then_r ?_
               refine blk_r ?_
               refine then_r ?_
               refine ret_r hf rfl rfl ?_
               first
                 | exact ⟨rfl, hh.ext⟩
                 | exact ⟨rfl, hx0.trans hh.ext⟩
                 | exact ⟨rfl, hx0.trans (hh8.ext.trans hh.ext)⟩
                 | (exfalso; clear hf hh; omega)
                 | (exfalso; clear hf hh; rcases e3 with ⟨h1, h2⟩ | ⟨h1, h2⟩ <;> omega)
                 | (exfalso; clear hf hh; rw [show j = l.length by omega, List.take_length] at *; simp_all; done)
                 | omega
             ·have hG54 := hg54; try simp only [gS] at hG54
              refine sy_skip ?_
              refine blk_n ?_
              refine then_n ?_
              refine sy_ops ?_
              refine o_v hf hh (y_add rfl rfl) ?_; clear hf a; intro a hf
              refine o_v hf hh (yv_move rfl) ?_; clear hf a; intro a hf
              refine ops_end ?_
              refine then_n ?_
              exact ⟨i + 1, ⟨⟨by omega, fun j hj hn => by
                rcases (show j < i ∨ j = i by omega) with h | h
                · exact hpr j h hn
                · subst h
                  rw [hz, hg]
                  congr 1
                  omega⟩, (hf.head (by repeat' (first | exact True.intro | refine And.intro rfl ?_)) (Keep.cons rfl (Keep.cons rfl (Keep.cons rfl (Keep.cons rfl (Keep.cons rfl (Keep.cons rfl (Keep.cons rfl (Keep.cons rfl (Keep.cons rfl (Keep.cons rfl (Keep.cons rfl (Keep.cons rfl (Keep.cons rfl (Keep.cons rfl (Keep.cons rfl (Keep.cons rfl (Keep.cons rfl (Keep.cons rfl (Keep.cons rfl (Keep.cons rfl (Keep.app rfl (Keep.rm rfl Keep.base))))))))))))))))))))))), hh⟩, by omega⟩
            ·have hG52 := hg52; try simp only [gS] at hG52
             refine mc_off rfl hf (goff rfl rfl rfl (by first | assumption | rfl | (simp; done) | (simp; omega))) rfl rfl ?_; clear hf a; intro a hf
             refine mc_off rfl hf (goff rfl rfl rfl (by first | assumption | rfl | (simp; done) | (simp; omega))) rfl rfl ?_; clear hf a; intro a hf
             refine mc_off rfl hf (goff rfl rfl rfl (by first | assumption | rfl | (simp; done) | (simp; omega))) rfl rfl ?_; clear hf a; intro a hf
             refine mc_offq rfl rfl hh hf (goff rfl rfl rfl (by first | assumption | rfl | (simp; done) | (simp; omega))) rfl rfl ?_; clear hf a; intro a hf
             refine mc_off rfl hf (goff rfl rfl rfl (by first | assumption | rfl | (simp; done) | (simp; omega))) rfl rfl ?_; clear hf a; intro a hf
             refine mc_off rfl hf (goff rfl rfl rfl (by first | assumption | rfl | (simp; done) | (simp; omega))) rfl rfl ?_; clear hf a; intro a hf
             refine mc_off rfl hf (goff rfl rfl rfl (by first | assumption | rfl | (simp; done) | (simp; omega))) rfl rfl ?_; clear hf a; intro a hf
             refine mc_offq rfl rfl hh hf (goff rfl rfl rfl (by first | assumption | rfl | (simp; done) | (simp; omega))) rfl rfl ?_; clear hf a; intro a hf
             refine mc_off rfl hf (goff rfl rfl rfl (by first | assumption | rfl | (simp; done) | (simp; omega))) rfl rfl ?_; clear hf a; intro a hf
             refine mc_p rfl   hf (y_pf rfl rfl) (.inl rfl) rfl rfl ?_; clear hf a; intro a hf
             refine mc_end ?_
             refine then_n ?_
             refine c_f hf ?_
             refine sy_skip ?_
             refine blk_n ?_
             refine then_n ?_
             refine sy_ops ?_
             refine o_v hf hh (y_add rfl rfl) ?_; clear hf a; intro a hf
             refine o_v hf hh (yv_move rfl) ?_; clear hf a; intro a hf
             refine ops_end ?_
             refine then_n ?_
             exact ⟨i + 1, ⟨⟨by omega, fun j hj hn => by
               rcases (show j < i ∨ j = i by omega) with h | h
               · exact hpr j h hn
               · subst h
                 rw [hz, hg]
                 congr 1
                 omega⟩, (hf.head (by repeat' (first | exact True.intro | refine And.intro rfl ?_)) (Keep.cons rfl (Keep.cons rfl (Keep.cons rfl (Keep.cons rfl (Keep.cons rfl (Keep.cons rfl (Keep.cons rfl (Keep.cons rfl (Keep.cons rfl (Keep.cons rfl (Keep.cons rfl (Keep.cons rfl (Keep.cons rfl (Keep.cons rfl (Keep.cons rfl (Keep.cons rfl (Keep.cons rfl (Keep.cons rfl (Keep.cons rfl (Keep.cons rfl (Keep.app rfl (Keep.rm rfl Keep.base))))))))))))))))))))))), hh⟩, by omega⟩
           ·have hG50 := hg50; try simp only [gS] at hG50
            refine sy_exit ?_
            refine then_e ?_
            refine then_e ?_
            refine blk_e ?_
            refine then_n ?_
            refine sy_sq ?_
            refine o_call hf Try.en_14 rfl rfl rfl (p14 _) ?_; clear hf a; intro v a w hR hf
            obtain ⟨rfl, hx⟩ := hR; replace hh := hh.more hx; clear hx
            refine o_v hf hh (yv_assign rfl) ?_; clear hf a; intro a hf
            refine o_end ?_
            refine sy_ret ?_
            refine ret_r hf rfl rfl ?_
            first
              | exact ⟨rfl, hh.ext⟩
              | exact ⟨rfl, hx0.trans hh.ext⟩
              | exact ⟨rfl, hx0.trans (hh8.ext.trans hh.ext)⟩
              | (exfalso; clear hf hh; omega)
              | (exfalso; clear hf hh; rcases e3 with ⟨h1, h2⟩ | ⟨h1, h2⟩ <;> omega)
              | (exfalso; clear hf hh; rw [show j = l.length by omega, List.take_length] at *; simp_all; done)
              | omega
end Go.Proofs.Ytkfkifkdncdhoaa
namespace Go.Proofs.Ytkfkifkdncdhoaa
open Go Go.Sy Go.RoyM Go.ChangeShapes Go.WideShapes Go.Deep Go.RowKit
theorem hs37 : Try.prog.underlying 37 = some (.struct (Try.prog.fieldsOf 37)) := by kernel_rfl
theorem fs37 : (Try.prog.fieldsOf 37).map (fun f => (f.offset, f.type)) = #[(0, 33), (1, 22), (2, 34), (3, 35), (4, 22)] := by kernel_rfl
theorem co37 : Try.prog.cellsOf 37 = 5 := by kernel_rfl
theorem co22 : Try.prog.cellsOf 22 = 1 := by kernel_rfl
theorem co33 : Try.prog.cellsOf 33 = 1 := by kernel_rfl
theorem co34 : Try.prog.cellsOf 34 = 1 := by kernel_rfl
theorem co35 : Try.prog.cellsOf 35 = 1 := by kernel_rfl
theorem un22 : Try.prog.underlying 22 = some (.slice 3) := by kernel_rfl
theorem un33 : Try.prog.underlying 33 = some (.slice 24) := by kernel_rfl
theorem un34 : Try.prog.underlying 34 = some (.slice 22) := by kernel_rfl
theorem un35 : Try.prog.underlying 35 = some (.slice 66) := by kernel_rfl
theorem un58 : Try.prog.underlying 58 = some (.slice 5) := by kernel_rfl
theorem un5 : Try.prog.underlying 5 = some (.int .u8) := by kernel_rfl
theorem hs24 : Try.prog.underlying 24 = some (.struct (Try.prog.fieldsOf 24)) := by kernel_rfl
theorem co24 : Try.prog.cellsOf 24 = 3 := by kernel_rfl
theorem fk24 : flK Try.prog .i64 9 24 = some 3 := by kernel_rfl
theorem fk66 : flK Try.prog .i64 9 66 = some 4 := by kernel_rfl
theorem fk3 : flK Try.prog .i64 9 3 = some 1 := by kernel_rfl
theorem fk5 : flK Try.prog .u8 9 5 = some 1 := by kernel_rfl
theorem un4 : Try.prog.underlying 4 = some .bool := by kernel_rfl
theorem own : ownKnob Try.prog.godebug = none := by kernel_rfl
def toTm (p : List Int) : TermD := match p with
  | [x, y, z] => ⟨x, y, z⟩
  | _ => ⟨0, 0, 0⟩
def toRp (p : List Int) : RepD := match p with
  | [x, y, z, t] => ⟨x, y, z, t⟩
  | _ => ⟨0, 0, 0, 0⟩
theorem tAt_flat {α : Type} {W : World} {sa : Option Addr} {l : List (List Int)} {n : Nat} {enc : α → List Value} {f : List Int → α} (hf : ∀ p ∈ l, enc (f p) = p.map (Value.int .i64)) (h : FlatAt W .i64 sa n l) : TAt n enc W sa (l.map f) := fun i s hi => by
  rw [List.getElem?_map] at hi
  cases hp : l[i]? with
  | none => rw [hp] at hi; cases hi
  | some p =>
    rw [hp] at hi
    cases hi
    obtain ⟨blk, off, c, T, fr, h1, h2, h3⟩ := h i p hp
    exact ⟨blk, off, c, T, fr, h1, h2, by rw [hf p (List.mem_of_getElem? hp)]; exact h3⟩
theorem iat_flat {W : World} {sa : Option Addr} {m : List Int} (h : FlatAt W .i64 sa 1 (m.map fun z => [z])) : IAt W sa m := fun i x hi => by
  obtain ⟨blk, off, c, T, fr, h1, h2, h3⟩ := h i [x] (by rw [List.getElem?_map, hi]; rfl)
  refine ⟨blk, off, c, T, fr, h1, h2, ?_⟩
  unfold cellsAt at h3
  cases hc : c[off + i * 1]? with
  | none => rw [hc] at h3; simp at h3
  | some v => rw [hc] at h3; simp [cellsAt] at h3; rw [Int.toNat_natCast, hc, h3]
theorem bat_flat {W : World} {sa : Option Addr} {m : List Int} (h : FlatAt W .u8 sa 1 (m.map fun z => [z])) : BAt W sa m := fun i x hi => by
  obtain ⟨blk, off, c, T, fr, h1, h2, h3⟩ := h i [x] (by rw [List.getElem?_map, hi]; rfl)
  refine ⟨blk, off, c, T, fr, h1, h2, ?_⟩
  unfold cellsAt at h3
  cases hc : c[off + i * 1]? with
  | none => rw [hc] at h3; simp at h3
  | some v => rw [hc] at h3; simp [cellsAt] at h3; rw [Int.toNat_natCast, hc, h3]
theorem toTm_enc {p : List Int} (h : p.length = 3) : tmC (toTm p) = p.map (Value.int .i64) := by
  match p, h with
  | [x, y, z], _ => rfl
theorem toRp_enc {p : List Int} (h : p.length = 4) : rpC (toRp p) = p.map (Value.int .i64) := by
  match p, h with
  | [x, y, z, t], _ => rfl
theorem len5 {l : List Value} (h : l.length = 5) : ∃ a b c d e, l = [a, b, c, d, e] := by
  match l, h with
  | [a, b, c, d, e], _ => exact ⟨a, b, c, d, e, rfl⟩
section
variable {H : Type} {enc : TypeId × Value → H} {W : World} {base : Nat} {spare : Nat → Bool} {held : Bool}
set_option maxRecDepth 100000 in
theorem openRoy {r : Reach} {b0 : Nat} {v : Value} {d : DataW H} {p : List MemPlace} (hv : Value.okWide Try.prog W r b0 37 v) (h : DataW.Trod enc Try.prog W base spare held 37 v d p) : ∃ (d : RoyD) (p : Pl), v = .agg (royC d p) ∧ RoyIn W d p := by
  obtain ⟨cs, rfl, hsz⟩ := okWide_struct hs37 hv
  obtain ⟨fuel, h⟩ := h
  obtain ⟨_, hf⟩ := trod_field hs37 h
  rw [fs37] at hf
  rw [co37] at hsz
  obtain ⟨l, rfl⟩ : ∃ l : List Value, cs = l.toArray := ⟨cs.toList, by simp⟩
  obtain ⟨c0, c1, c2, c3, c4, rfl⟩ := len5 (by simpa using hsz)
  replace hf : ∀ (i o : Nat) (u : TypeId) (c : Nat), (#[(0, 33), (1, 22), (2, 34), (3, 35), (4, 22)] : Array (Nat × TypeId))[i]? = some (o, u) → Try.prog.cellsOf u = c → ∃ n y, DataW.trod enc Try.prog W base spare held n u (([c0, c1, c2, c3, c4].drop o).take c) = some y := hf
  obtain ⟨_, _, g0⟩ := hf 0 0 33 1 rfl co33
  obtain ⟨_, _, g1⟩ := hf 1 1 22 1 rfl co22
  obtain ⟨_, _, g2⟩ := hf 2 2 34 1 rfl co34
  obtain ⟨_, _, g3⟩ := hf 3 3 35 1 rfl co35
  obtain ⟨_, _, g4⟩ := hf 4 4 22 1 rfl co22
  obtain ⟨l0, s0, a0, e0, m0, b0', f0⟩ := trod_slices un33 fk24 (by omega) g0
  obtain ⟨l1, s1, a1, e1, m1, b1, f1⟩ := trod_slices un22 fk3 (by omega) g1
  obtain ⟨l2, s2, a2, e2, m2, b2, f2⟩ := trod_slices2 un34 un22 co22 fk3 g2
  obtain ⟨l3, s3, a3, e3, m3, b3, f3⟩ := trod_slices un35 fk66 (by omega) g3
  obtain ⟨l4, s4, a4, e4, m4, b4, f4⟩ := trod_slices un22 fk3 (by omega) g4
  have hc2 := trod_cap un34 e2 g2
  have hc3 := trod_cap un35 e3 g3
  obtain ⟨i1, rfl⟩ := flat1 (W := W) (sa := s1) (fun p hp => (b1 p hp).1)
  obtain ⟨i4, rfl⟩ := flat1 (W := W) (sa := s4) (fun p hp => (b4 p hp).1)
  simp at e0 e1 e2 e3 e4
  subst e0; subst e1; subst e2; subst e3; subst e4
  refine ⟨⟨l0.map toTm, i1, l2, l3.map toRp, i4⟩, ⟨s0, s1, s2, s3, s4, a0, a1, a2, a3, a4⟩, by simp, ⟨tAt_flat (fun p hp => toTm_enc (b0' p hp).1) f0, iat_flat f1, fun i p hi => ?_, tAt_flat (fun p hp => toRp_enc (b3 p hp).1) f3, iat_flat f4, by simpa using m0, by simpa using m1, m2, by simpa using m3, by simpa using m4, fun p hp => (b2 p hp).1, by simpa using hc3, hc2⟩⟩
  obtain ⟨blk, off, c, T, fr, sb, cb, h1, h2, h3, h4⟩ := f2 i p hi
  exact ⟨blk, off, c, T, fr, sb, cb, h1, h2, by rw [Int.toNat_natCast, Nat.mul_one]; exact h3, iat_flat h4⟩
set_option maxRecDepth 100000 in
theorem openTm {r : Reach} {b0 : Nat} {v : Value} {d : DataW H} {p : List MemPlace} (hv : Value.okWide Try.prog W r b0 24 v) (h : DataW.Trod enc Try.prog W base spare held 24 v d p) : ∃ t : TermD, v = tmV t ∧ (-9223372036854775808 ≤ t.f ∧ t.f ≤ 9223372036854775807) ∧ (-9223372036854775808 ≤ t.u ∧ t.u ≤ 9223372036854775807) ∧ (-9223372036854775808 ≤ t.b ∧ t.b ≤ 9223372036854775807) := by
  obtain ⟨cs, rfl, hsz⟩ := okWide_struct hs24 hv
  obtain ⟨fuel, h⟩ := h
  obtain ⟨p, h1, h2, h3⟩ := trod_fl fk24 h
  match p, h1 with
  | [x, y, z], _ =>
    have e : cs = #[.int .i64 x, .int .i64 y, .int .i64 z] := by
      apply Array.ext'
      have h4 : cs.toList = [x, y, z].map (Value.int .i64) := h2
      rw [h4]; rfl
    subst e
    exact ⟨⟨x, y, z⟩, rfl, wf64 (h3 x (by simp)), wf64 (h3 y (by simp)), wf64 (h3 z (by simp))⟩
end
end Go.Proofs.Ytkfkifkdncdhoaa
