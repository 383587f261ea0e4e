/- Lemmas, in order: Marks, mirrored. MatchTurned, walked.. -/
import Derived.Test.YtemmhdgaagaglaaDoorQ15
namespace Go.Proofs.YtemmhdgaagaglaaDoor
open Go Go.Sy Go.MatM
theorem encM_mir {l : List Mk} {i : Nat} (hi : i < l.length) {m : Mk} (h : l[l.length - 1 - i]? = some m) : encM ((mirL l).take (i + 1)) = encM ((mirL l).take i) ++ mkC (mirM m) := by
  rw [List.take_add_one, mirL_get hi h, encM_app]
  simp [encM]
theorem c41 (l : List Mk) (sa : Option Addr) (ca : Nat) (u : World) (hA : MkAt u sa l) (hl : l.length ≤ 10) (hok : ∀ m ∈ l, okM m = true) : Calls Tryd.prog 41 #[.slice sa l.length ca] u (Ret fun v w' => ∃ X, OwnSl 53 4 v l.length (encM (mirL l)) X ∧ Hp u [] X w') := by
  refine calls_of Tryd.func41 rfl rfl (fun a hf => ?_)
  have hh := Hp.init u []
  refine sy_sq ?_
  refine o_v hf hh (yv_assign rfl) ?_; clear hf a; intro a hf
  refine o_end ?_
  refine sy_seq ?_
  refine sy_sq ?_
  refine o_v hf hh (yv_move rfl) ?_; clear hf a; intro a hf
  refine o_v hf hh (yv_len Tryd.se_22 rfl) ?_; clear hf a; intro a hf
  refine o_v hf hh (yv_move rfl) ?_; clear hf a; intro a hf
  refine o_end ?_
  refine sy_block ?_
  refine sy_loopH (σ := Nat × Value × List (Nat × Obj)) [2, 3, 4, 7, 8, 9, 10, 11, 12, 13, 14, 15, 16, 17, 18, 19, 20, 21, 22, 23, 24, 25, 26, 27, 28, 29, 30, 31, 32, 33] (fun q => [(2, q.2.1), (7, .int .i64 (q.1 : Nat))]) (fun q => fun w => q.1 ≤ l.length ∧ OwnSl 53 4 q.2.1 q.1 (encM ((mirL l).take q.1)) q.2.2 ∧ Hp u [] (q.2.2 ++ []) w) (fun q => l.length - q.1) ((0, .slice none 0 0, [])) hf ?_ ?_ ?_
  · exact ⟨rfl, rfl, True.intro⟩
  · exact ⟨Nat.zero_le _, OwnSl.nil _ _, hh⟩
  ·rintro q a w ⟨hi, hO, hh⟩ hf
   obtain ⟨i, v2, X2⟩ := q; simp only at hi hO hh hf ⊢
   refine sy_sq ?_
   refine o_v hf hh (yv_bin rfl rfl rfl) ?_; clear hf a; intro a hf
   refine o_end ?_
   refine sy_seq ?_
   refine sy_cond hf rfl (fun hg2 => ?_) (fun hg2 => ?_)
   ·have hG2 := hg2; try simp only [gS] at hG2
    refine sy_skip ?_
    refine then_n ?_
    refine sy_seq ?_
    refine sy_block ?_
    refine sy_sq ?_
    refine o_v hf hh (yv_move rfl) ?_; clear hf a; intro a hf
    refine o_v hf hh (yv_assign rfl) ?_; clear hf a; intro a hf
    refine o_end ?_
    refine sy_seq ?_
    obtain ⟨m, hm⟩ := ex_of (l := l) (i := l.length - 1 - i) (by omega)
    obtain ⟨blk, off, c, Tx, fr, e1, hbx, hcx⟩ := hA _ m hm
    subst e1
    rw [show off + (l.length - 1 - i) * 4 = off + (((l.length - 1 - i : Nat) : Int)).toNat * 4 by rw [Int.toNat_natCast]] at hcx
    have hom := okM_iff.1 (hok m (List.mem_of_getElem? hm))
    have hem := encM_mir (by omega) hm
    refine sy_ops ?_
    refine o_v hf hh (yv_move rfl) ?_; clear hf a; intro a hf
    refine o_v hf hh (yv_move rfl) ?_; clear hf a; intro a hf
    refine o_v hf hh (yv_len Tryd.se_22 rfl) ?_; clear hf a; intro a hf
    refine o_v hf hh (y_sub rfl rfl) ?_; clear hf a; intro a hf
    refine o_v hf hh (yv_move rfl) ?_; clear hf a; intro a hf
    refine ops_v hf hh (yv_cast (yv_sub rfl rfl (by omega) (by omega)) (intv (b := ((l.length - 1 - i : Nat) : Int)) (by omega))) (.inl rfl) rfl rfl rfl ?_; clear hf a; intro a hf
    refine o_v hf hh (y_ix Tryd.se_22 rfl rfl) ?_; clear hf a; intro a hf
    refine o_v hf hh (y_lds Tryd.ag_53 rfl) ?_; clear hf a; intro a hf
    refine o_alloc hf hh Tryd.ze_53 ?_; clear hf hh a; intro B4 a w hf hh
    refine o_store hf hh Tryd.sz_53 fun w hh => ?_
    refine o_end ?_
    refine sy_treeC (.p 0 (.p 1 (.p 2 (.q 0 3 (.p 4 (.p 5 (.p 6 (.q 0 7 (.p 8 (.p 10 (.q 0 11 (.e1 9 (.p 12 (.e1 13 (.e1 14 (.p 15 (.fin))))))))))))))))) [[14]] [(AtE u [] [(B4, .cells (mkV m).cells 53)], [14])] Tryd.follows (by kernel_rfl) rfl hh (fun w hh => ?_)
    refine mc_p rfl   hf (yv_move rfl) (.inl rfl) rfl rfl ?_; clear hf a; intro a hf
    refine mc_p rfl   hf (yv_fieldAddr Tryd.fo_53_0 rfl) (.inl rfl) rfl rfl ?_; clear hf a; intro a hf
    refine mc_p rfl   hf (yv_fieldAddr Tryd.fo_24_1 rfl) (.inl rfl) rfl rfl ?_; clear hf a; intro a hf
    refine mc_q rfl rfl (by first | exact AtE.mk1 hh.ext (hh.at (i := 0) rfl) | exact AtE.mk1 hh.ext (hh.at (i := 1) rfl)) hf (y_ld Tryd.sc_3 rfl) (.inl rfl) rfl rfl ?_; clear hf a; intro a hf
    refine mc_p rfl   hf (y_sub rfl rfl) (.inl rfl) rfl rfl ?_; clear hf a; intro a hf
    refine mc_p rfl   hf (yv_fieldAddr Tryd.fo_53_0 rfl) (.inl rfl) rfl rfl ?_; clear hf a; intro a hf
    refine mc_p rfl   hf (yv_fieldAddr Tryd.fo_24_0 rfl) (.inl rfl) rfl rfl ?_; clear hf a; intro a hf
    refine mc_q rfl rfl (by first | exact AtE.mk1 hh.ext (hh.at (i := 0) rfl) | exact AtE.mk1 hh.ext (hh.at (i := 1) rfl)) hf (y_ld Tryd.sc_3 rfl) (.inl rfl) rfl rfl ?_; clear hf a; intro a hf
    refine mc_p rfl   hf (y_sub rfl rfl) (.inl rfl) rfl rfl ?_; clear hf a; intro a hf
    refine mc_p rfl   hf (yv_fieldAddr Tryd.fo_53_1 rfl) (.inl rfl) rfl rfl ?_; clear hf a; intro a hf
    refine mc_q rfl rfl (by first | exact AtE.mk1 hh.ext (hh.at (i := 0) rfl) | exact AtE.mk1 hh.ext (hh.at (i := 1) rfl)) hf (y_lds Tryd.ag_24 rfl) (.inl rfl) rfl rfl ?_; clear hf a; intro a hf
    refine mc_e rfl fun Q1 => ?_
    refine o_call hf Tryd.en_29 rfl rfl rfl (c29 _ _ _) ?_; clear hf a; intro v a w hR hf
    obtain ⟨rfl, hx⟩ := hR; replace hh := hh.more hx; clear hx
    refine ops_end ?_
    refine then_n ⟨⟨fun _ _ => (by first | exact AtE.mk1 hh.ext (hh.at (i := 0) rfl) | exact AtE.mk1 hh.ext (hh.at (i := 1) rfl)), trivial⟩, ?_⟩
    refine mc_p rfl   hf (yv_buildS Tryd.bs_53 rfl rfl) (.inl rfl) rfl rfl ?_; clear hf a; intro a hf
    refine mc_e rfl fun Q1 => ?_
    refine ops_buildSl hf hh Tryd.bl_22_1 rfl rfl (.inl rfl) rfl ?_; clear hf hh; clear a; intro B31 a w hf hh
    refine ops_end ?_
    refine then_n ⟨⟨fun _ _ => (by first | exact AtE.mk1 hh.ext (hh.at (i := 0) rfl) | exact AtE.mk1 hh.ext (hh.at (i := 1) rfl)), trivial⟩, ?_⟩
    refine mc_e rfl fun Q1 => ?_
    replace hh := hh.less (.cons_cons _ (.cons _ (List.Sublist.refl _)))
    refine ops_append (e := 53) (size := 4) (xs := encM ((mirL l).take i)) (Z := []) hf hh Tryd.eb_22 rfl rfl hO rfl rfl rfl (by simp only [maxLen]; omega) (by omega) (.inl rfl) rfl ?_; clear hf hh a; intro v3 X3 a w hO3 hf hh
    refine ops_end ?_
    refine then_n ⟨⟨fun h => Bool.noConfusion (show true = false from h), trivial⟩, ?_⟩
    refine mc_p rfl   hf (yv_assign rfl) (.inl rfl) rfl rfl ?_; clear hf a; intro a hf
    refine mc_end ?_
    refine blk_n ?_
    refine then_n ?_
    refine sy_ops ?_
    refine o_v hf hh (y_add rfl rfl) ?_; clear hf a; intro a hf
    refine o_v hf hh (yv_move rfl) ?_; clear hf a; intro a hf
    refine ops_end ?_
    refine then_n ?_
    exact ⟨(i + 1, v3, X3), ⟨⟨by simp only; omega, by simp only [hem]; exact hO3, hh⟩, hf.head ⟨rfl, rfl, True.intro⟩ (Keep.cons rfl (Keep.cons rfl (Keep.cons rfl (Keep.cons rfl (Keep.cons rfl (Keep.cons rfl (Keep.cons rfl (Keep.cons rfl (Keep.cons rfl (Keep.cons rfl (Keep.cons rfl (Keep.cons rfl (Keep.cons rfl (Keep.cons rfl (Keep.cons rfl (Keep.cons rfl (Keep.cons rfl (Keep.cons rfl (Keep.cons rfl (Keep.cons rfl (Keep.cons rfl (Keep.cons rfl (Keep.cons rfl (Keep.cons rfl (Keep.cons rfl (Keep.cons rfl (Keep.cons rfl (Keep.cons rfl (Keep.cons rfl (Keep.cons rfl (Keep.app rfl (Keep.rm rfl Keep.base))))))))))))))))))))))))))))))))⟩, by simp only; omega⟩
   ·have hG2 := hg2; try simp only [gS] at hG2
    refine sy_exit ?_
    refine then_e ?_
    refine then_e ?_
    refine blk_e ?_
    refine then_n ?_
    refine sy_sq ?_
    refine o_v hf hh (yv_move rfl) ?_; clear hf a; intro a hf
    refine o_v hf hh (yv_assign rfl) ?_; clear hf a; intro a hf
    refine o_end ?_
    refine sy_ret ?_
    refine ret_r hf rfl rfl ?_
    have hie : i = l.length := by omega
    have htk : (mirL l).take i = mirL l := List.take_of_length_le (by rw [mirL_len]; omega)
    rw [htk] at hO
    exact ⟨X2, by rw [← hie]; exact hO, hh.less (List.sublist_append_left _ _)⟩
end Go.Proofs.YtemmhdgaagaglaaDoor
namespace Go.Proofs.YtemmhdgaagaglaaDoor
open Go Go.Sy Go.MatM
theorem spl_size {c : Array Value} {off : Nat} {vs : List Value} (h : off + vs.length ≤ c.size) : (spl c off vs).size = c.size := by
  unfold spl
  simp only [List.size_toArray, List.length_append, List.length_take, List.length_drop, Array.length_toList]
  omega
theorem ownSl_spl {e size m cap off B : Nat} {cur : Array Value} {vs : List Value} (h1 : m ≤ cap) (h2 : cap ≤ maxLen) (h3 : cur.size = cap * size) (h4 : off + vs.length ≤ cur.size) : OwnSl e size (.slice (some ⟨B, 0, none⟩) m cap) m ((spl cur off vs).toList.take (m * size)) [(B, .cells (spl cur off vs) e (0, 0))] := by
  have hs := spl_size h4
  have hm : m * size ≤ cap * size := Nat.mul_le_mul_right _ h1
  exact ⟨by rw [List.length_take, Array.length_toList, hs, h3]; omega, .inr ⟨B, cap, _, rfl, rfl, h1, h2, by rw [hs, h3], rfl⟩⟩
theorem encP_one (l : List Pr) : (encP l).all (·.oneCell') = true := by
  rw [List.all_eq_true]
  intro v hv
  obtain ⟨p, _, hp⟩ := List.mem_flatMap.1 hv
  simp only [List.mem_cons, List.not_mem_nil, or_false] at hp
  rcases hp with rfl | rfl <;> rfl
set_option maxRecDepth 100000 in
set_option maxHeartbeats 4000000 in
theorem c12 (d : RowsD) (sa sb : Option Addr) (ca cb : Nat) (u : World) (hA : MkAt u sa d.l) (hB : MkAt u sb d.r) (hT : GTab u) : Calls Tryd.prog 12 #[rowsV d sa sb ca cb] u (Ret fun v w' => v = .bool true ∧ Ext [] u w') := by
  refine calls_of Tryd.func12 rfl rfl (fun a hf => ?_)
  have hh := Hp.init u []
  refine sy_sq ?_
  refine o_box hf hh ?_; clear hf hh a; intro B1 a w hf hh
  refine o_v hf hh (yv_assign rfl) ?_; clear hf a; intro a hf
  refine o_end ?_
  refine sy_seq ?_
  refine sy_sq ?_
  refine o_v hf hh (y_lds Tryd.ag_26 rfl) ?_; clear hf a; intro a hf
  refine o_call hf Tryd.en_13 rfl rfl rfl (c13 d sa sb ca cb _ (hA.ext hh.ext) (hB.ext hh.ext) 10) ?_; clear hf a; intro v a w hR hf
  obtain ⟨rfl, hx⟩ := hR; replace hh := hh.more hx; clear hx
  refine o_v hf hh (yv_move rfl) ?_; clear hf a; intro a hf
  refine guard_split hf (t := 41) rfl (fun hg2 => ?_) (fun hg2 => ?_)
  ·have hG2 := hg2; try simp only [gS] at hG2
   refine o_off hf ?_; clear hf a; intro a hf
   refine o_off hf ?_; clear hf a; intro a hf
   refine o_off hf ?_; clear hf a; intro a hf
   refine o_v hf hh (y_pt rfl rfl) ?_; clear hf a; intro a hf
   refine o_end ?_
   refine c_t hf ?_
   refine sy_sq ?_
   refine o_call hf Tryd.en_14 rfl rfl rfl (c14 _ (hT.ext hh.ext (by simp))) ?_; clear hf a; intro v a w hR hf
   obtain ⟨rfl, hx⟩ := hR; replace hh := hh.more hx; clear hx
   refine o_v hf hh (yv_assign rfl) ?_; clear hf a; intro a hf
   refine o_end ?_
   refine sy_ret ?_
   refine then_r ?_
   refine ret_r hf rfl rfl ?_
   first
     | exact ⟨rfl, hh.ext⟩
     | exact ⟨rfl, he2.trans hh.ext⟩
  ·have hG2 := hg2; try simp only [gS] at hG2
   refine o_v hf hh (y_lds Tryd.ag_26 rfl) ?_; clear hf a; intro a hf
   have hlen : d.l.length ≤ 24 ∧ d.r.length ≤ 24 := by first | (simp_all; done) | (simp_all; omega)
   refine o_call hf Tryd.en_26 rfl rfl rfl (c26 d sa sb ca cb _ (hA.ext hh.ext) (hB.ext hh.ext) (by omega) (by omega)) ?_; clear hf a; intro v a w hR hf
   obtain ⟨rfl, hx⟩ := hR; replace hh := hh.more hx; clear hx
   refine o_v hf hh (yv_not rfl) ?_; clear hf a; intro a hf
   refine o_v hf hh (y_pf rfl rfl) ?_; clear hf a; intro a hf
   refine o_end ?_
   refine sy_cond hf rfl (fun hg5 => ?_) (fun hg5 => ?_)
   ·have hG5 := hg5; try simp only [gS] at hG5
    refine sy_sq ?_
    refine o_call hf Tryd.en_14 rfl rfl rfl (c14 _ (hT.ext hh.ext (by simp))) ?_; clear hf a; intro v a w hR hf
    obtain ⟨rfl, hx⟩ := hR; replace hh := hh.more hx; clear hx
    refine o_v hf hh (yv_assign rfl) ?_; clear hf a; intro a hf
    refine o_end ?_
    refine sy_ret ?_
    refine then_r ?_
    refine ret_r hf rfl rfl ?_
    first
      | exact ⟨rfl, hh.ext⟩
      | exact ⟨rfl, he2.trans hh.ext⟩
   ·have hG5 := hg5; try simp only [gS] at hG5
    refine sy_skip ?_
    refine then_n ?_
    refine sy_cut (σ := Nat) [3, 47, 48, 49, 50, 51, 52, 53, 54, 55, 56, 57, 58, 59, 60, 61, 62] (fun B3 => [(3, ptr B3 0)]) (fun B3 => fun w' => Hp u [] [(B3, .cells (rowsV (tX d) sb sa cb ca).cells 26), (B1, .cells (rowsV d sa sb ca cb).cells 26)] w') hf ?_ ?_
    ·have hok : okRows d = true := by simp_all
     have hV := (okRows_iff d).1 hok
     have hnl := hV.nl; have hnr := hV.nr
     have hs1 := hV.s1; have hs2 := hV.s2; have hs3 := hV.s3
     refine sy_tree1 (.p 0 (.q 0 1 (.p 2 (.q 0 3 (.p 4 (.p 5 (.q 0 6 (.p 7 (.p 8 (.p 9 (.q 0 10 (.p 11 (.p 13 (.q 0 14 (.e2 12 (.p 15 (.e1 16 (.e1 17 (.fin)))) 16 (.e1 12 (.p 15 (.e1 17 (.fin))))))))))))))))))) [] Tryd.follows (by kernel_rfl) hh (fun w hh => ?_)
     refine mc_p rfl   hf (yv_fieldAddr Tryd.fo_26_1 rfl) (.inl rfl) rfl rfl ?_; clear hf a; intro a hf
     refine mc_q rfl rfl hh hf (y_ld Tryd.sc_22 rfl) (.inl rfl) rfl rfl ?_; clear hf a; intro a hf
     refine mc_p rfl   hf (yv_fieldAddr Tryd.fo_26_0 rfl) (.inl rfl) rfl rfl ?_; clear hf a; intro a hf
     refine mc_q rfl rfl hh hf (y_ld Tryd.sc_22 rfl) (.inl rfl) rfl rfl ?_; clear hf a; intro a hf
     refine mc_p rfl   hf (yv_fieldAddr Tryd.fo_26_2 rfl) (.inl rfl) rfl rfl ?_; clear hf a; intro a hf
     refine mc_p rfl   hf (yv_fieldAddr Tryd.fo_24_1 rfl) (.inl rfl) rfl rfl ?_; clear hf a; intro a hf
     refine mc_q rfl rfl hh hf (y_ld Tryd.sc_3 rfl) (.inl rfl) rfl rfl ?_; clear hf a; intro a hf
     refine mc_p rfl   hf (yv_neg rfl (by omega) (by omega)) (.inl rfl) rfl rfl ?_; clear hf a; intro a hf
     refine mc_p rfl   hf (yv_fieldAddr Tryd.fo_26_2 rfl) (.inl rfl) rfl rfl ?_; clear hf a; intro a hf
     refine mc_p rfl   hf (yv_fieldAddr Tryd.fo_24_0 rfl) (.inl rfl) rfl rfl ?_; clear hf a; intro a hf
     refine mc_q rfl rfl hh hf (y_ld Tryd.sc_3 rfl) (.inl rfl) rfl rfl ?_; clear hf a; intro a hf
     refine mc_p rfl   hf (yv_neg rfl (by omega) (by omega)) (.inl rfl) rfl rfl ?_; clear hf a; intro a hf
     refine mc_p rfl   hf (yv_fieldAddr Tryd.fo_26_3 rfl) (.inl rfl) rfl rfl ?_; clear hf a; intro a hf
     refine mc_q rfl rfl hh hf (y_ld Tryd.sc_3 rfl) (.inl rfl) rfl rfl ?_; clear hf a; intro a hf
     refine ⟨?_, ?_⟩
     ·refine mc_e rfl fun Q1 => ?_
      refine o_call hf Tryd.en_29 rfl rfl rfl (c29 _ _ _) ?_; clear hf a; intro v a w hR hf
      obtain ⟨rfl, hx⟩ := hR; replace hh := hh.more hx; clear hx
      refine ops_end ?_
      refine then_n ⟨⟨fun _ _ => hh, trivial⟩, ?_⟩
      refine mc_p rfl   hf (yv_buildS Tryd.bs_26 rfl rfl) (.inl rfl) rfl rfl ?_; clear hf a; intro a hf
      refine mc_e rfl fun Q1 => ?_
      refine o_alloc hf hh Tryd.ze_26 ?_; clear hf hh a; intro B3 a w hf hh
      refine ops_end ?_
      refine then_n ⟨⟨fun _ _ => (hh.less (.cons _ (List.Sublist.refl _))), trivial⟩, ?_⟩
      refine mc_e rfl fun Q1 => ?_
      refine o_store hf hh Tryd.sz_26 fun w hh => ?_
      refine ops_end ?_
      refine then_n ⟨⟨fun _ _ => (hh.less (.cons _ (List.Sublist.refl _))), trivial⟩, ?_⟩
      refine mc_end ?_
      refine then_n ?_
      exact ⟨B3, hh, hf.head ⟨rfl, True.intro⟩ (Keep.cons rfl (Keep.cons rfl (Keep.cons rfl (Keep.cons rfl (Keep.cons rfl (Keep.cons rfl (Keep.cons rfl (Keep.cons rfl (Keep.cons rfl (Keep.cons rfl (Keep.cons rfl (Keep.cons rfl (Keep.cons rfl (Keep.cons rfl (Keep.cons rfl (Keep.cons rfl (Keep.cons rfl (Keep.base))))))))))))))))))⟩
     ·refine mc_e rfl fun Q1 => ?_
      refine o_alloc hf hh Tryd.ze_26 ?_; clear hf hh a; intro B3 a w hf hh
      refine ops_end ?_
      refine then_n ⟨⟨fun _ _ => (hh.less (.cons _ (List.Sublist.refl _))), trivial⟩, ?_⟩
      refine mc_e rfl fun Q1 => ?_
      refine o_call hf Tryd.en_29 rfl rfl rfl (c29 _ _ _) ?_; clear hf a; intro v a w hR hf
      obtain ⟨rfl, hx⟩ := hR; replace hh := hh.more hx; clear hx
      refine ops_end ?_
      refine then_n ⟨⟨fun _ _ => (hh.less (.cons _ (List.Sublist.refl _))), trivial⟩, ?_⟩
      refine mc_p rfl   hf (yv_buildS Tryd.bs_26 rfl rfl) (.inl rfl) rfl rfl ?_; clear hf a; intro a hf
      refine mc_e rfl fun Q1 => ?_
      refine o_store hf hh Tryd.sz_26 fun w hh => ?_
      refine ops_end ?_
      refine then_n ⟨⟨fun _ _ => (hh.less (.cons _ (List.Sublist.refl _))), trivial⟩, ?_⟩
      refine mc_end ?_
      refine then_n ?_
      exact ⟨B3, hh, hf.head ⟨rfl, True.intro⟩ (Keep.cons rfl (Keep.cons rfl (Keep.cons rfl (Keep.cons rfl (Keep.cons rfl (Keep.cons rfl (Keep.cons rfl (Keep.cons rfl (Keep.cons rfl (Keep.cons rfl (Keep.cons rfl (Keep.cons rfl (Keep.cons rfl (Keep.cons rfl (Keep.cons rfl (Keep.cons rfl (Keep.cons rfl (Keep.base))))))))))))))))))⟩
    ·rintro B3 a w hh hf
     have hok : okRows d = true := by simp_all
     have hV := (okRows_iff d).1 hok
     have hnl := hV.nl; have hnr := hV.nr
     have hs1 := hV.s1; have hs2 := hV.s2; have hs3 := hV.s3
     refine sy_sq ?_
     refine o_v hf hh (yv_fieldAddr Tryd.fo_26_2 rfl) ?_; clear hf a; intro a hf
     refine o_v hf hh (y_lds Tryd.ag_24 rfl) ?_; clear hf a; intro a hf
     refine o_v hf hh (yv_fieldAddr Tryd.fo_26_3 rfl) ?_; clear hf a; intro a hf
     refine o_v hf hh (y_ld Tryd.sc_3 rfl) ?_; clear hf a; intro a hf
     refine o_v hf hh (yv_buildS Tryd.bs_26 rfl rfl) ?_; clear hf a; intro a hf
     refine o_alloc hf hh Tryd.ze_26 ?_; clear hf hh a; intro B4 a w hf hh
     refine o_store hf hh Tryd.sz_26 fun w hh => ?_
     refine o_end ?_
     refine sy_sq ?_
     refine o_v hf hh (yv_assign rfl) ?_; clear hf a; intro a hf
     refine o_end ?_
     refine sy_seq ?_
     refine sy_treeC (.p 0 (.p 1 (.q 0 2 (.p 4 (.p 5 (.q 0 6 (.e1 3 (.p 8 (.e1 7 (.e1 9 (.p 10 (.e1 11 (.fin))))))))))))) [[]] [(AtE u [] [(B1, .cells (rowsV d sa sb ca cb).cells 26)], [])] Tryd.follows (by kernel_rfl) rfl hh (fun w hh => ?_)
     refine mc_p rfl   hf (yv_move rfl) (.inl rfl) rfl rfl ?_; clear hf a; intro a hf
     refine mc_p rfl   hf (yv_fieldAddr Tryd.fo_26_0 rfl) (.inl rfl) rfl rfl ?_; clear hf a; intro a hf
     refine mc_q rfl rfl (AtE.mk1 hh.ext (hh.at (i := 2) rfl)) hf (y_ld Tryd.sc_22 rfl) (.inl rfl) rfl rfl ?_; clear hf a; intro a hf
     refine mc_p rfl   hf (yv_move rfl) (.inl rfl) rfl rfl ?_; clear hf a; intro a hf
     refine mc_p rfl   hf (yv_fieldAddr Tryd.fo_26_1 rfl) (.inl rfl) rfl rfl ?_; clear hf a; intro a hf
     refine mc_q rfl rfl (AtE.mk1 hh.ext (hh.at (i := 2) rfl)) hf (y_ld Tryd.sc_22 rfl) (.inl rfl) rfl rfl ?_; clear hf a; intro a hf
     refine mc_e rfl fun Q1 => ?_
     refine o_call hf Tryd.en_41 rfl rfl rfl (c41 d.l sa ca _ (hA.ext hh.ext) hnl hV.ml) ?_; clear hf a; intro v a w hR hf
     obtain ⟨Xl, hOl, hx⟩ := hR; replace hh := (hh.join hx).perm List.perm_append_comm; clear hx
     obtain ⟨oal, cpl, rfl⟩ := OwnSl_val hOl
     refine ops_end ?_
     refine then_n ⟨⟨fun _ _ => (AtE.mk1 hh.ext (hh.at (i := 2) rfl)), trivial⟩, ?_⟩
     refine mc_p rfl   hf (yv_fieldAddr Tryd.fo_26_0 rfl) (.inl rfl) rfl rfl ?_; clear hf a; intro a hf
     refine mc_e rfl fun Q1 => ?_
     refine o_call hf Tryd.en_41 rfl rfl rfl (c41 d.r sb cb _ (hB.ext hh.ext) hnr hV.mr) ?_; clear hf a; intro v a w hR hf
     obtain ⟨Xr, hOr, hx⟩ := hR; replace hh := (hh.join hx).perm List.perm_append_comm; clear hx
     obtain ⟨oar, cpr, rfl⟩ := OwnSl_val hOr
     refine ops_end ?_
     refine then_n ⟨⟨fun _ _ => (AtE.mk1 hh.ext (hh.at (i := 2) rfl)), trivial⟩, ?_⟩
     refine mc_e rfl fun Q1 => ?_
     refine o_store hf hh Tryd.sz_22 fun w hh => ?_
     refine ops_end ?_
     refine then_n ⟨⟨fun _ _ => (AtE.mk1 hh.ext (hh.at (i := 2) rfl)), trivial⟩, ?_⟩
     refine mc_p rfl   hf (yv_fieldAddr Tryd.fo_26_1 rfl) (.inl rfl) rfl rfl ?_; clear hf a; intro a hf
     refine mc_e rfl fun Q1 => ?_
     refine o_store hf hh Tryd.sz_22 fun w hh => ?_
     refine ops_end ?_
     refine then_n ⟨⟨fun _ _ => (AtE.mk1 hh.ext (hh.at (i := 2) rfl)), trivial⟩, ?_⟩
     refine mc_end ?_
     refine then_n ?_
     refine sy_cut (σ := Value × List (Nat × Obj) × Value × List (Nat × Obj)) [6, 7, 78, 79, 80, 81, 82, 83, 84, 85] (fun q => [(6, q.1), (7, q.2.2.1)]) (fun q => fun w' => OwnSl 53 4 q.1 d.l.length (encM d.l) q.2.1 ∧ OwnSl 53 4 q.2.2.1 d.r.length (encM d.r) q.2.2.2 ∧ Hp u [] (q.2.2.2 ++ (q.2.1 ++ ([(B4, .cells (rowsV (tY d) oal oar cpl cpr).cells 26), (B3, .cells (rowsV (tX d) sb sa cb ca).cells 26), (B1, .cells (rowsV d sa sb ca cb).cells 26)] ++ (Xl ++ Xr)))) w') hf ?_ ?_
     ·have hYe : (rowsV (tY d) oal oar cpl cpr).cells = #[.slice oal d.l.length cpl, .slice oar d.r.length cpr, .int .i64 (-d.hi), .int .i64 (-d.lo), .int .i64 d.hid] := by
        show #[Value.slice oal (mirL d.l).length cpl, .slice oar (mirL d.r).length cpr, .int .i64 (-d.hi), .int .i64 (-d.lo), .int .i64 d.hid] = _
        rw [mirL_len, mirL_len]
      replace hh : Hp u [] ([(B4, .cells (rowsV (tY d) oal oar cpl cpr).cells 26), (B3, .cells (rowsV (tX d) sb sa cb ca).cells 26), (B1, .cells (rowsV d sa sb ca cb).cells 26)] ++ (Xl ++ Xr)) w := by
        rw [hYe, ← List.append_assoc]; exact hh
      refine sy_treeC (.p 1 (.q 0 2 (.p 5 (.q 0 6 (.e2 0 (.e2 3 (.e1 4 (.e1 7 (.p 8 (.p 9 (.fin))))) 4 (.e1 3 (.e1 7 (.p 8 (.p 9 (.fin)))))) 4 (.e1 0 (.e1 3 (.e1 7 (.p 8 (.p 9 (.fin))))))))))) [[]] [(AtE u [] [(B1, .cells (rowsV d sa sb ca cb).cells 26)], [])] Tryd.follows (by kernel_rfl) rfl hh (fun w hh => ?_)
      refine mc_p rfl   hf (yv_fieldAddr Tryd.fo_26_0 rfl) (.inl rfl) rfl rfl ?_; clear hf a; intro a hf
      refine mc_q rfl rfl (AtE.mk1 hh.ext (hh.get (B1, .cells (rowsV d sa sb ca cb).cells 26) (by simp))) hf (y_ld Tryd.sc_22 rfl) (.inl rfl) rfl rfl ?_; clear hf a; intro a hf
      refine mc_p rfl   hf (yv_fieldAddr Tryd.fo_26_1 rfl) (.inl rfl) rfl rfl ?_; clear hf a; intro a hf
      refine mc_q rfl rfl (AtE.mk1 hh.ext (hh.get (B1, .cells (rowsV d sa sb ca cb).cells 26) (by simp))) hf (y_ld Tryd.sc_22 rfl) (.inl rfl) rfl rfl ?_; clear hf a; intro a hf
      refine ⟨?_, ?_⟩
      ·refine mc_e rfl fun Q1 => ?_
       refine ops_buildSl hf hh Tryd.bl_22_0 rfl rfl (.inl rfl) rfl ?_; clear hf hh; clear a; intro B78 a w hf hh
       refine ops_end ?_
       refine then_n ⟨⟨fun _ _ => (AtE.mk1 hh.ext (hh.get (B1, .cells (rowsV d sa sb ca cb).cells 26) (by simp))), trivial⟩, ?_⟩
       refine ⟨?_, ?_⟩
       ·refine mc_e rfl fun Q1 => ?_
        first | (refine ops_appendM (A := []) (B := d.l) (X := [(B78, .cells #[] 53)]) (m := 0) hf hh Tryd.eb_22 rfl rfl ⟨rfl, .inr ⟨B78, 0, #[], rfl, rfl, Nat.le_refl _, Nat.zero_le _, rfl, rfl⟩⟩ (hA.ext hh.ext) (by simp only [maxLen]; omega) (by omega) (.inl rfl) rfl ?_) | (refine ops_appendM (A := []) (B := d.l) (X := [(B78, .cells #[] 53)]) (m := 0) hf (hh.perm (.swap _ _ _)) Tryd.eb_22 rfl rfl ⟨rfl, .inr ⟨B78, 0, #[], rfl, rfl, Nat.le_refl _, Nat.zero_le _, rfl, rfl⟩⟩ (hA.ext hh.ext) (by simp only [maxLen]; omega) (by omega) (.inl rfl) rfl ?_) | (refine ops_appendM (A := []) (B := d.l) (X := [(B78, .cells #[] 53)]) (m := 0) hf (hh.perm List.perm_middle) Tryd.eb_22 rfl rfl ⟨rfl, .inr ⟨B78, 0, #[], rfl, rfl, Nat.le_refl _, Nat.zero_le _, rfl, rfl⟩⟩ (hA.ext hh.ext) (by simp only [maxLen]; omega) (by omega) (.inl rfl) rfl ?_)
        clear hf hh; clear a
        intro v6 X6 a w hO6 hf hh
        rw [Nat.zero_add, List.nil_append] at hO6
        refine ops_end ?_
        refine then_n ⟨⟨fun _ _ => (AtE.mk1 hh.ext (hh.get (B1, .cells (rowsV d sa sb ca cb).cells 26) (by simp))), trivial⟩, ?_⟩
        refine mc_e rfl fun Q1 => ?_
        refine ops_buildSl hf hh Tryd.bl_22_0 rfl rfl (.inl rfl) rfl ?_; clear hf hh; clear a; intro B82 a w hf hh
        refine ops_end ?_
        refine then_n ⟨⟨fun _ _ => (AtE.mk1 hh.ext (hh.get (B1, .cells (rowsV d sa sb ca cb).cells 26) (by simp))), trivial⟩, ?_⟩
        refine mc_e rfl fun Q1 => ?_
        first | (refine ops_appendM (A := []) (B := d.r) (X := [(B82, .cells #[] 53)]) (m := 0) hf hh Tryd.eb_22 rfl rfl ⟨rfl, .inr ⟨B82, 0, #[], rfl, rfl, Nat.le_refl _, Nat.zero_le _, rfl, rfl⟩⟩ (hB.ext hh.ext) (by simp only [maxLen]; omega) (by omega) (.inl rfl) rfl ?_) | (refine ops_appendM (A := []) (B := d.r) (X := [(B82, .cells #[] 53)]) (m := 0) hf (hh.perm (.swap _ _ _)) Tryd.eb_22 rfl rfl ⟨rfl, .inr ⟨B82, 0, #[], rfl, rfl, Nat.le_refl _, Nat.zero_le _, rfl, rfl⟩⟩ (hB.ext hh.ext) (by simp only [maxLen]; omega) (by omega) (.inl rfl) rfl ?_) | (refine ops_appendM (A := []) (B := d.r) (X := [(B82, .cells #[] 53)]) (m := 0) hf (hh.perm List.perm_middle) Tryd.eb_22 rfl rfl ⟨rfl, .inr ⟨B82, 0, #[], rfl, rfl, Nat.le_refl _, Nat.zero_le _, rfl, rfl⟩⟩ (hB.ext hh.ext) (by simp only [maxLen]; omega) (by omega) (.inl rfl) rfl ?_)
        clear hf hh; clear a
        intro v7 X7 a w hO7 hf hh
        rw [Nat.zero_add, List.nil_append] at hO7
        refine ops_end ?_
        refine then_n ⟨⟨fun _ _ => (AtE.mk1 hh.ext (hh.get (B1, .cells (rowsV d sa sb ca cb).cells 26) (by simp))), trivial⟩, ?_⟩
        refine mc_p rfl   hf (yv_assign rfl) (.inl rfl) rfl rfl ?_; clear hf a; intro a hf
        refine mc_p rfl   hf (yv_assign rfl) (.inl rfl) rfl rfl ?_; clear hf a; intro a hf
        refine mc_end ?_
        refine then_n ?_
        exact ⟨(v6, X6, v7, X7), ⟨hO6, hO7, hh⟩, hf.head ⟨rfl, rfl, True.intro⟩ (Keep.cons rfl (Keep.cons rfl (Keep.cons rfl (Keep.cons rfl (Keep.cons rfl (Keep.cons rfl (Keep.cons rfl (Keep.cons rfl (Keep.cons rfl (Keep.cons rfl (Keep.base)))))))))))⟩
       ·refine mc_e rfl fun Q1 => ?_
        refine ops_buildSl hf hh Tryd.bl_22_0 rfl rfl (.inl rfl) rfl ?_; clear hf hh; clear a; intro B82 a w hf hh
        refine ops_end ?_
        refine then_n ⟨⟨fun _ _ => (AtE.mk1 hh.ext (hh.get (B1, .cells (rowsV d sa sb ca cb).cells 26) (by simp))), trivial⟩, ?_⟩
        refine mc_e rfl fun Q1 => ?_
        first | (refine ops_appendM (A := []) (B := d.l) (X := [(B78, .cells #[] 53)]) (m := 0) hf hh Tryd.eb_22 rfl rfl ⟨rfl, .inr ⟨B78, 0, #[], rfl, rfl, Nat.le_refl _, Nat.zero_le _, rfl, rfl⟩⟩ (hA.ext hh.ext) (by simp only [maxLen]; omega) (by omega) (.inl rfl) rfl ?_) | (refine ops_appendM (A := []) (B := d.l) (X := [(B78, .cells #[] 53)]) (m := 0) hf (hh.perm (.swap _ _ _)) Tryd.eb_22 rfl rfl ⟨rfl, .inr ⟨B78, 0, #[], rfl, rfl, Nat.le_refl _, Nat.zero_le _, rfl, rfl⟩⟩ (hA.ext hh.ext) (by simp only [maxLen]; omega) (by omega) (.inl rfl) rfl ?_) | (refine ops_appendM (A := []) (B := d.l) (X := [(B78, .cells #[] 53)]) (m := 0) hf (hh.perm List.perm_middle) Tryd.eb_22 rfl rfl ⟨rfl, .inr ⟨B78, 0, #[], rfl, rfl, Nat.le_refl _, Nat.zero_le _, rfl, rfl⟩⟩ (hA.ext hh.ext) (by simp only [maxLen]; omega) (by omega) (.inl rfl) rfl ?_)
        clear hf hh; clear a
        intro v6 X6 a w hO6 hf hh
        rw [Nat.zero_add, List.nil_append] at hO6
        refine ops_end ?_
        refine then_n ⟨⟨fun _ _ => (AtE.mk1 hh.ext (hh.get (B1, .cells (rowsV d sa sb ca cb).cells 26) (by simp))), trivial⟩, ?_⟩
        refine mc_e rfl fun Q1 => ?_
        first | (refine ops_appendM (A := []) (B := d.r) (X := [(B82, .cells #[] 53)]) (m := 0) hf hh Tryd.eb_22 rfl rfl ⟨rfl, .inr ⟨B82, 0, #[], rfl, rfl, Nat.le_refl _, Nat.zero_le _, rfl, rfl⟩⟩ (hB.ext hh.ext) (by simp only [maxLen]; omega) (by omega) (.inl rfl) rfl ?_) | (refine ops_appendM (A := []) (B := d.r) (X := [(B82, .cells #[] 53)]) (m := 0) hf (hh.perm (.swap _ _ _)) Tryd.eb_22 rfl rfl ⟨rfl, .inr ⟨B82, 0, #[], rfl, rfl, Nat.le_refl _, Nat.zero_le _, rfl, rfl⟩⟩ (hB.ext hh.ext) (by simp only [maxLen]; omega) (by omega) (.inl rfl) rfl ?_) | (refine ops_appendM (A := []) (B := d.r) (X := [(B82, .cells #[] 53)]) (m := 0) hf (hh.perm List.perm_middle) Tryd.eb_22 rfl rfl ⟨rfl, .inr ⟨B82, 0, #[], rfl, rfl, Nat.le_refl _, Nat.zero_le _, rfl, rfl⟩⟩ (hB.ext hh.ext) (by simp only [maxLen]; omega) (by omega) (.inl rfl) rfl ?_)
        clear hf hh; clear a
        intro v7 X7 a w hO7 hf hh
        rw [Nat.zero_add, List.nil_append] at hO7
        refine ops_end ?_
        refine then_n ⟨⟨fun _ _ => (AtE.mk1 hh.ext (hh.get (B1, .cells (rowsV d sa sb ca cb).cells 26) (by simp))), trivial⟩, ?_⟩
        refine mc_p rfl   hf (yv_assign rfl) (.inl rfl) rfl rfl ?_; clear hf a; intro a hf
        refine mc_p rfl   hf (yv_assign rfl) (.inl rfl) rfl rfl ?_; clear hf a; intro a hf
        refine mc_end ?_
        refine then_n ?_
        exact ⟨(v6, X6, v7, X7), ⟨hO6, hO7, hh⟩, hf.head ⟨rfl, rfl, True.intro⟩ (Keep.cons rfl (Keep.cons rfl (Keep.cons rfl (Keep.cons rfl (Keep.cons rfl (Keep.cons rfl (Keep.cons rfl (Keep.cons rfl (Keep.cons rfl (Keep.cons rfl (Keep.base)))))))))))⟩
      ·refine mc_e rfl fun Q1 => ?_
       refine ops_buildSl hf hh Tryd.bl_22_0 rfl rfl (.inl rfl) rfl ?_; clear hf hh; clear a; intro B82 a w hf hh
       refine ops_end ?_
       refine then_n ⟨⟨fun _ _ => (AtE.mk1 hh.ext (hh.get (B1, .cells (rowsV d sa sb ca cb).cells 26) (by simp))), trivial⟩, ?_⟩
       refine mc_e rfl fun Q1 => ?_
       refine ops_buildSl hf hh Tryd.bl_22_0 rfl rfl (.inl rfl) rfl ?_; clear hf hh; clear a; intro B78 a w hf hh
       refine ops_end ?_
       refine then_n ⟨⟨fun _ _ => (AtE.mk1 hh.ext (hh.get (B1, .cells (rowsV d sa sb ca cb).cells 26) (by simp))), trivial⟩, ?_⟩
       refine mc_e rfl fun Q1 => ?_
       first | (refine ops_appendM (A := []) (B := d.l) (X := [(B78, .cells #[] 53)]) (m := 0) hf hh Tryd.eb_22 rfl rfl ⟨rfl, .inr ⟨B78, 0, #[], rfl, rfl, Nat.le_refl _, Nat.zero_le _, rfl, rfl⟩⟩ (hA.ext hh.ext) (by simp only [maxLen]; omega) (by omega) (.inl rfl) rfl ?_) | (refine ops_appendM (A := []) (B := d.l) (X := [(B78, .cells #[] 53)]) (m := 0) hf (hh.perm (.swap _ _ _)) Tryd.eb_22 rfl rfl ⟨rfl, .inr ⟨B78, 0, #[], rfl, rfl, Nat.le_refl _, Nat.zero_le _, rfl, rfl⟩⟩ (hA.ext hh.ext) (by simp only [maxLen]; omega) (by omega) (.inl rfl) rfl ?_) | (refine ops_appendM (A := []) (B := d.l) (X := [(B78, .cells #[] 53)]) (m := 0) hf (hh.perm List.perm_middle) Tryd.eb_22 rfl rfl ⟨rfl, .inr ⟨B78, 0, #[], rfl, rfl, Nat.le_refl _, Nat.zero_le _, rfl, rfl⟩⟩ (hA.ext hh.ext) (by simp only [maxLen]; omega) (by omega) (.inl rfl) rfl ?_)
       clear hf hh; clear a
       intro v6 X6 a w hO6 hf hh
       rw [Nat.zero_add, List.nil_append] at hO6
       refine ops_end ?_
       refine then_n ⟨⟨fun _ _ => (AtE.mk1 hh.ext (hh.get (B1, .cells (rowsV d sa sb ca cb).cells 26) (by simp))), trivial⟩, ?_⟩
       refine mc_e rfl fun Q1 => ?_
       first | (refine ops_appendM (A := []) (B := d.r) (X := [(B82, .cells #[] 53)]) (m := 0) hf hh Tryd.eb_22 rfl rfl ⟨rfl, .inr ⟨B82, 0, #[], rfl, rfl, Nat.le_refl _, Nat.zero_le _, rfl, rfl⟩⟩ (hB.ext hh.ext) (by simp only [maxLen]; omega) (by omega) (.inl rfl) rfl ?_) | (refine ops_appendM (A := []) (B := d.r) (X := [(B82, .cells #[] 53)]) (m := 0) hf (hh.perm (.swap _ _ _)) Tryd.eb_22 rfl rfl ⟨rfl, .inr ⟨B82, 0, #[], rfl, rfl, Nat.le_refl _, Nat.zero_le _, rfl, rfl⟩⟩ (hB.ext hh.ext) (by simp only [maxLen]; omega) (by omega) (.inl rfl) rfl ?_) | (refine ops_appendM (A := []) (B := d.r) (X := [(B82, .cells #[] 53)]) (m := 0) hf (hh.perm List.perm_middle) Tryd.eb_22 rfl rfl ⟨rfl, .inr ⟨B82, 0, #[], rfl, rfl, Nat.le_refl _, Nat.zero_le _, rfl, rfl⟩⟩ (hB.ext hh.ext) (by simp only [maxLen]; omega) (by omega) (.inl rfl) rfl ?_)
       clear hf hh; clear a
       intro v7 X7 a w hO7 hf hh
       rw [Nat.zero_add, List.nil_append] at hO7
       refine ops_end ?_
       refine then_n ⟨⟨fun _ _ => (AtE.mk1 hh.ext (hh.get (B1, .cells (rowsV d sa sb ca cb).cells 26) (by simp))), trivial⟩, ?_⟩
       refine mc_p rfl   hf (yv_assign rfl) (.inl rfl) rfl rfl ?_; clear hf a; intro a hf
       refine mc_p rfl   hf (yv_assign rfl) (.inl rfl) rfl rfl ?_; clear hf a; intro a hf
       refine mc_end ?_
       refine then_n ?_
       exact ⟨(v6, X6, v7, X7), ⟨hO6, hO7, hh⟩, hf.head ⟨rfl, rfl, True.intro⟩ (Keep.cons rfl (Keep.cons rfl (Keep.cons rfl (Keep.cons rfl (Keep.cons rfl (Keep.cons rfl (Keep.cons rfl (Keep.cons rfl (Keep.cons rfl (Keep.cons rfl (Keep.base)))))))))))⟩
     ·rintro q a w ⟨hO6, hO7, hh⟩ hf
      obtain ⟨v6, X6, v7, X7⟩ := q
      simp only at hO6 hO7 hh hf
      obtain ⟨oa6, cp6, rfl⟩ := OwnSl_val hO6
      obtain ⟨oa7, cp7, rfl⟩ := OwnSl_val hO7
      have hOl' : OwnSl 53 4 (.slice oal (mirL d.l).length cpl) (mirL d.l).length (encM (mirL d.l)) Xl := by rw [mirL_len]; exact hOl
      have hOr' : OwnSl 53 4 (.slice oar (mirL d.r).length cpr) (mirL d.r).length (encM (mirL d.r)) Xr := by rw [mirL_len]; exact hOr
      have he1 := hh.ext
      have hb1 := hh.get (B1, .cells (rowsV d sa sb ca cb).cells 26) (by simp)
      have hb3 := hh.get (B3, .cells (rowsV (tX d) sb sa cb ca).cells 26) (by simp)
      have hb4 := hh.get (B4, .cells (rowsV (tY d) oal oar cpl cpr).cells 26) (by simp)
      have hMl := mkAt_of hOl' fun x hx => hh.get x (by simp [hx])
      have hMr := mkAt_of hOr' fun x hx => hh.get x (by simp [hx])
      have hC6 := mkAt_of hO6 fun x hx => hh.get x (by simp [hx])
      have hC7 := mkAt_of hO7 fun x hx => hh.get x (by simp [hx])
      have hA1 := hA.ext hh.ext
      have hB1 := hB.ext hh.ext
      have hT1 := hT.ext hh.ext (by simp)
      obtain ⟨u1, rfl⟩ : ∃ z, z = w := ⟨_, rfl⟩
      replace hh := Hp.init u1 []
      
      refine sy_sq ?_
      refine o_v hf hh (y_lds Tryd.ag_26 rfl) ?_; clear hf a; intro a hf
      refine o_call hf Tryd.en_17 rfl rfl rfl (c17 d sa sb ca cb _ (hA1.ext hh.ext) (hB1.ext hh.ext)) ?_; clear hf a; intro v a w hR hf
      obtain ⟨rfl, hx⟩ := hR; replace hh := hh.more hx; clear hx
      refine o_v hf hh (yv_move rfl) ?_; clear hf a; intro a hf
      refine o_v hf hh (yv_extract rfl rfl) ?_; clear hf a; intro a hf
      refine o_v hf hh (yv_extract rfl rfl) ?_; clear hf a; intro a hf
      refine o_v hf hh (yv_assign rfl) ?_; clear hf a; intro a hf
      refine o_v hf hh (yv_assign rfl) ?_; clear hf a; intro a hf
      refine o_end ?_
      refine sy_sq ?_
      refine o_v hf hh (y_lds Tryd.ag_26 rfl) ?_; clear hf a; intro a hf
      refine o_call hf Tryd.en_17 rfl rfl rfl (c17 (tX d) sb sa cb ca _ (hB1.ext hh.ext) (hA1.ext hh.ext)) ?_; clear hf a; intro v a w hR hf
      obtain ⟨rfl, hx⟩ := hR; replace hh := hh.more hx; clear hx
      refine o_v hf hh (yv_move rfl) ?_; clear hf a; intro a hf
      refine o_v hf hh (yv_extract rfl rfl) ?_; clear hf a; intro a hf
      refine o_v hf hh (yv_extract rfl rfl) ?_; clear hf a; intro a hf
      refine o_v hf hh (yv_assign rfl) ?_; clear hf a; intro a hf
      refine o_v hf hh (yv_assign rfl) ?_; clear hf a; intro a hf
      refine o_end ?_
      refine sy_sq ?_
      refine o_v hf hh (y_lds Tryd.ag_26 rfl) ?_; clear hf a; intro a hf
      refine o_call hf Tryd.en_17 rfl rfl rfl (c17 (tY d) oal oar cpl cpr _ (hMl.ext hh.ext) (hMr.ext hh.ext)) ?_; clear hf a; intro v a w hR hf
      obtain ⟨rfl, hx⟩ := hR; replace hh := hh.more hx; clear hx
      refine o_v hf hh (yv_move rfl) ?_; clear hf a; intro a hf
      refine o_v hf hh (yv_extract rfl rfl) ?_; clear hf a; intro a hf
      refine o_v hf hh (yv_extract rfl rfl) ?_; clear hf a; intro a hf
      refine o_v hf hh (yv_assign rfl) ?_; clear hf a; intro a hf
      refine o_v hf hh (yv_assign rfl) ?_; clear hf a; intro a hf
      refine o_end ?_
      refine sy_sq ?_
      refine o_v hf hh (y_lds Tryd.ag_26 rfl) ?_; clear hf a; intro a hf
      refine o_call hf Tryd.en_19 rfl rfl rfl (c19 d sa sb ca cb _ (hA1.ext hh.ext) (hB1.ext hh.ext)) ?_; clear hf a; intro v a w hR hf
      obtain ⟨sv14, X14, rfl, hown14, hx⟩ := hR; replace hh : Hp u1 [] X14 w := by simpa using hh.join hx
      clear hx
      obtain ⟨oa14, cap14, rfl⟩ := OwnSl_val hown14
      have hfl : (fewL d).length ≤ 10 := by
        by_cases h : opE d true = 0
        · rw [(fewL_eq h).2]; have := mosD_le d; omega
        · rw [fewL_none h]; simp
      refine o_v hf hh (yv_move rfl) ?_; clear hf a; intro a hf
      refine o_v hf hh (yv_extract rfl rfl) ?_; clear hf a; intro a hf
      refine o_v hf hh (yv_extract rfl rfl) ?_; clear hf a; intro a hf
      refine o_v hf hh (yv_extract rfl rfl) ?_; clear hf a; intro a hf
      refine o_v hf hh (yv_assign rfl) ?_; clear hf a; intro a hf
      refine o_v hf hh (yv_assign rfl) ?_; clear hf a; intro a hf
      refine o_v hf hh (yv_assign rfl) ?_; clear hf a; intro a hf
      refine o_end ?_
      refine sy_sq ?_
      refine o_v hf hh (y_lds Tryd.ag_26 rfl) ?_; clear hf a; intro a hf
      refine o_call hf Tryd.en_19 rfl rfl rfl (c19 (tX d) sb sa cb ca _ (hB1.ext hh.ext) (hA1.ext hh.ext)) ?_; clear hf a; intro v a w hR hf
      obtain ⟨sv17, X17, rfl, _, hx⟩ := hR; replace hh := hh.more hx.ext; clear hx
      refine o_v hf hh (yv_move rfl) ?_; clear hf a; intro a hf
      refine o_v hf hh (yv_extract rfl rfl) ?_; clear hf a; intro a hf
      refine o_v hf hh (yv_extract rfl rfl) ?_; clear hf a; intro a hf
      refine o_v hf hh (yv_extract rfl rfl) ?_; clear hf a; intro a hf
      refine o_v hf hh (yv_assign rfl) ?_; clear hf a; intro a hf
      refine o_v hf hh (yv_assign rfl) ?_; clear hf a; intro a hf
      refine o_v hf hh (yv_assign rfl) ?_; clear hf a; intro a hf
      refine o_end ?_
      refine sy_sq ?_
      refine o_v hf hh (y_lds Tryd.ag_26 rfl) ?_; clear hf a; intro a hf
      refine o_call hf Tryd.en_34 rfl rfl rfl (c34 d sa sb ca cb _ (hA1.ext hh.ext) (hB1.ext hh.ext)) ?_; clear hf a; intro v a w hR hf
      obtain ⟨rfl, hx⟩ := hR; replace hh := hh.more hx; clear hx
      refine o_v hf hh (yv_move rfl) ?_; clear hf a; intro a hf
      refine o_v hf hh (yv_extract rfl rfl) ?_; clear hf a; intro a hf
      refine o_v hf hh (yv_extract rfl rfl) ?_; clear hf a; intro a hf
      refine o_v hf hh (yv_extract rfl rfl) ?_; clear hf a; intro a hf
      refine o_v hf hh (yv_assign rfl) ?_; clear hf a; intro a hf
      refine o_v hf hh (yv_assign rfl) ?_; clear hf a; intro a hf
      refine o_v hf hh (yv_assign rfl) ?_; clear hf a; intro a hf
      refine o_end ?_
      refine sy_sq ?_
      refine o_v hf hh (y_lds Tryd.ag_26 rfl) ?_; clear hf a; intro a hf
      refine o_call hf Tryd.en_34 rfl rfl rfl (c34 (tX d) sb sa cb ca _ (hB1.ext hh.ext) (hA1.ext hh.ext)) ?_; clear hf a; intro v a w hR hf
      obtain ⟨rfl, hx⟩ := hR; replace hh := hh.more hx; clear hx
      refine o_v hf hh (yv_move rfl) ?_; clear hf a; intro a hf
      refine o_v hf hh (yv_extract rfl rfl) ?_; clear hf a; intro a hf
      refine o_v hf hh (yv_extract rfl rfl) ?_; clear hf a; intro a hf
      refine o_v hf hh (yv_extract rfl rfl) ?_; clear hf a; intro a hf
      refine o_v hf hh (yv_assign rfl) ?_; clear hf a; intro a hf
      refine o_v hf hh (yv_assign rfl) ?_; clear hf a; intro a hf
      refine o_v hf hh (yv_assign rfl) ?_; clear hf a; intro a hf
      refine o_end ?_
      refine sy_sq ?_
      refine o_v hf hh (y_lds Tryd.ag_26 rfl) ?_; clear hf a; intro a hf
      refine o_call hf Tryd.en_30 rfl rfl rfl (c30 d sa sb ca cb _ (hA1.ext hh.ext) (hB1.ext hh.ext)) ?_; clear hf a; intro v a w hR hf
      obtain ⟨sv26, X26, rfl, hown26, hx⟩ := hR; replace hh : Hp u1 [] (X14 ++ X26) w := (hh.join hx).perm List.perm_append_comm
      clear hx
      obtain ⟨oa26, cap26, rfl⟩ := OwnSl_val hown26
      refine o_v hf hh (yv_move rfl) ?_; clear hf a; intro a hf
      refine o_v hf hh (yv_extract rfl rfl) ?_; clear hf a; intro a hf
      refine o_v hf hh (yv_extract rfl rfl) ?_; clear hf a; intro a hf
      refine o_v hf hh (yv_assign rfl) ?_; clear hf a; intro a hf
      refine o_v hf hh (yv_assign rfl) ?_; clear hf a; intro a hf
      refine o_end ?_
      refine sy_sq ?_
      refine o_v hf hh (y_lds Tryd.ag_26 rfl) ?_; clear hf a; intro a hf
      refine o_call hf Tryd.en_30 rfl rfl rfl (c30 (tX d) sb sa cb ca _ (hB1.ext hh.ext) (hA1.ext hh.ext)) ?_; clear hf a; intro v a w hR hf
      obtain ⟨sv28, X28, rfl, hown28, hx⟩ := hR; replace hh : Hp u1 [] (X14 ++ (X26 ++ X28)) w := by rw [← List.append_assoc]; exact (hh.join hx).perm List.perm_append_comm
      clear hx
      obtain ⟨oa28, cap28, rfl⟩ := OwnSl_val hown28
      refine o_v hf hh (yv_move rfl) ?_; clear hf a; intro a hf
      refine o_v hf hh (yv_extract rfl rfl) ?_; clear hf a; intro a hf
      refine o_v hf hh (yv_extract rfl rfl) ?_; clear hf a; intro a hf
      refine o_v hf hh (yv_assign rfl) ?_; clear hf a; intro a hf
      refine o_v hf hh (yv_assign rfl) ?_; clear hf a; intro a hf
      refine o_end ?_
      refine sy_sq ?_
      refine ops_buildSl hf hh Tryd.bl_34_0 rfl rfl (.inl rfl) rfl ?_; clear hf hh; clear a; intro B135 a w hf hh
      refine o_v hf hh (yv_move rfl) ?_; clear hf a; intro a hf
      refine ops_appendV (e := 45) (size := 2) (m := 0) (xs := []) (news := encP (fewL d)) (X := [(B135, .cells #[] 45)]) (Z := X14 ++ (X26 ++ X28)) hf hh Tryd.eb_34 rfl rfl ⟨rfl, .inr ⟨B135, 0, #[], rfl, rfl, Nat.le_refl _, Nat.zero_le _, rfl, rfl⟩⟩ (valsAt_own hown14 fun x hx => hh.get x (by simp [hx])) (encP_len _) (by omega) (encP_one _) (by simp only [maxLen]; omega) (by omega) (.inl rfl) rfl ?_; clear hf hh; clear a w; intro v30 X30 a w hown30 hf hh
      rw [Nat.zero_add, List.nil_append] at hown30
      obtain ⟨oa30, cap30, rfl⟩ := OwnSl_val hown30
      replace hh : Hp u1 [] (X14 ++ (X26 ++ (X28 ++ X30))) w := by
       have h := hh.perm List.perm_append_comm
       rw [List.append_assoc, List.append_assoc] at h
       exact h
      refine o_v hf hh (yv_assign rfl) ?_; clear hf a; intro a hf
      refine o_end ?_
      refine sy_seq ?_
      refine sy_sq ?_
      refine o_v hf hh (yv_move rfl) ?_; clear hf a; intro a hf
      refine o_v hf hh (yv_len Tryd.se_34 rfl) ?_; clear hf a; intro a hf
      refine o_v hf hh (yv_move rfl) ?_; clear hf a; intro a hf
      refine o_end ?_
      refine sy_block ?_
      refine sy_loopH (σ := Nat × List Value × List (Nat × Obj)) [31, 140, 141, 142, 143, 144, 145, 146, 147] (fun q => [(140, .int .i64 (q.1 : Nat))]) (fun q => fun w' => q.1 ≤ (fewL d).length ∧ OwnSl 45 2 (.slice oa14 (fewL d).length cap14) (fewL d).length q.2.1 q.2.2 ∧ Hp u1 [] (q.2.2 ++ (X26 ++ (X28 ++ X30))) w') (fun q => (fewL d).length - q.1) ((0, encP (fewL d), X14)) hf ?_ ?_ ?_
      · exact ⟨rfl, True.intro⟩
      · exact ⟨Nat.zero_le _, hown14, hh⟩
      ·rintro q a w ⟨hi, hO, hh⟩ hf
       obtain ⟨i, xs, X⟩ := q; simp only at hi hO hh hf ⊢
       refine sy_sq ?_
       refine o_v hf hh (yv_bin rfl rfl rfl) ?_; clear hf a; intro a hf
       refine o_end ?_
       refine sy_seq ?_
       refine sy_cond hf rfl (fun hg50 => ?_) (fun hg50 => ?_)
       ·have hG50 := hg50; try simp only [gS] at hG50
        refine sy_skip ?_
        refine then_n ?_
        refine sy_seq ?_
        refine sy_block ?_
        refine sy_sq ?_
        refine o_v hf hh (yv_move rfl) ?_; clear hf a; intro a hf
        refine o_v hf hh (yv_assign rfl) ?_; clear hf a; intro a hf
        refine o_end ?_
        obtain ⟨Bk, cur, e1, e2, hcl, hcm, hcs⟩ : ∃ B cur, oa14 = some ⟨B, 0, none⟩ ∧ X = [(B, .cells cur 45 (0, 0))] ∧ (fewL d).length ≤ cap14 ∧ cap14 ≤ maxLen ∧ cur.size = cap14 * 2 := by
          rcases hO.2 with ⟨_, h0, _⟩ | ⟨B, cap, cur, h1, h2, h3, h4, h5, _⟩
          · omega
          · cases h1; exact ⟨B, cur, rfl, h2, h3, h4, h5⟩
        subst e1; subst e2
        refine sy_ops ?_
        refine o_v hf hh (yv_move rfl) ?_; clear hf a; intro a hf
        refine o_v hf hh (yv_move rfl) ?_; clear hf a; intro a hf
        refine o_v hf hh (yv_buildA Tryd.ba_45 rfl rfl) ?_; clear hf a; intro a hf
        refine o_v hf hh (y_ix Tryd.se_34 rfl rfl) ?_; clear hf a; intro a hf
        refine o_store (i := 0) hf hh Tryd.sz_45 (hx := rfl) (hi := atI (i := 0) rfl) (hy := rfl) (hl := Nat.ble_eq_true_of_le (by rw [Int.toNat_natCast]; omega)) fun w hh => ?_
        refine ops_end ?_
        refine blk_n ?_
        refine then_n ?_
        refine sy_ops ?_
        refine o_v hf hh (y_add rfl rfl) ?_; clear hf a; intro a hf
        refine o_v hf hh (yv_move rfl) ?_; clear hf a; intro a hf
        refine ops_end ?_
        refine then_n ?_
        exact ⟨(i + 1, _, _), ⟨⟨by simp only; omega, ownSl_spl (off := 0 + ((i : Nat) : Int).toNat * 2) (vs := [.int .i64 (-9), .int .i64 (-9)]) hcl hcm hcs (by rw [Int.toNat_natCast]; simp only [List.length_cons, List.length_nil]; omega), hh⟩, hf.head ⟨rfl, True.intro⟩ (Keep.cons rfl (Keep.cons rfl (Keep.cons rfl (Keep.cons rfl (Keep.cons rfl (Keep.cons rfl (Keep.cons rfl (Keep.cons rfl (Keep.cons rfl (Keep.app rfl (Keep.rm rfl Keep.base)))))))))))⟩, by simp only; omega⟩
       ·have hG50 := hg50; try simp only [gS] at hG50
        refine sy_exit ?_
        refine then_e ?_
        refine then_e ?_
        refine blk_e ?_
        refine then_n ?_
        refine sy_sq ?_
        refine o_v hf hh (y_lds Tryd.ag_26 rfl) ?_; clear hf a; intro a hf
        refine o_call hf Tryd.en_19 rfl rfl rfl (c19 d sa sb ca cb _ (hA1.ext hh.ext) (hB1.ext hh.ext)) ?_; clear hf a; intro v a w hR hf
        obtain ⟨sv32, X32, rfl, hown32, hx⟩ := hR; replace hh := hh.join hx; clear hx
        obtain ⟨oa32, cap32, rfl⟩ := OwnSl_val hown32
        have he2 := he1.trans hh.ext
        have hb12 := hh.ext.get hb1
        have hv26 := valsAt_own hown26 fun x hx => hh.get x (by simp [hx])
        have hv28 := valsAt_own hown28 fun x hx => hh.get x (by simp [hx])
        have hv30 := valsAt_own hown30 fun x hx => hh.get x (by simp [hx])
        have hv32 := valsAt_own hown32 fun x hx => hh.get x (by simp [hx])
        have hC62 := hC6.ext hh.ext
        have hC72 := hC7.ext hh.ext
        have hA2 := hA1.ext hh.ext
        have hB2 := hB1.ext hh.ext
        have hT2 := hT1.ext hh.ext (by simp)
        obtain ⟨u2, rfl⟩ : ∃ z, z = w := ⟨_, rfl⟩
        replace hh := Hp.init u2 []
        
        refine o_v hf hh (yv_move rfl) ?_; clear hf a; intro a hf
        refine o_v hf hh (yv_extract rfl rfl) ?_; clear hf a; intro a hf
        refine o_v hf hh (yv_extract rfl rfl) ?_; clear hf a; intro a hf
        refine o_v hf hh (yv_extract rfl rfl) ?_; clear hf a; intro a hf
        refine o_v hf hh (yv_assign rfl) ?_; clear hf a; intro a hf
        refine o_v hf hh (yv_assign rfl) ?_; clear hf a; intro a hf
        refine o_v hf hh (yv_assign rfl) ?_; clear hf a; intro a hf
        refine o_end ?_
        refine sy_seq ?_
        refine sy_seq ?_
        obtain ⟨q1, q2, q3, q4, q5⟩ := turn_count hV
        have q6 := turn_op hV; have q7 := turn_few hV
        have q8 : (if opE d true = 0 then ((hideA d : Nat) : Int) else 0) = (if opE (tX d) true = 0 then ((hideB (tX d) : Nat) : Int) else 0) := by rw [q6, (turn_hide (d := d)).2]
        have q9 : (if opE d true = 0 then ((hideB d : Nat) : Int) else 0) = (if opE (tX d) true = 0 then ((hideA (tX d) : Nat) : Int) else 0) := by rw [q6, (turn_hide (d := d)).1]
        refine sy_ops ?_
        refine o_v hf hh (yv_move rfl) ?_; clear hf a; intro a hf
        refine o_v hf hh (yv_move rfl) ?_; clear hf a; intro a hf
        refine o_v hf hh (yv_bin rfl rfl rfl) ?_; clear hf a; intro a hf
        refine o_v hf hh (yv_move rfl) ?_; clear hf a; intro a hf
        refine o_v hf hh (yv_move rfl) ?_; clear hf a; intro a hf
        refine o_v hf hh (yv_move rfl) ?_; clear hf a; intro a hf
        refine o_v hf hh (yv_bin rfl rfl rfl) ?_; clear hf a; intro a hf
        refine o_v hf hh (y_pf rfl rfl) ?_; clear hf a; intro a hf
        refine o_v hf hh (yv_move rfl) ?_; clear hf a; intro a hf
        refine o_v hf hh (yv_move rfl) ?_; clear hf a; intro a hf
        refine o_v hf hh (yv_move rfl) ?_; clear hf a; intro a hf
        refine o_v hf hh (yv_bin rfl rfl rfl) ?_; clear hf a; intro a hf
        refine o_v hf hh (y_pf rfl rfl) ?_; clear hf a; intro a hf
        refine o_v hf hh (yv_move rfl) ?_; clear hf a; intro a hf
        refine o_v hf hh (yv_move rfl) ?_; clear hf a; intro a hf
        refine o_v hf hh (yv_move rfl) ?_; clear hf a; intro a hf
        refine o_v hf hh (yv_bin rfl rfl rfl) ?_; clear hf a; intro a hf
        refine o_v hf hh (y_pf rfl rfl) ?_; clear hf a; intro a hf
        refine o_v hf hh (yv_move rfl) ?_; clear hf a; intro a hf
        refine o_v hf hh (yv_move rfl) ?_; clear hf a; intro a hf
        refine o_v hf hh (yv_move rfl) ?_; clear hf a; intro a hf
        refine o_v hf hh (yv_bin rfl rfl rfl) ?_; clear hf a; intro a hf
        refine o_v hf hh (y_pf rfl rfl) ?_; clear hf a; intro a hf
        refine o_v hf hh (yv_move rfl) ?_; clear hf a; intro a hf
        refine o_v hf hh (yv_move rfl) ?_; clear hf a; intro a hf
        refine o_v hf hh (yv_move rfl) ?_; clear hf a; intro a hf
        refine o_v hf hh (yv_bin rfl rfl rfl) ?_; clear hf a; intro a hf
        refine o_v hf hh (y_pf rfl rfl) ?_; clear hf a; intro a hf
        refine o_v hf hh (yv_move rfl) ?_; clear hf a; intro a hf
        refine o_v hf hh (yv_move rfl) ?_; clear hf a; intro a hf
        refine o_v hf hh (yv_move rfl) ?_; clear hf a; intro a hf
        refine o_v hf hh (yv_bin rfl rfl rfl) ?_; clear hf a; intro a hf
        refine o_v hf hh (y_pf rfl rfl) ?_; clear hf a; intro a hf
        refine o_v hf hh (yv_move rfl) ?_; clear hf a; intro a hf
        refine o_v hf hh (yv_move rfl) ?_; clear hf a; intro a hf
        refine o_v hf hh (yv_move rfl) ?_; clear hf a; intro a hf
        refine o_v hf hh (yv_bin rfl rfl rfl) ?_; clear hf a; intro a hf
        refine o_v hf hh (y_pf rfl rfl) ?_; clear hf a; intro a hf
        refine o_v hf hh (yv_move rfl) ?_; clear hf a; intro a hf
        refine o_v hf hh (yv_move rfl) ?_; clear hf a; intro a hf
        refine o_v hf hh (yv_move rfl) ?_; clear hf a; intro a hf
        refine o_v hf hh (yv_bin rfl rfl rfl) ?_; clear hf a; intro a hf
        refine o_v hf hh (y_pf rfl rfl) ?_; clear hf a; intro a hf
        refine o_v hf hh (yv_move rfl) ?_; clear hf a; intro a hf
        refine o_v hf hh (yv_move rfl) ?_; clear hf a; intro a hf
        refine o_v hf hh (yv_move rfl) ?_; clear hf a; intro a hf
        refine o_v hf hh (yv_bin rfl rfl rfl) ?_; clear hf a; intro a hf
        refine o_v hf hh (y_pf rfl rfl) ?_; clear hf a; intro a hf
        refine o_v hf hh (yv_move rfl) ?_; clear hf a; intro a hf
        refine o_v hf hh (yv_move rfl) ?_; clear hf a; intro a hf
        refine o_v hf hh (yv_move rfl) ?_; clear hf a; intro a hf
        refine o_call hf Tryd.en_21 rfl rfl rfl (c21 (fewL d) (fewL d) oa32 oa30 cap32 cap30 _ (hv32.ext hh.ext) (hv30.ext hh.ext) (by omega)) ?_; clear hf a; intro v a w hR hf
        obtain ⟨rfl, hx⟩ := hR; replace hh := hh.more hx; clear hx
        refine o_v hf hh (yv_not rfl) ?_; clear hf a; intro a hf
        refine o_v hf hh (y_pf rfl rfl) ?_; clear hf a; intro a hf
        refine o_end ?_
        refine c_f hf ?_
        refine sy_skip ?_
        refine then_n ?_
        refine sy_seq ?_
        refine sy_sq ?_
        refine o_v hf hh (yv_move rfl) ?_; clear hf a; intro a hf
        refine o_v hf hh (yv_len Tryd.se_22 rfl) ?_; clear hf a; intro a hf
        refine o_v hf hh (yv_move rfl) ?_; clear hf a; intro a hf
        refine o_end ?_
        refine sy_block ?_
        refine sy_loopF (σ := Nat) [2, 35, 210, 211, 212, 213, 214, 215, 216, 217, 218, 219, 220, 221, 222, 223] (fun i => [(210, .int .i64 i)]) (fun i => i ≤ d.l.length) (fun i => d.l.length - i) (0) hf hh ?_ ?_ ?_
        · repeat' (first | exact True.intro | refine And.intro rfl ?_)
        · first | exact True.intro | omega | (simp; omega) | simp
        ·rintro i a w hi hf hh
         refine sy_sq ?_
         refine o_v hf hh (yv_bin rfl rfl rfl) ?_; clear hf a; intro a hf
         refine o_end ?_
         refine sy_seq ?_
         refine sy_cond hf rfl (fun hg66 => ?_) (fun hg66 => ?_)
         ·have hG66 := hg66; try simp only [gS] at hG66
          refine sy_skip ?_
          refine then_n ?_
          refine sy_seq ?_
          refine sy_block ?_
          refine sy_sq ?_
          refine o_v hf hh (yv_move rfl) ?_; clear hf a; intro a hf
          refine o_v hf hh (yv_assign rfl) ?_; clear hf a; intro a hf
          refine o_end ?_
          refine sy_seq ?_
          obtain ⟨m, hm⟩ := ex_of (l := d.l) (i := i) (by omega)
          obtain ⟨blk, off, c, Tx, fr, e1, hbx, hcx⟩ := hC62 i m hm
          obtain ⟨blk2, off2, c2, Tx2, fr2, e2, hbx2, hcx2⟩ := hA2 i m hm
          have hhk := hh; have hfk := hf; clear hh hf
          subst e1; subst e2
          have hh := hhk; have hf := hfk; clear hhk hfk
          replace hcx : cellsAt c (off + ((i : Nat) : Int).toNat * 4) 4 = some (mkC m) := hcx
          replace hcx2 : cellsAt c2 (off2 + ((i : Nat) : Int).toNat * 4) 4 = some (mkC m) := hcx2
          refine sy_quiet (C := Hp _ _ _) Tryd.follows (by kernel_rfl) (hh.drawn _) ?_
          refine oq_v hf (yv_move rfl) ?_; clear hf a; intro a hf
          refine oq_v hf (yv_move rfl) ?_; clear hf a; intro a hf
          refine oq_v hf (y_ix Tryd.se_22 rfl rfl) ?_; clear hf a; intro a hf
          refine oq_v hf (y_lds Tryd.ag_53 rfl) ?_; clear hf a; intro a hf
          refine oq_v hf (yv_fieldAddr Tryd.fo_26_0 rfl) ?_; clear hf a; intro a hf
          refine oq_v hf (y_ld Tryd.sc_22 rfl) ?_; clear hf a; intro a hf
          refine oq_v hf (yv_move rfl) ?_; clear hf a; intro a hf
          refine oq_v hf (y_ix Tryd.se_22 rfl rfl) ?_; clear hf a; intro a hf
          refine oq_v hf (y_lds Tryd.ag_53 rfl) ?_; clear hf a; intro a hf
          refine oq_v hf (yv_neF [m.al, m.ah, m.tl, m.th] [m.al, m.ah, m.tl, m.th] fl53 rfl rfl) ?_; clear hf a; intro a hf
          refine q_end fun w hh => ?_
          refine then_n ?_
          refine c_f hf ?_
          refine sy_skip ?_
          refine blk_n ?_
          refine then_n ?_
          refine sy_ops ?_
          refine o_v hf hh (y_add rfl rfl) ?_; clear hf a; intro a hf
          refine o_v hf hh (yv_move rfl) ?_; clear hf a; intro a hf
          refine ops_end ?_
          refine then_n ?_
          exact ⟨i + 1, ⟨by omega, (hf.head (by repeat' (first | exact True.intro | refine And.intro rfl ?_)) (Keep.cons rfl (Keep.cons rfl (Keep.cons rfl (Keep.cons rfl (Keep.cons rfl (Keep.cons rfl (Keep.cons rfl (Keep.cons rfl (Keep.cons rfl (Keep.cons rfl (Keep.cons rfl (Keep.cons rfl (Keep.cons rfl (Keep.cons rfl (Keep.cons rfl (Keep.app rfl (Keep.rm rfl Keep.base)))))))))))))))))), hh⟩, by omega⟩
         ·have hG66 := hg66; try simp only [gS] at hG66
          refine sy_exit ?_
          refine then_e ?_
          refine then_e ?_
          refine blk_e ?_
          refine then_n ?_
          refine sy_seq ?_
          refine sy_sq ?_
          refine o_v hf hh (yv_move rfl) ?_; clear hf a; intro a hf
          refine o_v hf hh (yv_len Tryd.se_22 rfl) ?_; clear hf a; intro a hf
          refine o_v hf hh (yv_move rfl) ?_; clear hf a; intro a hf
          refine o_end ?_
          refine sy_block ?_
          refine sy_loopF (σ := Nat) [2, 36, 226, 227, 228, 229, 230, 231, 232, 233, 234, 235, 236, 237, 238, 239] (fun i => [(226, .int .i64 i)]) (fun i => i ≤ d.r.length) (fun i => d.r.length - i) (0) hf hh ?_ ?_ ?_
          · repeat' (first | exact True.intro | refine And.intro rfl ?_)
          · first | exact True.intro | omega | (simp; omega) | simp
          ·rintro i a w hi hf hh
           refine sy_sq ?_
           refine o_v hf hh (yv_bin rfl rfl rfl) ?_; clear hf a; intro a hf
           refine o_end ?_
           refine sy_seq ?_
           refine sy_cond hf rfl (fun hg68 => ?_) (fun hg68 => ?_)
           ·have hG68 := hg68; try simp only [gS] at hG68
            refine sy_skip ?_
            refine then_n ?_
            refine sy_seq ?_
            refine sy_block ?_
            refine sy_sq ?_
            refine o_v hf hh (yv_move rfl) ?_; clear hf a; intro a hf
            refine o_v hf hh (yv_assign rfl) ?_; clear hf a; intro a hf
            refine o_end ?_
            refine sy_seq ?_
            obtain ⟨m, hm⟩ := ex_of (l := d.r) (i := i) (by omega)
            obtain ⟨blk, off, c, Tx, fr, e1, hbx, hcx⟩ := hC72 i m hm
            obtain ⟨blk2, off2, c2, Tx2, fr2, e2, hbx2, hcx2⟩ := hB2 i m hm
            have hhk := hh; have hfk := hf; clear hh hf
            subst e1; subst e2
            have hh := hhk; have hf := hfk; clear hhk hfk
            replace hcx : cellsAt c (off + ((i : Nat) : Int).toNat * 4) 4 = some (mkC m) := hcx
            replace hcx2 : cellsAt c2 (off2 + ((i : Nat) : Int).toNat * 4) 4 = some (mkC m) := hcx2
            refine sy_quiet (C := Hp _ _ _) Tryd.follows (by kernel_rfl) (hh.drawn _) ?_
            refine oq_v hf (yv_move rfl) ?_; clear hf a; intro a hf
            refine oq_v hf (yv_move rfl) ?_; clear hf a; intro a hf
            refine oq_v hf (y_ix Tryd.se_22 rfl rfl) ?_; clear hf a; intro a hf
            refine oq_v hf (y_lds Tryd.ag_53 rfl) ?_; clear hf a; intro a hf
            refine oq_v hf (yv_fieldAddr Tryd.fo_26_1 rfl) ?_; clear hf a; intro a hf
            refine oq_v hf (y_ld Tryd.sc_22 rfl) ?_; clear hf a; intro a hf
            refine oq_v hf (yv_move rfl) ?_; clear hf a; intro a hf
            refine oq_v hf (y_ix Tryd.se_22 rfl rfl) ?_; clear hf a; intro a hf
            refine oq_v hf (y_lds Tryd.ag_53 rfl) ?_; clear hf a; intro a hf
            refine oq_v hf (yv_neF [m.al, m.ah, m.tl, m.th] [m.al, m.ah, m.tl, m.th] fl53 rfl rfl) ?_; clear hf a; intro a hf
            refine q_end fun w hh => ?_
            refine then_n ?_
            refine c_f hf ?_
            refine sy_skip ?_
            refine blk_n ?_
            refine then_n ?_
            refine sy_ops ?_
            refine o_v hf hh (y_add rfl rfl) ?_; clear hf a; intro a hf
            refine o_v hf hh (yv_move rfl) ?_; clear hf a; intro a hf
            refine ops_end ?_
            refine then_n ?_
            exact ⟨i + 1, ⟨by omega, (hf.head (by repeat' (first | exact True.intro | refine And.intro rfl ?_)) (Keep.cons rfl (Keep.cons rfl (Keep.cons rfl (Keep.cons rfl (Keep.cons rfl (Keep.cons rfl (Keep.cons rfl (Keep.cons rfl (Keep.cons rfl (Keep.cons rfl (Keep.cons rfl (Keep.cons rfl (Keep.cons rfl (Keep.cons rfl (Keep.cons rfl (Keep.app rfl (Keep.rm rfl Keep.base)))))))))))))))))), hh⟩, by omega⟩
           ·have hG68 := hg68; try simp only [gS] at hG68
            refine sy_exit ?_
            refine then_e ?_
            refine then_e ?_
            refine blk_e ?_
            refine then_n ?_
            refine sy_seq ?_
            refine sy_sq ?_
            refine o_v hf hh (yv_move rfl) ?_; clear hf a; intro a hf
            refine o_v hf hh (yv_bin rfl rfl rfl) ?_; clear hf a; intro a hf
            refine o_end ?_
            refine sy_cond hf rfl (fun hg70 => ?_) (fun hg70 => ?_)
            ·have hG70 := hg70; try simp only [gS] at hG70
             refine sy_seq ?_
             have hne : opE d true ≠ 0 := by omega
             have hl1 : (if opE d true = 0 then canL d else []).length = 0 := by rw [if_neg hne]; rfl
             have hl2 : (if opE (tX d) true = 0 then canL (tX d) else []).length = 0 := by rw [q6, if_neg hne]; rfl
             refine sy_ops ?_
             refine o_v hf hh (yv_move rfl) ?_; clear hf a; intro a hf
             refine o_v hf hh (yv_len Tryd.se_55 rfl) ?_; clear hf a; intro a hf
             refine o_v hf hh (yv_bin rfl rfl rfl) ?_; clear hf a; intro a hf
             refine o_v hf hh (yv_move rfl) ?_; clear hf a; intro a hf
             refine o_v hf hh (yv_move rfl) ?_; clear hf a; intro a hf
             refine o_v hf hh (yv_len Tryd.se_55 rfl) ?_; clear hf a; intro a hf
             refine o_v hf hh (yv_bin rfl rfl rfl) ?_; clear hf a; intro a hf
             refine o_v hf hh (y_pt rfl rfl) ?_; clear hf a; intro a hf
             refine o_v hf hh (yv_move rfl) ?_; clear hf a; intro a hf
             refine o_call hf Tryd.en_14 rfl rfl rfl (c14 _ (hT2.ext hh.ext (by simp))) ?_; clear hf a; intro v a w hR hf
             obtain ⟨rfl, hx⟩ := hR; replace hh := hh.more hx; clear hx
             refine o_v hf hh (y_pt rfl rfl) ?_; clear hf a; intro a hf
             refine o_v hf hh (yv_assign rfl) ?_; clear hf a; intro a hf
             refine o_end ?_
             refine sy_ret ?_
             refine then_r ?_
             refine ret_r hf rfl rfl ?_
             first
               | exact ⟨rfl, hh.ext⟩
               | exact ⟨rfl, he2.trans hh.ext⟩
            ·have hG70 := hg70; try simp only [gS] at hG70
             refine sy_skip ?_
             refine then_n ?_
             refine sy_seq ?_
             refine sy_seq ?_
             have hop : opE d true = 0 := by omega
             have hopx : opE (tX d) true = 0 := by omega
             have hl1 : (if opE d true = 0 then canL d else []).length = d.l.length := by rw [if_pos hop]; simp [canL]
             have hl2 : (if opE (tX d) true = 0 then canL (tX d) else []).length = d.r.length := by rw [if_pos hopx]; simp [canL, tX]
             refine sy_ops ?_
             refine o_v hf hh (yv_move rfl) ?_; clear hf a; intro a hf
             refine o_v hf hh (yv_len Tryd.se_55 rfl) ?_; clear hf a; intro a hf
             refine o_v hf hh (yv_fieldAddr Tryd.fo_26_0 rfl) ?_; clear hf a; intro a hf
             refine o_v hf hh (y_ld Tryd.sc_22 rfl) ?_; clear hf a; intro a hf
             refine o_v hf hh (yv_len Tryd.se_22 rfl) ?_; clear hf a; intro a hf
             refine o_v hf hh (yv_bin rfl rfl rfl) ?_; clear hf a; intro a hf
             refine o_v hf hh (yv_move rfl) ?_; clear hf a; intro a hf
             refine o_v hf hh (yv_move rfl) ?_; clear hf a; intro a hf
             refine o_v hf hh (yv_len Tryd.se_55 rfl) ?_; clear hf a; intro a hf
             refine o_v hf hh (yv_fieldAddr Tryd.fo_26_1 rfl) ?_; clear hf a; intro a hf
             refine o_v hf hh (y_ld Tryd.sc_22 rfl) ?_; clear hf a; intro a hf
             refine o_v hf hh (yv_len Tryd.se_22 rfl) ?_; clear hf a; intro a hf
             refine o_v hf hh (yv_bin rfl rfl rfl) ?_; clear hf a; intro a hf
             refine o_v hf hh (y_pf rfl rfl) ?_; clear hf a; intro a hf
             refine o_end ?_
             refine c_f hf ?_
             refine sy_skip ?_
             refine then_n ?_
             refine sy_seq ?_
             refine sy_sq ?_
             refine o_v hf hh (yv_move rfl) ?_; clear hf a; intro a hf
             refine o_v hf hh (yv_len Tryd.se_55 rfl) ?_; clear hf a; intro a hf
             refine o_v hf hh (yv_move rfl) ?_; clear hf a; intro a hf
             refine o_end ?_
             refine sy_block ?_
             refine sy_loopF (σ := Nat) [2, 37, 38, 269, 270, 271, 272, 273, 274, 275, 276, 277, 278, 279, 280, 281, 282, 283, 284, 285, 286, 287, 288, 289, 290, 291, 292, 293] (fun i => [(269, .int .i64 i)]) (fun i => i ≤ d.l.length) (fun i => d.l.length - i) (0) hf hh ?_ ?_ ?_
             · repeat' (first | exact True.intro | refine And.intro rfl ?_)
             · first | exact True.intro | omega | (simp; omega) | simp
             ·rintro i a w hi hf hh
              refine sy_sq ?_
              refine o_v hf hh (yv_bin rfl rfl rfl) ?_; clear hf a; intro a hf
              refine o_end ?_
              refine sy_seq ?_
              refine sy_cond hf rfl (fun hg77 => ?_) (fun hg77 => ?_)
              ·have hG77 := hg77; try simp only [gS] at hG77
               refine sy_skip ?_
               refine then_n ?_
               refine sy_seq ?_
               refine sy_block ?_
               refine sy_sq ?_
               refine o_v hf hh (yv_move rfl) ?_; clear hf a; intro a hf
               refine o_v hf hh (yv_assign rfl) ?_; clear hf a; intro a hf
               refine o_end ?_
               refine sy_sq ?_
               refine o_v hf hh (yv_move rfl) ?_; clear hf a; intro a hf
               refine o_v hf hh (yv_len Tryd.se_55 rfl) ?_; clear hf a; intro a hf
               refine o_v hf hh (yv_move rfl) ?_; clear hf a; intro a hf
               refine o_end ?_
               refine sy_block ?_
               refine sy_loopF (σ := Nat) [2, 38, 274, 275, 276, 277, 278, 279, 280, 281, 282, 283, 284, 285, 286, 287, 288, 289, 290, 291, 292] (fun k => [(274, .int .i64 k)]) (fun k => k ≤ d.r.length) (fun k => d.r.length - k) (0) hf hh ?_ ?_ ?_
               · repeat' (first | exact True.intro | refine And.intro rfl ?_)
               · first | exact True.intro | omega | (simp; omega) | simp
               ·rintro k a w hk hf hh
                refine sy_sq ?_
                refine o_v hf hh (yv_bin rfl rfl rfl) ?_; clear hf a; intro a hf
                refine o_end ?_
                refine sy_seq ?_
                refine sy_cond hf rfl (fun hg79 => ?_) (fun hg79 => ?_)
                ·have hG79 := hg79; try simp only [gS] at hG79
                 refine sy_skip ?_
                 refine then_n ?_
                 refine sy_seq ?_
                 refine sy_block ?_
                 refine sy_sq ?_
                 refine o_v hf hh (yv_move rfl) ?_; clear hf a; intro a hf
                 refine o_v hf hh (yv_assign rfl) ?_; clear hf a; intro a hf
                 refine o_end ?_
                 refine sy_seq ?_
                 have hil : i < d.l.length := by omega
                 have hkr : k < d.r.length := by omega
                 obtain ⟨blk, off, c, Tc, fr, e1, hbx, hcx⟩ := ints_at hv26 (i := i) (z := ((canS d i : Nat) : Int)) (by rw [if_pos hop]; simp [canL, hil])
                 obtain ⟨blk2, off2, c2, Tc2, fr2, e2, hbx2, hcx2⟩ := ints_at hv28 (i := k) (z := ((canS (tX d) k : Nat) : Int)) (by rw [if_pos hopx]; simp [canL, tX, hkr])
                 subst e1; subst e2
                 have hc0 := canS_1024 hnr i
                 have hc1 := canS_1024 (d := tX d) hnl k
                 have hbe : ((canS d i >>> k &&& 1 : Nat) : Int) = ((canS (tX d) k >>> i &&& 1 : Nat) : Int) := by rw [bit1, bit1, turn_can hil hkr]
                 refine sy_quiet (C := Hp _ _ _) Tryd.follows (by kernel_rfl) (hh.drawn _) ?_
                 refine oq_v hf (yv_move rfl) ?_; clear hf a; intro a hf
                 refine oq_v hf (yv_move rfl) ?_; clear hf a; intro a hf
                 refine oq_v hf (y_ix Tryd.se_55 rfl rfl) ?_; clear hf a; intro a hf
                 refine oq_v hf (y_ld Tryd.sc_3 rfl) ?_; clear hf a; intro a hf
                 refine oq_v hf (yv_move rfl) ?_; clear hf a; intro a hf
                 refine oq_v hf (yv_shrN rfl rfl) ?_; clear hf a; intro a hf
                 refine oq_v hf (yv_and1 rfl rfl (by omega)) ?_; clear hf a; intro a hf
                 refine oq_v hf (yv_move rfl) ?_; clear hf a; intro a hf
                 refine oq_v hf (yv_move rfl) ?_; clear hf a; intro a hf
                 refine oq_v hf (y_ix Tryd.se_55 rfl rfl) ?_; clear hf a; intro a hf
                 refine oq_v hf (y_ld Tryd.sc_3 rfl) ?_; clear hf a; intro a hf
                 refine oq_v hf (yv_move rfl) ?_; clear hf a; intro a hf
                 refine oq_v hf (yv_shrN rfl rfl) ?_; clear hf a; intro a hf
                 refine oq_v hf (yv_and1 rfl rfl (by omega)) ?_; clear hf a; intro a hf
                 refine oq_v hf (yv_cast (yv_bin rfl rfl rfl) (show Value.bool (!decide (((canS d i >>> k &&& 1 : Nat) : Int) = ((canS (tX d) k >>> i &&& 1 : Nat) : Int))) = Value.bool false by rw [hbe]; simp)) ?_; clear hf a; intro a hf
                 refine q_end fun w hh => ?_
                 refine then_n ?_
                 refine c_f hf ?_
                 refine sy_skip ?_
                 refine blk_n ?_
                 refine then_n ?_
                 refine sy_ops ?_
                 refine o_v hf hh (y_add rfl rfl) ?_; clear hf a; intro a hf
                 refine o_v hf hh (yv_move rfl) ?_; clear hf a; intro a hf
                 refine ops_end ?_
                 refine then_n ?_
                 exact ⟨k + 1, ⟨by omega, (hf.head (by repeat' (first | exact True.intro | refine And.intro rfl ?_)) (Keep.cons rfl (Keep.cons rfl (Keep.cons rfl (Keep.cons rfl (Keep.cons rfl (Keep.cons rfl (Keep.cons rfl (Keep.cons rfl (Keep.cons rfl (Keep.cons rfl (Keep.cons rfl (Keep.cons rfl (Keep.cons rfl (Keep.cons rfl (Keep.cons rfl (Keep.cons rfl (Keep.cons rfl (Keep.cons rfl (Keep.cons rfl (Keep.cons rfl (Keep.app rfl (Keep.rm rfl Keep.base))))))))))))))))))))))), hh⟩, by omega⟩
                ·have hG79 := hg79; try simp only [gS] at hG79
                 refine sy_exit ?_
                 refine then_e ?_
                 refine then_e ?_
                 refine blk_e ?_
                 refine blk_n ?_
                 refine then_n ?_
                 refine sy_ops ?_
                 refine o_v hf hh (y_add rfl rfl) ?_; clear hf a; intro a hf
                 refine o_v hf hh (yv_move rfl) ?_; clear hf a; intro a hf
                 refine ops_end ?_
                 refine then_n ?_
                 exact ⟨i + 1, ⟨by omega, (hf.head (by repeat' (first | exact True.intro | refine And.intro rfl ?_)) (Keep.cons rfl (Keep.cons rfl (Keep.cons rfl (Keep.app rfl (Keep.rm rfl (Keep.cons rfl (Keep.cons rfl (Keep.cons rfl (Keep.cons rfl (Keep.cons rfl (Keep.cons rfl (Keep.app rfl (Keep.rm rfl Keep.base)))))))))))))), hh⟩, by omega⟩
              ·have hG77 := hg77; try simp only [gS] at hG77
               refine sy_exit ?_
               refine then_e ?_
               refine then_e ?_
               refine blk_e ?_
               refine then_n ?_
               refine sy_sq ?_
               refine o_call hf Tryd.en_14 rfl rfl rfl (c14 _ (hT2.ext hh.ext (by simp))) ?_; clear hf a; intro v a w hR hf
               obtain ⟨rfl, hx⟩ := hR; replace hh := hh.more hx; clear hx
               refine o_v hf hh (yv_assign rfl) ?_; clear hf a; intro a hf
               refine o_end ?_
               refine sy_ret ?_
               refine ret_r hf rfl rfl ?_
               first
                 | exact ⟨rfl, hh.ext⟩
                 | exact ⟨rfl, he2.trans hh.ext⟩
end Go.Proofs.YtemmhdgaagaglaaDoor
