/- Lemmas, in order: Who truly sold the cards. Royalties where no card is told twice.. -/
import Derived.Test.YtkfkifkdncdhoaaQ16
namespace Go.Proofs.Ytkfkifkdncdhoaa
open Go Go.Sy Go.RoyM
set_option maxRecDepth 100000 in
set_option maxHeartbeats 4000000 in
theorem p41 (d : RoyD) (p : Pl) (k : Int) (y : List Int) (sy : Option Addr) (cy : Nat) (u : World) (hR : RoyAt u d p) (hO : RoyOk d) (hY : BAt u sy y) (hy0 : 0 < y.length) (hyl : y.length ≤ 9223372036854775807) (hyb : ∀ z ∈ y, 0 ≤ z ∧ z ≤ 255) : Calls Try.prog 41 #[.agg (royC d p), .int .i64 k, .slice sy y.length cy] u (Ret fun v w' => ∃ t X, t ∈ truL d k ∧ OwnSl 3 1 v t.length (nvs t) X ∧ Hp u [] X w') := by
  refine calls_of Try.func41 rfl rfl (fun a hf => ?_)
  have hh := Hp.init u []
  have hnt := hO.nt
  refine sy_sq ?_
  refine o_box hf hh ?_; clear hf hh a; intro B3 a w hf hh
  refine o_v hf hh (yv_assign rfl) ?_; clear hf a; intro a hf
  refine o_end ?_
  refine sy_sq ?_
  refine o_v hf hh (yv_assign rfl) ?_; clear hf a; intro a hf
  refine o_end ?_
  refine sy_seq ?_
  refine sy_sq ?_
  refine o_v hf hh (y_lds Try.ag_37 rfl) ?_; clear hf a; intro a hf
  refine o_v hf hh (yv_move rfl) ?_; clear hf a; intro a hf
  refine o_call hf Try.en_42 rfl rfl rfl (p42 d p k _ (hR.ext hh.ext) hO) ?_; clear hf a; intro v a w hR hf
  obtain ⟨X4, hO4, hx⟩ := hR; obtain ⟨oa4, cp4, rfl, _, hN⟩ := own_nat hO4 hx.get
  have hh9 := hh.more hx.ext
  have hR9 := hR.ext hh9.ext
  have hY9 := hY.ext hh9.ext
  have q3 := hh9.at (i := 0) rfl
  obtain ⟨w9, rfl⟩ : ∃ z, z = w := ⟨_, rfl⟩
  clear hh hx
  have hh := Hp.init w9 []
  obtain ⟨cs, hcs⟩ : ∃ cs, cs = csL d k := ⟨_, rfl⟩
  obtain ⟨ws, hws⟩ : ∃ ws, ws = wsL d k := ⟨_, rfl⟩
  have hlen : cs.length = ws.length := by rw [hcs, hws, cs_len]
  have hw12 : ws.length ≤ 12 := by rw [hws]; exact ws_len d k
  rw [← hcs] at hN hf
  refine o_v hf hh (yv_len Try.se_22 rfl) ?_; clear hf a; intro a hf
  refine o_v hf hh (yv_move rfl) ?_; clear hf a; intro a hf
  refine o_end ?_
  refine sy_block ?_
  refine sy_loopH (σ := Nat × List Nat × Value × List (Nat × Obj)) [7, 8, 9, 10, 15, 16, 17, 18, 19, 20, 21, 22, 23, 24, 25, 26, 27, 28, 29, 30, 31, 32, 33, 34, 35, 36, 37, 38, 39, 40, 41] (fun s => [(7, s.2.2.1), (15, .int .i64 (s.1 : Nat))]) (fun s => fun w' => s.1 ≤ ws.length ∧ TruT d.terms.length ws s.2.1 s.1 ∧ OwnSl 3 1 s.2.2.1 s.2.1.length (nvs s.2.1) s.2.2.2 ∧ Hp w9 [] s.2.2.2 w') (fun s => ws.length - s.1) ((0, [], .slice none 0 0, [])) hf ?_ ?_ ?_
  · repeat' (first | exact True.intro | refine And.intro rfl ?_)
  · exact ⟨Nat.zero_le _, .zero _ _, OwnSl.nil _ _, hh⟩
  ·rintro s a w ⟨hi, hT, hOt, hh⟩ hf
   obtain ⟨i, t, v7, X7⟩ := s; simp only at hi hT hOt hh hf ⊢
   refine sy_sq ?_
   refine o_v hf hh (yv_bin rfl rfl rfl) ?_; clear hf a; intro a hf
   refine o_end ?_
   refine sy_seq ?_
   refine sy_cond hf rfl (fun hg3 => ?_) (fun hg3 => ?_)
   ·have hG3 := hg3; try simp only [gS] at hG3
    refine sy_skip ?_
    refine then_n ?_
    refine sy_seq ?_
    refine sy_block ?_
    refine sy_seq ?_
    obtain ⟨c, hc⟩ := ex_of (l := cs) (i := i) (by omega)
    obtain ⟨wn, hwn⟩ := ex_of (l := ws) (i := i) (by omega)
    obtain ⟨blkc, offc, ccc, Tc, frc, e, hbc, hcc⟩ := hN i c hc; subst e
    refine sy_ops ?_
    refine o_v hf hh (yv_move rfl) ?_; clear hf a; intro a hf
    refine o_v hf hh (y_ix Try.se_22 rfl rfl) ?_; clear hf a; intro a hf
    refine o_v hf hh (y_ld Try.sc_3 rfl) ?_; clear hf a; intro a hf
    refine o_v hf hh (yv_assign rfl) ?_; clear hf a; intro a hf
    refine o_v hf hh (yv_assign rfl) ?_; clear hf a; intro a hf
    refine o_end ?_
    refine sy_sq ?_
    refine o_v hf hh (y_lds Try.ag_37 rfl) ?_; clear hf a; intro a hf
    refine o_v hf hh (yv_move rfl) ?_; clear hf a; intro a hf
    refine o_v hf hh (yv_move rfl) ?_; clear hf a; intro a hf
    refine o_call hf Try.en_44 rfl rfl rfl (p44 d p k c _ (hR9.ext hh.ext)) ?_; clear hf a; intro v a w hR hf
    obtain ⟨X5, hO5, hx⟩ := hR; rw [claW hO (by rw [← hcs]; exact hc) (by rw [← hws]; exact hwn)] at hO5
    have hll : (clrL d.terms.length wn).length ≤ d.terms.length := by
      unfold clrL
      refine Nat.le_trans (List.length_filter_le _ _) ?_
      rw [List.length_range]; exact Nat.le_refl _
    have hne : clrL d.terms.length wn ≠ [] := (by rw [hws] at hwn; exact sold_some hO k wn (List.mem_of_getElem? hwn))
    have hlp := List.length_pos_iff.2 hne
    obtain ⟨l, hl⟩ : ∃ l, l = clrL d.terms.length wn := ⟨_, rfl⟩
    rw [← hl] at hO5 hll hlp
    obtain ⟨oa5, cp5, rfl⟩ := own_val hO5
    replace hh := hh.join hx; clear hx
    refine o_v hf hh (yv_assign rfl) ?_; clear hf a; intro a hf
    refine o_end ?_
    obtain ⟨bi, hbi⟩ : ∃ bi : Nat, bi = i % y.length := ⟨_, rfl⟩
    have hbl2 : bi < y.length := by rw [hbi]; exact Nat.mod_lt _ hy0
    obtain ⟨z, hz⟩ := ex_of hbl2
    have hzb := hyb z (List.mem_of_getElem? hz)
    obtain ⟨blk2, off2, cc2, T2, fr2, e2, hb2, hc2⟩ := hY9 bi z hz; subst e2
    obtain ⟨zi, hzi⟩ : ∃ zi : Nat, (zi : Int) = z % (l.length : Nat) := ⟨(z % (l.length : Nat)).toNat, by have := Int.emod_nonneg z (show ((l.length : Nat) : Int) ≠ 0 by omega); omega⟩
    have hzl : zi < l.length := by have := Int.emod_lt_of_pos z (show (0 : Int) < (l.length : Nat) by omega); omega
    obtain ⟨g, hg⟩ := ex_of hzl
    obtain ⟨blk5, off5, cc5, T5, fr5, e5, hbl, hc5⟩ := nat_own hO5 (fun q hq => hh.get q (by simp [hq])) zi g hg; subst e5
    have hib : ((bi : Nat) : Int) = ((i : Nat) : Int) % ((y.length : Nat) : Int) := by rw [hbi]; exact Int.natCast_emod _ _
    refine sy_ops ?_
    refine o_v hf hh (yv_move rfl) ?_; clear hf a; intro a hf
    refine o_v hf hh (yv_move rfl) ?_; clear hf a; intro a hf
    refine o_v hf hh (yv_move rfl) ?_; clear hf a; intro a hf
    refine o_v hf hh (yv_move rfl) ?_; clear hf a; intro a hf
    refine o_v hf hh (yv_move rfl) ?_; clear hf a; intro a hf
    refine o_v hf hh (yv_len Try.se_58 rfl) ?_; clear hf a; intro a hf
    refine ops_v hf hh (yv_cast (yv_rem rfl rfl (by omega) (by omega)) (intv (b := ((bi : Nat) : Int)) hib.symm)) (.inl rfl) rfl rfl rfl ?_; clear hf a; intro a hf
    refine o_v hf hh (y_ix Try.se_58 rfl rfl) ?_; clear hf a; intro a hf
    refine o_v hf hh (y_ld Try.sc_5 rfl) ?_; clear hf a; intro a hf
    first | refine o_v hf hh (yv_convx (.inl rfl) (by kernel_rfl) Try.un_3 rfl (by omega) (by simp only [IntKind.top]; omega)) ?_; clear hf a; intro a hf | refine o_v hf hh (yv_conv (by kernel_rfl) Try.un_3 rfl) ?_; clear hf a; intro a hf
    refine o_v hf hh (yv_move rfl) ?_; clear hf a; intro a hf
    refine o_v hf hh (yv_len Try.se_22 rfl) ?_; clear hf a; intro a hf
    refine ops_v hf hh (yv_cast (yv_rem rfl rfl (by omega) (by omega)) (intv (b := ((zi : Nat) : Int)) hzi.symm)) (.inl rfl) rfl rfl rfl ?_; clear hf a; intro a hf
    refine o_v hf hh (y_ix Try.se_22 rfl rfl) ?_; clear hf a; intro a hf
    refine o_w hf (yv_ldw Try.sc_3 rfl hbl hc5) ?_; clear hf a; intro a hf
    refine ops_buildSl hf hh Try.bl_22_1 rfl rfl (.inl rfl) rfl ?_; clear hf hh; clear a; intro B39 a w hf hh
    refine ops_append (e := 3) (size := 1) (xs := nvs t) (X := X7) (Z := _) (m := t.length) (q := 1) hf (hh.perm (.cons _ (List.perm_append_comm (l₁ := X5) (l₂ := X7)))) Try.eb_22 rfl rfl hOt rfl rfl rfl (by simp only [maxLen]; have := hT.1; omega) (by have := hT.1; omega) (.inl rfl) rfl ?_; clear hf hh a; intro v7n X7n a w hO7n hf hh
    replace hh := hh.less (List.sublist_append_left _ _)
    refine o_v hf hh (yv_assign rfl) ?_; clear hf a; intro a hf
    refine ops_end ?_
    refine blk_n ?_
    refine then_n ?_
    refine sy_ops ?_
    refine o_v hf hh (y_add rfl rfl) ?_; clear hf a; intro a hf
    refine o_v hf hh (yv_move rfl) ?_; clear hf a; intro a hf
    refine ops_end ?_
    refine then_n ?_
    exact ⟨(i + 1, t ++ [g], v7n, X7n), ⟨⟨by simp only; omega, hT.put hwn (by rw [← hl]; exact List.mem_of_getElem? hg), by simp only; rw [nvs_app, List.length_append]; exact hO7n, hh⟩, (hf.head (by repeat' (first | exact True.intro | refine And.intro rfl ?_)) (Keep.cons rfl (Keep.cons rfl (Keep.cons rfl (Keep.cons rfl (Keep.cons rfl (Keep.cons rfl (Keep.cons rfl (Keep.cons rfl (Keep.cons rfl (Keep.cons rfl (Keep.cons rfl (Keep.cons rfl (Keep.cons rfl (Keep.cons rfl (Keep.cons rfl (Keep.cons rfl (Keep.cons rfl (Keep.cons rfl (Keep.cons rfl (Keep.cons rfl (Keep.cons rfl (Keep.cons rfl (Keep.cons rfl (Keep.cons rfl (Keep.cons rfl (Keep.cons rfl (Keep.cons rfl (Keep.cons rfl (Keep.cons rfl (Keep.cons rfl (Keep.cons rfl (Keep.app rfl (Keep.rm rfl Keep.base))))))))))))))))))))))))))))))))))⟩, by simp only; omega⟩
   ·have hG3 := hg3; try simp only [gS] at hG3
    refine sy_exit ?_
    refine then_e ?_
    refine then_e ?_
    refine blk_e ?_
    refine then_n ?_
    refine sy_sq ?_
    refine o_v hf hh (yv_move rfl) ?_; clear hf a; intro a hf
    refine o_v hf hh (yv_assign rfl) ?_; clear hf a; intro a hf
    refine o_end ?_
    refine sy_ret ?_
    refine ret_r hf rfl rfl ?_
    obtain rfl : i = ws.length := by omega
    have hhz : Hp u [] X7 w := (hh9.join hh).less (List.sublist_append_left _ _)
    exact ⟨t, X7, by unfold truL; rw [← hws]; exact hT.done, hOt, hhz⟩
end Go.Proofs.Ytkfkifkdncdhoaa
namespace Go.RoyM
open Go Go.Sy
/-- Whether two reports meet, by their ends. -/
def endB (x y : RepD) : Bool := decide (x.kd = y.kd) && decide (x.fi ≤ y.la) && decide (y.fi ≤ x.la)
theorem end_meet {d : RoyD} {x y : RepD} (hx : RepOk d x) (hy : RepOk d y) : endB x y = meetB x y := by
  have h1 := hx.f0; have h2 := hx.f1; have h3 := hx.l1; have h4 := hy.f0; have h5 := hy.f1; have h6 := hy.l1
  rw [Bool.eq_iff_iff, meet_iff hx hy]
  unfold endB hasB inI
  simp only [Bool.and_eq_true, decide_eq_true_eq, true_and]
  constructor
  · rintro ⟨⟨e, h7⟩, h8⟩
    refine ⟨(max x.fi y.fi).toNat, by omega, ⟨by omega, by omega⟩, e.symm, by omega, by omega⟩
  · rintro ⟨c, hc, h7, e, h8⟩
    exact ⟨⟨e.symm, by omega⟩, by omega⟩
def NoMeet (d : RoyD) : Prop := ∀ (i j : Nat) (x y : RepD), j < i → d.reps[i]? = some x → d.reps[j]? = some y → meetB x y = false
theorem no_two {d : RoyD} (hO : RoyOk d) (hn : NoMeet d) {k : Int} {a b c : Nat} (ha : clmB d k a c = true) (hb : clmB d k b c = true) : a = b := by
  unfold clmB at ha hb
  obtain ⟨x, hx, h1⟩ := List.any_eq_true.1 ha
  obtain ⟨y, hy, h2⟩ := List.any_eq_true.1 hb
  simp only [Bool.and_eq_true, decide_eq_true_eq] at h1 h2
  have hxo := hO.r x hx
  have hyo := hO.r y hy
  have hc12 : c < 12 := by have := hxo.l1; omega
  obtain ⟨i, hi⟩ := List.mem_iff_getElem?.1 hx
  obtain ⟨j, hj⟩ := List.mem_iff_getElem?.1 hy
  have key : ∀ {x y : RepD}, RepOk d x → RepOk d y → (x.kd = k ∧ x.fi ≤ c ∧ (c : Int) ≤ x.la) → (y.kd = k ∧ y.fi ≤ c ∧ (c : Int) ≤ y.la) → meetB x y = true := fun {x y} hxo hyo h1 h2 => by
    rw [meet_iff hxo hyo]
    refine ⟨c, hc12, ?_, ?_⟩
    · unfold hasB inI; simp only [Bool.and_eq_true, decide_eq_true_eq, true_and]; exact ⟨h1.2.1, h1.2.2⟩
    · unfold hasB inI; simp only [Bool.and_eq_true, decide_eq_true_eq]; exact ⟨by rw [h1.1, h2.1], h2.2.1, h2.2.2⟩
  rcases (show j < i ∨ j = i ∨ i < j by omega) with h | h | h
  · have h3 := hn i j x y h hi hj
    rw [key hxo hyo ⟨h1.1.1, h1.2⟩ ⟨h2.1.1, h2.2⟩] at h3; cases h3
  · subst h
    rw [hi] at hj; cases hj
    have := h1.1.2; have := h2.1.2; omega
  · have h3 := hn j i y x h hj hi
    rw [key hyo hxo ⟨h2.1.1, h2.2⟩ ⟨h1.1.1, h1.2⟩] at h3; cases h3
theorem sur_clm {d : RoyD} (hO : RoyOk d) (hn : NoMeet d) (k : Int) (g : Nat) : surN d k g = clm d k g := by
  apply Nat.eq_of_testBit_eq
  intro c
  rw [sur_bit hO, clm_bit hO]
  unfold surB
  cases hc : clmB d k g c
  · rfl
  · rw [Bool.true_and, decide_eq_true_eq, one_of (claL_nodup _ _ _ _) (claL_mem.2 ⟨clm_lt hO hc, hc⟩)]
    exact fun j hj => no_two hO hn (claL_mem.1 hj).2 hc
/-- The cards that the first agents claim. -/
def orC (d : RoyD) (k : Int) : Nat → Nat
  | 0 => 0
  | g + 1 => orC d k g ||| clm d k g
theorem orC_bit {d : RoyD} (k : Int) (c : Nat) : ∀ g, (orC d k g).testBit c = true → ∃ j, j < g ∧ (clm d k j).testBit c = true
  | 0, h => by simp [orC] at h
  | g + 1, h => by
    rw [orC, Nat.testBit_or, Bool.or_eq_true] at h
    rcases h with h | h
    · obtain ⟨j, hj, h1⟩ := orC_bit k c g h
      exact ⟨j, by omega, h1⟩
    · exact ⟨g, by omega, h⟩
theorem orC_lt {d : RoyD} (hO : RoyOk d) (k : Int) : ∀ g, orC d k g < 4096
  | 0 => by simp [orC]
  | g + 1 => or_lt (orC_lt hO k g) (clm_lt12 hO k g)
theorem orC_and {d : RoyD} (hO : RoyOk d) (hn : NoMeet d) (k : Int) (g : Nat) : orC d k g &&& clm d k g = 0 := by
  apply Nat.eq_of_testBit_eq
  intro c
  rw [Nat.testBit_and, Nat.zero_testBit]
  cases h1 : (orC d k g).testBit c
  · rfl
  · cases h2 : (clm d k g).testBit c
    · rfl
    · obtain ⟨j, hj, h3⟩ := orC_bit k c g h1
      rw [clm_bit hO] at h2 h3
      have := no_two hO hn h2 h3
      omega
theorem tru_one {m : Nat} : ∀ {ws : List Nat}, (∀ w ∈ ws, (clrL m w).length = 1) → (truA m ws).length = 1
  | [], _ => by simp [truA]
  | w :: ws, h => by
    have ih := tru_one (m := m) (ws := ws) fun x hx => h x (.tail _ hx)
    have h1 := h w (.head _)
    obtain ⟨g, hg⟩ : ∃ g, clrL m w = [g] := by
      match hl : clrL m w, h1 with
      | [g], _ => exact ⟨g, rfl⟩
    rw [truA, hg, List.flatMap_cons, List.flatMap_nil, List.append_nil, List.length_map, ih]
theorem all_one {d : RoyD} (hO : RoyOk d) (hn : NoMeet d) {k : Int} (he : allE d k = 0) : ∃ z, allV d k = (z, z) := by
  have h1 : (truL d k).length = 1 := tru_one fun w hw => by
    have h0 := sold_some hO k w hw
    unfold wsL at hw
    obtain ⟨y, hy, e⟩ := List.mem_map.1 hw
    obtain ⟨_, h3, _⟩ := soldT_mem.1 hy
    subst e
    rw [h3, who_clr hO] at h0 ⊢
    obtain ⟨g, hg⟩ := List.exists_mem_of_ne_nil _ h0
    have hnd : ((List.range d.terms.length).filter fun g => clmB d k g y.1).Nodup := List.Nodup.sublist List.filter_sublist List.nodup_range
    rw [one_of hnd hg]
    intro j hj
    exact no_two hO hn (List.mem_filter.1 hj).2 (List.mem_filter.1 hg).2
  obtain ⟨t, ht⟩ : ∃ t, truL d k = [t] := by
    match hl : truL d k, h1 with
    | [t], _ => exact ⟨t, rfl⟩
  refine ⟨totV d (priceN d k) (cnt (0, 0, 0, 0) t), ?_⟩
  rw [allV_ok he, reach_map, ht]; rfl
theorem openE_z {d : RoyD} {b : Bool} : openE d b = 0 ↔ royB d = true ∧ b = true := by
  unfold openE
  cases royB d <;> cases b <;> simp
theorem claV_ok {d : RoyD} (hO : RoyOk d) {g k : Nat} (hg : g < d.terms.length) (hk : k < d.prices.length) : claE d g k = 0 ∧ claV d g k = (surN d k g, clm d k g) := by
  have h1 : isAg d g = true := by unfold isAg inI; simp only [Bool.and_eq_true, decide_eq_true_eq]; omega
  have h2 : isKd d k = true := by unfold isKd inI; simp only [Bool.and_eq_true, decide_eq_true_eq]; omega
  have h3 : claE d g k = 0 := openE_z.2 ⟨royB_iff.2 hO, by rw [h1, h2]; rfl⟩
  exact ⟨h3, by unfold claV; rw [if_pos h3]; rfl⟩
theorem allE_ok {d : RoyD} (hO : RoyOk d) {k : Nat} (hk : k < d.prices.length) : allE d k = 0 := by
  have h2 : isKd d k = true := by unfold isKd inI; simp only [Bool.and_eq_true, decide_eq_true_eq]; omega
  exact openE_z.2 ⟨royB_iff.2 hO, h2⟩
theorem lea_cs {d : RoyD} (hO : RoyOk d) {k : Int} (he : allE d k = 0) : (leaV d k).length = (csL d k).length := by
  rw [leaV_ok he, cs_len]
  exact (tru_facts hO (lea_mem hO k)).2.2
theorem tw_none {d : RoyD} (hO : RoyOk d) (h0 : twF d.reps d.reps.length = none) : twA d = (0, 0) ∧ twE d = 4 := by
  have htw : twV d = none := by unfold twV; rw [royB_iff.2 hO, if_pos rfl]; exact h0
  exact ⟨by unfold twA; rw [htw]; rfl, by unfold twE; rw [royB_iff.2 hO, htw]; rfl⟩
theorem tw_some {d : RoyD} (hO : RoyOk d) {i j : Nat} (h0 : twF d.reps d.reps.length = some (i, j)) : twA d = (i, j) ∧ twE d = 0 := by
  have htw : twV d = some (i, j) := by unfold twV; rw [royB_iff.2 hO, if_pos rfl]; exact h0
  exact ⟨by unfold twA; rw [htw]; rfl, by unfold twE; rw [royB_iff.2 hO, htw]; rfl⟩
/-- No two reports meet among the first ones. -/
def NoT (d : RoyD) (n : Nat) : Prop := ∀ (i j : Nat) (x y : RepD), i < n → j < i → d.reps[i]? = some x → d.reps[j]? = some y → meetB x y = false
theorem NoT.next {d : RoyD} {n : Nat} {x : RepD} (h : NoT d n) (hx : d.reps[n]? = some x) (h2 : ∀ z, z < n → ∀ t, d.reps[z]? = some t → meetB x t = false) : NoT d (n + 1) := fun i j x' y hi hj h3 h4 => by
  rcases (show i < n ∨ i = n by omega) with h5 | h5
  · exact h i j x' y h5 hj h3 h4
  · subst h5; rw [hx] at h3; cases h3; exact h2 j hj y h4
theorem NoT.all {d : RoyD} (h : NoT d d.reps.length) : NoMeet d := fun i j x y hj hx hy => h i j x y (len_of hx) hj hx hy
end Go.RoyM
