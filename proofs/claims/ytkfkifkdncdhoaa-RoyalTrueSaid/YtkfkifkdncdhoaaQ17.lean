/- Lemmas, in order: Who truly sold the cards. Royalties where no card is told twice. A report more, of cards that are claimed already. Whoever truly sold the cards.. -/
import Derived.Test.YtkfkifkdncdhoaaQ16
namespace Go.Proofs.Ytkfkifkdncdhoaa
open Go Go.Sy Go.RoyM
set_option maxRecDepth 100000 in
set_option maxHeartbeats 4000000 in
theorem p41 (d : RoyD) (p : Pl) (k : Int) (y : List Int) (sy : Option Addr) (cy : Nat) (u : World) (hR : RoyAt u d p) (hO : RoyOk d) (hY : BAt u sy y) (hy0 : 0 < y.length) (hyl : y.length ≤ 9223372036854775807) (hyb : ∀ z ∈ y, 0 ≤ z ∧ z ≤ 255) : Calls Try.prog 41 #[.agg (royC d p), .int .i64 k, .slice sy y.length cy] u (Ret fun v w' => ∃ t X, t ∈ truL d k ∧ OwnSl 3 1 v t.length (nvs t) X ∧ Hp u [] X w') := by
  refine calls_of Try.func41 rfl rfl (fun a hf => ?_)
  have hh := Hp.init u []
  have hnt := hO.nt
  refine sy_sq ?_
  refine o_box hf hh ?_; clear hf hh a; intro B3 a w hf hh
  refine o_v hf hh (yv_assign rfl) ?_; clear hf a; intro a hf
  refine o_end ?_
  refine sy_sq ?_
  refine o_v hf hh (yv_assign rfl) ?_; clear hf a; intro a hf
  refine o_end ?_
  refine sy_seq ?_
  refine sy_sq ?_
  refine o_v hf hh (y_lds Try.ag_37 rfl) ?_; clear hf a; intro a hf
  refine o_v hf hh (yv_move rfl) ?_; clear hf a; intro a hf
  refine o_call hf Try.en_42 rfl rfl rfl (p42 d p k _ (hR.ext hh.ext) hO) ?_; clear hf a; intro v a w hR hf
  obtain ⟨X4, hO4, hx⟩ := hR; obtain ⟨oa4, cp4, rfl, _, hN⟩ := own_nat hO4 hx.get
  have hh9 := hh.more hx.ext
  have hR9 := hR.ext hh9.ext
  have hY9 := hY.ext hh9.ext
  have q3 := hh9.at (i := 0) rfl
  obtain ⟨w9, rfl⟩ : ∃ z, z = w := ⟨_, rfl⟩
  clear hh hx
  have hh := Hp.init w9 []
  obtain ⟨cs, hcs⟩ : ∃ cs, cs = csL d k := ⟨_, rfl⟩
  obtain ⟨ws, hws⟩ : ∃ ws, ws = wsL d k := ⟨_, rfl⟩
  have hlen : cs.length = ws.length := by rw [hcs, hws, cs_len]
  have hw12 : ws.length ≤ 12 := by rw [hws]; exact ws_len d k
  rw [← hcs] at hN hf
  refine o_v hf hh (yv_len Try.se_22 rfl) ?_; clear hf a; intro a hf
  refine o_v hf hh (yv_move rfl) ?_; clear hf a; intro a hf
  refine o_end ?_
  refine sy_block ?_
  refine sy_loopH (σ := Nat × List Nat × Value × List (Nat × Obj)) [7, 8, 9, 10, 15, 16, 17, 18, 19, 20, 21, 22, 23, 24, 25, 26, 27, 28, 29, 30, 31, 32, 33, 34, 35, 36, 37, 38, 39, 40, 41] (fun s => [(7, s.2.2.1), (15, .int .i64 (s.1 : Nat))]) (fun s => fun w' => s.1 ≤ ws.length ∧ TruT d.terms.length ws s.2.1 s.1 ∧ OwnSl 3 1 s.2.2.1 s.2.1.length (nvs s.2.1) s.2.2.2 ∧ Hp w9 [] s.2.2.2 w') (fun s => ws.length - s.1) ((0, [], .slice none 0 0, [])) hf ?_ ?_ ?_
  · repeat' (first | exact True.intro | refine And.intro rfl ?_)
  · exact ⟨Nat.zero_le _, .zero _ _, OwnSl.nil _ _, hh⟩
  ·rintro s a w ⟨hi, hT, hOt, hh⟩ hf
   obtain ⟨i, t, v7, X7⟩ := s; simp only at hi hT hOt hh hf ⊢
   refine sy_sq ?_
   refine o_v hf hh (yv_bin rfl rfl rfl) ?_; clear hf a; intro a hf
   refine o_end ?_
   refine sy_seq ?_
   refine sy_cond hf rfl (fun hg3 => ?_) (fun hg3 => ?_)
   ·have hG3 := hg3; try simp only [gS] at hG3
    refine sy_skip ?_
    refine then_n ?_
    refine sy_seq ?_
    refine sy_block ?_
    refine sy_seq ?_
    obtain ⟨c, hc⟩ := ex_of (l := cs) (i := i) (by omega)
    obtain ⟨wn, hwn⟩ := ex_of (l := ws) (i := i) (by omega)
    obtain ⟨blkc, offc, ccc, Tc, frc, e, hbc, hcc⟩ := hN i c hc; subst e
    refine sy_ops ?_
    refine o_v hf hh (yv_move rfl) ?_; clear hf a; intro a hf
    refine o_v hf hh (y_ix Try.se_22 rfl rfl) ?_; clear hf a; intro a hf
    refine o_v hf hh (y_ld Try.sc_3 rfl) ?_; clear hf a; intro a hf
    refine o_v hf hh (yv_assign rfl) ?_; clear hf a; intro a hf
    refine o_v hf hh (yv_assign rfl) ?_; clear hf a; intro a hf
    refine o_end ?_
    refine sy_sq ?_
    refine o_v hf hh (y_lds Try.ag_37 rfl) ?_; clear hf a; intro a hf
    refine o_v hf hh (yv_move rfl) ?_; clear hf a; intro a hf
    refine o_v hf hh (yv_move rfl) ?_; clear hf a; intro a hf
    refine o_call hf Try.en_44 rfl rfl rfl (p44 d p k c _ (hR9.ext hh.ext)) ?_; clear hf a; intro v a w hR hf
    obtain ⟨X5, hO5, hx⟩ := hR; rw [claW hO (by rw [← hcs]; exact hc) (by rw [← hws]; exact hwn)] at hO5
    have hll : (clrL d.terms.length wn).length ≤ d.terms.length := by
      unfold clrL
      refine Nat.le_trans (List.length_filter_le _ _) ?_
      rw [List.length_range]; exact Nat.le_refl _
    have hne : clrL d.terms.length wn ≠ [] := (by rw [hws] at hwn; exact sold_some hO k wn (List.mem_of_getElem? hwn))
    have hlp := List.length_pos_iff.2 hne
    obtain ⟨l, hl⟩ : ∃ l, l = clrL d.terms.length wn := ⟨_, rfl⟩
    rw [← hl] at hO5 hll hlp
    obtain ⟨oa5, cp5, rfl⟩ := own_val hO5
    replace hh := hh.join hx; clear hx
    refine o_v hf hh (yv_assign rfl) ?_; clear hf a; intro a hf
    refine o_end ?_
    obtain ⟨bi, hbi⟩ : ∃ bi : Nat, bi = i % y.length := ⟨_, rfl⟩
    have hbl2 : bi < y.length := by rw [hbi]; exact Nat.mod_lt _ hy0
    obtain ⟨z, hz⟩ := ex_of hbl2
    have hzb := hyb z (List.mem_of_getElem? hz)
    obtain ⟨blk2, off2, cc2, T2, fr2, e2, hb2, hc2⟩ := hY9 bi z hz; subst e2
    obtain ⟨zi, hzi⟩ : ∃ zi : Nat, (zi : Int) = z % (l.length : Nat) := ⟨(z % (l.length : Nat)).toNat, by have := Int.emod_nonneg z (show ((l.length : Nat) : Int) ≠ 0 by omega); omega⟩
    have hzl : zi < l.length := by have := Int.emod_lt_of_pos z (show (0 : Int) < (l.length : Nat) by omega); omega
    obtain ⟨g, hg⟩ := ex_of hzl
    obtain ⟨blk5, off5, cc5, T5, fr5, e5, hbl, hc5⟩ := nat_own hO5 (fun q hq => hh.get q (by simp [hq])) zi g hg; subst e5
    have hib : ((bi : Nat) : Int) = ((i : Nat) : Int) % ((y.length : Nat) : Int) := by rw [hbi]; exact Int.natCast_emod _ _
    refine sy_ops ?_
    refine o_v hf hh (yv_move rfl) ?_; clear hf a; intro a hf
    refine o_v hf hh (yv_move rfl) ?_; clear hf a; intro a hf
    refine o_v hf hh (yv_move rfl) ?_; clear hf a; intro a hf
    refine o_v hf hh (yv_move rfl) ?_; clear hf a; intro a hf
    refine o_v hf hh (yv_move rfl) ?_; clear hf a; intro a hf
    refine o_v hf hh (yv_len Try.se_58 rfl) ?_; clear hf a; intro a hf
    refine ops_v hf hh (yv_cast (yv_rem rfl rfl (by omega) (by omega)) (intv (b := ((bi : Nat) : Int)) hib.symm)) (.inl rfl) rfl rfl rfl ?_; clear hf a; intro a hf
    refine o_v hf hh (y_ix Try.se_58 rfl rfl) ?_; clear hf a; intro a hf
    refine o_v hf hh (y_ld Try.sc_5 rfl) ?_; clear hf a; intro a hf
    first | refine o_v hf hh (yv_convx (.inl rfl) (by kernel_rfl) Try.un_3 rfl (by omega) (by simp only [IntKind.top]; omega)) ?_; clear hf a; intro a hf | refine o_v hf hh (yv_conv (by kernel_rfl) Try.un_3 rfl) ?_; clear hf a; intro a hf
    refine o_v hf hh (yv_move rfl) ?_; clear hf a; intro a hf
    refine o_v hf hh (yv_len Try.se_22 rfl) ?_; clear hf a; intro a hf
    refine ops_v hf hh (yv_cast (yv_rem rfl rfl (by omega) (by omega)) (intv (b := ((zi : Nat) : Int)) hzi.symm)) (.inl rfl) rfl rfl rfl ?_; clear hf a; intro a hf
    refine o_v hf hh (y_ix Try.se_22 rfl rfl) ?_; clear hf a; intro a hf
    refine o_w hf (yv_ldw Try.sc_3 rfl hbl hc5) ?_; clear hf a; intro a hf
    refine ops_buildSl hf hh Try.bl_22_1 rfl rfl (.inl rfl) rfl ?_; clear hf hh; clear a; intro B39 a w hf hh
    refine ops_append (e := 3) (size := 1) (xs := nvs t) (X := X7) (Z := _) (m := t.length) (q := 1) hf (hh.perm (.cons _ (List.perm_append_comm (l₁ := X5) (l₂ := X7)))) Try.eb_22 rfl rfl hOt rfl rfl rfl (by simp only [maxLen]; have := hT.1; omega) (by have := hT.1; omega) (.inl rfl) rfl ?_; clear hf hh a; intro v7n X7n a w hO7n hf hh
    replace hh := hh.less (List.sublist_append_left _ _)
    refine o_v hf hh (yv_assign rfl) ?_; clear hf a; intro a hf
    refine ops_end ?_
    refine blk_n ?_
    refine then_n ?_
    refine sy_ops ?_
    refine o_v hf hh (y_add rfl rfl) ?_; clear hf a; intro a hf
    refine o_v hf hh (yv_move rfl) ?_; clear hf a; intro a hf
    refine ops_end ?_
    refine then_n ?_
    exact ⟨(i + 1, t ++ [g], v7n, X7n), ⟨⟨by simp only; omega, hT.put hwn (by rw [← hl]; exact List.mem_of_getElem? hg), by simp only; rw [nvs_app, List.length_append]; exact hO7n, hh⟩, (hf.head (by repeat' (first | exact True.intro | refine And.intro rfl ?_)) (Keep.cons rfl (Keep.cons rfl (Keep.cons rfl (Keep.cons rfl (Keep.cons rfl (Keep.cons rfl (Keep.cons rfl (Keep.cons rfl (Keep.cons rfl (Keep.cons rfl (Keep.cons rfl (Keep.cons rfl (Keep.cons rfl (Keep.cons rfl (Keep.cons rfl (Keep.cons rfl (Keep.cons rfl (Keep.cons rfl (Keep.cons rfl (Keep.cons rfl (Keep.cons rfl (Keep.cons rfl (Keep.cons rfl (Keep.cons rfl (Keep.cons rfl (Keep.cons rfl (Keep.cons rfl (Keep.cons rfl (Keep.cons rfl (Keep.cons rfl (Keep.cons rfl (Keep.app rfl (Keep.rm rfl Keep.base))))))))))))))))))))))))))))))))))⟩, by simp only; omega⟩
   ·have hG3 := hg3; try simp only [gS] at hG3
    refine sy_exit ?_
    refine then_e ?_
    refine then_e ?_
    refine blk_e ?_
    refine then_n ?_
    refine sy_sq ?_
    refine o_v hf hh (yv_move rfl) ?_; clear hf a; intro a hf
    refine o_v hf hh (yv_assign rfl) ?_; clear hf a; intro a hf
    refine o_end ?_
    refine sy_ret ?_
    refine ret_r hf rfl rfl ?_
    obtain rfl : i = ws.length := by omega
    have hhz : Hp u [] X7 w := (hh9.join hh).less (List.sublist_append_left _ _)
    exact ⟨t, X7, by unfold truL; rw [← hws]; exact hT.done, hOt, hhz⟩
end Go.Proofs.Ytkfkifkdncdhoaa
namespace Go.RoyM
open Go Go.Sy
/-- Whether two reports meet, by their ends. -/
def endB (x y : RepD) : Bool := decide (x.kd = y.kd) && decide (x.fi ≤ y.la) && decide (y.fi ≤ x.la)
theorem end_meet {d : RoyD} {x y : RepD} (hx : RepOk d x) (hy : RepOk d y) : endB x y = meetB x y := by
  have h1 := hx.f0; have h2 := hx.f1; have h3 := hx.l1; have h4 := hy.f0; have h5 := hy.f1; have h6 := hy.l1
  rw [Bool.eq_iff_iff, meet_iff hx hy]
  unfold endB hasB inI
  simp only [Bool.and_eq_true, decide_eq_true_eq, true_and]
  constructor
  · rintro ⟨⟨e, h7⟩, h8⟩
    refine ⟨(max x.fi y.fi).toNat, by omega, ⟨by omega, by omega⟩, e.symm, by omega, by omega⟩
  · rintro ⟨c, hc, h7, e, h8⟩
    exact ⟨⟨e.symm, by omega⟩, by omega⟩
def NoMeet (d : RoyD) : Prop := ∀ (i j : Nat) (x y : RepD), j < i → d.reps[i]? = some x → d.reps[j]? = some y → meetB x y = false
theorem no_two {d : RoyD} (hO : RoyOk d) (hn : NoMeet d) {k : Int} {a b c : Nat} (ha : clmB d k a c = true) (hb : clmB d k b c = true) : a = b := by
  unfold clmB at ha hb
  obtain ⟨x, hx, h1⟩ := List.any_eq_true.1 ha
  obtain ⟨y, hy, h2⟩ := List.any_eq_true.1 hb
  simp only [Bool.and_eq_true, decide_eq_true_eq] at h1 h2
  have hxo := hO.r x hx
  have hyo := hO.r y hy
  have hc12 : c < 12 := by have := hxo.l1; omega
  obtain ⟨i, hi⟩ := List.mem_iff_getElem?.1 hx
  obtain ⟨j, hj⟩ := List.mem_iff_getElem?.1 hy
  have key : ∀ {x y : RepD}, RepOk d x → RepOk d y → (x.kd = k ∧ x.fi ≤ c ∧ (c : Int) ≤ x.la) → (y.kd = k ∧ y.fi ≤ c ∧ (c : Int) ≤ y.la) → meetB x y = true := fun {x y} hxo hyo h1 h2 => by
    rw [meet_iff hxo hyo]
    refine ⟨c, hc12, ?_, ?_⟩
    · unfold hasB inI; simp only [Bool.and_eq_true, decide_eq_true_eq, true_and]; exact ⟨h1.2.1, h1.2.2⟩
    · unfold hasB inI; simp only [Bool.and_eq_true, decide_eq_true_eq]; exact ⟨by rw [h1.1, h2.1], h2.2.1, h2.2.2⟩
  rcases (show j < i ∨ j = i ∨ i < j by omega) with h | h | h
  · have h3 := hn i j x y h hi hj
    rw [key hxo hyo ⟨h1.1.1, h1.2⟩ ⟨h2.1.1, h2.2⟩] at h3; cases h3
  · subst h
    rw [hi] at hj; cases hj
    have := h1.1.2; have := h2.1.2; omega
  · have h3 := hn j i y x h hj hi
    rw [key hyo hxo ⟨h2.1.1, h2.2⟩ ⟨h1.1.1, h1.2⟩] at h3; cases h3
theorem sur_clm {d : RoyD} (hO : RoyOk d) (hn : NoMeet d) (k : Int) (g : Nat) : surN d k g = clm d k g := by
  apply Nat.eq_of_testBit_eq
  intro c
  rw [sur_bit hO, clm_bit hO]
  unfold surB
  cases hc : clmB d k g c
  · rfl
  · rw [Bool.true_and, decide_eq_true_eq, one_of (claL_nodup _ _ _ _) (claL_mem.2 ⟨clm_lt hO hc, hc⟩)]
    exact fun j hj => no_two hO hn (claL_mem.1 hj).2 hc
/-- The cards that the first agents claim. -/
def orC (d : RoyD) (k : Int) : Nat → Nat
  | 0 => 0
  | g + 1 => orC d k g ||| clm d k g
theorem orC_bit {d : RoyD} (k : Int) (c : Nat) : ∀ g, (orC d k g).testBit c = true → ∃ j, j < g ∧ (clm d k j).testBit c = true
  | 0, h => by simp [orC] at h
  | g + 1, h => by
    rw [orC, Nat.testBit_or, Bool.or_eq_true] at h
    rcases h with h | h
    · obtain ⟨j, hj, h1⟩ := orC_bit k c g h
      exact ⟨j, by omega, h1⟩
    · exact ⟨g, by omega, h⟩
theorem orC_lt {d : RoyD} (hO : RoyOk d) (k : Int) : ∀ g, orC d k g < 4096
  | 0 => by simp [orC]
  | g + 1 => or_lt (orC_lt hO k g) (clm_lt12 hO k g)
theorem orC_and {d : RoyD} (hO : RoyOk d) (hn : NoMeet d) (k : Int) (g : Nat) : orC d k g &&& clm d k g = 0 := by
  apply Nat.eq_of_testBit_eq
  intro c
  rw [Nat.testBit_and, Nat.zero_testBit]
  cases h1 : (orC d k g).testBit c
  · rfl
  · cases h2 : (clm d k g).testBit c
    · rfl
    · obtain ⟨j, hj, h3⟩ := orC_bit k c g h1
      rw [clm_bit hO] at h2 h3
      have := no_two hO hn h2 h3
      omega
theorem tru_one {m : Nat} : ∀ {ws : List Nat}, (∀ w ∈ ws, (clrL m w).length = 1) → (truA m ws).length = 1
  | [], _ => by simp [truA]
  | w :: ws, h => by
    have ih := tru_one (m := m) (ws := ws) fun x hx => h x (.tail _ hx)
    have h1 := h w (.head _)
    obtain ⟨g, hg⟩ : ∃ g, clrL m w = [g] := by
      match hl : clrL m w, h1 with
      | [g], _ => exact ⟨g, rfl⟩
    rw [truA, hg, List.flatMap_cons, List.flatMap_nil, List.append_nil, List.length_map, ih]
theorem all_one {d : RoyD} (hO : RoyOk d) (hn : NoMeet d) {k : Int} (he : allE d k = 0) : ∃ z, allV d k = (z, z) := by
  have h1 : (truL d k).length = 1 := tru_one fun w hw => by
    have h0 := sold_some hO k w hw
    unfold wsL at hw
    obtain ⟨y, hy, e⟩ := List.mem_map.1 hw
    obtain ⟨_, h3, _⟩ := soldT_mem.1 hy
    subst e
    rw [h3, who_clr hO] at h0 ⊢
    obtain ⟨g, hg⟩ := List.exists_mem_of_ne_nil _ h0
    have hnd : ((List.range d.terms.length).filter fun g => clmB d k g y.1).Nodup := List.Nodup.sublist List.filter_sublist List.nodup_range
    rw [one_of hnd hg]
    intro j hj
    exact no_two hO hn (List.mem_filter.1 hj).2 (List.mem_filter.1 hg).2
  obtain ⟨t, ht⟩ : ∃ t, truL d k = [t] := by
    match hl : truL d k, h1 with
    | [t], _ => exact ⟨t, rfl⟩
  refine ⟨totV d (priceN d k) (cnt (0, 0, 0, 0) t), ?_⟩
  rw [allV_ok he, reach_map, ht]; rfl
theorem openE_z {d : RoyD} {b : Bool} : openE d b = 0 ↔ royB d = true ∧ b = true := by
  unfold openE
  cases royB d <;> cases b <;> simp
theorem claV_ok {d : RoyD} (hO : RoyOk d) {g k : Nat} (hg : g < d.terms.length) (hk : k < d.prices.length) : claE d g k = 0 ∧ claV d g k = (surN d k g, clm d k g) := by
  have h1 : isAg d g = true := by unfold isAg inI; simp only [Bool.and_eq_true, decide_eq_true_eq]; omega
  have h2 : isKd d k = true := by unfold isKd inI; simp only [Bool.and_eq_true, decide_eq_true_eq]; omega
  have h3 : claE d g k = 0 := openE_z.2 ⟨royB_iff.2 hO, by rw [h1, h2]; rfl⟩
  exact ⟨h3, by unfold claV; rw [if_pos h3]; rfl⟩
theorem allE_ok {d : RoyD} (hO : RoyOk d) {k : Nat} (hk : k < d.prices.length) : allE d k = 0 := by
  have h2 : isKd d k = true := by unfold isKd inI; simp only [Bool.and_eq_true, decide_eq_true_eq]; omega
  exact openE_z.2 ⟨royB_iff.2 hO, h2⟩
theorem lea_cs {d : RoyD} (hO : RoyOk d) {k : Int} (he : allE d k = 0) : (leaV d k).length = (csL d k).length := by
  rw [leaV_ok he, cs_len]
  exact (tru_facts hO (lea_mem hO k)).2.2
theorem tw_none {d : RoyD} (hO : RoyOk d) (h0 : twF d.reps d.reps.length = none) : twA d = (0, 0) ∧ twE d = 4 := by
  have htw : twV d = none := by unfold twV; rw [royB_iff.2 hO, if_pos rfl]; exact h0
  exact ⟨by unfold twA; rw [htw]; rfl, by unfold twE; rw [royB_iff.2 hO, htw]; rfl⟩
theorem tw_some {d : RoyD} (hO : RoyOk d) {i j : Nat} (h0 : twF d.reps d.reps.length = some (i, j)) : twA d = (i, j) ∧ twE d = 0 := by
  have htw : twV d = some (i, j) := by unfold twV; rw [royB_iff.2 hO, if_pos rfl]; exact h0
  exact ⟨by unfold twA; rw [htw]; rfl, by unfold twE; rw [royB_iff.2 hO, htw]; rfl⟩
/-- No two reports meet among the first ones. -/
def NoT (d : RoyD) (n : Nat) : Prop := ∀ (i j : Nat) (x y : RepD), i < n → j < i → d.reps[i]? = some x → d.reps[j]? = some y → meetB x y = false
theorem NoT.next {d : RoyD} {n : Nat} {x : RepD} (h : NoT d n) (hx : d.reps[n]? = some x) (h2 : ∀ z, z < n → ∀ t, d.reps[z]? = some t → meetB x t = false) : NoT d (n + 1) := fun i j x' y hi hj h3 h4 => by
  rcases (show i < n ∨ i = n by omega) with h5 | h5
  · exact h i j x' y h5 hj h3 h4
  · subst h5; rw [hx] at h3; cases h3; exact h2 j hj y h4
theorem NoT.all {d : RoyD} (h : NoT d d.reps.length) : NoMeet d := fun i j x y hj hx hy => h i j x y (len_of hx) hj hx hy
end Go.RoyM
namespace Go.RoyM
open Go Go.Sy
theorem flat_get {α : Type} {enc : α → List Value} {n : Nat} (hn : ∀ x, (enc x).length = n) : ∀ {l : List α} {j : Nat} {v : Value}, (l.flatMap enc)[j]? = some v → ∃ i x r, l[i]? = some x ∧ (enc x)[r]? = some v ∧ j = i * n + r
  | [], j, v, h => by simp at h
  | y :: l, j, v, h => by
    rw [List.flatMap_cons, List.getElem?_append, hn y] at h
    split at h
    · exact ⟨0, y, j, rfl, h, by omega⟩
    · rename_i hj
      obtain ⟨i, x, r, h1, h2, h3⟩ := flat_get hn h
      refine ⟨i + 1, x, r, h1, h2, ?_⟩
      rw [Nat.add_mul, Nat.one_mul]; omega
theorem flat_len {α : Type} {enc : α → List Value} {n : Nat} (hn : ∀ x, (enc x).length = n) : ∀ l : List α, (l.flatMap enc).length = l.length * n
  | [] => by simp
  | y :: l => by rw [List.flatMap_cons, List.length_append, hn y, flat_len hn l, List.length_cons, Nat.add_mul, Nat.one_mul]; omega
theorem vals_of {α : Type} {enc : α → List Value} {n : Nat} (hn : ∀ x, (enc x).length = n) {w : World} {sa : Option Addr} {l : List α} (h : TAt n enc w sa l) : ValsIn w sa (l.flatMap enc) := by
  match l, h with
  | [], _ => exact .inl rfl
  | x :: l, h =>
    obtain ⟨blk, off, c, T, fr, h1, h2, _⟩ := h 0 x rfl
    refine .inr ⟨blk, off, c, T, fr, h1, h2, fun j v hj => ?_⟩
    obtain ⟨i, y, r, h3, h4, h5⟩ := flat_get hn hj
    obtain ⟨blk', off', c', T', fr', k1, k2, k3⟩ := h i y h3
    rw [h1] at k1; cases k1
    rw [h2] at k2; cases k2
    have := (cellsAt_get n _ _ k3).2 r v h4
    rw [Int.toNat_natCast] at this
    rw [h5, ← Nat.add_assoc]; exact this
theorem own_tat {α : Type} {enc : α → List Value} {n e : Nat} (hn : ∀ x, (enc x).length = n) {oa : Option Addr} {c m : Nat} {l : List α} {X : List (Nat × Obj)} {w : World} (h : OwnSl e n (.slice oa m c) m (l.flatMap enc) X) (hm : m = l.length) (hX : ∀ q ∈ X, w.heap[q.1]? = some q.2) : TAt n enc w oa l := fun i s hi => by
  have hl := len_of hi
  rcases h.2 with ⟨_, h2, _⟩ | ⟨B, cap, cur, h1, h2, _, _, h5, h6⟩
  · omega
  · cases h1
    refine ⟨B, 0, cur, e, (0, 0), rfl, hX (B, .cells cur e (0, 0)) (by rw [h2]; exact .head _), ?_⟩
    have key : ∀ r v, (enc s)[r]? = some v → cur[0 + ((i : Nat) : Int).toNat * n + r]? = some v := fun r v hr => by
      have hrl := len_of hr
      rw [hn] at hrl
      have h7 : (l.flatMap enc)[i * n + r]? = some v := by
        have gen : ∀ (l : List α) (i : Nat), l[i]? = some s → (l.flatMap enc)[i * n + r]? = some v := by
          intro l
          induction l with
          | nil => intro i h; simp at h
          | cons y l ih =>
            intro i h
            rw [List.flatMap_cons, List.getElem?_append, hn y]
            match i, h with
            | 0, h => cases h; rw [if_pos (by omega), Nat.zero_mul, Nat.zero_add]; exact hr
            | i + 1, h =>
              rw [if_neg (by rw [Nat.add_mul]; omega), show (i + 1) * n + r - n = i * n + r by rw [Nat.add_mul]; omega]
              exact ih i h
        exact gen l i hi
      rw [← h6, List.getElem?_take] at h7
      split at h7
      · rw [Int.toNat_natCast, Nat.zero_add, ← Array.getElem?_toList]; exact h7
      · cases h7
    have := cellsAt_of (c := cur) (enc s) (0 + ((i : Nat) : Int).toNat * n) key
    rwa [hn] at this
theorem pc_mono : ∀ (k : Nat) {a b : Nat}, k ≤ 64 → a < 2 ^ k → b < 2 ^ k → (∀ i, a.testBit i = true → b.testBit i = true) → pc a ≤ pc b
  | 0, a, b, _, ha, hb, _ => by
    rw [Nat.pow_zero] at ha hb
    rw [show a = 0 by omega, show b = 0 by omega]; exact Nat.le_refl _
  | k + 1, a, b, hk, ha, hb, h => by
    have h64 : 2 ^ (k + 1) ≤ 2 ^ 64 := Nat.pow_le_pow_right (by omega) hk
    rw [Nat.pow_succ] at ha hb h64
    have ih := pc_mono k (a := a / 2) (b := b / 2) (by omega) (by omega) (by omega) fun i hi => by
      rw [Nat.testBit_div_two] at hi ⊢
      exact h (i + 1) hi
    rw [pc_step (n := a) (by omega), pc_step (n := b) (by omega)]
    have h0 := h 0
    simp only [Nat.testBit_zero, decide_eq_true_eq] at h0
    omega
theorem com_mono {t : TermD} (ht : TermOk t) {price : Int} (hp : 0 ≤ price) {m n : Nat} (h : m ≤ n) : comV t price m ≤ comV t price n := by
  have key : perN t m ≤ perN t n := by
    induction n with
    | zero => rw [show m = 0 by omega]; exact Int.le_refl _
    | succ n ih =>
      by_cases e : m = n + 1
      · rw [e]; exact Int.le_refl _
      · have h1 := ih (by omega)
        have h2 := perN_step (t := t) (many := ((n + 1 : Nat) : Int)) (by omega) ht.u0
        rw [show ((n + 1 : Nat) : Int) - 1 = (n : Int) by omega] at h2
        have := ht.f0; have := ht.b0
        split at h2 <;> omega
  unfold comV
  exact Int.ediv_le_ediv (by omega) (Int.mul_le_mul_of_nonneg_right key hp)
theorem sum_le {α : Type} {f g : α → Int} : ∀ {l : List α}, (∀ x ∈ l, f x ≤ g x) → sumI (l.map f) ≤ sumI (l.map g)
  | [], _ => by simp
  | x :: l, h => by
    have h1 := h x (.head _)
    have h2 := sum_le (l := l) fun y hy => h y (.tail _ hy)
    rw [List.map_cons, List.map_cons, sumI_cons, sumI_cons]; omega
def addR (d : RoyD) (n : RepD) : RoyD := ⟨d.terms, d.prices, d.shares, d.reps ++ [n], d.paid⟩
/-- Part of another report. -/
structure PartOf (d : RoyD) (r n : RepD) : Prop where
  mem : r ∈ d.reps
  kd : n.kd = r.kd
  fi : n.fi = r.fi
  la : n.la ≤ r.la
  ok : RepOk d n
theorem add_ok {d : RoyD} (hO : RoyOk d) (hl : d.reps.length < 20) {n : RepD} (hn : RepOk d n) : RoyOk (addR d n) := by
  refine ⟨hO.nt, hO.np, hO.ns, by show (d.reps ++ [n]).length ≤ 20; rw [List.length_append]; show d.reps.length + 1 ≤ 20; omega, hO.npd, hO.t, hO.pd, hO.p, hO.s, fun x hx => ?_⟩
  have key : ∀ {x : RepD}, RepOk d x → RepOk (addR d n) x := fun h => ⟨h.a0, h.a1, h.k0, h.k1, h.f0, h.f1, h.l1⟩
  rcases List.mem_append.1 (show x ∈ d.reps ++ [n] from hx) with hx | hx
  · exact key (hO.r x hx)
  · rw [List.mem_singleton.1 hx]; exact key hn
def inR (n : RepD) (k : Int) (g c : Nat) : Bool := (decide (n.kd = k) && decide (n.ag = (g : Int))) && (decide (n.fi ≤ c) && decide ((c : Int) ≤ n.la))
theorem clm_add (d : RoyD) (n : RepD) (k : Int) (g c : Nat) : clmB (addR d n) k g c = (clmB d k g c || inR n k g c) := by
  unfold clmB
  show (d.reps ++ [n]).any _ = _
  rw [List.any_append, List.any_cons, List.any_nil, Bool.or_false]; rfl
section
variable {d : RoyD} {r n : RepD}
theorem part_old (hP : PartOf d r n) (hO : RoyOk d) {k : Int} {g c : Nat} (h : inR n k g c = true) : clmB d k r.ag.toNat c = true := by
  unfold inR at h
  simp only [Bool.and_eq_true, decide_eq_true_eq] at h
  unfold clmB
  rw [List.any_eq_true]
  have h1 := (hO.r r hP.mem).a0
  have h2 := hP.kd; have h3 := hP.fi; have h4 := hP.la
  refine ⟨r, hP.mem, ?_⟩
  simp only [Bool.and_eq_true, decide_eq_true_eq]
  omega
theorem in_ag {k : Int} {g c : Nat} (h : inR n k g c = true) : n.ag = g := by
  unfold inR at h
  simp only [Bool.and_eq_true, decide_eq_true_eq] at h
  exact h.1.2
theorem clm_same (hP : PartOf d r n) (hO : RoyOk d) (he : n.ag = r.ag) (k : Int) (g c : Nat) : clmB (addR d n) k g c = clmB d k g c := by
  rw [clm_add]
  cases h : inR n k g c
  · rw [Bool.or_false]
  · have h1 := part_old hP hO h
    have h2 := in_ag h
    rw [show r.ag.toNat = g by omega] at h1
    rw [h1]; rfl
theorem clm_other {k : Int} {g : Nat} (hg : ¬ n.ag = (g : Int)) (c : Nat) : clmB (addR d n) k g c = clmB d k g c := by
  rw [clm_add]
  cases h : inR n k g c
  · rw [Bool.or_false]
  · exact absurd (in_ag h) hg
theorem sur_add (hP : PartOf d r n) (hO : RoyOk d) {k : Int} {g c : Nat} (h : surB (addR d n) k g c = true) : surB d k g c = true := by
  unfold surB at h ⊢
  rw [Bool.and_eq_true, decide_eq_true_eq] at h ⊢
  obtain ⟨h1, h2⟩ := h
  have hg : g < d.terms.length := by
    rw [clm_add, Bool.or_eq_true] at h1
    rcases h1 with h1 | h1
    · exact clm_lt hO h1
    · have := in_ag h1; have := hP.ok.a1; omega
  rw [one_of (claL_nodup _ _ _ _) ((claL_mem (d := addR d n)).2 ⟨hg, h1⟩)] at h2
  have hsub : ∀ j, clmB d k j c = true → j = g := fun j hj => h2 j ((claL_mem (d := addR d n)).2 ⟨clm_lt hO hj, by rw [clm_add, hj]; rfl⟩)
  have h3 : clmB d k g c = true := by
    rw [clm_add, Bool.or_eq_true] at h1
    rcases h1 with h1 | h1
    · exact h1
    · have h4 := part_old hP hO h1
      rw [hsub _ h4] at h4; exact h4
  refine ⟨h3, (one_of (claL_nodup _ _ _ _) (claL_mem.2 ⟨hg, h3⟩)).2 fun j hj => hsub j (claL_mem.1 hj).2⟩
theorem sur_own (hO : RoyOk d) {k : Int} {g c : Nat} (hg : n.ag = (g : Int)) (h : surB d k g c = true) : surB (addR d n) k g c = true := by
  unfold surB at h ⊢
  rw [Bool.and_eq_true, decide_eq_true_eq] at h ⊢
  obtain ⟨h1, h2⟩ := h
  have hgl := clm_lt hO h1
  rw [one_of (claL_nodup _ _ _ _) (claL_mem.2 ⟨hgl, h1⟩)] at h2
  have h3 : clmB (addR d n) k g c = true := by rw [clm_add, h1]; rfl
  refine ⟨h3, (one_of (claL_nodup _ _ _ _) ((claL_mem (d := addR d n)).2 ⟨hgl, h3⟩)).2 fun j hj => ?_⟩
  have h4 := ((claL_mem (d := addR d n)).1 hj).2
  rw [clm_add, Bool.or_eq_true] at h4
  rcases h4 with h4 | h4
  · exact h2 j (claL_mem.2 ⟨clm_lt hO h4, h4⟩)
  · have := in_ag h4; omega
theorem owe_ok (hO : RoyOk d) {g : Nat} (hg : g < d.terms.length) : oweE d g = 0 ∧ oweV d g = (sumI (lowL d g d.prices.length), sumI (higL d g d.prices.length)) := by
  have h1 : isAg d g = true := by unfold isAg inI; simp only [Bool.and_eq_true, decide_eq_true_eq]; omega
  have h3 : oweE d g = 0 := openE_z.2 ⟨royB_iff.2 hO, h1⟩
  exact ⟨h3, by unfold oweV; rw [if_pos h3]; rfl⟩
theorem com_le (hO : RoyOk d) {g k : Nat} (hg : g < d.terms.length) (hk : k < d.prices.length) {a b : Nat} (h : a ≤ b) : comV (termN d g) (d.prices.getD k 0) (a : Nat) ≤ comV (termN d g) (d.prices.getD k 0) (b : Nat) := by
  obtain ⟨t, ht⟩ := ex_of hg
  obtain ⟨x, hx⟩ := ex_of hk
  rw [term_at ht, getD_at hx]
  exact com_mono (hO.t t (List.mem_of_getElem? ht)) (hO.p x (List.mem_of_getElem? hx)).1 h
/-- What each agent is owed, with the report more. -/
theorem owe_more (hP : PartOf d r n) (hO : RoyOk d) (hl : d.reps.length < 20) {g : Nat} (hg : g < d.terms.length) :
    (oweV (addR d n) g).1 ≤ (oweV d g).1 ∧ (oweV d g).2 ≤ (oweV (addR d n) g).2 ∧ (¬ n.ag = (g : Int) → (oweV (addR d n) g).2 = (oweV d g).2) ∧ (n.ag = (g : Int) → (oweV (addR d n) g).1 = (oweV d g).1) ∧ (n.ag = r.ag → oweV (addR d n) g = oweV d g) := by
  have hO' := add_ok hO hl hP.ok
  rw [(owe_ok hO hg).2, (owe_ok hO' (show g < (addR d n).terms.length from hg)).2]
  have hsl : ∀ k : Int, pc (surN (addR d n) k g) ≤ pc (surN d k g) := fun k => pc_mono 12 (by omega) (sur_lt hO' k g) (sur_lt hO k g) fun i hi => by
    rw [sur_bit hO'] at hi; rw [sur_bit hO]; exact sur_add hP hO hi
  have hcl : ∀ k : Int, pc (clm d k g) ≤ pc (clm (addR d n) k g) := fun k => pc_mono 12 (by omega) (clm_lt12 hO k g) (clm_lt12 hO' k g) fun i hi => by
    rw [clm_bit hO] at hi; rw [clm_bit hO', clm_add, hi]; rfl
  have hce : ¬ n.ag = (g : Int) → ∀ k : Int, clm (addR d n) k g = clm d k g := fun h k => Nat.eq_of_testBit_eq fun i => by rw [clm_bit hO, clm_bit hO', clm_other h]
  have hse : n.ag = (g : Int) → ∀ k : Int, surN (addR d n) k g = surN d k g := fun h k => Nat.eq_of_testBit_eq fun i => by
    rw [sur_bit hO, sur_bit hO', Bool.eq_iff_iff]
    exact ⟨sur_add hP hO, sur_own hO h⟩
  have lowE : ∀ d' : RoyD, d'.terms = d.terms → d'.prices = d.prices → d'.paid = d.paid → lowL d' g d'.prices.length = -(d.paid.getD g 0) :: (List.range d.prices.length).map fun k => comV (termN d g) (d.prices.getD k 0) (pc (surN d' k g) : Nat) := fun d' h1 h2 h3 => by unfold lowL termN; rw [h1, h2, h3]
  have higE : ∀ d' : RoyD, d'.terms = d.terms → d'.prices = d.prices → d'.paid = d.paid → higL d' g d'.prices.length = -(d.paid.getD g 0) :: (List.range d.prices.length).map fun k => comV (termN d g) (d.prices.getD k 0) (pc (clm d' k g) : Nat) := fun d' h1 h2 h3 => by unfold higL termN; rw [h1, h2, h3]
  rw [lowE d rfl rfl rfl, lowE (addR d n) rfl rfl rfl, higE d rfl rfl rfl, higE (addR d n) rfl rfl rfl]
  refine ⟨?_, ?_, fun h => ?_, fun h => ?_, fun h => ?_⟩
  · show sumI _ ≤ sumI _
    rw [sumI_cons, sumI_cons]
    have := sum_le (l := List.range d.prices.length) (f := fun k => comV (termN d g) (d.prices.getD k 0) (pc (surN (addR d n) k g) : Nat)) (g := fun k => comV (termN d g) (d.prices.getD k 0) (pc (surN d k g) : Nat)) fun k hk => com_le hO hg (List.mem_range.1 hk) (hsl k)
    omega
  · show sumI _ ≤ sumI _
    rw [sumI_cons, sumI_cons]
    have := sum_le (l := List.range d.prices.length) (f := fun k => comV (termN d g) (d.prices.getD k 0) (pc (clm d k g) : Nat)) (g := fun k => comV (termN d g) (d.prices.getD k 0) (pc (clm (addR d n) k g) : Nat)) fun k hk => com_le hO hg (List.mem_range.1 hk) (hcl k)
    omega
  · show sumI _ = sumI _
    have e : (fun k : Nat => comV (termN d g) (d.prices.getD k 0) (pc (clm (addR d n) k g) : Nat)) = fun k : Nat => comV (termN d g) (d.prices.getD k 0) (pc (clm d k g) : Nat) := funext fun k => by rw [hce h]
    rw [e]
  · show sumI _ = sumI _
    have e : (fun k : Nat => comV (termN d g) (d.prices.getD k 0) (pc (surN (addR d n) k g) : Nat)) = fun k : Nat => comV (termN d g) (d.prices.getD k 0) (pc (surN d k g) : Nat) := funext fun k => by rw [hse h]
    rw [e]
  · have hc : ∀ (k : Int) (j c : Nat), clmB (addR d n) k j c = clmB d k j c := clm_same hP hO h
    have e1 : ∀ k : Int, clm (addR d n) k g = clm d k g := fun k => Nat.eq_of_testBit_eq fun i => by rw [clm_bit hO, clm_bit hO', hc]
    have e2 : ∀ k : Int, surN (addR d n) k g = surN d k g := fun k => Nat.eq_of_testBit_eq fun i => by
      rw [sur_bit hO, sur_bit hO']
      unfold surB
      rw [claL_eq, claL_eq, hc]
      have e3 : (fun j => clmB (addR d n) k j i) = fun j => clmB d k j i := funext fun j => hc k j i
      rw [e3]; rfl
    have e4 : (fun k : Nat => comV (termN d g) (d.prices.getD k 0) (pc (clm (addR d n) k g) : Nat)) = fun k : Nat => comV (termN d g) (d.prices.getD k 0) (pc (clm d k g) : Nat) := funext fun k => by rw [e1]
    have e5 : (fun k : Nat => comV (termN d g) (d.prices.getD k 0) (pc (surN (addR d n) k g) : Nat)) = fun k : Nat => comV (termN d g) (d.prices.getD k 0) (pc (surN d k g) : Nat) := funext fun k => by rw [e2]
    rw [e4, e5]
end
theorem ws_map (d : RoyD) (k : Int) : ∀ n, (soldT d k n).map Prod.snd = (csT d k n).map (whoN d k)
  | 0 => rfl
  | n + 1 => by
    have ih := ws_map d k n
    unfold csT at ih ⊢
    rw [soldT, List.map_append, List.map_append, List.map_append, ih]
    split <;> rfl
theorem tru_mono {m : Nat} {f f' : Nat → Nat} : ∀ {cs : List Nat}, (∀ c ∈ cs, ∀ g, g ∈ clrL m (f c) → g ∈ clrL m (f' c)) → ∀ t, t ∈ truA m (cs.map f) → t ∈ truA m (cs.map f')
  | [], _, t, h => h
  | c :: cs, hs, t, h => by
    rw [List.map_cons, truA] at h ⊢
    obtain ⟨g, hg, h⟩ := List.mem_flatMap.1 h
    obtain ⟨s, h1, rfl⟩ := List.mem_map.1 h
    exact List.mem_flatMap.2 ⟨g, hs c (.head _) g hg, List.mem_map.2 ⟨s, tru_mono (fun c hc => hs c (.tail _ hc)) s h1, rfl⟩⟩
theorem tot_congr {d d' : RoyD} (h : d'.terms = d.terms) (x : Int) (n : Cts) : totV d' x n = totV d x n := by
  unfold totV
  rw [h]
  have : ∀ g, totF d' x n g = totF d x n g := fun g => by
    induction g with
    | zero => rfl
    | succ g ih => rw [totF, totF, ih, h]
  exact this _
theorem lo_sub {l m : List Int} (hn : l ≠ []) (h : ∀ x ∈ l, x ∈ m) : loL m ≤ loL l ∧ hiL l ≤ hiL m := by
  have hm : m ≠ [] := fun e => by
    obtain ⟨x, hx⟩ := List.exists_mem_of_ne_nil l hn
    have := h x hx; rw [e] at this; cases this
  exact ⟨(loL_spec hm).2 _ (h _ (loL_spec hn).1), (hiL_spec hm).2 _ (h _ (hiL_spec hn).1)⟩
theorem cs_add {d : RoyD} {r n : RepD} (hP : PartOf d r n) (hO : RoyOk d) (hO' : RoyOk (addR d n)) (k : Int) : ∀ m, csT (addR d n) k m = csT d k m
  | 0 => rfl
  | m + 1 => by
    have ih := cs_add hP hO hO' k m
    have hiff : whoN (addR d n) k m = 0 ↔ whoN d k m = 0 := by
      rw [sold_iff hO', sold_iff hO]
      constructor
      · intro h
        have h1 := List.eq_nil_of_length_eq_zero h
        cases h2 : claL d k m d.terms.length with
        | nil => rfl
        | cons j l =>
          have hj : j ∈ claL d k m d.terms.length := by rw [h2]; exact .head _
          obtain ⟨h3, h4⟩ := claL_mem.1 hj
          have : j ∈ claL (addR d n) k m (addR d n).terms.length := (claL_mem (d := addR d n)).2 ⟨h3, by rw [clm_add, h4]; rfl⟩
          rw [h1] at this; cases this
      · intro h
        have h1 := List.eq_nil_of_length_eq_zero h
        cases h2 : claL (addR d n) k m (addR d n).terms.length with
        | nil => rfl
        | cons j l =>
          have hj : j ∈ claL (addR d n) k m (addR d n).terms.length := by rw [h2]; exact .head _
          obtain ⟨h3, h4⟩ := (claL_mem (d := addR d n)).1 hj
          rw [clm_add, Bool.or_eq_true] at h4
          rcases h4 with h4 | h4
          · have : j ∈ claL d k m d.terms.length := claL_mem.2 ⟨h3, h4⟩
            rw [h1] at this; cases this
          · have h5 := part_old hP hO h4
            have : r.ag.toNat ∈ claL d k m d.terms.length := claL_mem.2 ⟨clm_lt hO h5, h5⟩
            rw [h1] at this; cases this
    by_cases hz : whoN d k m = 0
    · rw [csT_no hz, csT_no (hiff.2 hz), ih]
    · rw [csT_put hz, csT_put (fun h => hz (hiff.1 h)), ih]
/-- What all have together, with the report more. -/
theorem all_more {d : RoyD} {r n : RepD} (hP : PartOf d r n) (hO : RoyOk d) (hl : d.reps.length < 20) {k : Nat} (hk : k < d.prices.length) : (allV (addR d n) k).1 ≤ (allV d k).1 ∧ (allV d k).2 ≤ (allV (addR d n) k).2 := by
  have hO' := add_ok hO hl hP.ok
  have v1 := allV_ok (allE_ok hO hk)
  have v2 := allV_ok (allE_ok hO' (show k < (addR d n).prices.length from hk))
  rw [reach_map] at v1 v2
  have hne : (truL d k).map (fun t => totV d (priceN d k) (cnt (0, 0, 0, 0) t)) ≠ [] := by simpa using truL_ne hO k
  have hsub := lo_sub hne (m := (truL (addR d n) k).map fun t => totV (addR d n) (priceN (addR d n) k) (cnt (0, 0, 0, 0) t)) fun x hx => by
    obtain ⟨t, ht, rfl⟩ := List.mem_map.1 hx
    refine List.mem_map.2 ⟨t, ?_, tot_congr (d := d) (d' := addR d n) rfl (priceN d k) (cnt (0, 0, 0, 0) t)⟩
    have e1 : truL d k = truA d.terms.length ((csT d k 12).map (whoN d k)) := by unfold truL wsL soldL; rw [ws_map]
    have e2 : truL (addR d n) k = truA d.terms.length ((csT d k 12).map (whoN (addR d n) k)) := by unfold truL wsL soldL; rw [ws_map, cs_add hP hO hO']; rfl
    rw [e1] at ht
    rw [e2]
    refine tru_mono (fun c _ g hg => ?_) t ht
    rw [who_clr hO, List.mem_filter] at hg
    have h9 := who_clr hO' k c
    have h8 : clrL d.terms.length (whoN (addR d n) k c) = (List.range d.terms.length).filter fun g => clmB (addR d n) k g c := h9
    rw [h8, List.mem_filter]
    exact ⟨hg.1, by rw [clm_add, hg.2]; rfl⟩
  rw [v1, v2]
  dsimp only
  exact hsub
end Go.RoyM
namespace Go.RoyM
open Go Go.Sy
theorem or_half (x c : Nat) : (x ||| 2 ^ (c + 1)) / 2 = x / 2 ||| 2 ^ c := by
  apply Nat.eq_of_testBit_eq
  intro i
  rw [Nat.testBit_div_two, Nat.testBit_or, Nat.testBit_or, Nat.testBit_div_two, Nat.testBit_two_pow, Nat.testBit_two_pow]
  congr 1
  exact decide_eq_decide.2 (by omega)
theorem or_half0 (x : Nat) : (x ||| 1) / 2 = x / 2 := by
  apply Nat.eq_of_testBit_eq
  intro i
  rw [Nat.testBit_div_two, Nat.testBit_or, Nat.testBit_div_two]
  have : (1 : Nat).testBit (i + 1) = false := by
    have := Nat.testBit_two_pow (n := 0) (m := i + 1)
    rw [Nat.pow_zero] at this
    rw [this]; exact decide_eq_false (by omega)
  rw [this, Bool.or_false]
theorem mod2_bit (x : Nat) : x % 2 = if x.testBit 0 = true then 1 else 0 := by
  rw [Nat.testBit_zero]
  by_cases h : x % 2 = 1
  · rw [h]; rfl
  · rw [if_neg (by simpa using h)]; omega
theorem pc_put : ∀ (c x : Nat), c < 60 → x < 2 ^ 60 → x.testBit c = false → pc (x ||| 2 ^ c) = pc x + 1
  | 0, x, _, hx, h => by
    have h1 : x ||| 2 ^ 0 < 2 ^ 64 := Nat.or_lt_two_pow (by omega) (by decide)
    rw [pc_step h1, pc_step (n := x) (by omega), Nat.pow_zero, or_half0, mod2_bit (x ||| 1), mod2_bit x, h, Nat.testBit_or]
    simp; omega
  | c + 1, x, hc, hx, h => by
    have hp : 2 ^ (c + 1) < 2 ^ 64 := Nat.pow_lt_pow_right (by omega) (by omega)
    have h1 : x ||| 2 ^ (c + 1) < 2 ^ 64 := Nat.or_lt_two_pow (by omega) hp
    rw [pc_step h1, pc_step (n := x) (by omega), or_half, pc_put c (x / 2) (by omega) (by omega) (by rw [Nat.testBit_div_two]; exact h), mod2_bit (x ||| 2 ^ (c + 1)), mod2_bit x, Nat.testBit_or, Nat.testBit_two_pow]
    simp; omega
/-- The cards that an agent sold in a truth, by bits. -/
def ownC (cs t : List Nat) (g : Nat) : Nat → Nat
  | 0 => 0
  | i + 1 => if t[i]? = some g then ownC cs t g i ||| 2 ^ (cs.getD i 0) else ownC cs t g i
theorem ownC_bit (cs t : List Nat) (g c : Nat) : ∀ i, (ownC cs t g i).testBit c = true ↔ ∃ j, j < i ∧ t[j]? = some g ∧ cs.getD j 0 = c
  | 0 => by simp [ownC]
  | i + 1 => by
    have ih := ownC_bit cs t g c i
    rw [ownC]
    by_cases h : t[i]? = some g
    · rw [if_pos h, Nat.testBit_or, Bool.or_eq_true, ih, Nat.testBit_two_pow, decide_eq_true_eq]
      constructor
      · rintro (⟨j, h1, h2, h3⟩ | h1)
        · exact ⟨j, by omega, h2, h3⟩
        · exact ⟨i, by omega, h, h1⟩
      · rintro ⟨j, h1, h2, h3⟩
        rcases (show j < i ∨ j = i by omega) with h4 | h4
        · exact .inl ⟨j, h4, h2, h3⟩
        · subst h4; exact .inr h3
    · rw [if_neg h, ih]
      constructor
      · rintro ⟨j, h1, h2, h3⟩; exact ⟨j, by omega, h2, h3⟩
      · rintro ⟨j, h1, h2, h3⟩
        rcases (show j < i ∨ j = i by omega) with h4 | h4
        · exact ⟨j, h4, h2, h3⟩
        · subst h4; exact absurd h2 h
theorem csT_sorted (d : RoyD) (k : Int) : ∀ n, (csT d k n).Pairwise (fun a b : Nat => a < b) ∧ ∀ c ∈ csT d k n, c < n
  | 0 => ⟨.nil, fun c h => by cases h⟩
  | n + 1 => by
    obtain ⟨h1, h2⟩ := csT_sorted d k n
    by_cases hz : whoN d k n = 0
    · rw [csT_no hz]; exact ⟨h1, fun c h => Nat.lt_succ_of_lt (h2 c h)⟩
    · rw [csT_put hz]
      refine ⟨List.pairwise_append.2 ⟨h1, List.pairwise_singleton _ _, fun a ha b hb => ?_⟩, fun c hc => ?_⟩
      · rw [List.mem_singleton.1 hb]; exact h2 a ha
      · rcases List.mem_append.1 hc with hc | hc
        · exact Nat.lt_succ_of_lt (h2 c hc)
        · rw [List.mem_singleton.1 hc]; exact Nat.lt_succ_self n
theorem csL_T (d : RoyD) (k : Int) : csL d k = csT d k 12 := by unfold csL soldL csT; rfl
theorem sorted_inj {l : List Nat} (hs : l.Pairwise (fun a b : Nat => a < b)) {i j : Nat} (hi : i < l.length) (hj : j < l.length) (h : l.getD i 0 = l.getD j 0) : i = j := by
  have e1 : l.getD i 0 = l[i] := by simp [List.getD, hi]
  have e2 : l.getD j 0 = l[j] := by simp [List.getD, hj]
  rw [e1, e2] at h
  rcases (show i < j ∨ i = j ∨ j < i by omega) with h1 | h1 | h1
  · have h9 : l[i] < l[j] := List.pairwise_iff_getElem.1 hs i j hi hj h1
    omega
  · exact h1
  · have h9 : l[j] < l[i] := List.pairwise_iff_getElem.1 hs j i hj hi h1
    omega
theorem cs_inj {d : RoyD} {k : Int} {i j : Nat} (hi : i < (csL d k).length) (hj : j < (csL d k).length) (h : (csL d k).getD i 0 = (csL d k).getD j 0) : i = j := by
  have hs := (csT_sorted d k 12).1
  rw [← csL_T] at hs
  exact sorted_inj hs hi hj h
theorem cs_lt {d : RoyD} {k : Int} {i c : Nat} (h : (csL d k)[i]? = some c) : c < 12 := by
  rw [csL_T] at h
  exact (csT_sorted d k 12).2 c (List.mem_of_getElem? h)
theorem ownC_lt {d : RoyD} {k : Int} {t : List Nat} (g : Nat) (i : Nat) : ownC (csL d k) t g i < 4096 := by
  induction i with
  | zero => simp [ownC]
  | succ i ih =>
    rw [ownC]
    split
    · refine or_lt ih ?_
      have : (csL d k).getD i 0 < 12 := by
        cases h : (csL d k)[i]? with
        | none => simp [List.getD, h]
        | some c => rw [getD_at h]; exact cs_lt h
      exact Nat.lt_of_lt_of_le (Nat.pow_lt_pow_right (by omega) this) (by decide)
    · exact ih
theorem ownC_pc {d : RoyD} {k : Int} {t : List Nat} (ht : t.length = (csL d k).length) (g : Nat) : ∀ i, i ≤ t.length → pc (ownC (csL d k) t g i) = (t.take i).count g
  | 0, _ => by rw [ownC, pc_zero]; simp
  | i + 1, hi => by
    have ih := ownC_pc ht g i (by omega)
    obtain ⟨x, hx⟩ := ex_of (l := t) (i := i) (by omega)
    rw [count_take hx, ownC, hx]
    by_cases h : x = g
    · subst h
      rw [if_pos rfl, if_pos rfl]
      obtain ⟨c, hc⟩ := ex_of (l := csL d k) (i := i) (by omega)
      rw [getD_at hc, pc_put c _ (by have := cs_lt hc; omega) (Nat.lt_of_lt_of_le (ownC_lt x i) (by decide)), ih]
      rw [Bool.eq_false_iff]
      intro hb
      obtain ⟨j, h1, h2, h3⟩ := (ownC_bit _ _ _ _ _).1 hb
      have := cs_inj (d := d) (k := k) (i := j) (j := i) (by omega) (by omega) (by rw [h3, getD_at hc])
      omega
    · rw [if_neg (by simpa using h), if_neg h, ih]; omega
section
variable {d : RoyD} (hO : RoyOk d) {k : Int} {t : List Nat} (ht : t ∈ truL d k)
include hO ht
theorem own_len : t.length = (csL d k).length := by rw [(tru_facts hO ht).2.2, cs_len]
/-- An agent sold just cards that he claims. -/
theorem own_can {g c : Nat} (h : (ownC (csL d k) t g t.length).testBit c = true) : (clm d k g).testBit c = true := by
  obtain ⟨j, h1, h2, h3⟩ := (ownC_bit _ _ _ _ _).1 h
  have hl := own_len hO ht
  obtain ⟨c', hc⟩ := ex_of (l := csL d k) (i := j) (by omega)
  rw [getD_at hc] at h3
  subst h3
  obtain ⟨w, hw⟩ := ex_of (l := wsL d k) (i := j) (by rw [← cs_len]; omega)
  have h5 := tru_at ht h2 hw
  rw [← claW hO hc hw] at h5
  rw [clm_bit hO]
  exact (claL_mem.1 h5).2
/-- An agent sold all cards that are surely his. -/
theorem own_sur {g c : Nat} (h : (surN d k g).testBit c = true) : (ownC (csL d k) t g t.length).testBit c = true := by
  rw [sur_bit hO] at h
  unfold surB at h
  rw [Bool.and_eq_true, decide_eq_true_eq] at h
  obtain ⟨h1, h2⟩ := h
  rw [one_of (claL_nodup _ _ _ _) (claL_mem.2 ⟨clm_lt hO h1, h1⟩)] at h2
  have hc12 : c < 12 := by
    unfold clmB at h1
    obtain ⟨x, hx, h3⟩ := List.any_eq_true.1 h1
    simp only [Bool.and_eq_true, decide_eq_true_eq] at h3
    have := (hO.r x hx).l1; omega
  have hw : whoN d k c ≠ 0 := fun e => by
    have := (sold_iff hO k c).1 e
    have h5 := List.eq_nil_of_length_eq_zero this
    have h6 : g ∈ claL d k c d.terms.length := claL_mem.2 ⟨clm_lt hO h1, h1⟩
    rw [h5] at h6; cases h6
  have hm : (c, whoN d k c) ∈ soldL d k := soldT_mem.2 ⟨hc12, rfl, hw⟩
  obtain ⟨j, hj⟩ := List.mem_iff_getElem?.1 hm
  have hcj : (csL d k)[j]? = some c := by unfold csL; rw [List.getElem?_map, hj]; rfl
  have hwj : (wsL d k)[j]? = some (whoN d k c) := by unfold wsL; rw [List.getElem?_map, hj]; rfl
  have hl := own_len hO ht
  obtain ⟨g', hg'⟩ := ex_of (l := t) (i := j) (by have := len_of hcj; omega)
  have h5 := tru_at ht hg' hwj
  rw [← claW hO hcj hwj] at h5
  have h6 := h2 g' h5
  subst h6
  exact (ownC_bit _ _ _ _ _).2 ⟨j, len_of hg', hg', getD_at hcj⟩
theorem own_cnt (g : Nat) : pc (surN d k g) ≤ t.count g ∧ t.count g ≤ pc (clm d k g) ∧ t.count g ≤ 12 := by
  have h1 := ownC_pc (own_len hO ht) g t.length (Nat.le_refl _)
  rw [List.take_length] at h1
  rw [← h1]
  refine ⟨pc_mono 12 (by omega) (sur_lt hO k g) (ownC_lt g _) fun i hi => own_sur hO ht hi, pc_mono 12 (by omega) (ownC_lt g _) (clm_lt12 hO k g) fun i hi => own_can hO ht hi, pc_12 (ownC_lt g _)⟩
theorem own_no1 (g : Nat) : surN d k g ^^^ (surN d k g &&& ownC (csL d k) t g t.length) = 0 := by
  apply Nat.eq_of_testBit_eq
  intro c
  rw [Nat.testBit_xor, Nat.testBit_and, Nat.zero_testBit]
  cases h : (surN d k g).testBit c
  · rfl
  · rw [own_sur hO ht h]; rfl
theorem own_no2 (g : Nat) : ownC (csL d k) t g t.length ^^^ (ownC (csL d k) t g t.length &&& clm d k g) = 0 := by
  apply Nat.eq_of_testBit_eq
  intro c
  rw [Nat.testBit_xor, Nat.testBit_and, Nat.zero_testBit]
  cases h : (ownC (csL d k) t g t.length).testBit c
  · rfl
  · rw [own_can hO ht h]; rfl
end
/-- What an agent is owed, if these sold the cards of the first kinds. -/
def owdV (d : RoyD) (Ts : List (List Nat)) (g i : Nat) : Int := sumI (-(d.paid.getD g 0) :: (List.range i).map fun j => comV (termN d g) (d.prices.getD j 0) ((Ts.getD j []).count g : Nat))
theorem owd_zero (d : RoyD) (Ts : List (List Nat)) (g : Nat) : owdV d Ts g 0 = -(d.paid.getD g 0) := by
  unfold owdV
  rw [sumI_cons]; simp [sumI]
theorem owd_next {d : RoyD} {Ts : List (List Nat)} {t : List Nat} {g : Nat} {x : Int} (hx : d.prices[Ts.length]? = some x) : owdV d (Ts ++ [t]) g (Ts.length + 1) = owdV d Ts g Ts.length + comV (termN d g) x (t.count g : Nat) := by
  unfold owdV
  rw [List.range_succ, List.map_append, ← List.cons_append, sumI_app]
  have e1 : (List.range Ts.length).map (fun j => comV (termN d g) (d.prices.getD j 0) (((Ts ++ [t]).getD j []).count g : Nat)) = (List.range Ts.length).map fun j => comV (termN d g) (d.prices.getD j 0) ((Ts.getD j []).count g : Nat) := by
    refine List.map_congr_left fun j hj => ?_
    have hj := List.mem_range.1 hj
    have : (Ts ++ [t]).getD j [] = Ts.getD j [] := by
      simp only [List.getD]
      rw [List.getElem?_append, if_pos hj]
    rw [this]
  have e2 : ((Ts ++ [t]).getD Ts.length []) = t := by
    simp only [List.getD]
    rw [List.getElem?_append, if_neg (by omega), Nat.sub_self]; rfl
  rw [e1]
  show _ + (0 + comV _ (d.prices.getD Ts.length 0) _) = _
  rw [e2, getD_at hx, Int.zero_add]
/-- Truths of the first kinds. -/
def TruS (d : RoyD) (Ts : List (List Nat)) : Prop := ∀ (j : Nat) (t : List Nat), Ts[j]? = some t → t ∈ truL d j
theorem TruS.put {d : RoyD} {Ts : List (List Nat)} (h : TruS d Ts) {t : List Nat} (ht : t ∈ truL d (Ts.length : Nat)) : TruS d (Ts ++ [t]) := fun j s hj => by
  rw [List.getElem?_append] at hj
  split at hj
  · exact h j s hj
  · rename_i hl
    have h1 := len_of hj
    have h2 : j = Ts.length := by simp at h1; omega
    subst h2
    rw [Nat.sub_self] at hj
    cases hj; exact ht
theorem owd_bd {d : RoyD} (hO : RoyOk d) {Ts : List (List Nat)} (hT : TruS d Ts) {g : Nat} (hg : g < d.terms.length) (hl : Ts.length ≤ d.prices.length) : -5497558138880 ≤ owdV d Ts g Ts.length ∧ owdV d Ts g Ts.length ≤ 5497558138880 := by
  have h := owe_bd hO hg (fun j => if j < Ts.length then (Ts.getD j []).count g else 0) (fun j => by
    split
    · rename_i hj
      obtain ⟨t, ht⟩ := ex_of hj
      rw [getD_at ht]
      exact (own_cnt hO (hT j t ht) g).2.2
    · omega) hl
  have e : (List.range Ts.length).map (fun k => comV (termN d g) (d.prices.getD k 0) ((if k < Ts.length then (Ts.getD k []).count g else 0 : Nat) : Int)) = (List.range Ts.length).map fun j => comV (termN d g) (d.prices.getD j 0) ((Ts.getD j []).count g : Nat) :=
    List.map_congr_left fun j hj => by rw [if_pos (List.mem_range.1 hj)]
  unfold owdV
  rw [e] at h
  exact h
theorem owd_span {d : RoyD} (hO : RoyOk d) {Ts : List (List Nat)} (hT : TruS d Ts) {g : Nat} (hg : g < d.terms.length) (hl : Ts.length = d.prices.length) : (oweV d g).1 ≤ owdV d Ts g Ts.length ∧ owdV d Ts g Ts.length ≤ (oweV d g).2 := by
  rw [(owe_ok hO hg).2]
  unfold owdV lowL higL
  rw [hl]
  show sumI _ ≤ sumI _ ∧ sumI _ ≤ sumI _
  rw [sumI_cons, sumI_cons, sumI_cons]
  have key : ∀ j, j ∈ List.range d.prices.length → pc (surN d j g) ≤ (Ts.getD j []).count g ∧ (Ts.getD j []).count g ≤ pc (clm d j g) := fun j hj => by
    obtain ⟨t, ht⟩ := ex_of (l := Ts) (i := j) (by rw [hl]; exact List.mem_range.1 hj)
    rw [getD_at ht]
    have := own_cnt hO (hT j t ht) g
    exact ⟨this.1, this.2.1⟩
  have h1 := sum_le (l := List.range d.prices.length) (f := fun k => comV (termN d g) (d.prices.getD k 0) (pc (surN d k g) : Nat)) (g := fun j => comV (termN d g) (d.prices.getD j 0) ((Ts.getD j []).count g : Nat)) fun j hj => com_le hO hg (List.mem_range.1 hj) (key j hj).1
  have h2 := sum_le (l := List.range d.prices.length) (f := fun j => comV (termN d g) (d.prices.getD j 0) ((Ts.getD j []).count g : Nat)) (g := fun k => comV (termN d g) (d.prices.getD k 0) (pc (clm d k g) : Nat)) fun j hj => com_le hO hg (List.mem_range.1 hj) (key j hj).2
  omega
/-- What a part gets in a truth lies within its span. -/
theorem get_span {d : RoyD} (hO : RoyOk d) {k part : Nat} {t : List Nat} (ht : t ∈ truL d k) (hk : k < d.prices.length) (hp : part < (sharesN d k).length) : getE d k part = 0 ∧ (getV d k part).1 ≤ getF d k part (cnt (0, 0, 0, 0) t) ∧ getF d k part (cnt (0, 0, 0, 0) t) ≤ (getV d k part).2 := by
  have h1 : isKd d k = true := by unfold isKd inI; simp only [Bool.and_eq_true, decide_eq_true_eq]; omega
  have h2 : inI (part : Nat) 0 (((sharesN d k).length : Int) - 1) = true := by unfold inI; simp only [Bool.and_eq_true, decide_eq_true_eq]; omega
  have h3 : getE d k part = 0 := openE_z.2 ⟨royB_iff.2 hO, by rw [h1, h2]; rfl⟩
  refine ⟨h3, ?_⟩
  have hm : getF d k part (cnt (0, 0, 0, 0) t) ∈ (truL d k).map (fun t => getF d k part (cnt (0, 0, 0, 0) t)) := List.mem_map.2 ⟨t, ht, rfl⟩
  have ev : getV d k part = (loL ((truL d k).map fun t => getF d k part (cnt (0, 0, 0, 0) t)), hiL ((truL d k).map fun t => getF d k part (cnt (0, 0, 0, 0) t))) := by
    unfold getV
    rw [if_pos h3, reach_map]
  obtain ⟨L, hL⟩ : ∃ L, L = (truL d k).map fun t => getF d k part (cnt (0, 0, 0, 0) t) := ⟨_, rfl⟩
  rw [← hL] at hm ev
  rw [ev]
  exact ⟨(loL_spec (List.ne_nil_of_mem hm)).2 _ hm, (hiL_spec (List.ne_nil_of_mem hm)).2 _ hm⟩
end Go.RoyM
