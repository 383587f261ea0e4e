/- Lemmas, in order: Least and greatest of what is reached; pools. What all agents have. What a part gets.. -/
import Derived.Test.YtccpgpnekoncoaaGreatQ10
namespace Go.RoyM
open Go Go.Sy
theorem ends_all {S done R : List Cts} (hS : ∀ n, n ∈ S ↔ n ∈ R) (h1 : ∀ y ∈ done, y ∈ S) (h2 : ∀ y ∈ S, y ∈ done) (hne : R ≠ []) (f : Cts → Int) : loL (done.map f) = loL (R.map f) ∧ hiL (done.map f) = hiL (R.map f) := by
  have hm : ∀ x, x ∈ done.map f ↔ x ∈ R.map f := fun x => by
    rw [List.mem_map, List.mem_map]
    constructor
    · rintro ⟨y, hy, e⟩; exact ⟨y, (hS y).1 (h1 y hy), e⟩
    · rintro ⟨y, hy, e⟩; exact ⟨y, h2 y ((hS y).2 hy), e⟩
  have hn : done.map f ≠ [] := fun e => by
    obtain ⟨x, hx⟩ := List.exists_mem_of_ne_nil R hne
    have := (hm (f x)).2 (List.mem_map.2 ⟨x, hx, rfl⟩)
    rw [e] at this; cases this
  exact lo_same hm hn
def psum (n : Cts) : Nat → Nat
  | 0 => 0
  | g + 1 => psum n g + cget n g
theorem psum_le (n : Cts) : ∀ g, g ≤ 4 → psum n g ≤ cardsN n := fun g hg => by
  rcases (show g = 0 ∨ g = 1 ∨ g = 2 ∨ g = 3 ∨ g = 4 by omega) with rfl | rfl | rfl | rfl | rfl <;> simp only [psum, cget, cardsN] <;> simp <;> omega
theorem tot_psum {d : RoyD} (h : RoyOk d) {price : Int} (hp0 : 0 ≤ price) {n : Cts} : ∀ g, g ≤ d.terms.length → 0 ≤ totF d price n g ∧ totF d price n g ≤ (psum n g : Nat) * price
  | 0, _ => by simp [totF, psum]
  | g + 1, hg => by
    have ih := tot_psum h hp0 (n := n) g (by omega)
    obtain ⟨t, ht⟩ := ex_of (l := d.terms) (i := g) (by omega)
    have h1 := comV_bd (price := price) (h.t t (List.mem_of_getElem? ht)) (Int.natCast_nonneg (cget n g)) hp0
    rw [totF, getD_at ht, psum]
    have e : ((psum n g + cget n g : Nat) : Int) * price = (psum n g : Nat) * price + (cget n g : Nat) * price := by rw [Int.natCast_add, Int.add_mul]
    omega
theorem pool_bd {d : RoyD} (h : RoyOk d) {price : Int} (hp0 : 0 ≤ price) (hp : price ≤ 1048576) {n : Cts} (hn : cardsN n ≤ 12) : 0 ≤ (cardsN n : Nat) * price ∧ (cardsN n : Nat) * price ≤ 12582912 ∧ 0 ≤ totV d price n ∧ totV d price n ≤ (cardsN n : Nat) * price := by
  obtain ⟨h1, h2⟩ := tot_psum h hp0 (n := n) _ (Nat.le_refl _)
  have h3 : ((psum n d.terms.length : Nat) : Int) * price ≤ (cardsN n : Nat) * price := Int.mul_le_mul_of_nonneg_right (by have := psum_le n d.terms.length h.nt; omega) hp0
  have h4 : ((cardsN n : Nat) : Int) * price ≤ 12 * price := Int.mul_le_mul_of_nonneg_right (by omega) hp0
  have h5 : 0 ≤ ((cardsN n : Nat) : Int) * price := Int.mul_nonneg (Int.natCast_nonneg _) hp0
  unfold totV
  omega
theorem sum_ints (n : Cts) : sumI (intsC n) = (cardsN n : Nat) := by
  unfold intsC cardsN
  rw [sumI_cons, sumI_cons, sumI_cons, sumI_cons, sumI_nil]
  omega
theorem ctC_iat {w : World} {B : Nat} {n : Cts} {T : TypeId} (h : w.heap[B]? = some (.cells (ctC n) T (0, 0))) : IAt w (some ⟨B, 0, none⟩) (intsC n) := fun i x hi => by
  refine ⟨B, 0, _, _, _, rfl, h, ?_⟩
  rw [Int.toNat_natCast, Nat.zero_add, Nat.mul_one]
  match i, hi with
  | 0, hi => simp at hi; subst hi; rfl
  | 1, hi => simp at hi; subst hi; rfl
  | 2, hi => simp at hi; subst hi; rfl
  | 3, hi => simp at hi; subst hi; rfl
theorem ints_bd {n : Cts} (h : cardsN n ≤ 12) (i : Nat) : -4611686018427387904 ≤ sumI ((intsC n).take i) ∧ sumI ((intsC n).take i) ≤ 4611686018427387904 := by
  have h1 := take_bd (b := 12) (l := intsC n) (fun x hx => by
    have hg := cget_le n
    have h0 := hg 0; have h1 := hg 1; have h2 := hg 2; have h3 := hg 3
    simp only [cget] at h0 h1 h2 h3
    simp at h0 h1 h2 h3
    simp only [intsC, List.mem_cons, List.not_mem_nil, or_false] at hx
    omega) (by omega) i (by show 4 ≤ 1000; omega)
  omega
end Go.RoyM

namespace Go.Proofs.YtccpgpnekoncoaaGreat
set_option maxRecDepth 100000
open Go Go.Sy Go.RoyM
set_option maxRecDepth 100000 in
theorem p28 (d : RoyD) (p : Pl) (g : Int) (u : World) (hRR : RoyAt u d p) : Calls Tryz.prog 14 #[.agg (royC d p), .int .i64 g] u (Ret fun v w' => v = .tuple #[.agg #[.int .i64 (allV d g).1, .int .i64 (allV d g).2], .int .i64 (allE d g)] ∧ Ext [] u w') := by
  refine calls_ofM Tryz.func14 rfl rfl (fun a hf => ?_)
  have hh := Hp.init u []
  obtain ⟨st, sp, ss, sr, sd, ct, cp, cs, cr, cd⟩ := p
  refine sy_sq ?_
  refine o_box hf hh ?_; clear hf hh a; intro B2 a w hf hh
  refine o_box hf hh ?_; clear hf hh a; intro B3 a w hf hh
  refine o_alloc hf hh Tryz.ze_49 ?_; clear hf hh a; intro B4 a w hf hh
  refine o_alloc hf hh Tryz.ze_34 ?_; clear hf hh a; intro B5 a w hf hh
  refine o_end ?_
  refine sy_sq ?_
  refine o_v hf hh (yv_makeFunc rfl rfl) ?_; clear hf a; intro a hf
  refine o_defer hf ?_; clear hf a; intro a hf
  refine o_end ?_
  refine sy_sq ?_
  refine o_v hf hh (y_lds Tryz.ag_45 rfl) ?_; clear hf a; intro a hf
  refine o_v hf hh (yv_makeFunc rfl rfl) ?_; clear hf a; intro a hf
  refine o_callX hf Tryz.en_42 rfl rfl rfl (p57 d _ _ (hRR.ext hh.ext) 49 _ (isKd d g) Tryz.en_49 (fun hok Bc w2 e hc => p75 d _ Bc w2 hc B3 g (e.get (hh.at (i := 2) rfl)) hRR.n2)) ?_ ?_
  ·clear hf a; intro v a w hR hf
   obtain ⟨he, Bc, rfl, hx⟩ := hR; replace hh := hh.join hx; clear hx
   obtain ⟨hok, hask⟩ := openE_zero.1 he
   have hO := royB_iff.1 hok
   obtain ⟨hg0, hg1⟩ := inI_bd hask
   obtain ⟨q, rfl⟩ : ∃ q : Nat, g = q := ⟨g.toNat, by omega⟩
   obtain ⟨x, hx⟩ := ex_of (l := d.prices) (i := q) (by omega)
   have ep : priceN d q = x := getD_at hx
   have e0 : allE d q = 0 := he
   refine o_v hf hh (yv_assign rfl) ?_; clear hf a; intro a hf
   refine o_end ?_
   refine sy_sq ?_
   refine o_alloc hf hh Tryz.ze_97 ?_; clear hf hh a; intro B7 a w hf hh
   refine o_end ?_
   refine sy_seq ?_
   refine sy_sq ?_
   refine o_v hf hh (yv_move rfl) ?_; clear hf a; intro a hf
   refine o_v hf hh (y_ld Tryz.sc_3 rfl) ?_; clear hf a; intro a hf
   refine o_call hf Tryz.en_51 rfl rfl rfl (p76 d _ Bc _ (hh.at (i := 1) rfl) (hRR.ext hh.ext) hO q) ?_; clear hf a; intro v a w hR hf
   obtain ⟨bm, es, c, S, rfl, hS, hSm, hx⟩ := hR; replace hh := hh.join hx; clear hx
   refine ops_range (κ := Cts) (enc := encC) (i := 0) hf hh un94 rfl rfl (.inl rfl) rfl fun Br o a w hRg hf hh => ?_
   replace hh := hh.pick [0, 2, 1, 3, 4, 5, 6]
   refine o_end ?_
   refine sy_block ?_
   refine sy_loopH (σ := List Cts × Obj) [8, 17, 18, 19, 20, 21, 22, 23, 24, 25] (fun s => []) (fun s => fun w' => RngAt encC bm es c s.1 s.2 ∧ (∀ y ∈ s.1, y ∈ S) ∧ Hp u [] [(B7, .cells (endC (s.1.map (totV d x))) 97), (Br, s.2), (bm, .map es c), (Bc, .cells (royC d ⟨st, sp, ss, sr, sd, ct, cp, cs, cr, cd⟩) 89), (B5, .cells #[.int .i64 0] 34), (B4, .cells #[.int .i64 0, .int .i64 0] 49), (B3, .cells #[.int .i64 (q : Nat)] 3)] w') (fun s => leftS S s.1) (([], o)) hf ?_ ?_ ?_
   · repeat' (first | exact True.intro | refine And.intro rfl ?_)
   · exact ⟨hRg, fun y h => (by cases h), hh.pick [1, 0, 2, 3, 4, 5, 6]⟩
   ·rintro s a w ⟨hRg, hsub, hh⟩ hf
    obtain ⟨s1, o⟩ := s; simp only at hRg hsub hh hf ⊢
    refine sy_sq ?_
    refine ops_nextB (i := 1) (j := 2) k97 hf hh rfl rfl rfl hS hRg (.inl rfl) rfl fun b vs o2 a w hvs hb0 hb1 hf hh => ?_
    refine o_v hf hh (yv_extract rfl hvs) ?_; clear hf a; intro a hf
    refine o_end ?_
    refine sy_seq ?_
    refine sy_cond hf rfl (fun hg6 => ?_) (fun hg6 => ?_)
    ·have hG6 := hg6; try simp only [gS] at hG6
     refine sy_skip ?_
     refine then_n ?_
     refine sy_block ?_
     refine sy_seq ?_
     have hbt : b = true := by assumption
     obtain ⟨y, hyS, hyd, hRg2⟩ := hb1 hbt
     have hRg3 := hRg2
     have hyc := reach_ok ((hSm y).1 hyS)
     have hcy := cget_le y
     refine sy_ops ?_
     refine ops_v hf hh (yv_entry (done := s1) (p := y) rfl (fun w h => h.at (i := 1) rfl) (fun w h => h.at (i := 2) rfl) hS hRg2) (.inl rfl) rfl rfl rfl ?_; clear hf a; intro a hf
     refine o_v hf hh (yv_extract rfl rfl) ?_; clear hf a; intro a hf
     refine o_alloc hf hh Tryz.ze_101 ?_; clear hf hh a; intro B8 a w hf hh
     refine o_store hf hh Tryz.sz_101 fun w hh => ?_
     refine o_end ?_
     refine sy_ops ?_
     refine o_v hf hh (yv_move rfl) ?_; clear hf a; intro a hf
     refine o_v hf hh (y_ld Tryz.sc_3 rfl) ?_; clear hf a; intro a hf
     refine o_v hf hh (y_lds Tryz.ag_101 rfl) ?_; clear hf a; intro a hf
     refine o_call hf Tryz.en_53 rfl rfl rfl (p78 d _ Bc _ (hh.at (i := 4) rfl) (hRR.ext hh.ext) hO q x hx y (ctOk_of hyc)) ?_; clear hf a; intro v a w hR hf
     obtain ⟨rfl, hx⟩ := hR; replace hh := hh.more hx; clear hx
     refine o_call hf Tryz.en_52 rfl rfl rfl (p77 B7 (s1.map (totV d x)) (totV d x y) _ (hh.at (i := 1) rfl)) ?_; clear hf a; intro v a w hR hf
     replace hh := hh.turn (i := 1) rfl hR.ext (hR.at (i := 0) rfl)
     refine ops_end ?_
     refine blk_n ?_
     refine then_n ?_
     exact ⟨(s1 ++ [y], o2), ⟨⟨hRg3, fun z hz => by
       rcases List.mem_append.1 hz with hz | hz
       · exact hsub z hz
       · rw [List.mem_singleton.1 hz]; exact hyS, Hp.headEq (hh.pick [1, 2, 3, 4, 5, 6, 7]) (by rw [List.map_append]; rfl)⟩, (hf.head (by repeat' (first | exact True.intro | refine And.intro rfl ?_)) (Keep.cons rfl (Keep.cons rfl (Keep.cons rfl (Keep.cons rfl (Keep.cons rfl (Keep.cons rfl (Keep.cons rfl (Keep.cons rfl (Keep.cons rfl (Keep.cons rfl (Keep.app rfl (Keep.rm rfl Keep.base)))))))))))))⟩, leftS_lt hyS hyd⟩
    ·have hG6 := hg6; try simp only [gS] at hG6
     refine sy_exit ?_
     refine then_e ?_
     refine then_e ?_
     refine blk_e ?_
     refine then_n ?_
     refine sy_seq ?_
     obtain ⟨el, eh⟩ := ends_all hSm hsub (hb0 (by simp_all)) (reach_ne hO q) (totV d x)
     refine sy_ops ?_
     refine o_v hf hh (yv_fieldAddr Tryz.fo_97_0 rfl) ?_; clear hf a; intro a hf
     refine o_v hf hh (y_ld Tryz.sc_3 rfl) ?_; clear hf a; intro a hf
     refine o_v hf hh (yv_fieldAddr Tryz.fo_97_1 rfl) ?_; clear hf a; intro a hf
     refine o_v hf hh (y_ld Tryz.sc_3 rfl) ?_; clear hf a; intro a hf
     refine o_v hf hh (yv_buildS Tryz.bs_49 rfl rfl) ?_; clear hf a; intro a hf
     refine o_store hf hh Tryz.sz_49 fun w hh => ?_
     refine o_store hf hh Tryz.sz_34 fun w hh => ?_
     refine o_end ?_
     refine sy_ret ?_
     have ev : allV d q = (loL (s1.map (totV d x)), hiL (s1.map (totV d x))) := by unfold allV; rw [if_pos e0, ep, el, eh]
     rw [e0, ev]
     exact ret_d (Ds := []) hf hh Tryz.en_48 (fun w' => d74r B5 w') fun w' hh => ⟨[.agg #[.int .i64 (loL (s1.map (totV d x))), .int .i64 (hiL (s1.map (totV d x)))], .int .i64 0], ⟨⟨B4, 0, _, _, _, rfl, hh.at (i := 5) rfl, .inr ⟨2, _, Tryz.ag_49, rfl, rfl⟩⟩, ⟨B5, 0, _, _, _, rfl, hh.at (i := 4) rfl, .inl ⟨Tryz.sc_34, rfl⟩⟩, True.intro⟩, rfl, hh.ext⟩
  ·intro ch w hX hf
   obtain ⟨rfl, he, hx⟩ := hX; replace hh := hh.more hx; clear hx
   refine then_p ?_
   have ev : allV d g = (0, 0) := by unfold allV; exact if_neg he
   rw [ev]
   exact pan_d (Ds := []) hf hh Tryz.en_48 (fun w' hh => d74p B5 _ 0 w' (hh.at (i := 0) rfl)) fun w' w'' hh h2 => ⟨[.agg #[.int .i64 0, .int .i64 0], .int .i64 (allE d g)], ⟨⟨B4, 0, _, _, _, rfl, (hh.turn (i := 0) rfl h2.ext (h2.at (i := 0) rfl)).at (i := 1) rfl, .inr ⟨2, _, Tryz.ag_49, rfl, rfl⟩⟩, ⟨B5, 0, _, _, _, rfl, h2.at (i := 0) rfl, .inl ⟨Tryz.sc_34, rfl⟩⟩, True.intro⟩, rfl, (hh.turn (i := 0) rfl h2.ext (h2.at (i := 0) rfl)).ext⟩
end Go.Proofs.YtccpgpnekoncoaaGreat

namespace Go.Proofs.YtccpgpnekoncoaaGreat
set_option maxRecDepth 100000
open Go Go.Sy Go.RoyM
theorem p72c (n : Cts) (h : cardsN n ≤ 12) (B : Nat) (T : TypeId) (u : World) (hb : u.heap[B]? = some (.cells (ctC n) T (0, 0))) : Calls Tryz.prog 47 #[.slice (some ⟨B, 0, none⟩) 4 4] u (Ret fun v w' => v = .int .i64 (cardsN n : Nat) ∧ Ext [] u w') := by
  have h1 := p72 (intsC n) (some ⟨B, 0, none⟩) 4 u (ctC_iat hb) (by show 4 ≤ 1000; omega) (ints_bd h)
  rw [sum_ints] at h1
  exact h1
set_option maxRecDepth 100000 in
theorem p32 (d : RoyD) (p : Pl) (g part : Int) (u : World) (hRR : RoyAt u d p) : Calls Tryz.prog 16 #[.agg (royC d p), .int .i64 g, .int .i64 part] u (Ret fun v w' => v = .tuple #[.agg #[.int .i64 (getV d g part).1, .int .i64 (getV d g part).2], .int .i64 (getE d g part)] ∧ Ext [] u w') := by
  refine calls_ofM Tryz.func16 rfl rfl (fun a hf => ?_)
  have hh := Hp.init u []
  obtain ⟨st, sp, ss, sr, sd, ct, cp, cs, cr, cd⟩ := p
  refine sy_sq ?_
  refine o_box hf hh ?_; clear hf hh a; intro B3 a w hf hh
  refine o_box hf hh ?_; clear hf hh a; intro B4 a w hf hh
  refine o_box hf hh ?_; clear hf hh a; intro B5 a w hf hh
  refine o_alloc hf hh Tryz.ze_49 ?_; clear hf hh a; intro B6 a w hf hh
  refine o_alloc hf hh Tryz.ze_34 ?_; clear hf hh a; intro B7 a w hf hh
  refine o_end ?_
  refine sy_sq ?_
  refine o_v hf hh (yv_makeFunc rfl rfl) ?_; clear hf a; intro a hf
  refine o_defer hf ?_; clear hf a; intro a hf
  refine o_end ?_
  refine sy_sq ?_
  refine o_v hf hh (y_lds Tryz.ag_45 rfl) ?_; clear hf a; intro a hf
  refine o_v hf hh (yv_makeFunc rfl rfl) ?_; clear hf a; intro a hf
  refine o_callX hf Tryz.en_42 rfl rfl rfl (p57 d _ _ (hRR.ext hh.ext) 55 _ (isKd d g && inI part 0 (((sharesN d g).length : Int) - 1)) Tryz.en_55 (fun hok Bc w2 e hc => p87 d _ Bc w2 hc B4 B5 g part (e.get (hh.at (i := 3) rfl)) (e.get (hh.at (i := 2) rfl)) hRR.n2 (hRR.sh.ext (hh.ext.trans e)) (royB_iff.1 hok).ns hRR.n6)) ?_ ?_
  ·clear hf a; intro v a w hR hf
   obtain ⟨he, Bc, rfl, hx⟩ := hR; replace hh := hh.join hx; clear hx
   obtain ⟨hok, hask⟩ := openE_zero.1 he
   have hO := royB_iff.1 hok
   rw [Bool.and_eq_true] at hask
   obtain ⟨m, hm, hg0, hg1, e9⟩ := sharesN_at hask.1 hO.ns
   have hns := hO.ns
   obtain ⟨q, rfl⟩ : ∃ q : Nat, g = q := ⟨g.toNat, by omega⟩
   rw [Int.toNat_natCast] at hm
   obtain ⟨x, hx⟩ := ex_of (l := d.prices) (i := q) (by omega)
   have hxb := hO.p x (List.mem_of_getElem? hx)
   have ep : priceN d q = x := getD_at hx
   obtain ⟨hp0, hp1⟩ := inI_bd hask.2
   rw [e9] at hp1
   obtain ⟨pn, rfl⟩ : ∃ pn : Nat, part = pn := ⟨part.toNat, by omega⟩
   have hS5 := hO.s m (List.mem_of_getElem? hm)
   obtain ⟨blk, off, cc, T, fr, e, hb, hc⟩ := hRR.pr q x hx; dsimp only at e; subst e
   obtain ⟨blk2, off2, cc2, T2, fr2, sb, cb, e, hb2, hc2, hI⟩ := hRR.sh q m hm; dsimp only at e; subst e
   have hn2 := hRR.n2; have hn3 := hRR.n3; have hnp := hO.np; have hm5 := hS5.n2
   have e0 : getE d q pn = 0 := he
   refine o_v hf hh (yv_assign rfl) ?_; clear hf a; intro a hf
   refine o_end ?_
   refine sy_sq ?_
   refine o_alloc hf hh Tryz.ze_97 ?_; clear hf hh a; intro B9 a w hf hh
   refine o_end ?_
   refine sy_seq ?_
   refine sy_sq ?_
   refine o_v hf hh (yv_move rfl) ?_; clear hf a; intro a hf
   refine o_v hf hh (y_ld Tryz.sc_3 rfl) ?_; clear hf a; intro a hf
   refine o_call hf Tryz.en_51 rfl rfl rfl (p76 d _ Bc _ (hh.at (i := 1) rfl) (hRR.ext hh.ext) hO q) ?_; clear hf a; intro v a w hR hf
   obtain ⟨bm, es, c, S, rfl, hS, hSm, hx⟩ := hR; replace hh := hh.join hx; clear hx
   refine ops_range (κ := Cts) (enc := encC) (i := 0) hf hh un94 rfl rfl (.inl rfl) rfl fun Br o a w hRg hf hh => ?_
   replace hh := hh.pick [0, 2, 1, 3, 4, 5, 6, 7]
   refine o_end ?_
   refine sy_block ?_
   refine sy_loopH (σ := List Cts × Obj) [10, 11, 20, 21, 22, 23, 24, 25, 26, 27, 28, 29, 30, 31, 32, 33, 34, 35, 36, 37, 38, 39, 40, 41, 42, 43, 44, 45, 46, 47, 48, 49, 50, 51, 52, 53] (fun s => []) (fun s => fun w' => RngAt encC bm es c s.1 s.2 ∧ (∀ y ∈ s.1, y ∈ S) ∧ Hp u [] [(B9, .cells (endC (s.1.map (getF d q pn))) 97), (Br, s.2), (bm, .map es c), (Bc, .cells (royC d ⟨st, some ⟨blk, off, none⟩, some ⟨blk2, off2, none⟩, sr, sd, ct, cp, cs, cr, cd⟩) 89), (B7, .cells #[.int .i64 0] 34), (B6, .cells #[.int .i64 0, .int .i64 0] 49), (B5, .cells #[.int .i64 (pn : Nat)] 3), (B4, .cells #[.int .i64 (q : Nat)] 3)] w') (fun s => leftS S s.1) (([], o)) hf ?_ ?_ ?_
   · repeat' (first | exact True.intro | refine And.intro rfl ?_)
   · exact ⟨hRg, fun y h => (by cases h), hh.pick [1, 0, 2, 3, 4, 5, 6, 7]⟩
   ·rintro s a w ⟨hRg, hsub, hh⟩ hf
    obtain ⟨s1, o⟩ := s; simp only at hRg hsub hh hf ⊢
    refine sy_sq ?_
    refine ops_nextB (i := 1) (j := 2) k97 hf hh rfl rfl rfl hS hRg (.inl rfl) rfl fun b vs o2 a w hvs hb0 hb1 hf hh => ?_
    refine o_v hf hh (yv_extract rfl hvs) ?_; clear hf a; intro a hf
    refine o_end ?_
    refine sy_seq ?_
    refine sy_cond hf rfl (fun hg6 => ?_) (fun hg6 => ?_)
    ·have hG6 := hg6; try simp only [gS] at hG6
     refine sy_skip ?_
     refine then_n ?_
     refine sy_block ?_
     refine sy_seq ?_
     have hbt : b = true := by assumption
     obtain ⟨y, hyS, hyd, hRg2⟩ := hb1 hbt
     have hRg3 := hRg2
     have hyc := reach_ok ((hSm y).1 hyS)
     have hcy := cget_le y
     obtain ⟨f1, f2, f3, f4⟩ := pool_bd hO hxb.1 hxb.2 hyc
     have epv : poolV d q y = (cardsN y : Nat) * x - totV d x y := by unfold poolV; rw [ep, cards_N]
     have hpv0 : 0 ≤ poolV d q y := by omega
     have hpv1 : poolV d q y ≤ 1099511627776 := by omega
     have hgf : getF d q pn y = (splitL (poolV d q y) m).getD pn 0 := by unfold getF; rw [e9, Int.toNat_natCast]
     refine sy_ops ?_
     refine ops_v hf hh (yv_entry (done := s1) (p := y) rfl (fun w h => h.at (i := 1) rfl) (fun w h => h.at (i := 2) rfl) hS hRg2) (.inl rfl) rfl rfl rfl ?_; clear hf a; intro a hf
     refine o_v hf hh (yv_extract rfl rfl) ?_; clear hf a; intro a hf
     refine o_alloc hf hh Tryz.ze_101 ?_; clear hf hh a; intro B10 a w hf hh
     refine o_store hf hh Tryz.sz_101 fun w hh => ?_
     refine o_end ?_
     refine sy_seq ?_
     refine sy_tree1 (.p 0 (.p 2 (.p 3 (.p 4 (.p 5 (.q 0 6 (.q 0 7 (.p 8 (.q 0 9 (.p 11 (.q 0 12 (.q 0 13 (.e1 1 (.p 10 (.e1 14 (.p 15 (.p 16 (.fin)))))))))))))))))) [] Tryz.follows (by kernel_rfl) hh (fun w hh => ?_)
     refine mc_p rfl   hf (yv_sliceArr Tryz.ae_101 rfl) (.inl rfl) rfl rfl ?_; clear hf a; intro a hf
     refine mc_p rfl   hf (yv_move rfl) (.inl rfl) rfl rfl ?_; clear hf a; intro a hf
     refine mc_p rfl   hf (yv_nilCheck rfl) (.inl rfl) rfl rfl ?_; clear hf a; intro a hf
     refine mc_p rfl   hf (yv_fieldAddr Tryz.fo_89_0 rfl) (.inl rfl) rfl rfl ?_; clear hf a; intro a hf
     refine mc_p rfl   hf (yv_fieldAddr Tryz.fo_45_1 rfl) (.inl rfl) rfl rfl ?_; clear hf a; intro a hf
     refine mc_q rfl rfl hh hf (y_ld Tryz.sc_28 rfl) (.inl rfl) rfl rfl ?_; clear hf a; intro a hf
     refine mc_q rfl rfl hh hf (y_ld Tryz.sc_3 rfl) (.inl rfl) rfl rfl ?_; clear hf a; intro a hf
     refine mc_p rfl   hf (y_ix Tryz.se_28 rfl rfl) (.inl rfl) rfl rfl ?_; clear hf a; intro a hf
     refine mc_q rfl rfl hh hf (y_ld Tryz.sc_3 rfl) (.inl rfl) rfl rfl ?_; clear hf a; intro a hf
     refine mc_p rfl   hf (yv_move rfl) (.inl rfl) rfl rfl ?_; clear hf a; intro a hf
     refine mc_q rfl rfl hh hf (y_ld Tryz.sc_3 rfl) (.inl rfl) rfl rfl ?_; clear hf a; intro a hf
     refine mc_q rfl rfl hh hf (y_lds Tryz.ag_101 rfl) (.inl rfl) rfl rfl ?_; clear hf a; intro a hf
     refine mc_e rfl fun Q1 => ?_
     refine o_call hf Tryz.en_47 rfl rfl rfl (p72c y hyc B10 101 _ (hh.at (i := 0) rfl)) ?_; clear hf a; intro v a w hR hf
     obtain ⟨rfl, hx⟩ := hR; replace hh := hh.more hx; clear hx
     refine ops_end ?_
     refine then_n ⟨⟨fun _ _ => hh, trivial⟩, ?_⟩
     refine mc_p rfl   hf (y_mul rfl rfl) (.inl rfl) rfl rfl ?_; clear hf a; intro a hf
     refine mc_e rfl fun Q1 => ?_
     refine o_call hf Tryz.en_53 rfl rfl rfl (p78 d _ Bc _ (hh.at (i := 4) rfl) (hRR.ext hh.ext) hO q x hx y (ctOk_of hyc)) ?_; clear hf a; intro v a w hR hf
     obtain ⟨rfl, hx⟩ := hR; replace hh := hh.more hx; clear hx
     refine ops_end ?_
     refine then_n ⟨⟨fun _ _ => hh, trivial⟩, ?_⟩
     refine mc_p rfl   hf (yv_cast (yv_sub rfl rfl (by omega) (by omega)) (intv (b := poolV d q y) epv.symm)) (.inl rfl) rfl rfl ?_; clear hf a; intro a hf
     refine mc_p rfl   hf (yv_assign rfl) (.inl rfl) rfl rfl ?_; clear hf a; intro a hf
     refine mc_end ?_
     refine then_n ?_
     refine sy_tree1 (.p 0 (.p 1 (.p 2 (.p 3 (.p 4 (.q 0 5 (.q 0 6 (.p 7 (.q 0 8 (.q 0 10 (.e1 9 (.p 11 (.e1 12 (.e1 13 (.fin))))))))))))))) [13] Tryz.follows (by kernel_rfl) hh (fun w hh => ?_)
     refine mc_p rfl   hf (yv_move rfl) (.inl rfl) rfl rfl ?_; clear hf a; intro a hf
     refine mc_p rfl   hf (yv_move rfl) (.inl rfl) rfl rfl ?_; clear hf a; intro a hf
     refine mc_p rfl   hf (yv_nilCheck rfl) (.inl rfl) rfl rfl ?_; clear hf a; intro a hf
     refine mc_p rfl   hf (yv_fieldAddr Tryz.fo_89_0 rfl) (.inl rfl) rfl rfl ?_; clear hf a; intro a hf
     refine mc_p rfl   hf (yv_fieldAddr Tryz.fo_45_2 rfl) (.inl rfl) rfl rfl ?_; clear hf a; intro a hf
     refine mc_q rfl rfl hh hf (y_ld Tryz.sc_42 rfl) (.inl rfl) rfl rfl ?_; clear hf a; intro a hf
     refine mc_q rfl rfl hh hf (y_ld Tryz.sc_3 rfl) (.inl rfl) rfl rfl ?_; clear hf a; intro a hf
     refine mc_p rfl   hf (y_ix Tryz.se_42 rfl rfl) (.inl rfl) rfl rfl ?_; clear hf a; intro a hf
     refine mc_q rfl rfl hh hf (y_ld Tryz.sc_28 rfl) (.inl rfl) rfl rfl ?_; clear hf a; intro a hf
     refine mc_q rfl rfl hh hf (y_ld Tryz.sc_3 rfl) (.inl rfl) rfl rfl ?_; clear hf a; intro a hf
     refine mc_e rfl fun Q1 => ?_
     refine o_call hf Tryz.en_56 rfl rfl rfl (p50 (poolV d q y) m sb cb _ (hI.ext hh.ext) hS5 hpv0 hpv1) ?_; clear hf a; intro v a w hR hf
     obtain ⟨Bo, cur, rfl, hCF, hx⟩ := hR; replace hh := hh.join hx; clear hx
     refine ops_end ?_
     refine then_n ⟨⟨fun _ _ => (hh.less (.cons _ (List.Sublist.refl _))), trivial⟩, ?_⟩
     refine mc_p rfl   hf (y_ix Tryz.se_28 rfl rfl) (.inl rfl) rfl rfl ?_; clear hf a; intro a hf
     refine mc_e rfl fun Q1 => ?_
     have g1 := hCF.2 pn (by omega)
     refine o_v hf hh (y_ld Tryz.sc_3 rfl) ?_; clear hf a; intro a hf
     refine ops_end ?_
     refine then_n ⟨⟨fun _ _ => (hh.less (.cons _ (List.Sublist.refl _))), trivial⟩, ?_⟩
     refine mc_e rfl fun Q1 => ?_
     refine o_call hf Tryz.en_52 rfl rfl rfl (p77 B9 (s1.map (getF d q pn)) ((splitL (poolV d q y) m).getD pn 0) _ (hh.at (i := 2) rfl)) ?_; clear hf a; intro v a w hR hf
     replace hh := hh.turn (i := 2) rfl hR.ext (hR.at (i := 0) rfl)
     rw [← hgf] at hh
     refine ops_end ?_
     refine then_n ⟨⟨fun h => Bool.noConfusion (show true = false from h), trivial⟩, ?_⟩
     refine mc_end ?_
     refine blk_n ?_
     refine then_n ?_
     exact ⟨(s1 ++ [y], o2), ⟨⟨hRg3, fun z hz => by
       rcases List.mem_append.1 hz with hz | hz
       · exact hsub z hz
       · rw [List.mem_singleton.1 hz]; exact hyS, Hp.headEq (hh.pick [2, 3, 4, 5, 6, 7, 8, 9]) (by rw [List.map_append]; rfl)⟩, (hf.head (by repeat' (first | exact True.intro | refine And.intro rfl ?_)) (Keep.cons rfl (Keep.cons rfl (Keep.cons rfl (Keep.cons rfl (Keep.cons rfl (Keep.cons rfl (Keep.cons rfl (Keep.cons rfl (Keep.cons rfl (Keep.cons rfl (Keep.cons rfl (Keep.cons rfl (Keep.cons rfl (Keep.cons rfl (Keep.cons rfl (Keep.cons rfl (Keep.cons rfl (Keep.cons rfl (Keep.cons rfl (Keep.cons rfl (Keep.cons rfl (Keep.cons rfl (Keep.cons rfl (Keep.cons rfl (Keep.cons rfl (Keep.cons rfl (Keep.cons rfl (Keep.cons rfl (Keep.cons rfl (Keep.cons rfl (Keep.cons rfl (Keep.cons rfl (Keep.cons rfl (Keep.cons rfl (Keep.cons rfl (Keep.cons rfl (Keep.app rfl (Keep.rm rfl Keep.base)))))))))))))))))))))))))))))))))))))))⟩, leftS_lt hyS hyd⟩
    ·have hG6 := hg6; try simp only [gS] at hG6
     refine sy_exit ?_
     refine then_e ?_
     refine then_e ?_
     refine blk_e ?_
     refine then_n ?_
     refine sy_seq ?_
     obtain ⟨el, eh⟩ := ends_all hSm hsub (hb0 (by simp_all)) (reach_ne hO q) (getF d q pn)
     refine sy_ops ?_
     refine o_v hf hh (yv_fieldAddr Tryz.fo_97_0 rfl) ?_; clear hf a; intro a hf
     refine o_v hf hh (y_ld Tryz.sc_3 rfl) ?_; clear hf a; intro a hf
     refine o_v hf hh (yv_fieldAddr Tryz.fo_97_1 rfl) ?_; clear hf a; intro a hf
     refine o_v hf hh (y_ld Tryz.sc_3 rfl) ?_; clear hf a; intro a hf
     refine o_v hf hh (yv_buildS Tryz.bs_49 rfl rfl) ?_; clear hf a; intro a hf
     refine o_store hf hh Tryz.sz_49 fun w hh => ?_
     refine o_store hf hh Tryz.sz_34 fun w hh => ?_
     refine o_end ?_
     refine sy_ret ?_
     have ev : getV d q pn = (loL (s1.map (getF d q pn)), hiL (s1.map (getF d q pn))) := by unfold getV; rw [if_pos e0, el, eh]
     rw [e0, ev]
     exact ret_d (Ds := []) hf hh Tryz.en_54 (fun w' => d86r B7 w') fun w' hh => ⟨[.agg #[.int .i64 (loL (s1.map (getF d q pn))), .int .i64 (hiL (s1.map (getF d q pn)))], .int .i64 0], ⟨⟨B6, 0, _, _, _, rfl, hh.at (i := 5) rfl, .inr ⟨2, _, Tryz.ag_49, rfl, rfl⟩⟩, ⟨B7, 0, _, _, _, rfl, hh.at (i := 4) rfl, .inl ⟨Tryz.sc_34, rfl⟩⟩, True.intro⟩, rfl, hh.ext⟩
  ·intro ch w hX hf
   obtain ⟨rfl, he, hx⟩ := hX; replace hh := hh.more hx; clear hx
   refine then_p ?_
   have ev : getV d g part = (0, 0) := by unfold getV; exact if_neg he
   rw [ev]
   exact pan_d (Ds := []) hf hh Tryz.en_54 (fun w' hh => d86p B7 _ 0 w' (hh.at (i := 0) rfl)) fun w' w'' hh h2 => ⟨[.agg #[.int .i64 0, .int .i64 0], .int .i64 (getE d g part)], ⟨⟨B6, 0, _, _, _, rfl, (hh.turn (i := 0) rfl h2.ext (h2.at (i := 0) rfl)).at (i := 1) rfl, .inr ⟨2, _, Tryz.ag_49, rfl, rfl⟩⟩, ⟨B7, 0, _, _, _, rfl, h2.at (i := 0) rfl, .inl ⟨Tryz.sc_34, rfl⟩⟩, True.intro⟩, rfl, (hh.turn (i := 0) rfl h2.ext (h2.at (i := 0) rfl)).ext⟩
end Go.Proofs.YtccpgpnekoncoaaGreat

