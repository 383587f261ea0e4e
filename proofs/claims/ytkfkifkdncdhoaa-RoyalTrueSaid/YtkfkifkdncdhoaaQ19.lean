/- Lemmas, in order: RoyalTrue. What a law is handed, opened: royalties, terms, numbers.. -/
import Derived.Test.YtkfkifkdncdhoaaQ18
import Derived.Test.YtkfkifkdncdhoaaRows
import Derived.Test.YtkfkifkdncdhoaaChecked
import Derived.JoinedOf
import Derived.LaidLaws
import Derived.RowKit
import Derived.RowKitTokens
import Derived.LaidHandle
import Derived.Stop.Joined
import Derived.Lay
import Derived.SizedLaws
import Derived.SevenTiedAt
namespace Go.Proofs.Ytkfkifkdncdhoaa
open Go Go.Sy Go.RoyM
theorem com_of {t : TermD} (ht : TermOk t) {price many : Int} (hp : 0 ≤ price ∧ price ≤ 1048576) (hm : 0 ≤ many ∧ many ≤ 12) : comE t price many = 0 ∧ comW t price many = comV t price many := by
  have h : comB t price many = true := by
    rw [comB_in, termB_iff.2 ht, Bool.true_and]
    unfold inI
    simp only [Bool.and_eq_true, decide_eq_true_eq]
    exact ⟨hp, hm⟩
  exact ⟨by unfold comE; rw [h]; rfl, by unfold comW; rw [h]; rfl⟩
theorem own_step {cs t : List Nat} {g i c x : Nat} (hx : t[i]? = some x) (hc : cs[i]? = some c) : ownC cs t g (i + 1) = if x = g then ownC cs t g i ||| 2 ^ c else ownC cs t g i := by
  rw [ownC, hx, getD_at hc]
  by_cases h : x = g
  · rw [if_pos h, if_pos (by rw [h])]
  · rw [if_neg h, if_neg (by simpa using h)]
set_option maxRecDepth 100000 in
set_option maxHeartbeats 8000000 in
theorem p9 (d : RoyD) (p : Pl) (y : List Int) (sy : Option Addr) (cy : Nat) (u : World) (hR : RoyIn u d p) (hY : BAt u sy y) (hyl : y.length ≤ 9223372036854775807) (hyb : ∀ z ∈ y, 0 ≤ z ∧ z ≤ 255) : Calls Try.prog 9 #[.agg (royC d p), .slice sy y.length cy] u (Ret fun v w' => v = .bool true ∧ Ext [] u w') := by
  refine calls_of Try.func9 rfl rfl (fun a hf => ?_)
  have hh := Hp.init u []
  obtain ⟨st, sp, ss, sr, sd, ct, cp, cs, cr, cd⟩ := p
  refine sy_sq ?_
  refine o_box hf hh ?_; clear hf hh a; intro B2 a w hf hh
  refine o_v hf hh (yv_assign rfl) ?_; clear hf a; intro a hf
  refine o_end ?_
  refine sy_seq ?_
  refine sy_sq ?_
  refine o_v hf hh (y_lds Try.ag_37 rfl) ?_; clear hf a; intro a hf
  refine o_call hf Try.en_20 rfl rfl rfl (p20 d _ _ (hR.ext hh.ext)) ?_; clear hf a; intro v a w hR hf
  obtain ⟨rfl, hx⟩ := hR; replace hh := hh.more hx; clear hx
  refine o_v hf hh (yv_move rfl) ?_; clear hf a; intro a hf
  refine guard_split hf (t := 39) rfl (fun hg2 => ?_) (fun hg2 => ?_)
  ·have hG2 := hg2; try simp only [gS] at hG2
   refine o_off hf ?_; clear hf a; intro a hf
   refine o_off hf ?_; clear hf a; intro a hf
   refine o_off hf ?_; clear hf a; intro a hf
   refine o_v hf hh (y_pt rfl rfl) ?_; clear hf a; intro a hf
   refine o_v hf hh (yv_move rfl) ?_; clear hf a; intro a hf
   refine o_off hf ?_; clear hf a; intro a hf
   refine o_off hf ?_; clear hf a; intro a hf
   refine o_off hf ?_; clear hf a; intro a hf
   refine o_v hf hh (y_pt rfl rfl) ?_; clear hf a; intro a hf
   refine o_end ?_
   refine c_t hf ?_
   refine sy_sq ?_
   refine o_call hf Try.en_14 rfl rfl rfl (p14 _) ?_; clear hf a; intro v a w hR hf
   obtain ⟨rfl, hx⟩ := hR; replace hh := hh.more hx; clear hx
   refine o_v hf hh (yv_assign rfl) ?_; clear hf a; intro a hf
   refine o_end ?_
   refine sy_ret ?_
   refine then_r ?_
   refine ret_r hf rfl rfl ?_
   first
     | exact ⟨rfl, hh.ext⟩
     | omega
  ·have hG2 := hg2; try simp only [gS] at hG2
   refine o_v hf hh (yv_move rfl) ?_; clear hf a; intro a hf
   refine o_v hf hh (yv_len Try.se_58 rfl) ?_; clear hf a; intro a hf
   refine o_v hf hh (yv_bin rfl rfl rfl) ?_; clear hf a; intro a hf
   refine o_v hf hh (y_pf rfl rfl) ?_; clear hf a; intro a hf
   refine o_v hf hh (yv_move rfl) ?_; clear hf a; intro a hf
   refine guard_split hf (t := 44) rfl (fun hg5 => ?_) (fun hg5 => ?_)
   ·have hG5 := hg5; try simp only [gS] at hG5
    refine o_off hf ?_; clear hf a; intro a hf
    refine o_off hf ?_; clear hf a; intro a hf
    refine o_off hf ?_; clear hf a; intro a hf
    refine o_v hf hh (y_pt rfl rfl) ?_; clear hf a; intro a hf
    refine o_end ?_
    refine c_t hf ?_
    refine sy_sq ?_
    refine o_call hf Try.en_14 rfl rfl rfl (p14 _) ?_; clear hf a; intro v a w hR hf
    obtain ⟨rfl, hx⟩ := hR; replace hh := hh.more hx; clear hx
    refine o_v hf hh (yv_assign rfl) ?_; clear hf a; intro a hf
    refine o_end ?_
    refine sy_ret ?_
    refine then_r ?_
    refine ret_r hf rfl rfl ?_
    first
      | exact ⟨rfl, hh.ext⟩
      | omega
   ·have hG5 := hg5; try simp only [gS] at hG5
    have hA := hR.at (by assumption)
    refine o_v hf hh (y_lds Try.ag_37 rfl) ?_; clear hf a; intro a hf
    refine o_call hf Try.en_40 rfl rfl rfl (p40 d _ _ (hA.ext hh.ext)) ?_; clear hf a; intro v a w hR hf
    obtain ⟨rfl, hx⟩ := hR; replace hh := hh.more hx; clear hx
    refine o_v hf hh (yv_not rfl) ?_; clear hf a; intro a hf
    refine o_v hf hh (y_pf rfl rfl) ?_; clear hf a; intro a hf
    refine o_end ?_
    refine sy_cond hf rfl (fun hg8 => ?_) (fun hg8 => ?_)
    ·have hG8 := hg8; try simp only [gS] at hG8
     refine sy_sq ?_
     refine o_call hf Try.en_14 rfl rfl rfl (p14 _) ?_; clear hf a; intro v a w hR hf
     obtain ⟨rfl, hx⟩ := hR; replace hh := hh.more hx; clear hx
     refine o_v hf hh (yv_assign rfl) ?_; clear hf a; intro a hf
     refine o_end ?_
     refine sy_ret ?_
     refine then_r ?_
     refine ret_r hf rfl rfl ?_
     first
       | exact ⟨rfl, hh.ext⟩
       | omega
    ·have hG8 := hg8; try simp only [gS] at hG8
     refine sy_skip ?_
     refine then_n ?_
     refine sy_seq ?_
     have hA := hR.at (by assumption)
     have hok : royB d = true := by assumption
     have hO := royB_iff.1 hok
     have hnt := hO.nt; have hnp := hO.np; have hns := hO.ns; have hpd := hO.npd
     have hy0 : 0 < y.length := by omega
     refine sy_ops ?_
     refine o_v hf hh (yv_fieldAddr Try.fo_37_0 rfl) ?_; clear hf a; intro a hf
     refine o_v hf hh (y_ld Try.sc_33 rfl) ?_; clear hf a; intro a hf
     refine o_v hf hh (yv_len Try.se_33 rfl) ?_; clear hf a; intro a hf
     refine ops_make hf hh Try.eb_22 rfl rfl (by omega) (by omega) (.inl rfl) rfl ?_; clear hf hh a; intro Bo a w hf hh
     refine o_v hf hh (yv_assign rfl) ?_; clear hf a; intro a hf
     refine o_end ?_
     refine sy_seq ?_
     refine sy_sq ?_
     refine o_v hf hh (yv_fieldAddr Try.fo_37_0 rfl) ?_; clear hf a; intro a hf
     refine o_v hf hh (y_ld Try.sc_33 rfl) ?_; clear hf a; intro a hf
     refine o_v hf hh (yv_len Try.se_33 rfl) ?_; clear hf a; intro a hf
     refine o_v hf hh (yv_move rfl) ?_; clear hf a; intro a hf
     refine o_end ?_
     refine sy_block ?_
     refine sy_loopH (σ := Nat × Array Value) [6, 57, 58, 59, 60, 61, 62, 63, 64, 65, 66, 67, 68, 69] (fun s => [(57, .int .i64 (s.1 : Nat))]) (fun s => fun w' => s.1 ≤ d.terms.length ∧ CF s.2 d.terms.length (fun j => if j < s.1 then -(d.paid.getD j 0) else 0) ∧ Hp u [] [(Bo, .cells s.2 3), (B2, .cells (royC d ⟨st, sp, ss, sr, sd, ct, cp, cs, cr, cd⟩) 37)] w') (fun s => d.terms.length - s.1) ((0, madeCells (Value.int .i64 0).cells (d.terms.length * 1))) hf ?_ ?_ ?_
     · repeat' (first | exact True.intro | refine And.intro rfl ?_)
     · exact ⟨Nat.zero_le _, (made_CF _).congr fun j _ => (if_neg (Nat.not_lt_zero j)).symm, hh⟩
     ·rintro s a w ⟨hi, hCF, hh⟩ hf
      obtain ⟨i, cur⟩ := s; simp only at hi hCF hh hf ⊢
      refine sy_sq ?_
      refine o_v hf hh (yv_bin rfl rfl rfl) ?_; clear hf a; intro a hf
      refine o_end ?_
      refine sy_seq ?_
      refine sy_cond hf rfl (fun hg12 => ?_) (fun hg12 => ?_)
      ·have hG12 := hg12; try simp only [gS] at hG12
       refine sy_skip ?_
       refine then_n ?_
       refine sy_seq ?_
       refine sy_block ?_
       refine sy_sq ?_
       refine o_v hf hh (yv_move rfl) ?_; clear hf a; intro a hf
       refine o_v hf hh (yv_assign rfl) ?_; clear hf a; intro a hf
       refine o_end ?_
       obtain ⟨pd, hpdi⟩ := ex_of (l := d.paid) (i := i) (by omega)
       have hpb := hO.pd pd (List.mem_of_getElem? hpdi)
       obtain ⟨blkd, offd, ccd, Td, frd, ed, hbd, hcd⟩ := hA.pd i pd hpdi; dsimp only at ed; subst ed
       have hc1 := hCF.1
       have hCF2 := (hCF.put (j := i) (by omega) (-pd)).congr (G := fun j => if j < i + 1 then -(d.paid.getD j 0) else 0) fun j hj => by
         by_cases e : j = i
         · subst e; rw [if_pos rfl, if_pos (by omega), getD_at hpdi]
         · rw [if_neg e]
           by_cases h2 : j < i
           · rw [if_pos h2, if_pos (by omega)]
           · rw [if_neg h2, if_neg (by omega)]
       refine sy_ops ?_
       refine o_v hf hh (yv_move rfl) ?_; clear hf a; intro a hf
       refine o_v hf hh (yv_move rfl) ?_; clear hf a; intro a hf
       refine o_v hf hh (yv_fieldAddr Try.fo_37_4 rfl) ?_; clear hf a; intro a hf
       refine o_v hf hh (y_ld Try.sc_22 rfl) ?_; clear hf a; intro a hf
       refine o_v hf hh (yv_move rfl) ?_; clear hf a; intro a hf
       refine o_v hf hh (y_ix Try.se_22 rfl rfl) ?_; clear hf a; intro a hf
       refine o_v hf hh (y_ld Try.sc_3 rfl) ?_; clear hf a; intro a hf
       refine o_v hf hh (yv_neg rfl (by omega) (by omega)) ?_; clear hf a; intro a hf
       refine o_v hf hh (y_ix Try.se_22 rfl rfl) ?_; clear hf a; intro a hf
       refine o_store (i := 0) hf hh Try.sz_3 (hx := rfl) (hi := atI (i := 0) rfl) (hy := rfl) (hl := Nat.ble_eq_true_of_le (by rw [Int.toNat_natCast]; omega)) fun w hh => ?_
       refine ops_end ?_
       refine blk_n ?_
       refine then_n ?_
       refine sy_ops ?_
       refine o_v hf hh (y_add rfl rfl) ?_; clear hf a; intro a hf
       refine o_v hf hh (yv_move rfl) ?_; clear hf a; intro a hf
       refine ops_end ?_
       refine then_n ?_
       exact ⟨(i + 1, _), ⟨⟨by simp only; omega, hCF2, hh⟩, (hf.head (by repeat' (first | exact True.intro | refine And.intro rfl ?_)) (Keep.cons rfl (Keep.cons rfl (Keep.cons rfl (Keep.cons rfl (Keep.cons rfl (Keep.cons rfl (Keep.cons rfl (Keep.cons rfl (Keep.cons rfl (Keep.cons rfl (Keep.cons rfl (Keep.cons rfl (Keep.cons rfl (Keep.cons rfl (Keep.app rfl (Keep.rm rfl Keep.base)))))))))))))))))⟩, by simp only; omega⟩
      ·have hG12 := hg12; try simp only [gS] at hG12
       refine sy_exit ?_
       refine then_e ?_
       refine then_e ?_
       refine blk_e ?_
       refine then_n ?_
       refine sy_seq ?_
       refine sy_sq ?_
       refine o_v hf hh (yv_fieldAddr Try.fo_37_1 rfl) ?_; clear hf a; intro a hf
       refine o_v hf hh (y_ld Try.sc_22 rfl) ?_; clear hf a; intro a hf
       refine o_v hf hh (yv_len Try.se_22 rfl) ?_; clear hf a; intro a hf
       refine o_v hf hh (yv_move rfl) ?_; clear hf a; intro a hf
       refine o_end ?_
       refine sy_block ?_
       refine sy_loopH (σ := Nat × List (List Nat) × Array Value) [4, 7, 8, 9, 10, 11, 12, 13, 14, 15, 16, 17, 18, 19, 20, 21, 22, 23, 24, 25, 26, 27, 28, 29, 30, 31, 32, 73, 74, 75, 76, 77, 78, 79, 80, 81, 82, 83, 84, 85, 86, 87, 88, 89, 90, 91, 92, 93, 94, 95, 96, 97, 98, 99, 100, 101, 102, 103, 104, 105, 106, 107, 108, 109, 110, 111, 112, 113, 114, 115, 116, 117, 118, 119, 120, 121, 122, 123, 124, 125, 126, 127, 128, 129, 130, 131, 132, 133, 134, 135, 136, 137, 138, 139, 140, 141, 142, 143, 144, 145, 146, 147, 148, 149, 150, 151, 152, 153, 154, 155, 156, 157, 158, 159, 160, 161, 162, 163, 164, 165, 166, 167, 168, 169, 170, 171, 172, 173, 174, 175, 176, 177, 178, 179, 180, 181, 182, 183, 184, 185, 186, 187, 188, 189, 190, 191, 192, 193, 194, 195, 196, 197, 198, 199, 200, 201, 202, 203, 204, 205, 206, 207, 208, 209, 210, 211, 212, 213, 214, 215, 216, 217, 218, 219, 220, 221, 222, 223, 224, 225, 226, 227, 228, 229, 230, 231, 232, 233, 234, 235, 236, 237, 238, 239, 240, 241, 242, 243, 244, 245, 246, 247, 248, 249] (fun s => [(73, .int .i64 (s.1 : Nat))]) (fun s => fun w' => s.1 ≤ d.prices.length ∧ s.2.1.length = s.1 ∧ TruS d s.2.1 ∧ CF s.2.2 d.terms.length (fun j => owdV d s.2.1 j s.1) ∧ Hp u [] [(Bo, .cells s.2.2 3), (B2, .cells (royC d ⟨st, sp, ss, sr, sd, ct, cp, cs, cr, cd⟩) 37)] w') (fun s => d.prices.length - s.1) ((0, [], cur)) hf ?_ ?_ ?_
       · repeat' (first | exact True.intro | refine And.intro rfl ?_)
       · exact ⟨Nat.zero_le _, rfl, fun j t h => by simp at h, hCF.congr fun j hj => by rw [if_pos (by omega), owd_zero], hh⟩
       ·rintro s a w ⟨hk, hkT, hTr, hCF, hh⟩ hf
        obtain ⟨k, Ts, cur⟩ := s; simp only at hk hkT hTr hCF hh hf ⊢
        refine sy_sq ?_
        refine o_v hf hh (yv_bin rfl rfl rfl) ?_; clear hf a; intro a hf
        refine o_end ?_
        refine sy_seq ?_
        refine sy_cond hf rfl (fun hg14 => ?_) (fun hg14 => ?_)
        ·have hG14 := hg14; try simp only [gS] at hG14
         refine sy_skip ?_
         refine then_n ?_
         refine sy_seq ?_
         refine sy_block ?_
         refine sy_seq ?_
         obtain ⟨x, hx⟩ := ex_of (l := d.prices) (i := k) (by omega)
         have hxb := hO.p x (List.mem_of_getElem? hx)
         have ep : priceN d k = x := getD_at hx
         have hek := allE_ok hO (k := k) (by omega)
         obtain ⟨blkp, offp, ccp, Tp, frp, epp, hbp, hcp⟩ := hA.pr k x hx; dsimp only at epp; subst epp
         obtain ⟨m, hm⟩ := ex_of (l := d.shares) (i := k) (by omega)
         have hS := hO.s m (List.mem_of_getElem? hm)
         have es : sharesN d k = m := getD_at hm
         have hm5 := hS.n2
         have hnx : ∀ (t : List Nat) (j : Nat), owdV d (Ts ++ [t]) j (k + 1) = owdV d Ts j k + comV (termN d j) x (t.count j : Nat) := fun t j => by
           have h := owd_next (d := d) (Ts := Ts) (t := t) (g := j) (x := x) (by rw [hkT]; exact hx)
           rw [hkT] at h; exact h
         refine sy_ops ?_
         refine o_v hf hh (yv_move rfl) ?_; clear hf a; intro a hf
         refine o_v hf hh (y_ix Try.se_22 rfl rfl) ?_; clear hf a; intro a hf
         refine o_v hf hh (y_ld Try.sc_3 rfl) ?_; clear hf a; intro a hf
         refine o_v hf hh (yv_assign rfl) ?_; clear hf a; intro a hf
         refine o_v hf hh (yv_assign rfl) ?_; clear hf a; intro a hf
         refine o_end ?_
         refine sy_sq ?_
         refine o_v hf hh (y_lds Try.ag_37 rfl) ?_; clear hf a; intro a hf
         refine o_v hf hh (yv_move rfl) ?_; clear hf a; intro a hf
         refine o_v hf hh (yv_move rfl) ?_; clear hf a; intro a hf
         refine o_call hf Try.en_41 rfl rfl rfl (p41 d _ (k : Nat) y sy cy _ (hA.ext hh.ext) hO (hY.ext hh.ext) hy0 hyl hyb) ?_; clear hf a; intro v a w hR hf
         obtain ⟨t, Xt, htm, hOt, hx9⟩ := hR; obtain ⟨oat, cpt, rfl⟩ := own_val hOt
         replace hh := (hh.join hx9).perm List.perm_append_comm; clear hx9
         obtain ⟨g1, g2, g3⟩ := tru_facts hO htm
         obtain ⟨N, hN⟩ : ∃ N : Cts, N = cnt (0, 0, 0, 0) t := ⟨_, rfl⟩
         have hNc : cardsN N = t.length := by rw [hN, cards_cnt]; exact Nat.zero_add _
         have hcO : ctOk N 12 := ctOk_of (by omega)
         have hNg : ∀ g, g < 4 → cget N g = t.count g := fun g hg => by rw [hN]; exact cnt_zero g2 hg
         have hTS := TruS.put hTr (t := t) (by rw [hkT]; exact htm)
         obtain ⟨f1, f2, f3, f4⟩ := pool_bd hO hxb.1 hxb.2 (n := N) (by omega)
         rw [hNc] at f1 f2 f4
         refine o_v hf hh (yv_assign rfl) ?_; clear hf a; intro a hf
         refine o_end ?_
         refine sy_sq ?_
         refine o_v hf hh (y_lds Try.ag_37 rfl) ?_; clear hf a; intro a hf
         refine o_v hf hh (yv_move rfl) ?_; clear hf a; intro a hf
         refine o_call hf Try.en_42 rfl rfl rfl (p42 d _ (k : Nat) _ (hA.ext hh.ext) hO) ?_; clear hf a; intro v a w hR hf
         obtain ⟨Xc, hOc, hx9⟩ := hR; obtain ⟨oac, cpc, rfl⟩ := own_val hOc
         replace hh := (hh.join hx9).perm List.perm_append_comm; clear hx9
         have hol := own_len hO htm
         obtain ⟨cl, hcl⟩ : ∃ cl, cl = csL d k := ⟨_, rfl⟩
         rw [← hcl] at hOc hol hf
         replace hh : Hp u [] (([(Bo, .cells cur 3), (B2, .cells (royC d ⟨st, some ⟨blkp, offp, none⟩, ss, sr, sd, ct, cp, cs, cr, cd⟩) 37)] ++ Xt) ++ Xc) w := hh
         refine o_v hf hh (yv_assign rfl) ?_; clear hf a; intro a hf
         refine o_end ?_
         refine sy_sq ?_
         refine o_v hf hh (yv_assign rfl) ?_; clear hf a; intro a hf
         refine o_end ?_
         refine sy_seq ?_
         refine sy_sq ?_
         refine o_v hf hh (yv_fieldAddr Try.fo_37_0 rfl) ?_; clear hf a; intro a hf
         refine o_v hf hh (y_ld Try.sc_33 rfl) ?_; clear hf a; intro a hf
         refine o_v hf hh (yv_len Try.se_33 rfl) ?_; clear hf a; intro a hf
         refine o_v hf hh (yv_move rfl) ?_; clear hf a; intro a hf
         refine o_end ?_
         refine sy_block ?_
         refine sy_loopH (σ := Nat × Array Value) [4, 11, 12, 13, 14, 15, 16, 17, 18, 19, 20, 21, 22, 88, 89, 90, 91, 92, 93, 94, 95, 96, 97, 98, 99, 100, 101, 102, 103, 104, 105, 106, 107, 108, 109, 110, 111, 112, 113, 114, 115, 116, 117, 118, 119, 120, 121, 122, 123, 124, 125, 126, 127, 128, 129, 130, 131, 132, 133, 134, 135, 136, 137, 138, 139, 140, 141, 142, 143, 144, 145, 146, 147, 148, 149, 150, 151, 152, 153, 154, 155, 156, 157, 158] (fun s => [(11, .int .i64 (totF d x N s.1)), (88, .int .i64 (s.1 : Nat))]) (fun s => fun w' => s.1 ≤ d.terms.length ∧ CF s.2 d.terms.length (fun j => if j < s.1 then owdV d (Ts ++ [t]) j (k + 1) else owdV d Ts j k) ∧ Hp u [] (([(Bo, .cells s.2 3), (B2, .cells (royC d ⟨st, some ⟨blkp, offp, none⟩, ss, sr, sd, ct, cp, cs, cr, cd⟩) 37)] ++ Xt) ++ Xc) w') (fun s => d.terms.length - s.1) ((0, cur)) hf ?_ ?_ ?_
         · repeat' (first | exact True.intro | refine And.intro rfl ?_)
         · exact ⟨Nat.zero_le _, hCF.congr fun j hj => (if_neg (Nat.not_lt_zero j)).symm, hh⟩
         ·rintro s a w ⟨hg, hCF, hh⟩ hf
          obtain ⟨g, cur⟩ := s; simp only at hg hCF hh hf ⊢
          refine sy_sq ?_
          refine o_v hf hh (yv_bin rfl rfl rfl) ?_; clear hf a; intro a hf
          refine o_end ?_
          refine sy_seq ?_
          refine sy_cond hf rfl (fun hg18 => ?_) (fun hg18 => ?_)
          ·have hG18 := hg18; try simp only [gS] at hG18
           refine sy_skip ?_
           refine then_n ?_
           refine sy_seq ?_
           refine sy_block ?_
           refine sy_seq ?_
           obtain ⟨tm, htmg⟩ := ex_of (l := d.terms) (i := g) (by omega)
           have hto := hO.t tm (List.mem_of_getElem? htmg)
           obtain ⟨blkm, offm, ccm, Tm, frm, em, hbm, hcm⟩ := hA.tm g tm htmg; dsimp only at em; subst em
           obtain ⟨ec1, ec2⟩ := claV_ok hO (g := g) (k := k) (by omega) (by omega)
           have hsl := sur_lt hO k g
           have hcl4 := clm_lt12 hO k g
           have hcnt := own_cnt hO htm g
           have hn1 := own_no1 hO htm g
           have hn2 := own_no2 hO htm g
           rw [← hcl] at hn1 hn2
           have hol4 : ∀ i, ownC cl t g i < 4096 := fun i => by rw [hcl]; exact ownC_lt g i
           obtain ⟨eE, eW⟩ := com_of hto (price := x) (many := (t.count g : Nat)) hxb ⟨by omega, by omega⟩
           have h0 := tot_bd hO hxb.1 hxb.2 hcO g (by omega)
           have h1 := tot_bd hO hxb.1 hxb.2 hcO (g + 1) (by omega)
           have h2 := com_bd hto hxb.1 hxb.2 hcnt.2.2
           have e9 : totF d x N (g + 1) = totF d x N g + comV tm x (t.count g : Nat) := by rw [totF, getD_at htmg, hNg g (by omega)]
           have hb1 := owd_bd hO hTr (g := g) (by omega) (by omega)
           rw [hkT] at hb1
           have hgo := hCF.2 g (by omega)
           dsimp only at hgo
           rw [if_neg (Nat.lt_irrefl g)] at hgo
           have hc1 := hCF.1
           have hCF2 := (hCF.put (j := g) (by omega) (owdV d Ts g k + comV tm x (t.count g : Nat))).congr (G := fun j => if j < g + 1 then owdV d (Ts ++ [t]) j (k + 1) else owdV d Ts j k) fun j hj => by
             by_cases e : j = g
             · subst e; rw [if_pos rfl, if_pos (by omega), hnx, term_at htmg]
             · rw [if_neg e]
               by_cases h2 : j < g
               · rw [if_pos h2, if_pos (by omega)]
               · rw [if_neg h2, if_neg (by omega)]
           refine sy_ops ?_
           refine o_v hf hh (yv_move rfl) ?_; clear hf a; intro a hf
           refine o_v hf hh (y_ix Try.se_33 rfl rfl) ?_; clear hf a; intro a hf
           refine o_v hf hh (y_lds Try.ag_24 rfl) ?_; clear hf a; intro a hf
           refine o_alloc hf hh Try.ze_24 ?_; clear hf hh a; intro B13 a w hf hh
           refine o_v hf hh (yv_assign rfl) ?_; clear hf a; intro a hf
           refine o_store hf hh Try.sz_24 fun w hh => ?_
           refine o_end ?_
           refine sy_sq ?_
           refine o_v hf hh (y_lds Try.ag_37 rfl) ?_; clear hf a; intro a hf
           refine o_v hf hh (yv_move rfl) ?_; clear hf a; intro a hf
           refine o_v hf hh (yv_move rfl) ?_; clear hf a; intro a hf
           refine o_call hf Try.en_23 rfl rfl rfl (p23 d _ (g : Nat) (k : Nat) _ (hA.ext hh.ext)) ?_; clear hf a; intro v a w hR hf
           rw [ec1, ec2] at hR
           obtain ⟨rfl, hx⟩ := hR; replace hh := hh.more hx; clear hx
           refine o_v hf hh (yv_move rfl) ?_; clear hf a; intro a hf
           refine o_v hf hh (yv_extract rfl rfl) ?_; clear hf a; intro a hf
           refine o_v hf hh (yv_extract rfl rfl) ?_; clear hf a; intro a hf
           refine o_v hf hh (yv_extract rfl rfl) ?_; clear hf a; intro a hf
           refine o_v hf hh (yv_assign rfl) ?_; clear hf a; intro a hf
           refine o_v hf hh (yv_assign rfl) ?_; clear hf a; intro a hf
           refine o_v hf hh (yv_assign rfl) ?_; clear hf a; intro a hf
           refine o_end ?_
           refine sy_sq ?_
           refine o_v hf hh (yv_assign rfl) ?_; clear hf a; intro a hf
           refine o_v hf hh (yv_assign rfl) ?_; clear hf a; intro a hf
           refine o_end ?_
           refine sy_seq ?_
           refine sy_sq ?_
           refine o_v hf hh (yv_move rfl) ?_; clear hf a; intro a hf
           refine o_v hf hh (yv_len Try.se_22 rfl) ?_; clear hf a; intro a hf
           refine o_v hf hh (yv_move rfl) ?_; clear hf a; intro a hf
           refine o_end ?_
           refine sy_block ?_
           refine sy_loopF (σ := Nat) [17, 18, 19, 20, 103, 104, 105, 106, 107, 108, 109, 110, 111, 112, 113, 114, 115, 116, 117, 118, 119, 120] (fun i => [(17, .int .i64 (ownC cl t g i : Nat)), (18, .int .i64 ((t.take i).count g : Nat)), (103, .int .i64 (i : Nat))]) (fun i => i ≤ t.length) (fun i => t.length - i) (0) hf hh ?_ ?_ ?_
           · repeat' (first | exact True.intro | refine And.intro rfl ?_)
           · exact Nat.zero_le _
           ·rintro i a w hi hf hh
            refine sy_sq ?_
            refine o_v hf hh (yv_bin rfl rfl rfl) ?_; clear hf a; intro a hf
            refine o_end ?_
            refine sy_seq ?_
            refine sy_cond hf rfl (fun hg24 => ?_) (fun hg24 => ?_)
            ·have hG24 := hg24; try simp only [gS] at hG24
             refine sy_skip ?_
             refine then_n ?_
             refine sy_seq ?_
             refine sy_block ?_
             refine sy_seq ?_
             obtain ⟨z, hz⟩ := ex_of (l := t) (i := i) (by omega)
             obtain ⟨c9, hc9⟩ := ex_of (l := cl) (i := i) (by omega)
             have hc12 : c9 < 12 := by rw [hcl] at hc9; exact cs_lt hc9
             obtain ⟨blkt, offt, cct, Tt, frt, et, hbt, hct⟩ := nat_own hOt (fun q hq => hh.get q (by simp [hq])) i z hz; subst et
             have hst := own_step (g := g) hz hc9
             have hct9 := count_take (g := g) hz
             have hlo := hol4 i
             have hcnl : (t.take i).count g ≤ i := by
               have h1 := List.count_le_length (a := g) (l := t.take i)
               rw [List.length_take] at h1; omega
             refine sy_ops ?_
             refine o_v hf hh (yv_move rfl) ?_; clear hf a; intro a hf
             refine o_v hf hh (y_ix Try.se_22 rfl rfl) ?_; clear hf a; intro a hf
             refine o_w hf (yv_ldw Try.sc_3 rfl hbt hct) ?_; clear hf a; intro a hf
             refine o_v hf hh (yv_assign rfl) ?_; clear hf a; intro a hf
             refine o_v hf hh (yv_assign rfl) ?_; clear hf a; intro a hf
             refine o_end ?_
             refine sy_sq ?_
             refine o_v hf hh (yv_move rfl) ?_; clear hf a; intro a hf
             refine o_v hf hh (yv_move rfl) ?_; clear hf a; intro a hf
             refine o_v hf hh (yv_bin rfl rfl rfl) ?_; clear hf a; intro a hf
             refine o_end ?_
             refine sy_cond hf rfl (fun hg27 => ?_) (fun hg27 => ?_)
             ·have hG27 := hg27; try simp only [gS] at hG27
              obtain ⟨blkc, offc, ccc, Tc, frc, e9c, hbc, hcc⟩ := nat_own hOc (fun q hq => hh.get q (by simp [hq])) i c9 hc9; subst e9c
              have hp2 : 2 ^ c9 ≤ 2 ^ 11 := Nat.pow_le_pow_right (by omega) (by omega)
              obtain ⟨Q, hQ⟩ : ∃ Q, Q = 2 ^ c9 := ⟨_, rfl⟩
              rw [← hQ] at hp2 hst
              refine sy_ops ?_
              refine o_v hf hh (yv_move rfl) ?_; clear hf a; intro a hf
              refine o_v hf hh (yv_move rfl) ?_; clear hf a; intro a hf
              refine o_v hf hh (yv_move rfl) ?_; clear hf a; intro a hf
              refine o_v hf hh (y_ix Try.se_22 rfl rfl) ?_; clear hf a; intro a hf
              refine o_w hf (yv_ldw Try.sc_3 rfl hbc hcc) ?_; clear hf a; intro a hf
              refine o_v hf hh (yv_cast (yv_shl1 (.inl rfl) rfl rfl (by omega) (by omega)) (intv (b := ((Q : Nat) : Int)) (by rw [hQ, Int.toNat_natCast]))) ?_; clear hf a; intro a hf
              refine o_v hf hh (yv_orI rfl rfl (by omega) (by omega)) ?_; clear hf a; intro a hf
              refine o_v hf hh (yv_move rfl) ?_; clear hf a; intro a hf
              refine o_v hf hh (y_add rfl rfl) ?_; clear hf a; intro a hf
              refine o_v hf hh (yv_assign rfl) ?_; clear hf a; intro a hf
              refine o_v hf hh (yv_assign rfl) ?_; clear hf a; intro a hf
              refine ops_end ?_
              refine blk_n ?_
              refine then_n ?_
              refine sy_ops ?_
              refine o_v hf hh (y_add rfl rfl) ?_; clear hf a; intro a hf
              refine o_v hf hh (yv_move rfl) ?_; clear hf a; intro a hf
              refine ops_end ?_
              refine then_n ?_
              first
                | (have hzg : z = g := by omega
                   exact ⟨i + 1, ⟨by omega, hf.head ⟨congrArg some (intv (by rw [hst, if_pos hzg])), congrArg some (intv (by rw [hct9, if_pos hzg]; omega)), rfl, True.intro⟩ (Keep.cons rfl (Keep.cons rfl (Keep.cons rfl (Keep.cons rfl (Keep.cons rfl (Keep.cons rfl (Keep.cons rfl (Keep.cons rfl (Keep.cons rfl (Keep.cons rfl (Keep.cons rfl (Keep.cons rfl (Keep.cons rfl (Keep.cons rfl (Keep.cons rfl (Keep.cons rfl (Keep.cons rfl (Keep.cons rfl (Keep.cons rfl (Keep.cons rfl (Keep.cons rfl (Keep.cons rfl (Keep.app rfl (Keep.rm rfl Keep.base)))))))))))))))))))))))), hh⟩, by omega⟩)
                | (have hzg : ¬ z = g := by omega
                   exact ⟨i + 1, ⟨by omega, hf.head ⟨congrArg some (intv (by rw [hst, if_neg hzg])), congrArg some (intv (by rw [hct9, if_neg hzg]; omega)), rfl, True.intro⟩ (Keep.cons rfl (Keep.cons rfl (Keep.cons rfl (Keep.cons rfl (Keep.cons rfl (Keep.cons rfl (Keep.cons rfl (Keep.cons rfl (Keep.cons rfl (Keep.cons rfl (Keep.cons rfl (Keep.cons rfl (Keep.cons rfl (Keep.cons rfl (Keep.cons rfl (Keep.cons rfl (Keep.cons rfl (Keep.cons rfl (Keep.cons rfl (Keep.cons rfl (Keep.cons rfl (Keep.cons rfl (Keep.app rfl (Keep.rm rfl Keep.base)))))))))))))))))))))))), hh⟩, by omega⟩)
             ·have hG27 := hg27; try simp only [gS] at hG27
              refine sy_skip ?_
              refine blk_n ?_
              refine then_n ?_
              refine sy_ops ?_
              refine o_v hf hh (y_add rfl rfl) ?_; clear hf a; intro a hf
              refine o_v hf hh (yv_move rfl) ?_; clear hf a; intro a hf
              refine ops_end ?_
              refine then_n ?_
              first
                | (have hzg : z = g := by omega
                   exact ⟨i + 1, ⟨by omega, hf.head ⟨congrArg some (intv (by rw [hst, if_pos hzg])), congrArg some (intv (by rw [hct9, if_pos hzg]; omega)), rfl, True.intro⟩ (Keep.cons rfl (Keep.cons rfl (Keep.cons rfl (Keep.cons rfl (Keep.cons rfl (Keep.cons rfl (Keep.cons rfl (Keep.cons rfl (Keep.cons rfl (Keep.cons rfl (Keep.cons rfl (Keep.app rfl (Keep.rm rfl Keep.base))))))))))))), hh⟩, by omega⟩)
                | (have hzg : ¬ z = g := by omega
                   exact ⟨i + 1, ⟨by omega, hf.head ⟨congrArg some (intv (by rw [hst, if_neg hzg])), congrArg some (intv (by rw [hct9, if_neg hzg]; omega)), rfl, True.intro⟩ (Keep.cons rfl (Keep.cons rfl (Keep.cons rfl (Keep.cons rfl (Keep.cons rfl (Keep.cons rfl (Keep.cons rfl (Keep.cons rfl (Keep.cons rfl (Keep.cons rfl (Keep.cons rfl (Keep.app rfl (Keep.rm rfl Keep.base))))))))))))), hh⟩, by omega⟩)
            ·have hG24 := hg24; try simp only [gS] at hG24
             refine sy_exit ?_
             refine then_e ?_
             refine then_e ?_
             refine blk_e ?_
             refine then_n ?_
             refine sy_seq ?_
             obtain rfl : i = t.length := by omega
             rw [List.take_length] at hf
             have hlo := hol4 t.length
             refine sy_ops ?_
             refine o_v hf hh (y_lds Try.ag_24 rfl) ?_; clear hf a; intro a hf
             refine o_v hf hh (yv_move rfl) ?_; clear hf a; intro a hf
             refine o_v hf hh (yv_move rfl) ?_; clear hf a; intro a hf
             refine o_call hf Try.en_17 rfl rfl rfl (p17 tm x (t.count g : Nat) _) ?_; clear hf a; intro v a w hR hf
             rw [eE, eW] at hR
             obtain ⟨rfl, hx⟩ := hR; replace hh := hh.more hx; clear hx
             refine o_v hf hh (yv_move rfl) ?_; clear hf a; intro a hf
             refine o_v hf hh (yv_extract rfl rfl) ?_; clear hf a; intro a hf
             refine o_v hf hh (yv_extract rfl rfl) ?_; clear hf a; intro a hf
             refine o_v hf hh (yv_assign rfl) ?_; clear hf a; intro a hf
             refine o_v hf hh (yv_assign rfl) ?_; clear hf a; intro a hf
             refine o_end ?_
             refine sy_seq ?_
             refine sy_sq ?_
             refine o_v hf hh (yv_move rfl) ?_; clear hf a; intro a hf
             refine o_v hf hh (yv_bin rfl rfl rfl) ?_; clear hf a; intro a hf
             refine o_v hf hh (yv_move rfl) ?_; clear hf a; intro a hf
             refine o_v hf hh (yv_move rfl) ?_; clear hf a; intro a hf
             refine o_v hf hh (yv_bin rfl rfl rfl) ?_; clear hf a; intro a hf
             refine o_v hf hh (y_pf rfl rfl) ?_; clear hf a; intro a hf
             refine o_v hf hh (yv_move rfl) ?_; clear hf a; intro a hf
             refine o_v hf hh (yv_move rfl) ?_; clear hf a; intro a hf
             refine o_v hf hh (yv_move rfl) ?_; clear hf a; intro a hf
             refine o_v hf hh (yv_cast (yv_andnI rfl rfl (by omega) (by omega)) (intv (b := 0) (by rw [hn1]; rfl))) ?_; clear hf a; intro a hf
             refine o_v hf hh (yv_bin rfl rfl rfl) ?_; clear hf a; intro a hf
             refine o_v hf hh (y_pf rfl rfl) ?_; clear hf a; intro a hf
             refine o_v hf hh (yv_move rfl) ?_; clear hf a; intro a hf
             refine o_v hf hh (yv_move rfl) ?_; clear hf a; intro a hf
             refine o_v hf hh (yv_move rfl) ?_; clear hf a; intro a hf
             refine o_v hf hh (yv_cast (yv_andnI rfl rfl (by omega) (by omega)) (intv (b := 0) (by rw [hn2]; rfl))) ?_; clear hf a; intro a hf
             refine o_v hf hh (yv_bin rfl rfl rfl) ?_; clear hf a; intro a hf
             refine o_v hf hh (y_pf rfl rfl) ?_; clear hf a; intro a hf
             refine o_end ?_
             refine c_f hf ?_
             refine sy_skip ?_
             refine then_n ?_
             refine sy_ops ?_
             refine o_v hf hh (yv_move rfl) ?_; clear hf a; intro a hf
             refine o_v hf hh (yv_move rfl) ?_; clear hf a; intro a hf
             refine o_v hf hh (yv_move rfl) ?_; clear hf a; intro a hf
             refine o_v hf hh (yv_move rfl) ?_; clear hf a; intro a hf
             refine o_v hf hh (y_ix Try.se_22 rfl rfl) ?_; clear hf a; intro a hf
             refine o_v hf hh (y_ld Try.sc_3 rfl) ?_; clear hf a; intro a hf
             refine o_v hf hh (yv_move rfl) ?_; clear hf a; intro a hf
             refine o_v hf hh (y_add rfl rfl) ?_; clear hf a; intro a hf
             refine o_v hf hh (yv_move rfl) ?_; clear hf a; intro a hf
             refine o_v hf hh (yv_move rfl) ?_; clear hf a; intro a hf
             refine o_v hf hh (y_add rfl rfl) ?_; clear hf a; intro a hf
             refine o_v hf hh (y_ix Try.se_22 rfl rfl) ?_; clear hf a; intro a hf
             refine o_store (i := 1) hf hh Try.sz_3 (hx := rfl) (hi := atI (i := 1) rfl) (hy := rfl) (hl := Nat.ble_eq_true_of_le (by rw [Int.toNat_natCast]; omega)) fun w hh => ?_
             refine o_v hf hh (yv_assign rfl) ?_; clear hf a; intro a hf
             refine ops_end ?_
             refine blk_n ?_
             refine then_n ?_
             refine sy_ops ?_
             refine o_v hf hh (y_add rfl rfl) ?_; clear hf a; intro a hf
             refine o_v hf hh (yv_move rfl) ?_; clear hf a; intro a hf
             refine ops_end ?_
             refine then_n ?_
             exact ⟨(g + 1, _), ⟨⟨by simp only; omega, hCF2, hh.less (.cons _ (.refl _))⟩, hf.head ⟨congrArg some (intv e9.symm), rfl, True.intro⟩ (Keep.cons rfl (Keep.cons rfl (Keep.cons rfl (Keep.cons rfl (Keep.cons rfl (Keep.cons rfl (Keep.cons rfl (Keep.cons rfl (Keep.cons rfl (Keep.cons rfl (Keep.cons rfl (Keep.cons rfl (Keep.cons rfl (Keep.cons rfl (Keep.cons rfl (Keep.cons rfl (Keep.cons rfl (Keep.cons rfl (Keep.cons rfl (Keep.cons rfl (Keep.cons rfl (Keep.cons rfl (Keep.cons rfl (Keep.cons rfl (Keep.cons rfl (Keep.cons rfl (Keep.cons rfl (Keep.cons rfl (Keep.cons rfl (Keep.cons rfl (Keep.cons rfl (Keep.cons rfl (Keep.cons rfl (Keep.cons rfl (Keep.cons rfl (Keep.cons rfl (Keep.cons rfl (Keep.cons rfl (Keep.cons rfl (Keep.cons rfl (Keep.cons rfl (Keep.cons rfl (Keep.cons rfl (Keep.app rfl (Keep.rm rfl (Keep.cons rfl (Keep.cons rfl (Keep.cons rfl (Keep.cons rfl (Keep.cons rfl (Keep.cons rfl (Keep.cons rfl (Keep.cons rfl (Keep.cons rfl (Keep.cons rfl (Keep.cons rfl (Keep.cons rfl (Keep.cons rfl (Keep.cons rfl (Keep.cons rfl (Keep.cons rfl (Keep.cons rfl (Keep.cons rfl (Keep.cons rfl (Keep.cons rfl (Keep.cons rfl (Keep.cons rfl (Keep.app rfl (Keep.rm rfl Keep.base)))))))))))))))))))))))))))))))))))))))))))))))))))))))))))))))))))))⟩, by simp only; omega⟩
          ·have hG18 := hg18; try simp only [gS] at hG18
           refine sy_exit ?_
           refine then_e ?_
           refine then_e ?_
           refine blk_e ?_
           refine then_n ?_
           refine sy_seq ?_
           obtain rfl : g = d.terms.length := by omega
           have hsp := tru_span htm
           obtain ⟨s1, s2, hs⟩ : ∃ s1 s2, allV d k = (s1, s2) := ⟨_, _, rfl⟩
           have hav := allV_ok hek
           rw [hs, Prod.mk.injEq] at hav
           rw [← hav.1, ← hav.2, ep] at hsp
           have htv : totF2 d x t = totF d x N d.terms.length := by rw [hN]; rfl
           rw [htv] at hsp
           have htv2 : totV d x N = totF d x N d.terms.length := rfl
           rw [htv2] at f3 f4
           refine sy_ops ?_
           refine o_v hf hh (y_lds Try.ag_37 rfl) ?_; clear hf a; intro a hf
           refine o_v hf hh (yv_move rfl) ?_; clear hf a; intro a hf
           refine o_call hf Try.en_28 rfl rfl rfl (p28 d _ (k : Nat) _ (hA.ext hh.ext)) ?_; clear hf a; intro v a w hR hf
           rw [hs, hek] at hR
           obtain ⟨rfl, hx⟩ := hR; replace hh := hh.more hx; clear hx
           refine o_v hf hh (yv_move rfl) ?_; clear hf a; intro a hf
           refine o_v hf hh (yv_extract rfl rfl) ?_; clear hf a; intro a hf
           refine o_v hf hh (yv_extract rfl rfl) ?_; clear hf a; intro a hf
           refine o_alloc hf hh Try.ze_43 ?_; clear hf hh a; intro B23 a w hf hh
           refine o_store hf hh Try.sz_43 fun w hh => ?_
           refine o_v hf hh (yv_assign rfl) ?_; clear hf a; intro a hf
           refine o_end ?_
           refine sy_sq ?_
           refine o_v hf hh (yv_move rfl) ?_; clear hf a; intro a hf
           refine o_v hf hh (yv_len Try.se_22 rfl) ?_; clear hf a; intro a hf
           refine o_v hf hh (yv_move rfl) ?_; clear hf a; intro a hf
           refine o_v hf hh (y_mul rfl rfl) ?_; clear hf a; intro a hf
           refine o_v hf hh (yv_move rfl) ?_; clear hf a; intro a hf
           refine o_v hf hh (y_sub rfl rfl) ?_; clear hf a; intro a hf
           refine o_v hf hh (yv_assign rfl) ?_; clear hf a; intro a hf
           refine o_end ?_
           refine sy_seq ?_
           obtain ⟨P, hP⟩ : ∃ P, P = (t.length : Nat) * x - totF d x N d.terms.length := ⟨_, rfl⟩
           rw [← hP] at hf
           have hPv : poolV d k N = P := by unfold poolV; rw [ep, cards_N, hNc, hP]; rfl
           have hPi : inI P 0 1099511627776 = true := by unfold inI; simp only [Bool.and_eq_true, decide_eq_true_eq]; omega
           obtain ⟨ev, ee⟩ := splV_ok hPi (shB_iff.2 hS)
           obtain ⟨blks, offs, ccs, Ts9, frs, sb, cb, e9s, hbs, hcs9, hI9⟩ := hA.sh k m hm; dsimp only at e9s; subst e9s
           have hsum := split_sum (n := P) hS
           refine sy_ops ?_
           refine o_v hf hh (yv_move rfl) ?_; clear hf a; intro a hf
           refine o_v hf hh (yv_fieldAddr Try.fo_37_2 rfl) ?_; clear hf a; intro a hf
           refine o_v hf hh (y_ld Try.sc_34 rfl) ?_; clear hf a; intro a hf
           refine o_v hf hh (yv_move rfl) ?_; clear hf a; intro a hf
           refine o_v hf hh (y_ix Try.se_34 rfl rfl) ?_; clear hf a; intro a hf
           refine o_v hf hh (y_ld Try.sc_22 rfl) ?_; clear hf a; intro a hf
           refine o_call hf Try.en_15 rfl rfl rfl (p15 P m sb cb _ (hI9.ext hh.ext) (by omega)) ?_; clear hf a; intro v a w hR hf
           rw [ev, ee] at hR
           obtain ⟨oap, cpp, Xp, rfl, hOp, hx9⟩ := hR; rw [split_len] at hf
           replace hh := (hh.join hx9).perm List.perm_append_comm; clear hx9
           refine o_v hf hh (yv_move rfl) ?_; clear hf a; intro a hf
           refine o_v hf hh (yv_extract rfl rfl) ?_; clear hf a; intro a hf
           refine o_v hf hh (yv_extract rfl rfl) ?_; clear hf a; intro a hf
           refine o_v hf hh (yv_assign rfl) ?_; clear hf a; intro a hf
           refine o_v hf hh (yv_assign rfl) ?_; clear hf a; intro a hf
           refine o_end ?_
           refine sy_seq ?_
           refine sy_sq ?_
           refine o_v hf hh (yv_move rfl) ?_; clear hf a; intro a hf
           refine o_v hf hh (yv_bin rfl rfl rfl) ?_; clear hf a; intro a hf
           refine o_v hf hh (yv_move rfl) ?_; clear hf a; intro a hf
           refine o_v hf hh (yv_move rfl) ?_; clear hf a; intro a hf
           refine o_v hf hh (yv_bin rfl rfl rfl) ?_; clear hf a; intro a hf
           refine o_v hf hh (y_pf rfl rfl) ?_; clear hf a; intro a hf
           refine o_v hf hh (yv_move rfl) ?_; clear hf a; intro a hf
           refine o_v hf hh (yv_move rfl) ?_; clear hf a; intro a hf
           refine o_v hf hh (yv_fieldAddr Try.fo_43_0 rfl) ?_; clear hf a; intro a hf
           refine o_v hf hh (y_ld Try.sc_3 rfl) ?_; clear hf a; intro a hf
           refine o_v hf hh (yv_bin rfl rfl rfl) ?_; clear hf a; intro a hf
           refine o_v hf hh (y_pf rfl rfl) ?_; clear hf a; intro a hf
           refine o_v hf hh (yv_move rfl) ?_; clear hf a; intro a hf
           refine o_v hf hh (yv_move rfl) ?_; clear hf a; intro a hf
           refine o_v hf hh (yv_fieldAddr Try.fo_43_1 rfl) ?_; clear hf a; intro a hf
           refine o_v hf hh (y_ld Try.sc_3 rfl) ?_; clear hf a; intro a hf
           refine o_v hf hh (yv_bin rfl rfl rfl) ?_; clear hf a; intro a hf
           refine o_v hf hh (y_pf rfl rfl) ?_; clear hf a; intro a hf
           refine o_v hf hh (yv_move rfl) ?_; clear hf a; intro a hf
           refine o_v hf hh (yv_move rfl) ?_; clear hf a; intro a hf
           refine o_v hf hh (yv_len Try.se_22 rfl) ?_; clear hf a; intro a hf
           refine o_v hf hh (yv_fieldAddr Try.fo_37_2 rfl) ?_; clear hf a; intro a hf
           refine o_v hf hh (y_ld Try.sc_34 rfl) ?_; clear hf a; intro a hf
           refine o_v hf hh (yv_move rfl) ?_; clear hf a; intro a hf
           refine o_v hf hh (y_ix Try.se_34 rfl rfl) ?_; clear hf a; intro a hf
           refine o_v hf hh (y_ld Try.sc_22 rfl) ?_; clear hf a; intro a hf
           refine o_v hf hh (yv_len Try.se_22 rfl) ?_; clear hf a; intro a hf
           refine o_v hf hh (yv_bin rfl rfl rfl) ?_; clear hf a; intro a hf
           refine o_v hf hh (y_pf rfl rfl) ?_; clear hf a; intro a hf
           refine o_end ?_
           refine c_f hf ?_
           refine sy_skip ?_
           refine then_n ?_
           refine sy_sq ?_
           refine o_v hf hh (yv_move rfl) ?_; clear hf a; intro a hf
           refine o_v hf hh (yv_assign rfl) ?_; clear hf a; intro a hf
           refine o_end ?_
           refine sy_seq ?_
           refine sy_sq ?_
           refine o_v hf hh (yv_move rfl) ?_; clear hf a; intro a hf
           refine o_v hf hh (yv_len Try.se_22 rfl) ?_; clear hf a; intro a hf
           refine o_v hf hh (yv_move rfl) ?_; clear hf a; intro a hf
           refine o_end ?_
           refine sy_block ?_
           refine sy_loopH (σ := Nat) [4, 28, 29, 30, 31, 32, 213, 214, 215, 216, 217, 218, 219, 220, 221, 222, 223, 224, 225, 226, 227, 228, 229, 230, 231, 232, 233, 234, 235, 236, 237, 238, 239, 240, 241, 242] (fun i => [(28, .int .i64 (totF d x N d.terms.length + sumI ((splitL P m).take i))), (213, .int .i64 (i : Nat))]) (fun i => fun w' => i ≤ m.length ∧ Hp u [] ((B23, .cells #[.int .i64 s1, .int .i64 s2] 43) :: ((([(Bo, .cells cur 3), (B2, .cells (royC d ⟨st, some ⟨blkp, offp, none⟩, some ⟨blks, offs, none⟩, sr, sd, ct, cp, cs, cr, cd⟩) 37)] ++ Xt) ++ Xc) ++ Xp)) w') (fun i => m.length - i) (0) hf ?_ ?_ ?_
           · exact ⟨congrArg some (intv (by simp [sumI])), rfl, True.intro⟩
           · exact ⟨Nat.zero_le _, hh⟩
           ·rintro i a w ⟨hi, hh⟩ hf
            refine sy_sq ?_
            refine o_v hf hh (yv_bin rfl rfl rfl) ?_; clear hf a; intro a hf
            refine o_end ?_
            refine sy_seq ?_
            refine sy_cond hf rfl (fun hg52 => ?_) (fun hg52 => ?_)
            ·have hG52 := hg52; try simp only [gS] at hG52
             refine sy_skip ?_
             refine then_n ?_
             refine sy_seq ?_
             refine sy_block ?_
             refine sy_seq ?_
             obtain ⟨z, hz⟩ := ex_of (l := splitL P m) (i := i) (by rw [split_len]; omega)
             obtain ⟨blkz, offz, ccz, Tz, frz, ez, hbz, hcz⟩ := hOp.iat (fun q hq => hh.get q (by simp [hq])) i z hz; subst ez
             obtain ⟨q1, q2, q3⟩ := get_span hO (k := k) (part := i) htm (by omega) (by rw [es]; omega)
             have hgF : getF d k i (cnt (0, 0, 0, 0) t) = z := by unfold getF; rw [← hN, hPv, es, Int.toNat_natCast]; exact getD_at hz
             rw [hgF] at q2 q3
             obtain ⟨v1, v2, hv⟩ : ∃ v1 v2, getV d k i = (v1, v2) := ⟨_, _, rfl⟩
             rw [hv] at q2 q3
             dsimp only at q2 q3
             have hst := sumI_take hz
             have hb2 := split_take (n := P) (by omega) (by omega) hS i
             have hb3 := split_take (n := P) (by omega) (by omega) hS (i + 1)
             refine sy_ops ?_
             refine o_v hf hh (yv_move rfl) ?_; clear hf a; intro a hf
             refine o_v hf hh (y_ix Try.se_22 rfl rfl) ?_; clear hf a; intro a hf
             refine o_w hf (yv_ldw Try.sc_3 rfl hbz hcz) ?_; clear hf a; intro a hf
             refine o_v hf hh (yv_assign rfl) ?_; clear hf a; intro a hf
             refine o_v hf hh (yv_assign rfl) ?_; clear hf a; intro a hf
             refine o_end ?_
             refine sy_sq ?_
             refine o_v hf hh (y_lds Try.ag_37 rfl) ?_; clear hf a; intro a hf
             refine o_v hf hh (yv_move rfl) ?_; clear hf a; intro a hf
             refine o_v hf hh (yv_move rfl) ?_; clear hf a; intro a hf
             refine o_call hf Try.en_32 rfl rfl rfl (p32 d _ (k : Nat) (i : Nat) _ (hA.ext hh.ext)) ?_; clear hf a; intro v a w hR hf
             rw [hv, q1] at hR
             obtain ⟨rfl, hx⟩ := hR; replace hh := hh.more hx; clear hx
             refine o_v hf hh (yv_move rfl) ?_; clear hf a; intro a hf
             refine o_v hf hh (yv_extract rfl rfl) ?_; clear hf a; intro a hf
             refine o_v hf hh (yv_extract rfl rfl) ?_; clear hf a; intro a hf
             refine o_alloc hf hh Try.ze_43 ?_; clear hf hh a; intro B31 a w hf hh
             refine o_store hf hh Try.sz_43 fun w hh => ?_
             refine o_v hf hh (yv_assign rfl) ?_; clear hf a; intro a hf
             refine o_end ?_
             refine sy_seq ?_
             refine sy_sq ?_
             refine o_v hf hh (yv_move rfl) ?_; clear hf a; intro a hf
             refine o_v hf hh (yv_bin rfl rfl rfl) ?_; clear hf a; intro a hf
             refine o_v hf hh (yv_move rfl) ?_; clear hf a; intro a hf
             refine o_v hf hh (yv_move rfl) ?_; clear hf a; intro a hf
             refine o_v hf hh (yv_fieldAddr Try.fo_43_0 rfl) ?_; clear hf a; intro a hf
             refine o_v hf hh (y_ld Try.sc_3 rfl) ?_; clear hf a; intro a hf
             refine o_v hf hh (yv_bin rfl rfl rfl) ?_; clear hf a; intro a hf
             refine o_v hf hh (y_pf rfl rfl) ?_; clear hf a; intro a hf
             refine o_v hf hh (yv_move rfl) ?_; clear hf a; intro a hf
             refine o_v hf hh (yv_move rfl) ?_; clear hf a; intro a hf
             refine o_v hf hh (yv_fieldAddr Try.fo_43_1 rfl) ?_; clear hf a; intro a hf
             refine o_v hf hh (y_ld Try.sc_3 rfl) ?_; clear hf a; intro a hf
             refine o_v hf hh (yv_bin rfl rfl rfl) ?_; clear hf a; intro a hf
             refine o_v hf hh (y_pf rfl rfl) ?_; clear hf a; intro a hf
             refine o_end ?_
             refine c_f hf ?_
             refine sy_skip ?_
             refine then_n ?_
             refine sy_ops ?_
             refine o_v hf hh (yv_move rfl) ?_; clear hf a; intro a hf
             refine o_v hf hh (yv_move rfl) ?_; clear hf a; intro a hf
             refine o_v hf hh (y_add rfl rfl) ?_; clear hf a; intro a hf
             refine o_v hf hh (yv_assign rfl) ?_; clear hf a; intro a hf
             refine ops_end ?_
             refine blk_n ?_
             refine then_n ?_
             refine sy_ops ?_
             refine o_v hf hh (y_add rfl rfl) ?_; clear hf a; intro a hf
             refine o_v hf hh (yv_move rfl) ?_; clear hf a; intro a hf
             refine ops_end ?_
             refine then_n ?_
             exact ⟨i + 1, ⟨⟨by omega, hh.less (.cons _ (.refl _))⟩, hf.head ⟨congrArg some (intv (by omega)), rfl, True.intro⟩ (Keep.cons rfl (Keep.cons rfl (Keep.cons rfl (Keep.cons rfl (Keep.cons rfl (Keep.cons rfl (Keep.cons rfl (Keep.cons rfl (Keep.cons rfl (Keep.cons rfl (Keep.cons rfl (Keep.cons rfl (Keep.cons rfl (Keep.cons rfl (Keep.cons rfl (Keep.cons rfl (Keep.cons rfl (Keep.cons rfl (Keep.cons rfl (Keep.cons rfl (Keep.cons rfl (Keep.cons rfl (Keep.cons rfl (Keep.cons rfl (Keep.cons rfl (Keep.cons rfl (Keep.cons rfl (Keep.cons rfl (Keep.cons rfl (Keep.cons rfl (Keep.cons rfl (Keep.cons rfl (Keep.cons rfl (Keep.cons rfl (Keep.cons rfl (Keep.app rfl (Keep.rm rfl Keep.base)))))))))))))))))))))))))))))))))))))⟩, by omega⟩
            ·have hG52 := hg52; try simp only [gS] at hG52
             refine sy_exit ?_
             refine then_e ?_
             refine then_e ?_
             refine blk_e ?_
             refine then_n ?_
             refine sy_seq ?_
             obtain rfl : i = m.length := by omega
             rw [List.take_of_length_le (by rw [split_len]; omega), hsum] at hf
             refine sy_ops ?_
             refine o_v hf hh (yv_move rfl) ?_; clear hf a; intro a hf
             refine o_v hf hh (yv_move rfl) ?_; clear hf a; intro a hf
             refine o_v hf hh (yv_len Try.se_22 rfl) ?_; clear hf a; intro a hf
             refine o_v hf hh (yv_move rfl) ?_; clear hf a; intro a hf
             refine o_v hf hh (y_mul rfl rfl) ?_; clear hf a; intro a hf
             refine o_v hf hh (yv_bin rfl rfl rfl) ?_; clear hf a; intro a hf
             refine o_end ?_
             refine c_f hf ?_
             refine sy_skip ?_
             refine blk_n ?_
             refine then_n ?_
             refine sy_ops ?_
             refine o_v hf hh (y_add rfl rfl) ?_; clear hf a; intro a hf
             refine o_v hf hh (yv_move rfl) ?_; clear hf a; intro a hf
             refine ops_end ?_
             refine then_n ?_
             exact ⟨(k + 1, Ts ++ [t], cur), ⟨⟨by simp only; omega, by simp only; rw [List.length_append, hkT]; rfl, hTS, hCF.congr fun j hj => by rw [if_pos hj], hh.less (.cons _ (((List.sublist_append_left _ _).trans (List.sublist_append_left _ _)).trans (List.sublist_append_left _ _)))⟩, (hf.head (by repeat' (first | exact True.intro | refine And.intro rfl ?_)) (Keep.cons rfl (Keep.cons rfl (Keep.cons rfl (Keep.cons rfl (Keep.cons rfl (Keep.cons rfl (Keep.cons rfl (Keep.cons rfl (Keep.cons rfl (Keep.app rfl (Keep.rm rfl (Keep.cons rfl (Keep.cons rfl (Keep.cons rfl (Keep.cons rfl (Keep.cons rfl (Keep.cons rfl (Keep.cons rfl (Keep.cons rfl (Keep.cons rfl (Keep.cons rfl (Keep.cons rfl (Keep.cons rfl (Keep.cons rfl (Keep.cons rfl (Keep.cons rfl (Keep.cons rfl (Keep.cons rfl (Keep.cons rfl (Keep.cons rfl (Keep.cons rfl (Keep.cons rfl (Keep.cons rfl (Keep.cons rfl (Keep.cons rfl (Keep.cons rfl (Keep.cons rfl (Keep.cons rfl (Keep.cons rfl (Keep.cons rfl (Keep.cons rfl (Keep.cons rfl (Keep.cons rfl (Keep.cons rfl (Keep.cons rfl (Keep.cons rfl (Keep.cons rfl (Keep.cons rfl (Keep.cons rfl (Keep.cons rfl (Keep.cons rfl (Keep.cons rfl (Keep.cons rfl (Keep.cons rfl (Keep.cons rfl (Keep.cons rfl (Keep.cons rfl (Keep.cons rfl (Keep.cons rfl (Keep.cons rfl (Keep.cons rfl (Keep.cons rfl (Keep.cons rfl (Keep.cons rfl (Keep.cons rfl (Keep.cons rfl (Keep.cons rfl (Keep.cons rfl (Keep.cons rfl (Keep.cons rfl (Keep.cons rfl (Keep.cons rfl (Keep.cons rfl (Keep.app rfl (Keep.rm rfl (Keep.cons rfl (Keep.cons rfl (Keep.cons rfl (Keep.cons rfl (Keep.cons rfl (Keep.cons rfl (Keep.cons rfl (Keep.cons rfl (Keep.cons rfl (Keep.cons rfl (Keep.cons rfl (Keep.cons rfl (Keep.cons rfl (Keep.cons rfl (Keep.cons rfl (Keep.cons rfl (Keep.cons rfl (Keep.cons rfl (Keep.cons rfl (Keep.cons rfl (Keep.app rfl (Keep.rm rfl Keep.base))))))))))))))))))))))))))))))))))))))))))))))))))))))))))))))))))))))))))))))))))))))))))))))))))⟩, by simp only; omega⟩
        ·have hG14 := hg14; try simp only [gS] at hG14
         refine sy_exit ?_
         refine then_e ?_
         refine then_e ?_
         refine blk_e ?_
         refine then_n ?_
         refine sy_seq ?_
         refine sy_sq ?_
         refine o_v hf hh (yv_move rfl) ?_; clear hf a; intro a hf
         refine o_v hf hh (yv_len Try.se_22 rfl) ?_; clear hf a; intro a hf
         refine o_v hf hh (yv_move rfl) ?_; clear hf a; intro a hf
         refine o_end ?_
         refine sy_block ?_
         refine sy_loopH (σ := Nat) [4, 33, 34, 35, 36, 252, 253, 254, 255, 256, 257, 258, 259, 260, 261, 262, 263, 264, 265, 266, 267, 268, 269, 270, 271, 272, 273, 274, 275, 276, 277] (fun i => [(252, .int .i64 (i : Nat))]) (fun i => fun w' => i ≤ d.terms.length ∧ Hp u [] [(Bo, .cells cur 3), (B2, .cells (royC d ⟨st, sp, ss, sr, sd, ct, cp, cs, cr, cd⟩) 37)] w') (fun i => d.terms.length - i) (0) hf ?_ ?_ ?_
         · repeat' (first | exact True.intro | refine And.intro rfl ?_)
         · exact ⟨Nat.zero_le _, hh⟩
         ·rintro i a w ⟨hi, hh⟩ hf
          refine sy_sq ?_
          refine o_v hf hh (yv_bin rfl rfl rfl) ?_; clear hf a; intro a hf
          refine o_end ?_
          refine sy_seq ?_
          refine sy_cond hf rfl (fun hg62 => ?_) (fun hg62 => ?_)
          ·have hG62 := hg62; try simp only [gS] at hG62
           refine sy_skip ?_
           refine then_n ?_
           refine sy_seq ?_
           refine sy_block ?_
           refine sy_seq ?_
           have hgo := hCF.2 i (by omega)
           dsimp only at hgo
           obtain ⟨e1, _⟩ := owe_ok hO (g := i) (by omega)
           have hb1 := owd_bd hO hTr (g := i) (by omega) (by omega)
           obtain ⟨q2, q3⟩ := owd_span hO hTr (g := i) (by omega) (by omega)
           rw [hkT] at hb1 q2 q3
           obtain ⟨v1, v2, hv⟩ : ∃ v1 v2, oweV d i = (v1, v2) := ⟨_, _, rfl⟩
           rw [hv] at q2 q3
           dsimp only at q2 q3
           refine sy_ops ?_
           refine o_v hf hh (yv_move rfl) ?_; clear hf a; intro a hf
           refine o_v hf hh (y_ix Try.se_22 rfl rfl) ?_; clear hf a; intro a hf
           refine o_v hf hh (y_ld Try.sc_3 rfl) ?_; clear hf a; intro a hf
           refine o_v hf hh (yv_assign rfl) ?_; clear hf a; intro a hf
           refine o_v hf hh (yv_assign rfl) ?_; clear hf a; intro a hf
           refine o_end ?_
           refine sy_sq ?_
           refine o_v hf hh (y_lds Try.ag_37 rfl) ?_; clear hf a; intro a hf
           refine o_v hf hh (yv_move rfl) ?_; clear hf a; intro a hf
           refine o_call hf Try.en_25 rfl rfl rfl (p25 d _ (i : Nat) _ (hA.ext hh.ext)) ?_; clear hf a; intro v a w hR hf
           rw [hv, e1] at hR
           obtain ⟨rfl, hx⟩ := hR; replace hh := hh.more hx; clear hx
           refine o_v hf hh (yv_move rfl) ?_; clear hf a; intro a hf
           refine o_v hf hh (yv_extract rfl rfl) ?_; clear hf a; intro a hf
           refine o_v hf hh (yv_extract rfl rfl) ?_; clear hf a; intro a hf
           refine o_alloc hf hh Try.ze_43 ?_; clear hf hh a; intro B35 a w hf hh
           refine o_store hf hh Try.sz_43 fun w hh => ?_
           refine o_v hf hh (yv_assign rfl) ?_; clear hf a; intro a hf
           refine o_end ?_
           refine sy_sq ?_
           refine o_v hf hh (yv_move rfl) ?_; clear hf a; intro a hf
           refine o_v hf hh (yv_bin rfl rfl rfl) ?_; clear hf a; intro a hf
           refine o_v hf hh (yv_move rfl) ?_; clear hf a; intro a hf
           refine o_v hf hh (yv_move rfl) ?_; clear hf a; intro a hf
           refine o_v hf hh (yv_fieldAddr Try.fo_43_0 rfl) ?_; clear hf a; intro a hf
           refine o_v hf hh (y_ld Try.sc_3 rfl) ?_; clear hf a; intro a hf
           refine o_v hf hh (yv_bin rfl rfl rfl) ?_; clear hf a; intro a hf
           refine o_v hf hh (y_pf rfl rfl) ?_; clear hf a; intro a hf
           refine o_v hf hh (yv_move rfl) ?_; clear hf a; intro a hf
           refine o_v hf hh (yv_move rfl) ?_; clear hf a; intro a hf
           refine o_v hf hh (yv_fieldAddr Try.fo_43_1 rfl) ?_; clear hf a; intro a hf
           refine o_v hf hh (y_ld Try.sc_3 rfl) ?_; clear hf a; intro a hf
           refine o_v hf hh (yv_bin rfl rfl rfl) ?_; clear hf a; intro a hf
           refine o_v hf hh (y_pf rfl rfl) ?_; clear hf a; intro a hf
           refine o_end ?_
           refine c_f hf ?_
           refine sy_skip ?_
           refine blk_n ?_
           refine then_n ?_
           refine sy_ops ?_
           refine o_v hf hh (y_add rfl rfl) ?_; clear hf a; intro a hf
           refine o_v hf hh (yv_move rfl) ?_; clear hf a; intro a hf
           refine ops_end ?_
           refine then_n ?_
           exact ⟨i + 1, ⟨⟨by omega, hh.less (.cons _ (.refl _))⟩, (hf.head (by repeat' (first | exact True.intro | refine And.intro rfl ?_)) (Keep.cons rfl (Keep.cons rfl (Keep.cons rfl (Keep.cons rfl (Keep.cons rfl (Keep.cons rfl (Keep.cons rfl (Keep.cons rfl (Keep.cons rfl (Keep.cons rfl (Keep.cons rfl (Keep.cons rfl (Keep.cons rfl (Keep.cons rfl (Keep.cons rfl (Keep.cons rfl (Keep.cons rfl (Keep.cons rfl (Keep.cons rfl (Keep.cons rfl (Keep.cons rfl (Keep.cons rfl (Keep.cons rfl (Keep.cons rfl (Keep.cons rfl (Keep.cons rfl (Keep.cons rfl (Keep.cons rfl (Keep.cons rfl (Keep.cons rfl (Keep.app rfl (Keep.rm rfl Keep.base)))))))))))))))))))))))))))))))))⟩, by omega⟩
          ·have hG62 := hg62; try simp only [gS] at hG62
           refine sy_exit ?_
           refine then_e ?_
           refine then_e ?_
           refine blk_e ?_
           refine then_n ?_
           refine sy_sq ?_
           refine o_call hf Try.en_14 rfl rfl rfl (p14 _) ?_; clear hf a; intro v a w hR hf
           obtain ⟨rfl, hx⟩ := hR; replace hh := hh.more hx; clear hx
           refine o_v hf hh (yv_assign rfl) ?_; clear hf a; intro a hf
           refine o_end ?_
           refine sy_ret ?_
           refine ret_r hf rfl rfl ?_
           first
             | exact ⟨rfl, hh.ext⟩
             | omega
end Go.Proofs.Ytkfkifkdncdhoaa
namespace Go.Proofs.Ytkfkifkdncdhoaa
open Go Go.Sy Go.RoyM Go.ChangeShapes Go.WideShapes Go.Deep Go.RowKit
theorem hs37 : Try.prog.underlying 37 = some (.struct (Try.prog.fieldsOf 37)) := by kernel_rfl
theorem fs37 : (Try.prog.fieldsOf 37).map (fun f => (f.offset, f.type)) = #[(0, 33), (1, 22), (2, 34), (3, 35), (4, 22)] := by kernel_rfl
theorem co37 : Try.prog.cellsOf 37 = 5 := by kernel_rfl
theorem co22 : Try.prog.cellsOf 22 = 1 := by kernel_rfl
theorem co33 : Try.prog.cellsOf 33 = 1 := by kernel_rfl
theorem co34 : Try.prog.cellsOf 34 = 1 := by kernel_rfl
theorem co35 : Try.prog.cellsOf 35 = 1 := by kernel_rfl
theorem un22 : Try.prog.underlying 22 = some (.slice 3) := by kernel_rfl
theorem un33 : Try.prog.underlying 33 = some (.slice 24) := by kernel_rfl
theorem un34 : Try.prog.underlying 34 = some (.slice 22) := by kernel_rfl
theorem un35 : Try.prog.underlying 35 = some (.slice 66) := by kernel_rfl
theorem un58 : Try.prog.underlying 58 = some (.slice 5) := by kernel_rfl
theorem un5 : Try.prog.underlying 5 = some (.int .u8) := by kernel_rfl
theorem hs24 : Try.prog.underlying 24 = some (.struct (Try.prog.fieldsOf 24)) := by kernel_rfl
theorem co24 : Try.prog.cellsOf 24 = 3 := by kernel_rfl
theorem fk24 : flK Try.prog .i64 9 24 = some 3 := by kernel_rfl
theorem fk66 : flK Try.prog .i64 9 66 = some 4 := by kernel_rfl
theorem fk3 : flK Try.prog .i64 9 3 = some 1 := by kernel_rfl
theorem fk5 : flK Try.prog .u8 9 5 = some 1 := by kernel_rfl
theorem un4 : Try.prog.underlying 4 = some .bool := by kernel_rfl
theorem own : ownKnob Try.prog.godebug = none := by kernel_rfl
def toTm (p : List Int) : TermD := match p with
  | [x, y, z] => ⟨x, y, z⟩
  | _ => ⟨0, 0, 0⟩
def toRp (p : List Int) : RepD := match p with
  | [x, y, z, t] => ⟨x, y, z, t⟩
  | _ => ⟨0, 0, 0, 0⟩
theorem tAt_flat {α : Type} {W : World} {sa : Option Addr} {l : List (List Int)} {n : Nat} {enc : α → List Value} {f : List Int → α} (hf : ∀ p ∈ l, enc (f p) = p.map (Value.int .i64)) (h : FlatAt W .i64 sa n l) : TAt n enc W sa (l.map f) := fun i s hi => by
  rw [List.getElem?_map] at hi
  cases hp : l[i]? with
  | none => rw [hp] at hi; cases hi
  | some p =>
    rw [hp] at hi
    cases hi
    obtain ⟨blk, off, c, T, fr, h1, h2, h3⟩ := h i p hp
    exact ⟨blk, off, c, T, fr, h1, h2, by rw [hf p (List.mem_of_getElem? hp)]; exact h3⟩
theorem iat_flat {W : World} {sa : Option Addr} {m : List Int} (h : FlatAt W .i64 sa 1 (m.map fun z => [z])) : IAt W sa m := fun i x hi => by
  obtain ⟨blk, off, c, T, fr, h1, h2, h3⟩ := h i [x] (by rw [List.getElem?_map, hi]; rfl)
  refine ⟨blk, off, c, T, fr, h1, h2, ?_⟩
  unfold cellsAt at h3
  cases hc : c[off + i * 1]? with
  | none => rw [hc] at h3; simp at h3
  | some v => rw [hc] at h3; simp [cellsAt] at h3; rw [Int.toNat_natCast, hc, h3]
theorem bat_flat {W : World} {sa : Option Addr} {m : List Int} (h : FlatAt W .u8 sa 1 (m.map fun z => [z])) : BAt W sa m := fun i x hi => by
  obtain ⟨blk, off, c, T, fr, h1, h2, h3⟩ := h i [x] (by rw [List.getElem?_map, hi]; rfl)
  refine ⟨blk, off, c, T, fr, h1, h2, ?_⟩
  unfold cellsAt at h3
  cases hc : c[off + i * 1]? with
  | none => rw [hc] at h3; simp at h3
  | some v => rw [hc] at h3; simp [cellsAt] at h3; rw [Int.toNat_natCast, hc, h3]
theorem toTm_enc {p : List Int} (h : p.length = 3) : tmC (toTm p) = p.map (Value.int .i64) := by
  match p, h with
  | [x, y, z], _ => rfl
theorem toRp_enc {p : List Int} (h : p.length = 4) : rpC (toRp p) = p.map (Value.int .i64) := by
  match p, h with
  | [x, y, z, t], _ => rfl
theorem len5 {l : List Value} (h : l.length = 5) : ∃ a b c d e, l = [a, b, c, d, e] := by
  match l, h with
  | [a, b, c, d, e], _ => exact ⟨a, b, c, d, e, rfl⟩
section
variable {H : Type} {enc : TypeId × Value → H} {W : World} {base : Nat} {spare : Nat → Bool} {held : Bool}
set_option maxRecDepth 100000 in
theorem openRoy {r : Reach} {b0 : Nat} {v : Value} {d : DataW H} {p : List MemPlace} (hv : Value.okWide Try.prog W r b0 37 v) (h : DataW.Trod enc Try.prog W base spare held 37 v d p) : ∃ (d : RoyD) (p : Pl), v = .agg (royC d p) ∧ RoyIn W d p := by
  obtain ⟨cs, rfl, hsz⟩ := okWide_struct hs37 hv
  obtain ⟨fuel, h⟩ := h
  obtain ⟨_, hf⟩ := trod_field hs37 h
  rw [fs37] at hf
  rw [co37] at hsz
  obtain ⟨l, rfl⟩ : ∃ l : List Value, cs = l.toArray := ⟨cs.toList, by simp⟩
  obtain ⟨c0, c1, c2, c3, c4, rfl⟩ := len5 (by simpa using hsz)
  replace hf : ∀ (i o : Nat) (u : TypeId) (c : Nat), (#[(0, 33), (1, 22), (2, 34), (3, 35), (4, 22)] : Array (Nat × TypeId))[i]? = some (o, u) → Try.prog.cellsOf u = c → ∃ n y, DataW.trod enc Try.prog W base spare held n u (([c0, c1, c2, c3, c4].drop o).take c) = some y := hf
  obtain ⟨_, _, g0⟩ := hf 0 0 33 1 rfl co33
  obtain ⟨_, _, g1⟩ := hf 1 1 22 1 rfl co22
  obtain ⟨_, _, g2⟩ := hf 2 2 34 1 rfl co34
  obtain ⟨_, _, g3⟩ := hf 3 3 35 1 rfl co35
  obtain ⟨_, _, g4⟩ := hf 4 4 22 1 rfl co22
  obtain ⟨l0, s0, a0, e0, m0, b0', f0⟩ := trod_slices un33 fk24 (by omega) g0
  obtain ⟨l1, s1, a1, e1, m1, b1, f1⟩ := trod_slices un22 fk3 (by omega) g1
  obtain ⟨l2, s2, a2, e2, m2, b2, f2⟩ := trod_slices2 un34 un22 co22 fk3 g2
  obtain ⟨l3, s3, a3, e3, m3, b3, f3⟩ := trod_slices un35 fk66 (by omega) g3
  obtain ⟨l4, s4, a4, e4, m4, b4, f4⟩ := trod_slices un22 fk3 (by omega) g4
  have hc2 := trod_cap un34 e2 g2
  have hc3 := trod_cap un35 e3 g3
  obtain ⟨i1, rfl⟩ := flat1 (W := W) (sa := s1) (fun p hp => (b1 p hp).1)
  obtain ⟨i4, rfl⟩ := flat1 (W := W) (sa := s4) (fun p hp => (b4 p hp).1)
  simp at e0 e1 e2 e3 e4
  subst e0; subst e1; subst e2; subst e3; subst e4
  refine ⟨⟨l0.map toTm, i1, l2, l3.map toRp, i4⟩, ⟨s0, s1, s2, s3, s4, a0, a1, a2, a3, a4⟩, by simp, ⟨tAt_flat (fun p hp => toTm_enc (b0' p hp).1) f0, iat_flat f1, fun i p hi => ?_, tAt_flat (fun p hp => toRp_enc (b3 p hp).1) f3, iat_flat f4, by simpa using m0, by simpa using m1, m2, by simpa using m3, by simpa using m4, fun p hp => (b2 p hp).1, by simpa using hc3, hc2⟩⟩
  obtain ⟨blk, off, c, T, fr, sb, cb, h1, h2, h3, h4⟩ := f2 i p hi
  exact ⟨blk, off, c, T, fr, sb, cb, h1, h2, by rw [Int.toNat_natCast, Nat.mul_one]; exact h3, iat_flat h4⟩
set_option maxRecDepth 100000 in
theorem openTm {r : Reach} {b0 : Nat} {v : Value} {d : DataW H} {p : List MemPlace} (hv : Value.okWide Try.prog W r b0 24 v) (h : DataW.Trod enc Try.prog W base spare held 24 v d p) : ∃ t : TermD, v = tmV t ∧ (-9223372036854775808 ≤ t.f ∧ t.f ≤ 9223372036854775807) ∧ (-9223372036854775808 ≤ t.u ∧ t.u ≤ 9223372036854775807) ∧ (-9223372036854775808 ≤ t.b ∧ t.b ≤ 9223372036854775807) := by
  obtain ⟨cs, rfl, hsz⟩ := okWide_struct hs24 hv
  obtain ⟨fuel, h⟩ := h
  obtain ⟨p, h1, h2, h3⟩ := trod_fl fk24 h
  match p, h1 with
  | [x, y, z], _ =>
    have e : cs = #[.int .i64 x, .int .i64 y, .int .i64 z] := by
      apply Array.ext'
      have h4 : cs.toList = [x, y, z].map (Value.int .i64) := h2
      rw [h4]; rfl
    subst e
    exact ⟨⟨x, y, z⟩, rfl, wf64 (h3 x (by simp)), wf64 (h3 y (by simp)), wf64 (h3 z (by simp))⟩
end
end Go.Proofs.Ytkfkifkdncdhoaa
