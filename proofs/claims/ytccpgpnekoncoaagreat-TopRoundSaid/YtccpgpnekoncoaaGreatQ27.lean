/- Lemmas, in order: TopRound's law.. -/
import Derived.Test.YtccpgpnekoncoaaGreatQ26
namespace Go.Proofs.YtccpgpnekoncoaaGreat
open Go Go.Sy Go.WalM Go.RoyM
set_option maxRecDepth 100000 in
set_option maxHeartbeats 4000000 in
theorem k3 (t : TourD) (p : TPl) (tm : TermD) (price : Int) (sh : List Int) (ss : Option Addr) (cs : Nat) (y : List Int) (sy : Option Addr) (cy : Nat) (u : World) (hA : TouIn u t p) (hpr : -9223372036854775808 ≤ price ∧ price ≤ 9223372036854775807) (hS : IAt u ss sh) (hsl : sh.length ≤ 9223372036854775807) (hY : U8At u sy y) (hyl : y.length ≤ 9223372036854775807) (hyb : ∀ z ∈ y, 0 ≤ z ∧ z ≤ 255) :
    Calls Tryz.prog 3 #[.agg (touC t p), tmV tm, .int .i64 price, .slice ss sh.length cs, .slice sy y.length cy] u (Ret fun v w' => v = .bool true ∧ Ext [] u w') := by
  refine calls_of Tryz.func3 rfl rfl (fun a hf => ?_)
  have hh := Hp.init u []
  have hnf := hA.nf; simp only [maxLen] at hnf
  refine sy_sq ?_
  refine o_box hf hh ?_; clear hf hh a; intro B5 a w hf hh
  refine o_box hf hh ?_; clear hf hh a; intro B6 a w hf hh
  refine o_v hf hh (yv_assign rfl) ?_; clear hf a; intro a hf
  refine o_end ?_
  refine sy_seq ?_
  refine sy_seq ?_
  replace hh : Hp u [] [(B6, .cells (tmV tm).cells 27), (B5, .cells (touC t p) 25)] w := hh
  refine sy_ops ?_
  refine o_v hf hh (yv_fieldAddr Tryz.fo_25_1 rfl) ?_; clear hf a; intro a hf
  refine o_v hf hh (y_ld Tryz.sc_22 rfl) ?_; clear hf a; intro a hf
  refine o_v hf hh (yv_len Tryz.se_22 rfl) ?_; clear hf a; intro a hf
  refine o_v hf hh (yv_bin rfl rfl rfl) ?_; clear hf a; intro a hf
  refine o_v hf hh (yv_move rfl) ?_; clear hf a; intro a hf
  refine guard_split hf (t := 37) rfl (fun hg2 => ?_) (fun hg2 => ?_)
  ·have hG2 := hg2; try simp only [gS] at hG2
   refine o_off hf ?_; clear hf a; intro a hf
   refine o_off hf ?_; clear hf a; intro a hf
   refine o_off hf ?_; clear hf a; intro a hf
   refine o_v hf hh (y_pt rfl rfl) ?_; clear hf a; intro a hf
   refine o_v hf hh (yv_move rfl) ?_; clear hf a; intro a hf
   refine o_off hf ?_; clear hf a; intro a hf
   refine o_off hf ?_; clear hf a; intro a hf
   refine o_off hf ?_; clear hf a; intro a hf
   refine o_v hf hh (y_pt rfl rfl) ?_; clear hf a; intro a hf
   refine o_v hf hh (yv_move rfl) ?_; clear hf a; intro a hf
   refine o_off hf ?_; clear hf a; intro a hf
   refine o_off hf ?_; clear hf a; intro a hf
   refine o_off hf ?_; clear hf a; intro a hf
   refine o_v hf hh (y_pt rfl rfl) ?_; clear hf a; intro a hf
   refine o_v hf hh (yv_move rfl) ?_; clear hf a; intro a hf
   refine o_off hf ?_; clear hf a; intro a hf
   refine o_off hf ?_; clear hf a; intro a hf
   refine o_off hf ?_; clear hf a; intro a hf
   refine o_v hf hh (y_pt rfl rfl) ?_; clear hf a; intro a hf
   refine o_v hf hh (yv_move rfl) ?_; clear hf a; intro a hf
   refine o_off hf ?_; clear hf a; intro a hf
   refine o_off hf ?_; clear hf a; intro a hf
   refine o_v hf hh (y_pt rfl rfl) ?_; clear hf a; intro a hf
   refine o_v hf hh (yv_move rfl) ?_; clear hf a; intro a hf
   refine o_off hf ?_; clear hf a; intro a hf
   refine o_off hf ?_; clear hf a; intro a hf
   refine o_v hf hh (y_pt rfl rfl) ?_; clear hf a; intro a hf
   refine o_end ?_
   refine c_t hf ?_
   refine sy_sq ?_
   refine o_call hf Tryz.en_8 rfl rfl rfl (k8 _) ?_; clear hf a; intro v a w hR hf
   obtain ⟨rfl, hx⟩ := hR; replace hh := hh.more hx; clear hx
   refine o_v hf hh (yv_assign rfl) ?_; clear hf a; intro a hf
   refine o_end ?_
   refine sy_ret ?_
   refine then_r ?_
   refine ret_r hf rfl rfl ?_
   exact ⟨rfl, hh.ext⟩
  ·have hG2 := hg2; try simp only [gS] at hG2
   refine o_v hf hh (y_lds Tryz.ag_25 rfl) ?_; clear hf a; intro a hf
   refine o_call hf Tryz.en_5 rfl rfl rfl (k5 t p _ (hA.ext hh.ext)) ?_; clear hf a; intro v a w hR hf
   obtain ⟨rfl, hx⟩ := hR; replace hh := hh.more hx; clear hx
   refine o_v hf hh (yv_not rfl) ?_; clear hf a; intro a hf
   refine o_v hf hh (y_pf rfl rfl) ?_; clear hf a; intro a hf
   refine o_v hf hh (yv_move rfl) ?_; clear hf a; intro a hf
   refine guard_split hf (t := 42) rfl (fun hg5 => ?_) (fun hg5 => ?_)
   ·have hG5 := hg5; try simp only [gS] at hG5
    refine o_off hf ?_; clear hf a; intro a hf
    refine o_off hf ?_; clear hf a; intro a hf
    refine o_off hf ?_; clear hf a; intro a hf
    refine o_v hf hh (y_pt rfl rfl) ?_; clear hf a; intro a hf
    refine o_v hf hh (yv_move rfl) ?_; clear hf a; intro a hf
    refine o_off hf ?_; clear hf a; intro a hf
    refine o_off hf ?_; clear hf a; intro a hf
    refine o_off hf ?_; clear hf a; intro a hf
    refine o_v hf hh (y_pt rfl rfl) ?_; clear hf a; intro a hf
    refine o_v hf hh (yv_move rfl) ?_; clear hf a; intro a hf
    refine o_off hf ?_; clear hf a; intro a hf
    refine o_off hf ?_; clear hf a; intro a hf
    refine o_off hf ?_; clear hf a; intro a hf
    refine o_v hf hh (y_pt rfl rfl) ?_; clear hf a; intro a hf
    refine o_v hf hh (yv_move rfl) ?_; clear hf a; intro a hf
    refine o_off hf ?_; clear hf a; intro a hf
    refine o_off hf ?_; clear hf a; intro a hf
    refine o_v hf hh (y_pt rfl rfl) ?_; clear hf a; intro a hf
    refine o_v hf hh (yv_move rfl) ?_; clear hf a; intro a hf
    refine o_off hf ?_; clear hf a; intro a hf
    refine o_off hf ?_; clear hf a; intro a hf
    refine o_v hf hh (y_pt rfl rfl) ?_; clear hf a; intro a hf
    refine o_end ?_
    refine c_t hf ?_
    refine sy_sq ?_
    refine o_call hf Tryz.en_8 rfl rfl rfl (k8 _) ?_; clear hf a; intro v a w hR hf
    obtain ⟨rfl, hx⟩ := hR; replace hh := hh.more hx; clear hx
    refine o_v hf hh (yv_assign rfl) ?_; clear hf a; intro a hf
    refine o_end ?_
    refine sy_ret ?_
    refine then_r ?_
    refine ret_r hf rfl rfl ?_
    exact ⟨rfl, hh.ext⟩
   ·have hG5 := hg5; try simp only [gS] at hG5
    refine o_v hf hh (yv_move rfl) ?_; clear hf a; intro a hf
    refine o_v hf hh (yv_len Tryz.se_28 rfl) ?_; clear hf a; intro a hf
    refine o_v hf hh (yv_bin rfl rfl rfl) ?_; clear hf a; intro a hf
    refine o_v hf hh (y_pf rfl rfl) ?_; clear hf a; intro a hf
    refine o_v hf hh (yv_move rfl) ?_; clear hf a; intro a hf
    refine guard_split hf (t := 47) rfl (fun hg8 => ?_) (fun hg8 => ?_)
    ·have hG8 := hg8; try simp only [gS] at hG8
     refine o_off hf ?_; clear hf a; intro a hf
     refine o_off hf ?_; clear hf a; intro a hf
     refine o_off hf ?_; clear hf a; intro a hf
     refine o_v hf hh (y_pt rfl rfl) ?_; clear hf a; intro a hf
     refine o_v hf hh (yv_move rfl) ?_; clear hf a; intro a hf
     refine o_off hf ?_; clear hf a; intro a hf
     refine o_off hf ?_; clear hf a; intro a hf
     refine o_off hf ?_; clear hf a; intro a hf
     refine o_v hf hh (y_pt rfl rfl) ?_; clear hf a; intro a hf
     refine o_v hf hh (yv_move rfl) ?_; clear hf a; intro a hf
     refine o_off hf ?_; clear hf a; intro a hf
     refine o_off hf ?_; clear hf a; intro a hf
     refine o_v hf hh (y_pt rfl rfl) ?_; clear hf a; intro a hf
     refine o_v hf hh (yv_move rfl) ?_; clear hf a; intro a hf
     refine o_off hf ?_; clear hf a; intro a hf
     refine o_off hf ?_; clear hf a; intro a hf
     refine o_v hf hh (y_pt rfl rfl) ?_; clear hf a; intro a hf
     refine o_end ?_
     refine c_t hf ?_
     refine sy_sq ?_
     refine o_call hf Tryz.en_8 rfl rfl rfl (k8 _) ?_; clear hf a; intro v a w hR hf
     obtain ⟨rfl, hx⟩ := hR; replace hh := hh.more hx; clear hx
     refine o_v hf hh (yv_assign rfl) ?_; clear hf a; intro a hf
     refine o_end ?_
     refine sy_ret ?_
     refine then_r ?_
     refine ret_r hf rfl rfl ?_
     exact ⟨rfl, hh.ext⟩
    ·have hG8 := hg8; try simp only [gS] at hG8
     refine o_v hf hh (yv_move rfl) ?_; clear hf a; intro a hf
     refine o_call hf Tryz.en_6 rfl rfl rfl (k6 sh ss cs _ (hS.ext hh.ext) (by omega)) ?_; clear hf a; intro v a w hR hf
     obtain ⟨rfl, hx⟩ := hR; replace hh := hh.more hx; clear hx
     refine o_v hf hh (yv_not rfl) ?_; clear hf a; intro a hf
     refine o_v hf hh (y_pf rfl rfl) ?_; clear hf a; intro a hf
     refine o_v hf hh (yv_move rfl) ?_; clear hf a; intro a hf
     refine guard_split hf (t := 52) rfl (fun hg11 => ?_) (fun hg11 => ?_)
     ·have hG11 := hg11; try simp only [gS] at hG11
      refine o_off hf ?_; clear hf a; intro a hf
      refine o_off hf ?_; clear hf a; intro a hf
      refine o_off hf ?_; clear hf a; intro a hf
      refine o_v hf hh (y_pt rfl rfl) ?_; clear hf a; intro a hf
      refine o_v hf hh (yv_move rfl) ?_; clear hf a; intro a hf
      refine o_off hf ?_; clear hf a; intro a hf
      refine o_off hf ?_; clear hf a; intro a hf
      refine o_v hf hh (y_pt rfl rfl) ?_; clear hf a; intro a hf
      refine o_v hf hh (yv_move rfl) ?_; clear hf a; intro a hf
      refine o_off hf ?_; clear hf a; intro a hf
      refine o_off hf ?_; clear hf a; intro a hf
      refine o_v hf hh (y_pt rfl rfl) ?_; clear hf a; intro a hf
      refine o_end ?_
      refine c_t hf ?_
      refine sy_sq ?_
      refine o_call hf Tryz.en_8 rfl rfl rfl (k8 _) ?_; clear hf a; intro v a w hR hf
      obtain ⟨rfl, hx⟩ := hR; replace hh := hh.more hx; clear hx
      refine o_v hf hh (yv_assign rfl) ?_; clear hf a; intro a hf
      refine o_end ?_
      refine sy_ret ?_
      refine then_r ?_
      refine ret_r hf rfl rfl ?_
      exact ⟨rfl, hh.ext⟩
     ·have hG11 := hg11; try simp only [gS] at hG11
      refine o_v hf hh (y_lds Tryz.ag_27 rfl) ?_; clear hf a; intro a hf
      refine o_call hf Tryz.en_7 rfl rfl rfl (k7 tm _) ?_; clear hf a; intro v a w hR hf
      obtain ⟨rfl, hx⟩ := hR; replace hh := hh.more hx; clear hx
      refine o_v hf hh (yv_not rfl) ?_; clear hf a; intro a hf
      refine o_v hf hh (y_pf rfl rfl) ?_; clear hf a; intro a hf
      refine o_v hf hh (yv_move rfl) ?_; clear hf a; intro a hf
      refine guard_split hf (t := 57) rfl (fun hg14 => ?_) (fun hg14 => ?_)
      ·have hG14 := hg14; try simp only [gS] at hG14
       refine o_off hf ?_; clear hf a; intro a hf
       refine o_off hf ?_; clear hf a; intro a hf
       refine o_v hf hh (y_pt rfl rfl) ?_; clear hf a; intro a hf
       refine o_v hf hh (yv_move rfl) ?_; clear hf a; intro a hf
       refine o_off hf ?_; clear hf a; intro a hf
       refine o_off hf ?_; clear hf a; intro a hf
       refine o_v hf hh (y_pt rfl rfl) ?_; clear hf a; intro a hf
       refine o_end ?_
       refine c_t hf ?_
       refine sy_sq ?_
       refine o_call hf Tryz.en_8 rfl rfl rfl (k8 _) ?_; clear hf a; intro v a w hR hf
       obtain ⟨rfl, hx⟩ := hR; replace hh := hh.more hx; clear hx
       refine o_v hf hh (yv_assign rfl) ?_; clear hf a; intro a hf
       refine o_end ?_
       refine sy_ret ?_
       refine then_r ?_
       refine ret_r hf rfl rfl ?_
       exact ⟨rfl, hh.ext⟩
      ·have hG14 := hg14; try simp only [gS] at hG14
       refine o_v hf hh (yv_move rfl) ?_; clear hf a; intro a hf
       refine o_v hf hh (yv_bin rfl rfl rfl) ?_; clear hf a; intro a hf
       refine o_v hf hh (y_pf rfl rfl) ?_; clear hf a; intro a hf
       refine o_v hf hh (yv_move rfl) ?_; clear hf a; intro a hf
       refine guard_split hf (t := 61) rfl (fun hg17 => ?_) (fun hg17 => ?_)
       ·have hG17 := hg17; try simp only [gS] at hG17
        refine o_off hf ?_; clear hf a; intro a hf
        refine o_off hf ?_; clear hf a; intro a hf
        refine o_v hf hh (y_pt rfl rfl) ?_; clear hf a; intro a hf
        refine o_end ?_
        refine c_t hf ?_
        refine sy_sq ?_
        refine o_call hf Tryz.en_8 rfl rfl rfl (k8 _) ?_; clear hf a; intro v a w hR hf
        obtain ⟨rfl, hx⟩ := hR; replace hh := hh.more hx; clear hx
        refine o_v hf hh (yv_assign rfl) ?_; clear hf a; intro a hf
        refine o_end ?_
        refine sy_ret ?_
        refine then_r ?_
        refine ret_r hf rfl rfl ?_
        exact ⟨rfl, hh.ext⟩
       ·have hG17 := hg17; try simp only [gS] at hG17
        refine o_v hf hh (yv_move rfl) ?_; clear hf a; intro a hf
        refine o_v hf hh (yv_bin rfl rfl rfl) ?_; clear hf a; intro a hf
        refine o_v hf hh (y_pf rfl rfl) ?_; clear hf a; intro a hf
        refine o_end ?_
        refine sy_cond hf rfl (fun hg20 => ?_) (fun hg20 => ?_)
        ·have hG20 := hg20; try simp only [gS] at hG20
         refine sy_sq ?_
         refine o_call hf Tryz.en_8 rfl rfl rfl (k8 _) ?_; clear hf a; intro v a w hR hf
         obtain ⟨rfl, hx⟩ := hR; replace hh := hh.more hx; clear hx
         refine o_v hf hh (yv_assign rfl) ?_; clear hf a; intro a hf
         refine o_end ?_
         refine sy_ret ?_
         refine then_r ?_
         refine ret_r hf rfl rfl ?_
         exact ⟨rfl, hh.ext⟩
        ·have hG20 := hg20; try simp only [gS] at hG20
         refine sy_skip ?_
         refine then_n ?_
         refine sy_seq ?_
         have hok : touB t = true := by assumption
         have hO := touB_iff.1 hok
         have hn6 : t.fr.length ≤ 6 := hO.n6
         have hAt := hA.at hok
         have hsb : shB sh = true := by assumption
         have hSh := shB_iff.1 hsb
         have htb : termB tm = true := by assumption
         have hTm := termB_iff.1 htb
         have hp0 : 0 ≤ price := by omega
         have hp1 : price ≤ 1048576 := by omega
         refine sy_ops ?_
         refine o_v hf hh (y_lds Tryz.ag_25 rfl) ?_; clear hf a; intro a hf
         refine o_call hf Tryz.en_9 rfl rfl rfl (k9 t p _ (hAt.ext hh.ext)) ?_; clear hf a; intro v a w hR hf
         obtain ⟨l, oa, cp, K, rfl, hl, -, hVl, hx⟩ := hR; replace hl := hl hok
         have hml : OrdB t l := by rw [hl]; exact most_ord t
         have hll := ord_len hO hml
         have eo : opnE t true = 0 := opnE_zero.2 ⟨hok, rfl⟩
         rw [eo] at hf; clear eo
         replace hh := (hh.join hx).perm (perm_in K [_, _] [] []); clear hx
         simp only [List.cons_append, List.nil_append, List.append_nil] at hh
         refine o_v hf hh (yv_move rfl) ?_; clear hf a; intro a hf
         refine o_v hf hh (yv_extract rfl rfl) ?_; clear hf a; intro a hf
         refine o_v hf hh (yv_extract rfl rfl) ?_; clear hf a; intro a hf
         refine o_v hf hh (yv_assign rfl) ?_; clear hf a; intro a hf
         refine o_v hf hh (yv_assign rfl) ?_; clear hf a; intro a hf
         refine o_end ?_
         refine sy_seq ?_
         refine sy_sq ?_
         refine o_v hf hh (yv_move rfl) ?_; clear hf a; intro a hf
         refine o_v hf hh (yv_bin rfl rfl rfl) ?_; clear hf a; intro a hf
         refine o_v hf hh (yv_move rfl) ?_; clear hf a; intro a hf
         refine o_v hf hh (y_lds Tryz.ag_25 rfl) ?_; clear hf a; intro a hf
         refine o_v hf hh (yv_move rfl) ?_; clear hf a; intro a hf
         refine o_call hf Tryz.en_10 rfl rfl rfl (k10 t p (ints l) l.length (ints_len l).symm oa cp _ hn6 (hVl _ (fun q hq => hh.get q (by simp [hq]))) (by rw [ints_len]; omega)) ?_; clear hf a; intro v a w hR hf
         obtain ⟨rfl, hx⟩ := hR; replace hh := hh.more hx; clear hx
         have hor : ordB t.fr.length (ints l) = true := ords_iff.2 hml
         refine o_v hf hh (yv_not rfl) ?_; clear hf a; intro a hf
         refine o_v hf hh (y_pf rfl rfl) ?_; clear hf a; intro a hf
         refine o_end ?_
         refine c_f hf ?_
         refine sy_skip ?_
         refine then_n ?_
         refine sy_sq ?_
         refine o_v hf hh (yv_assign rfl) ?_; clear hf a; intro a hf
         refine o_end ?_
         refine sy_seq ?_
         refine sy_sq ?_
         refine o_v hf hh (yv_move rfl) ?_; clear hf a; intro a hf
         refine o_v hf hh (yv_len Tryz.se_29 rfl) ?_; clear hf a; intro a hf
         refine o_v hf hh (yv_move rfl) ?_; clear hf a; intro a hf
         refine o_end ?_
         refine sy_block ?_
         refine sy_loopH (σ := Nat × List Nat × Value × List (Nat × Obj)) [13, 15, 16, 81, 82, 83, 84, 85, 86, 87, 88, 89, 90, 91, 92, 93, 94, 95, 96, 97, 98, 99, 100, 101, 102, 103, 104, 105, 106, 107, 108, 109, 110, 111] (fun s => [(81, .int .i64 (s.1 : Nat)), (13, s.2.2.1)]) (fun s => fun w' => s.1 ≤ y.length ∧ OrdB t s.2.1 ∧ OwnSl 3 1 s.2.2.1 s.2.1.length (WalM.ivs s.2.1) s.2.2.2 ∧ Hp u [] ((B6, .cells (tmV tm).cells 27) :: (B5, .cells (touC t p) 25) :: (s.2.2.2 ++ K)) w') (fun s => y.length - s.1) ((0, [], .slice none 0 0, [])) hf ?_ ?_ ?_
         · repeat' (first | exact True.intro | refine And.intro rfl ?_)
         · exact ⟨Nat.zero_le _, ⟨fun v h => (by cases h), List.nodup_nil⟩, OwnSl.nil _ _, hh⟩
         ·rintro s a w ⟨hi, hod, hOw, hh⟩ hf
          obtain ⟨i, own, v13, X⟩ := s; simp only at hi hod hOw hh hf ⊢
          obtain ⟨oa13, cp13, rfl, hV13⟩ := own_vw hOw
          have hlo := ord_len hO hod
          refine sy_sq ?_
          refine o_v hf hh (yv_bin rfl rfl rfl) ?_; clear hf a; intro a hf
          refine o_end ?_
          refine sy_seq ?_
          refine sy_cond hf rfl (fun hg28 => ?_) (fun hg28 => ?_)
          ·have hG28 := hg28; try simp only [gS] at hG28
           refine sy_skip ?_
           refine then_n ?_
           refine sy_seq ?_
           refine sy_block ?_
           refine sy_seq ?_
           obtain ⟨z, hz⟩ := ex_ofW (l := y) (i := i) (by omega)
           obtain ⟨blk, off, cc, TT, frr, es, hb, hc⟩ := hY i z hz; subst es
           have hzb := hyb z (List.mem_of_getElem? hz)
           obtain ⟨vn, hvn⟩ : ∃ vn : Nat, ((vn : Nat) : Int) = z % ((t.fr.length : Nat) + 1) := ⟨(z % ((t.fr.length : Nat) + 1)).toNat, Int.toNat_of_nonneg (Int.emod_nonneg _ (by omega))⟩
           have hvl : vn ≤ t.fr.length := by have := Int.emod_lt_of_pos z (show (0 : Int) < (t.fr.length : Nat) + 1 by omega); omega
           refine sy_ops ?_
           refine o_v hf hh (y_ix Tryz.se_29 rfl rfl) ?_; clear hf a; intro a hf
           refine o_v hf hh (y_ld Tryz.sc_5 rfl) ?_; clear hf a; intro a hf
           refine o_v hf hh (yv_assign rfl) ?_; clear hf a; intro a hf
           refine o_end ?_
           refine sy_sq ?_
           refine o_v hf hh (yv_move rfl) ?_; clear hf a; intro a hf
           refine o_v hf hh (yv_convx (.inl rfl) (by kernel_rfl) Tryz.un_3 rfl (by omega) (by simp only [IntKind.top]; omega)) ?_; clear hf a; intro a hf
           refine o_v hf hh (yv_fieldAddr Tryz.fo_25_1 rfl) ?_; clear hf a; intro a hf
           refine o_v hf hh (y_ld Tryz.sc_22 rfl) ?_; clear hf a; intro a hf
           refine o_v hf hh (yv_len Tryz.se_22 rfl) ?_; clear hf a; intro a hf
           refine o_v hf hh (y_add rfl rfl) ?_; clear hf a; intro a hf
           refine ops_v hf hh (yv_cast (yv_rem rfl rfl (by omega) (by omega)) (intv (b := ((vn : Nat) : Int)) hvn.symm)) (.inl rfl) rfl rfl rfl ?_; clear hf a; intro a hf
           refine o_v hf hh (yv_assign rfl) ?_; clear hf a; intro a hf
           refine o_end ?_
           refine sy_seq ?_
           refine sy_treeC (.p 0 (.p 1 (.q 0 2 (.p 3 (.p 4 (.p 5 (.q 0 6 (.p 8 (.p 10 (.e2 7 (.e2 9 (.e1 11 (.e1 12 (.e1 13 (.p 14 (.fin))))) 11 (.e1 9 (.e1 12 (.e1 13 (.p 14 (.fin)))))) 11 (.e1 7 (.e1 9 (.e1 12 (.e1 13 (.p 14 (.fin)))))))))))))))) [[]] [(AtE u [] [(B5, .cells (touC t p) 25)], [])] Tryz.follows (by kernel_rfl) rfl hh (fun w hh => ?_)
           refine mc_p rfl   hf (yv_move rfl) (.inl rfl) rfl rfl ?_; clear hf a; intro a hf
           refine mc_p rfl   hf (yv_fieldAddr Tryz.fo_25_1 rfl) (.inl rfl) rfl rfl ?_; clear hf a; intro a hf
           refine mc_q rfl rfl (AtE.of hh (by intro q hq; rw [List.mem_singleton.1 hq]; simp)) hf (y_ld Tryz.sc_22 rfl) (.inl rfl) rfl rfl ?_; clear hf a; intro a hf
           refine mc_p rfl   hf (yv_len Tryz.se_22 rfl) (.inl rfl) rfl rfl ?_; clear hf a; intro a hf
           refine mc_p rfl   hf (yv_bin rfl rfl rfl) (.inl rfl) rfl rfl ?_; clear hf a; intro a hf
           refine mc_p rfl   hf (yv_move rfl) (.inl rfl) rfl rfl ?_; clear hf a; intro a hf
           refine guard_any hf (t := 97) rfl (fun hg33 => ?_) (fun hg33 => ?_)
           ·have hG33 := hg33; try simp only [gS] at hG33
            refine mc_q rfl rfl (AtE.of hh (by intro q hq; rw [List.mem_singleton.1 hq]; simp)) hf (y_lds Tryz.ag_25 rfl) (gon rfl rfl rfl (by first | assumption | rfl | (simp; done) | (simp; omega))) rfl rfl ?_; clear hf a; intro a hf
            refine mc_p rfl   hf (yv_move rfl) (gon rfl rfl rfl (by first | assumption | rfl | (simp; done) | (simp; omega))) rfl rfl ?_; clear hf a; intro a hf
            refine mc_p rfl   hf (yv_move rfl) (gon rfl rfl rfl (by first | assumption | rfl | (simp; done) | (simp; omega))) rfl rfl ?_; clear hf a; intro a hf
            refine ⟨?_, ?_⟩
            ·refine mc_e rfl fun Q1 => ?_
             refine ops_buildSl hf hh Tryz.bl_28_0 rfl rfl (gon rfl rfl rfl (by first | assumption | rfl | (simp; done) | (simp; omega))) rfl ?_; clear hf hh; clear a; intro B99 a w hf hh
             refine ops_end ?_
             refine then_n ⟨⟨fun _ _ => (AtE.of hh (by intro q hq; rw [List.mem_singleton.1 hq]; simp)), trivial⟩, ?_⟩
             refine ⟨?_, ?_⟩
             ·refine mc_e rfl fun Q1 => ?_
              first
              | (refine ops_appendV (e := 3) (size := 1) (xs := []) (news := WalM.ivs own) (X := [(B99, .cells #[] 3)]) (m := 0) hf hh Tryz.eb_28 rfl rfl ⟨rfl, .inr ⟨B99, 0, #[], rfl, rfl, Nat.le_refl _, Nat.zero_le _, rfl, rfl⟩⟩ (vw_vals (hV13 w (fun q hq => hh.get q (by simp [hq])))) ((WalM.ivs_len own).trans (Nat.mul_one _).symm) (by omega) (WalM.ivs_one own) (by simp only [maxLen]; omega) (by omega) (gon rfl rfl rfl (by first | assumption | rfl | (simp; done) | (simp; omega))) rfl ?_
                 clear hf hh a; intro v3 X3 a w hO3 hf hh)
              | (refine ops_appendV (e := 3) (size := 1) (xs := []) (news := WalM.ivs own) (X := [(B99, .cells #[] 3)]) (m := 0) hf (hh.perm (.swap _ _ _)) Tryz.eb_28 rfl rfl ⟨rfl, .inr ⟨B99, 0, #[], rfl, rfl, Nat.le_refl _, Nat.zero_le _, rfl, rfl⟩⟩ (vw_vals (hV13 w (fun q hq => hh.get q (by simp [hq])))) ((WalM.ivs_len own).trans (Nat.mul_one _).symm) (by omega) (WalM.ivs_one own) (by simp only [maxLen]; omega) (by omega) (gon rfl rfl rfl (by first | assumption | rfl | (simp; done) | (simp; omega))) rfl ?_
                 clear hf hh a; intro v3 X3 a w hO3 hf hh)
              rw [Nat.zero_add, List.nil_append] at hO3
              refine ops_end ?_
              refine then_n ⟨⟨fun _ _ => (AtE.of hh (by intro q hq; rw [List.mem_singleton.1 hq]; simp)), trivial⟩, ?_⟩
              refine mc_e rfl fun Q1 => ?_
              refine ops_buildSl hf hh Tryz.bl_28_1 rfl rfl (gon rfl rfl rfl (by first | assumption | rfl | (simp; done) | (simp; omega))) rfl ?_; clear hf hh; clear a; intro B103 a w hf hh
              refine ops_end ?_
              refine then_n ⟨⟨fun _ _ => (AtE.of hh (by intro q hq; rw [List.mem_singleton.1 hq]; simp)), trivial⟩, ?_⟩
              refine mc_e rfl fun Q1 => ?_
              first
              | (refine ops_append (e := 3) (size := 1) (xs := WalM.ivs own) (news := [.int .i64 ((vn : Nat) : Int)]) (X := X3) (m := own.length) (q := 1) hf hh Tryz.eb_28 rfl rfl hO3 rfl rfl rfl (by simp only [maxLen]; omega) (by omega) (gon rfl rfl rfl (by first | assumption | rfl | (simp; done) | (simp; omega))) rfl ?_
                 clear hf hh a; intro v4 X4 a w hO4 hf hh)
              | (refine ops_append (e := 3) (size := 1) (xs := WalM.ivs own) (news := [.int .i64 ((vn : Nat) : Int)]) (X := X3) (m := own.length) (q := 1) hf (hh.perm List.perm_middle) Tryz.eb_28 rfl rfl hO3 rfl rfl rfl (by simp only [maxLen]; omega) (by omega) (gon rfl rfl rfl (by first | assumption | rfl | (simp; done) | (simp; omega))) rfl ?_
                 clear hf hh a; intro v4 X4 a w hO4 hf hh)
              replace hO4 : OwnSl 3 1 v4 (own.length + 1) (WalM.ivs (own ++ [vn])) X4 := by
                have e : WalM.ivs (own ++ [vn]) = WalM.ivs own ++ [.int .i64 ((vn : Nat) : Int)] := by unfold WalM.ivs; rw [List.map_append]; rfl
                rw [e]; exact hO4
              obtain ⟨oa4, cp4, e4, hV4⟩ := own_vw (l := own ++ [vn]) hO4
              rw [List.length_append] at e4
              replace e4 : v4 = .slice oa4 (own.length + 1) cp4 := e4
              subst e4
              refine ops_end ?_
              refine then_n ⟨⟨fun _ _ => (AtE.of hh (by intro q hq; rw [List.mem_singleton.1 hq]; simp)), trivial⟩, ?_⟩
              refine mc_e rfl fun Q1 => ?_
              refine o_call hf Tryz.en_10 rfl rfl rfl (k10 t p (ints (own ++ [vn])) (own.length + 1) (by rw [ints_len, List.length_append]; rfl) oa4 cp4 _ hn6 (hV4 w (fun q hq => hh.get q (by simp [hq]))) (by rw [ints_len, List.length_append]; show own.length + 1 ≤ _; omega)) ?_; clear hf a; intro v a w hR hf
              obtain ⟨rfl, hx⟩ := hR; replace hh := hh.more hx; clear hx
              refine ops_end ?_
              refine then_n ⟨⟨fun _ _ => (AtE.of hh (by intro q hq; rw [List.mem_singleton.1 hq]; simp)), trivial⟩, ?_⟩
              refine mc_p rfl   hf (y_pt rfl rfl) (.inl rfl) rfl rfl ?_; clear hf a; intro a hf
              refine mc_end ?_
              refine then_n ?_
              refine sy_cond hf rfl (fun hg37 => ?_) (fun hg37 => ?_)
              ·have hG37 := hg37; try simp only [gS] at hG37
               replace hh : Hp u [] ((B6, .cells (tmV tm).cells 27) :: (B5, .cells (touC t p) 25) :: (X ++ K)) w := by
                 first
                 | exact hh
                 | exact hh.less (List.sublist_append_right _ _)
               have hod2 : OrdB t (own ++ [vn]) := ords_iff.1 (by assumption)
               refine sy_ops ?_
               refine o_v hf hh (yv_move rfl) ?_; clear hf a; intro a hf
               refine o_v hf hh (yv_move rfl) ?_; clear hf a; intro a hf
               refine ops_buildSl hf hh Tryz.bl_28_1 rfl rfl (.inl rfl) rfl ?_; clear hf hh; clear a; intro B109 a w hf hh
               refine ops_append (e := 3) (size := 1) (xs := WalM.ivs own) (news := [.int .i64 ((vn : Nat) : Int)]) (X := X) (m := own.length) (q := 1) hf (hh.perm (.cons _ (List.perm_append_comm_assoc [_, _] X K))) Tryz.eb_28 rfl rfl hOw rfl rfl rfl (by simp only [maxLen]; omega) (by omega) (.inl rfl) rfl ?_
               clear hf hh a; intro v5 X5 a w hO5 hf hh
               replace hh := hh.perm (List.perm_append_comm_assoc X5 [_, _] K)
               simp only [List.cons_append, List.nil_append] at hh
               replace hO5 : OwnSl 3 1 v5 (own ++ [vn]).length (WalM.ivs (own ++ [vn])) X5 := by
                 have e : WalM.ivs (own ++ [vn]) = WalM.ivs own ++ [.int .i64 ((vn : Nat) : Int)] := by unfold WalM.ivs; rw [List.map_append]; rfl
                 rw [e, List.length_append]; exact hO5
               refine o_v hf hh (yv_assign rfl) ?_; clear hf a; intro a hf
               refine ops_end ?_
               refine blk_n ?_
               refine then_n ?_
               refine sy_ops ?_
               refine o_v hf hh (y_add rfl rfl) ?_; clear hf a; intro a hf
               refine o_v hf hh (yv_move rfl) ?_; clear hf a; intro a hf
               refine ops_end ?_
               refine then_n ?_
               first
                 | exact ⟨(i + 1, own ++ [vn], v5, X5), ⟨⟨by simp only; omega, hod2, hO5, hh⟩, (hf.head (by repeat' (first | exact True.intro | refine And.intro rfl ?_)) (Keep.cons rfl (Keep.cons rfl (Keep.cons rfl (Keep.cons rfl (Keep.cons rfl (Keep.cons rfl (Keep.cons rfl (Keep.cons rfl (Keep.cons rfl (Keep.cons rfl (Keep.cons rfl (Keep.cons rfl (Keep.cons rfl (Keep.cons rfl (Keep.cons rfl (Keep.cons rfl (Keep.cons rfl (Keep.cons rfl (Keep.cons rfl (Keep.cons rfl (Keep.cons rfl (Keep.cons rfl (Keep.cons rfl (Keep.cons rfl (Keep.cons rfl (Keep.cons rfl (Keep.cons rfl (Keep.cons rfl (Keep.cons rfl (Keep.cons rfl (Keep.cons rfl (Keep.cons rfl (Keep.cons rfl (Keep.cons rfl (Keep.app rfl (Keep.rm rfl Keep.base)))))))))))))))))))))))))))))))))))))⟩, by simp only; omega⟩
                 | exact ⟨(i + 1, own, _, X), ⟨⟨by simp only; omega, hod, hOw, (by first | exact hh | exact hh.less (List.sublist_append_right _ _))⟩, (hf.head (by repeat' (first | exact True.intro | refine And.intro rfl ?_)) (Keep.cons rfl (Keep.cons rfl (Keep.cons rfl (Keep.cons rfl (Keep.cons rfl (Keep.cons rfl (Keep.cons rfl (Keep.cons rfl (Keep.cons rfl (Keep.cons rfl (Keep.cons rfl (Keep.cons rfl (Keep.cons rfl (Keep.cons rfl (Keep.cons rfl (Keep.cons rfl (Keep.cons rfl (Keep.cons rfl (Keep.cons rfl (Keep.cons rfl (Keep.cons rfl (Keep.cons rfl (Keep.cons rfl (Keep.cons rfl (Keep.cons rfl (Keep.cons rfl (Keep.cons rfl (Keep.cons rfl (Keep.cons rfl (Keep.cons rfl (Keep.cons rfl (Keep.cons rfl (Keep.cons rfl (Keep.cons rfl (Keep.app rfl (Keep.rm rfl Keep.base)))))))))))))))))))))))))))))))))))))⟩, by simp only; omega⟩
              ·have hG37 := hg37; try simp only [gS] at hG37
               refine sy_skip ?_
               refine blk_n ?_
               refine then_n ?_
               refine sy_ops ?_
               refine o_v hf hh (y_add rfl rfl) ?_; clear hf a; intro a hf
               refine o_v hf hh (yv_move rfl) ?_; clear hf a; intro a hf
               refine ops_end ?_
               refine then_n ?_
               first
                 | exact ⟨(i + 1, own ++ [vn], v5, X5), ⟨⟨by simp only; omega, hod2, hO5, hh⟩, (hf.head (by repeat' (first | exact True.intro | refine And.intro rfl ?_)) (Keep.cons rfl (Keep.cons rfl (Keep.cons rfl (Keep.cons rfl (Keep.cons rfl (Keep.cons rfl (Keep.cons rfl (Keep.cons rfl (Keep.cons rfl (Keep.cons rfl (Keep.cons rfl (Keep.cons rfl (Keep.cons rfl (Keep.cons rfl (Keep.cons rfl (Keep.cons rfl (Keep.cons rfl (Keep.cons rfl (Keep.cons rfl (Keep.cons rfl (Keep.cons rfl (Keep.cons rfl (Keep.cons rfl (Keep.cons rfl (Keep.cons rfl (Keep.cons rfl (Keep.cons rfl (Keep.cons rfl (Keep.cons rfl (Keep.app rfl (Keep.rm rfl Keep.base))))))))))))))))))))))))))))))))⟩, by simp only; omega⟩
                 | exact ⟨(i + 1, own, _, X), ⟨⟨by simp only; omega, hod, hOw, (by first | exact hh | exact hh.less (List.sublist_append_right _ _))⟩, (hf.head (by repeat' (first | exact True.intro | refine And.intro rfl ?_)) (Keep.cons rfl (Keep.cons rfl (Keep.cons rfl (Keep.cons rfl (Keep.cons rfl (Keep.cons rfl (Keep.cons rfl (Keep.cons rfl (Keep.cons rfl (Keep.cons rfl (Keep.cons rfl (Keep.cons rfl (Keep.cons rfl (Keep.cons rfl (Keep.cons rfl (Keep.cons rfl (Keep.cons rfl (Keep.cons rfl (Keep.cons rfl (Keep.cons rfl (Keep.cons rfl (Keep.cons rfl (Keep.cons rfl (Keep.cons rfl (Keep.cons rfl (Keep.cons rfl (Keep.cons rfl (Keep.cons rfl (Keep.cons rfl (Keep.app rfl (Keep.rm rfl Keep.base))))))))))))))))))))))))))))))))⟩, by simp only; omega⟩
             ·refine mc_e rfl fun Q1 => ?_
              refine ops_buildSl hf hh Tryz.bl_28_1 rfl rfl (gon rfl rfl rfl (by first | assumption | rfl | (simp; done) | (simp; omega))) rfl ?_; clear hf hh; clear a; intro B103 a w hf hh
              refine ops_end ?_
              refine then_n ⟨⟨fun _ _ => (AtE.of hh (by intro q hq; rw [List.mem_singleton.1 hq]; simp)), trivial⟩, ?_⟩
              refine mc_e rfl fun Q1 => ?_
              first
              | (refine ops_appendV (e := 3) (size := 1) (xs := []) (news := WalM.ivs own) (X := [(B99, .cells #[] 3)]) (m := 0) hf hh Tryz.eb_28 rfl rfl ⟨rfl, .inr ⟨B99, 0, #[], rfl, rfl, Nat.le_refl _, Nat.zero_le _, rfl, rfl⟩⟩ (vw_vals (hV13 w (fun q hq => hh.get q (by simp [hq])))) ((WalM.ivs_len own).trans (Nat.mul_one _).symm) (by omega) (WalM.ivs_one own) (by simp only [maxLen]; omega) (by omega) (gon rfl rfl rfl (by first | assumption | rfl | (simp; done) | (simp; omega))) rfl ?_
                 clear hf hh a; intro v3 X3 a w hO3 hf hh)
              | (refine ops_appendV (e := 3) (size := 1) (xs := []) (news := WalM.ivs own) (X := [(B99, .cells #[] 3)]) (m := 0) hf (hh.perm (.swap _ _ _)) Tryz.eb_28 rfl rfl ⟨rfl, .inr ⟨B99, 0, #[], rfl, rfl, Nat.le_refl _, Nat.zero_le _, rfl, rfl⟩⟩ (vw_vals (hV13 w (fun q hq => hh.get q (by simp [hq])))) ((WalM.ivs_len own).trans (Nat.mul_one _).symm) (by omega) (WalM.ivs_one own) (by simp only [maxLen]; omega) (by omega) (gon rfl rfl rfl (by first | assumption | rfl | (simp; done) | (simp; omega))) rfl ?_
                 clear hf hh a; intro v3 X3 a w hO3 hf hh)
              rw [Nat.zero_add, List.nil_append] at hO3
              refine ops_end ?_
              refine then_n ⟨⟨fun _ _ => (AtE.of hh (by intro q hq; rw [List.mem_singleton.1 hq]; simp)), trivial⟩, ?_⟩
              refine mc_e rfl fun Q1 => ?_
              first
              | (refine ops_append (e := 3) (size := 1) (xs := WalM.ivs own) (news := [.int .i64 ((vn : Nat) : Int)]) (X := X3) (m := own.length) (q := 1) hf hh Tryz.eb_28 rfl rfl hO3 rfl rfl rfl (by simp only [maxLen]; omega) (by omega) (gon rfl rfl rfl (by first | assumption | rfl | (simp; done) | (simp; omega))) rfl ?_
                 clear hf hh a; intro v4 X4 a w hO4 hf hh)
              | (refine ops_append (e := 3) (size := 1) (xs := WalM.ivs own) (news := [.int .i64 ((vn : Nat) : Int)]) (X := X3) (m := own.length) (q := 1) hf (hh.perm List.perm_middle) Tryz.eb_28 rfl rfl hO3 rfl rfl rfl (by simp only [maxLen]; omega) (by omega) (gon rfl rfl rfl (by first | assumption | rfl | (simp; done) | (simp; omega))) rfl ?_
                 clear hf hh a; intro v4 X4 a w hO4 hf hh)
              replace hO4 : OwnSl 3 1 v4 (own.length + 1) (WalM.ivs (own ++ [vn])) X4 := by
                have e : WalM.ivs (own ++ [vn]) = WalM.ivs own ++ [.int .i64 ((vn : Nat) : Int)] := by unfold WalM.ivs; rw [List.map_append]; rfl
                rw [e]; exact hO4
              obtain ⟨oa4, cp4, e4, hV4⟩ := own_vw (l := own ++ [vn]) hO4
              rw [List.length_append] at e4
              replace e4 : v4 = .slice oa4 (own.length + 1) cp4 := e4
              subst e4
              refine ops_end ?_
              refine then_n ⟨⟨fun _ _ => (AtE.of hh (by intro q hq; rw [List.mem_singleton.1 hq]; simp)), trivial⟩, ?_⟩
              refine mc_e rfl fun Q1 => ?_
              refine o_call hf Tryz.en_10 rfl rfl rfl (k10 t p (ints (own ++ [vn])) (own.length + 1) (by rw [ints_len, List.length_append]; rfl) oa4 cp4 _ hn6 (hV4 w (fun q hq => hh.get q (by simp [hq]))) (by rw [ints_len, List.length_append]; show own.length + 1 ≤ _; omega)) ?_; clear hf a; intro v a w hR hf
              obtain ⟨rfl, hx⟩ := hR; replace hh := hh.more hx; clear hx
              refine ops_end ?_
              refine then_n ⟨⟨fun _ _ => (AtE.of hh (by intro q hq; rw [List.mem_singleton.1 hq]; simp)), trivial⟩, ?_⟩
              refine mc_p rfl   hf (y_pt rfl rfl) (.inl rfl) rfl rfl ?_; clear hf a; intro a hf
              refine mc_end ?_
              refine then_n ?_
              refine sy_cond hf rfl (fun hg42 => ?_) (fun hg42 => ?_)
              ·have hG42 := hg42; try simp only [gS] at hG42
               replace hh : Hp u [] ((B6, .cells (tmV tm).cells 27) :: (B5, .cells (touC t p) 25) :: (X ++ K)) w := by
                 first
                 | exact hh
                 | exact hh.less (List.sublist_append_right _ _)
               have hod2 : OrdB t (own ++ [vn]) := ords_iff.1 (by assumption)
               refine sy_ops ?_
               refine o_v hf hh (yv_move rfl) ?_; clear hf a; intro a hf
               refine o_v hf hh (yv_move rfl) ?_; clear hf a; intro a hf
               refine ops_buildSl hf hh Tryz.bl_28_1 rfl rfl (.inl rfl) rfl ?_; clear hf hh; clear a; intro B109 a w hf hh
               refine ops_append (e := 3) (size := 1) (xs := WalM.ivs own) (news := [.int .i64 ((vn : Nat) : Int)]) (X := X) (m := own.length) (q := 1) hf (hh.perm (.cons _ (List.perm_append_comm_assoc [_, _] X K))) Tryz.eb_28 rfl rfl hOw rfl rfl rfl (by simp only [maxLen]; omega) (by omega) (.inl rfl) rfl ?_
               clear hf hh a; intro v5 X5 a w hO5 hf hh
               replace hh := hh.perm (List.perm_append_comm_assoc X5 [_, _] K)
               simp only [List.cons_append, List.nil_append] at hh
               replace hO5 : OwnSl 3 1 v5 (own ++ [vn]).length (WalM.ivs (own ++ [vn])) X5 := by
                 have e : WalM.ivs (own ++ [vn]) = WalM.ivs own ++ [.int .i64 ((vn : Nat) : Int)] := by unfold WalM.ivs; rw [List.map_append]; rfl
                 rw [e, List.length_append]; exact hO5
               refine o_v hf hh (yv_assign rfl) ?_; clear hf a; intro a hf
               refine ops_end ?_
               refine blk_n ?_
               refine then_n ?_
               refine sy_ops ?_
               refine o_v hf hh (y_add rfl rfl) ?_; clear hf a; intro a hf
               refine o_v hf hh (yv_move rfl) ?_; clear hf a; intro a hf
               refine ops_end ?_
               refine then_n ?_
               first
                 | exact ⟨(i + 1, own ++ [vn], v5, X5), ⟨⟨by simp only; omega, hod2, hO5, hh⟩, (hf.head (by repeat' (first | exact True.intro | refine And.intro rfl ?_)) (Keep.cons rfl (Keep.cons rfl (Keep.cons rfl (Keep.cons rfl (Keep.cons rfl (Keep.cons rfl (Keep.cons rfl (Keep.cons rfl (Keep.cons rfl (Keep.cons rfl (Keep.cons rfl (Keep.cons rfl (Keep.cons rfl (Keep.cons rfl (Keep.cons rfl (Keep.cons rfl (Keep.cons rfl (Keep.cons rfl (Keep.cons rfl (Keep.cons rfl (Keep.cons rfl (Keep.cons rfl (Keep.cons rfl (Keep.cons rfl (Keep.cons rfl (Keep.cons rfl (Keep.cons rfl (Keep.cons rfl (Keep.cons rfl (Keep.cons rfl (Keep.cons rfl (Keep.cons rfl (Keep.cons rfl (Keep.cons rfl (Keep.app rfl (Keep.rm rfl Keep.base)))))))))))))))))))))))))))))))))))))⟩, by simp only; omega⟩
                 | exact ⟨(i + 1, own, _, X), ⟨⟨by simp only; omega, hod, hOw, (by first | exact hh | exact hh.less (List.sublist_append_right _ _))⟩, (hf.head (by repeat' (first | exact True.intro | refine And.intro rfl ?_)) (Keep.cons rfl (Keep.cons rfl (Keep.cons rfl (Keep.cons rfl (Keep.cons rfl (Keep.cons rfl (Keep.cons rfl (Keep.cons rfl (Keep.cons rfl (Keep.cons rfl (Keep.cons rfl (Keep.cons rfl (Keep.cons rfl (Keep.cons rfl (Keep.cons rfl (Keep.cons rfl (Keep.cons rfl (Keep.cons rfl (Keep.cons rfl (Keep.cons rfl (Keep.cons rfl (Keep.cons rfl (Keep.cons rfl (Keep.cons rfl (Keep.cons rfl (Keep.cons rfl (Keep.cons rfl (Keep.cons rfl (Keep.cons rfl (Keep.cons rfl (Keep.cons rfl (Keep.cons rfl (Keep.cons rfl (Keep.cons rfl (Keep.app rfl (Keep.rm rfl Keep.base)))))))))))))))))))))))))))))))))))))⟩, by simp only; omega⟩
              ·have hG42 := hg42; try simp only [gS] at hG42
               refine sy_skip ?_
               refine blk_n ?_
               refine then_n ?_
               refine sy_ops ?_
               refine o_v hf hh (y_add rfl rfl) ?_; clear hf a; intro a hf
               refine o_v hf hh (yv_move rfl) ?_; clear hf a; intro a hf
               refine ops_end ?_
               refine then_n ?_
               first
                 | exact ⟨(i + 1, own ++ [vn], v5, X5), ⟨⟨by simp only; omega, hod2, hO5, hh⟩, (hf.head (by repeat' (first | exact True.intro | refine And.intro rfl ?_)) (Keep.cons rfl (Keep.cons rfl (Keep.cons rfl (Keep.cons rfl (Keep.cons rfl (Keep.cons rfl (Keep.cons rfl (Keep.cons rfl (Keep.cons rfl (Keep.cons rfl (Keep.cons rfl (Keep.cons rfl (Keep.cons rfl (Keep.cons rfl (Keep.cons rfl (Keep.cons rfl (Keep.cons rfl (Keep.cons rfl (Keep.cons rfl (Keep.cons rfl (Keep.cons rfl (Keep.cons rfl (Keep.cons rfl (Keep.cons rfl (Keep.cons rfl (Keep.cons rfl (Keep.cons rfl (Keep.cons rfl (Keep.cons rfl (Keep.app rfl (Keep.rm rfl Keep.base))))))))))))))))))))))))))))))))⟩, by simp only; omega⟩
                 | exact ⟨(i + 1, own, _, X), ⟨⟨by simp only; omega, hod, hOw, (by first | exact hh | exact hh.less (List.sublist_append_right _ _))⟩, (hf.head (by repeat' (first | exact True.intro | refine And.intro rfl ?_)) (Keep.cons rfl (Keep.cons rfl (Keep.cons rfl (Keep.cons rfl (Keep.cons rfl (Keep.cons rfl (Keep.cons rfl (Keep.cons rfl (Keep.cons rfl (Keep.cons rfl (Keep.cons rfl (Keep.cons rfl (Keep.cons rfl (Keep.cons rfl (Keep.cons rfl (Keep.cons rfl (Keep.cons rfl (Keep.cons rfl (Keep.cons rfl (Keep.cons rfl (Keep.cons rfl (Keep.cons rfl (Keep.cons rfl (Keep.cons rfl (Keep.cons rfl (Keep.cons rfl (Keep.cons rfl (Keep.cons rfl (Keep.cons rfl (Keep.app rfl (Keep.rm rfl Keep.base))))))))))))))))))))))))))))))))⟩, by simp only; omega⟩
            ·refine mc_e rfl fun Q1 => ?_
             refine ops_buildSl hf hh Tryz.bl_28_1 rfl rfl (gon rfl rfl rfl (by first | assumption | rfl | (simp; done) | (simp; omega))) rfl ?_; clear hf hh; clear a; intro B103 a w hf hh
             refine ops_end ?_
             refine then_n ⟨⟨fun _ _ => (AtE.of hh (by intro q hq; rw [List.mem_singleton.1 hq]; simp)), trivial⟩, ?_⟩
             refine mc_e rfl fun Q1 => ?_
             refine ops_buildSl hf hh Tryz.bl_28_0 rfl rfl (gon rfl rfl rfl (by first | assumption | rfl | (simp; done) | (simp; omega))) rfl ?_; clear hf hh; clear a; intro B99 a w hf hh
             refine ops_end ?_
             refine then_n ⟨⟨fun _ _ => (AtE.of hh (by intro q hq; rw [List.mem_singleton.1 hq]; simp)), trivial⟩, ?_⟩
             refine mc_e rfl fun Q1 => ?_
             first
             | (refine ops_appendV (e := 3) (size := 1) (xs := []) (news := WalM.ivs own) (X := [(B99, .cells #[] 3)]) (m := 0) hf hh Tryz.eb_28 rfl rfl ⟨rfl, .inr ⟨B99, 0, #[], rfl, rfl, Nat.le_refl _, Nat.zero_le _, rfl, rfl⟩⟩ (vw_vals (hV13 w (fun q hq => hh.get q (by simp [hq])))) ((WalM.ivs_len own).trans (Nat.mul_one _).symm) (by omega) (WalM.ivs_one own) (by simp only [maxLen]; omega) (by omega) (gon rfl rfl rfl (by first | assumption | rfl | (simp; done) | (simp; omega))) rfl ?_
                clear hf hh a; intro v3 X3 a w hO3 hf hh)
             | (refine ops_appendV (e := 3) (size := 1) (xs := []) (news := WalM.ivs own) (X := [(B99, .cells #[] 3)]) (m := 0) hf (hh.perm (.swap _ _ _)) Tryz.eb_28 rfl rfl ⟨rfl, .inr ⟨B99, 0, #[], rfl, rfl, Nat.le_refl _, Nat.zero_le _, rfl, rfl⟩⟩ (vw_vals (hV13 w (fun q hq => hh.get q (by simp [hq])))) ((WalM.ivs_len own).trans (Nat.mul_one _).symm) (by omega) (WalM.ivs_one own) (by simp only [maxLen]; omega) (by omega) (gon rfl rfl rfl (by first | assumption | rfl | (simp; done) | (simp; omega))) rfl ?_
                clear hf hh a; intro v3 X3 a w hO3 hf hh)
             rw [Nat.zero_add, List.nil_append] at hO3
             refine ops_end ?_
             refine then_n ⟨⟨fun _ _ => (AtE.of hh (by intro q hq; rw [List.mem_singleton.1 hq]; simp)), trivial⟩, ?_⟩
             refine mc_e rfl fun Q1 => ?_
             first
             | (refine ops_append (e := 3) (size := 1) (xs := WalM.ivs own) (news := [.int .i64 ((vn : Nat) : Int)]) (X := X3) (m := own.length) (q := 1) hf hh Tryz.eb_28 rfl rfl hO3 rfl rfl rfl (by simp only [maxLen]; omega) (by omega) (gon rfl rfl rfl (by first | assumption | rfl | (simp; done) | (simp; omega))) rfl ?_
                clear hf hh a; intro v4 X4 a w hO4 hf hh)
             | (refine ops_append (e := 3) (size := 1) (xs := WalM.ivs own) (news := [.int .i64 ((vn : Nat) : Int)]) (X := X3) (m := own.length) (q := 1) hf (hh.perm List.perm_middle) Tryz.eb_28 rfl rfl hO3 rfl rfl rfl (by simp only [maxLen]; omega) (by omega) (gon rfl rfl rfl (by first | assumption | rfl | (simp; done) | (simp; omega))) rfl ?_
                clear hf hh a; intro v4 X4 a w hO4 hf hh)
             replace hO4 : OwnSl 3 1 v4 (own.length + 1) (WalM.ivs (own ++ [vn])) X4 := by
               have e : WalM.ivs (own ++ [vn]) = WalM.ivs own ++ [.int .i64 ((vn : Nat) : Int)] := by unfold WalM.ivs; rw [List.map_append]; rfl
               rw [e]; exact hO4
             obtain ⟨oa4, cp4, e4, hV4⟩ := own_vw (l := own ++ [vn]) hO4
             rw [List.length_append] at e4
             replace e4 : v4 = .slice oa4 (own.length + 1) cp4 := e4
             subst e4
             refine ops_end ?_
             refine then_n ⟨⟨fun _ _ => (AtE.of hh (by intro q hq; rw [List.mem_singleton.1 hq]; simp)), trivial⟩, ?_⟩
             refine mc_e rfl fun Q1 => ?_
             refine o_call hf Tryz.en_10 rfl rfl rfl (k10 t p (ints (own ++ [vn])) (own.length + 1) (by rw [ints_len, List.length_append]; rfl) oa4 cp4 _ hn6 (hV4 w (fun q hq => hh.get q (by simp [hq]))) (by rw [ints_len, List.length_append]; show own.length + 1 ≤ _; omega)) ?_; clear hf a; intro v a w hR hf
             obtain ⟨rfl, hx⟩ := hR; replace hh := hh.more hx; clear hx
             refine ops_end ?_
             refine then_n ⟨⟨fun _ _ => (AtE.of hh (by intro q hq; rw [List.mem_singleton.1 hq]; simp)), trivial⟩, ?_⟩
             refine mc_p rfl   hf (y_pt rfl rfl) (.inl rfl) rfl rfl ?_; clear hf a; intro a hf
             refine mc_end ?_
             refine then_n ?_
             refine sy_cond hf rfl (fun hg47 => ?_) (fun hg47 => ?_)
             ·have hG47 := hg47; try simp only [gS] at hG47
              replace hh : Hp u [] ((B6, .cells (tmV tm).cells 27) :: (B5, .cells (touC t p) 25) :: (X ++ K)) w := by
                first
                | exact hh
                | exact hh.less (List.sublist_append_right _ _)
              have hod2 : OrdB t (own ++ [vn]) := ords_iff.1 (by assumption)
              refine sy_ops ?_
              refine o_v hf hh (yv_move rfl) ?_; clear hf a; intro a hf
              refine o_v hf hh (yv_move rfl) ?_; clear hf a; intro a hf
              refine ops_buildSl hf hh Tryz.bl_28_1 rfl rfl (.inl rfl) rfl ?_; clear hf hh; clear a; intro B109 a w hf hh
              refine ops_append (e := 3) (size := 1) (xs := WalM.ivs own) (news := [.int .i64 ((vn : Nat) : Int)]) (X := X) (m := own.length) (q := 1) hf (hh.perm (.cons _ (List.perm_append_comm_assoc [_, _] X K))) Tryz.eb_28 rfl rfl hOw rfl rfl rfl (by simp only [maxLen]; omega) (by omega) (.inl rfl) rfl ?_
              clear hf hh a; intro v5 X5 a w hO5 hf hh
              replace hh := hh.perm (List.perm_append_comm_assoc X5 [_, _] K)
              simp only [List.cons_append, List.nil_append] at hh
              replace hO5 : OwnSl 3 1 v5 (own ++ [vn]).length (WalM.ivs (own ++ [vn])) X5 := by
                have e : WalM.ivs (own ++ [vn]) = WalM.ivs own ++ [.int .i64 ((vn : Nat) : Int)] := by unfold WalM.ivs; rw [List.map_append]; rfl
                rw [e, List.length_append]; exact hO5
              refine o_v hf hh (yv_assign rfl) ?_; clear hf a; intro a hf
              refine ops_end ?_
              refine blk_n ?_
              refine then_n ?_
              refine sy_ops ?_
              refine o_v hf hh (y_add rfl rfl) ?_; clear hf a; intro a hf
              refine o_v hf hh (yv_move rfl) ?_; clear hf a; intro a hf
              refine ops_end ?_
              refine then_n ?_
              first
                | exact ⟨(i + 1, own ++ [vn], v5, X5), ⟨⟨by simp only; omega, hod2, hO5, hh⟩, (hf.head (by repeat' (first | exact True.intro | refine And.intro rfl ?_)) (Keep.cons rfl (Keep.cons rfl (Keep.cons rfl (Keep.cons rfl (Keep.cons rfl (Keep.cons rfl (Keep.cons rfl (Keep.cons rfl (Keep.cons rfl (Keep.cons rfl (Keep.cons rfl (Keep.cons rfl (Keep.cons rfl (Keep.cons rfl (Keep.cons rfl (Keep.cons rfl (Keep.cons rfl (Keep.cons rfl (Keep.cons rfl (Keep.cons rfl (Keep.cons rfl (Keep.cons rfl (Keep.cons rfl (Keep.cons rfl (Keep.cons rfl (Keep.cons rfl (Keep.cons rfl (Keep.cons rfl (Keep.cons rfl (Keep.cons rfl (Keep.cons rfl (Keep.cons rfl (Keep.cons rfl (Keep.cons rfl (Keep.app rfl (Keep.rm rfl Keep.base)))))))))))))))))))))))))))))))))))))⟩, by simp only; omega⟩
                | exact ⟨(i + 1, own, _, X), ⟨⟨by simp only; omega, hod, hOw, (by first | exact hh | exact hh.less (List.sublist_append_right _ _))⟩, (hf.head (by repeat' (first | exact True.intro | refine And.intro rfl ?_)) (Keep.cons rfl (Keep.cons rfl (Keep.cons rfl (Keep.cons rfl (Keep.cons rfl (Keep.cons rfl (Keep.cons rfl (Keep.cons rfl (Keep.cons rfl (Keep.cons rfl (Keep.cons rfl (Keep.cons rfl (Keep.cons rfl (Keep.cons rfl (Keep.cons rfl (Keep.cons rfl (Keep.cons rfl (Keep.cons rfl (Keep.cons rfl (Keep.cons rfl (Keep.cons rfl (Keep.cons rfl (Keep.cons rfl (Keep.cons rfl (Keep.cons rfl (Keep.cons rfl (Keep.cons rfl (Keep.cons rfl (Keep.cons rfl (Keep.cons rfl (Keep.cons rfl (Keep.cons rfl (Keep.cons rfl (Keep.cons rfl (Keep.app rfl (Keep.rm rfl Keep.base)))))))))))))))))))))))))))))))))))))⟩, by simp only; omega⟩
             ·have hG47 := hg47; try simp only [gS] at hG47
              refine sy_skip ?_
              refine blk_n ?_
              refine then_n ?_
              refine sy_ops ?_
              refine o_v hf hh (y_add rfl rfl) ?_; clear hf a; intro a hf
              refine o_v hf hh (yv_move rfl) ?_; clear hf a; intro a hf
              refine ops_end ?_
              refine then_n ?_
              first
                | exact ⟨(i + 1, own ++ [vn], v5, X5), ⟨⟨by simp only; omega, hod2, hO5, hh⟩, (hf.head (by repeat' (first | exact True.intro | refine And.intro rfl ?_)) (Keep.cons rfl (Keep.cons rfl (Keep.cons rfl (Keep.cons rfl (Keep.cons rfl (Keep.cons rfl (Keep.cons rfl (Keep.cons rfl (Keep.cons rfl (Keep.cons rfl (Keep.cons rfl (Keep.cons rfl (Keep.cons rfl (Keep.cons rfl (Keep.cons rfl (Keep.cons rfl (Keep.cons rfl (Keep.cons rfl (Keep.cons rfl (Keep.cons rfl (Keep.cons rfl (Keep.cons rfl (Keep.cons rfl (Keep.cons rfl (Keep.cons rfl (Keep.cons rfl (Keep.cons rfl (Keep.cons rfl (Keep.cons rfl (Keep.app rfl (Keep.rm rfl Keep.base))))))))))))))))))))))))))))))))⟩, by simp only; omega⟩
                | exact ⟨(i + 1, own, _, X), ⟨⟨by simp only; omega, hod, hOw, (by first | exact hh | exact hh.less (List.sublist_append_right _ _))⟩, (hf.head (by repeat' (first | exact True.intro | refine And.intro rfl ?_)) (Keep.cons rfl (Keep.cons rfl (Keep.cons rfl (Keep.cons rfl (Keep.cons rfl (Keep.cons rfl (Keep.cons rfl (Keep.cons rfl (Keep.cons rfl (Keep.cons rfl (Keep.cons rfl (Keep.cons rfl (Keep.cons rfl (Keep.cons rfl (Keep.cons rfl (Keep.cons rfl (Keep.cons rfl (Keep.cons rfl (Keep.cons rfl (Keep.cons rfl (Keep.cons rfl (Keep.cons rfl (Keep.cons rfl (Keep.cons rfl (Keep.cons rfl (Keep.cons rfl (Keep.cons rfl (Keep.cons rfl (Keep.cons rfl (Keep.app rfl (Keep.rm rfl Keep.base))))))))))))))))))))))))))))))))⟩, by simp only; omega⟩
           ·have hG33 := hg33; try simp only [gS] at hG33
            refine mc_offq rfl rfl (AtE.of hh (by intro q hq; rw [List.mem_singleton.1 hq]; simp)) hf (goff rfl rfl rfl (by first | assumption | rfl | (simp; done) | (simp; omega))) rfl rfl ?_; clear hf a; intro a hf
            refine mc_off rfl hf (goff rfl rfl rfl (by first | assumption | rfl | (simp; done) | (simp; omega))) rfl rfl ?_; clear hf a; intro a hf
            refine mc_off rfl hf (goff rfl rfl rfl (by first | assumption | rfl | (simp; done) | (simp; omega))) rfl rfl ?_; clear hf a; intro a hf
            refine ⟨?_, ?_⟩
            ·refine mc_e rfl fun Q1 => ?_
             refine o_off hf ?_; clear hf a; intro a hf
             refine ops_end ?_
             refine then_n ⟨⟨fun _ _ => (AtE.of hh (by intro q hq; rw [List.mem_singleton.1 hq]; simp)), trivial⟩, ?_⟩
             refine ⟨?_, ?_⟩
             ·refine mc_e rfl fun Q1 => ?_
              refine o_off hf ?_; clear hf a; intro a hf
              refine ops_end ?_
              refine then_n ⟨⟨fun _ _ => (AtE.of hh (by intro q hq; rw [List.mem_singleton.1 hq]; simp)), trivial⟩, ?_⟩
              refine mc_e rfl fun Q1 => ?_
              refine o_off hf ?_; clear hf a; intro a hf
              refine ops_end ?_
              refine then_n ⟨⟨fun _ _ => (AtE.of hh (by intro q hq; rw [List.mem_singleton.1 hq]; simp)), trivial⟩, ?_⟩
              refine mc_e rfl fun Q1 => ?_
              refine o_off hf ?_; clear hf a; intro a hf
              refine ops_end ?_
              refine then_n ⟨⟨fun _ _ => (AtE.of hh (by intro q hq; rw [List.mem_singleton.1 hq]; simp)), trivial⟩, ?_⟩
              refine mc_e rfl fun Q1 => ?_
              refine o_off hf ?_; clear hf a; intro a hf
              refine ops_end ?_
              refine then_n ⟨⟨fun _ _ => (AtE.of hh (by intro q hq; rw [List.mem_singleton.1 hq]; simp)), trivial⟩, ?_⟩
              refine mc_p rfl   hf (y_pf rfl rfl) (.inl rfl) rfl rfl ?_; clear hf a; intro a hf
              refine mc_end ?_
              refine then_n ?_
              refine c_f hf ?_
              refine sy_skip ?_
              refine blk_n ?_
              refine then_n ?_
              refine sy_ops ?_
              refine o_v hf hh (y_add rfl rfl) ?_; clear hf a; intro a hf
              refine o_v hf hh (yv_move rfl) ?_; clear hf a; intro a hf
              refine ops_end ?_
              refine then_n ?_
              first
                | exact ⟨(i + 1, own ++ [vn], v5, X5), ⟨⟨by simp only; omega, hod2, hO5, hh⟩, (hf.head (by repeat' (first | exact True.intro | refine And.intro rfl ?_)) (Keep.cons rfl (Keep.cons rfl (Keep.cons rfl (Keep.cons rfl (Keep.cons rfl (Keep.cons rfl (Keep.cons rfl (Keep.cons rfl (Keep.cons rfl (Keep.cons rfl (Keep.cons rfl (Keep.cons rfl (Keep.cons rfl (Keep.cons rfl (Keep.cons rfl (Keep.cons rfl (Keep.cons rfl (Keep.cons rfl (Keep.cons rfl (Keep.cons rfl (Keep.cons rfl (Keep.cons rfl (Keep.cons rfl (Keep.cons rfl (Keep.cons rfl (Keep.cons rfl (Keep.cons rfl (Keep.cons rfl (Keep.cons rfl (Keep.app rfl (Keep.rm rfl Keep.base))))))))))))))))))))))))))))))))⟩, by simp only; omega⟩
                | exact ⟨(i + 1, own, _, X), ⟨⟨by simp only; omega, hod, hOw, (by first | exact hh | exact hh.less (List.sublist_append_right _ _))⟩, (hf.head (by repeat' (first | exact True.intro | refine And.intro rfl ?_)) (Keep.cons rfl (Keep.cons rfl (Keep.cons rfl (Keep.cons rfl (Keep.cons rfl (Keep.cons rfl (Keep.cons rfl (Keep.cons rfl (Keep.cons rfl (Keep.cons rfl (Keep.cons rfl (Keep.cons rfl (Keep.cons rfl (Keep.cons rfl (Keep.cons rfl (Keep.cons rfl (Keep.cons rfl (Keep.cons rfl (Keep.cons rfl (Keep.cons rfl (Keep.cons rfl (Keep.cons rfl (Keep.cons rfl (Keep.cons rfl (Keep.cons rfl (Keep.cons rfl (Keep.cons rfl (Keep.cons rfl (Keep.cons rfl (Keep.app rfl (Keep.rm rfl Keep.base))))))))))))))))))))))))))))))))⟩, by simp only; omega⟩
             ·refine mc_e rfl fun Q1 => ?_
              refine o_off hf ?_; clear hf a; intro a hf
              refine ops_end ?_
              refine then_n ⟨⟨fun _ _ => (AtE.of hh (by intro q hq; rw [List.mem_singleton.1 hq]; simp)), trivial⟩, ?_⟩
              refine mc_e rfl fun Q1 => ?_
              refine o_off hf ?_; clear hf a; intro a hf
              refine ops_end ?_
              refine then_n ⟨⟨fun _ _ => (AtE.of hh (by intro q hq; rw [List.mem_singleton.1 hq]; simp)), trivial⟩, ?_⟩
              refine mc_e rfl fun Q1 => ?_
              refine o_off hf ?_; clear hf a; intro a hf
              refine ops_end ?_
              refine then_n ⟨⟨fun _ _ => (AtE.of hh (by intro q hq; rw [List.mem_singleton.1 hq]; simp)), trivial⟩, ?_⟩
              refine mc_e rfl fun Q1 => ?_
              refine o_off hf ?_; clear hf a; intro a hf
              refine ops_end ?_
              refine then_n ⟨⟨fun _ _ => (AtE.of hh (by intro q hq; rw [List.mem_singleton.1 hq]; simp)), trivial⟩, ?_⟩
              refine mc_p rfl   hf (y_pf rfl rfl) (.inl rfl) rfl rfl ?_; clear hf a; intro a hf
              refine mc_end ?_
              refine then_n ?_
              refine c_f hf ?_
              refine sy_skip ?_
              refine blk_n ?_
              refine then_n ?_
              refine sy_ops ?_
              refine o_v hf hh (y_add rfl rfl) ?_; clear hf a; intro a hf
              refine o_v hf hh (yv_move rfl) ?_; clear hf a; intro a hf
              refine ops_end ?_
              refine then_n ?_
              first
                | exact ⟨(i + 1, own ++ [vn], v5, X5), ⟨⟨by simp only; omega, hod2, hO5, hh⟩, (hf.head (by repeat' (first | exact True.intro | refine And.intro rfl ?_)) (Keep.cons rfl (Keep.cons rfl (Keep.cons rfl (Keep.cons rfl (Keep.cons rfl (Keep.cons rfl (Keep.cons rfl (Keep.cons rfl (Keep.cons rfl (Keep.cons rfl (Keep.cons rfl (Keep.cons rfl (Keep.cons rfl (Keep.cons rfl (Keep.cons rfl (Keep.cons rfl (Keep.cons rfl (Keep.cons rfl (Keep.cons rfl (Keep.cons rfl (Keep.cons rfl (Keep.cons rfl (Keep.cons rfl (Keep.cons rfl (Keep.cons rfl (Keep.cons rfl (Keep.cons rfl (Keep.cons rfl (Keep.cons rfl (Keep.app rfl (Keep.rm rfl Keep.base))))))))))))))))))))))))))))))))⟩, by simp only; omega⟩
                | exact ⟨(i + 1, own, _, X), ⟨⟨by simp only; omega, hod, hOw, (by first | exact hh | exact hh.less (List.sublist_append_right _ _))⟩, (hf.head (by repeat' (first | exact True.intro | refine And.intro rfl ?_)) (Keep.cons rfl (Keep.cons rfl (Keep.cons rfl (Keep.cons rfl (Keep.cons rfl (Keep.cons rfl (Keep.cons rfl (Keep.cons rfl (Keep.cons rfl (Keep.cons rfl (Keep.cons rfl (Keep.cons rfl (Keep.cons rfl (Keep.cons rfl (Keep.cons rfl (Keep.cons rfl (Keep.cons rfl (Keep.cons rfl (Keep.cons rfl (Keep.cons rfl (Keep.cons rfl (Keep.cons rfl (Keep.cons rfl (Keep.cons rfl (Keep.cons rfl (Keep.cons rfl (Keep.cons rfl (Keep.cons rfl (Keep.cons rfl (Keep.app rfl (Keep.rm rfl Keep.base))))))))))))))))))))))))))))))))⟩, by simp only; omega⟩
            ·refine mc_e rfl fun Q1 => ?_
             refine o_off hf ?_; clear hf a; intro a hf
             refine ops_end ?_
             refine then_n ⟨⟨fun _ _ => (AtE.of hh (by intro q hq; rw [List.mem_singleton.1 hq]; simp)), trivial⟩, ?_⟩
             refine mc_e rfl fun Q1 => ?_
             refine o_off hf ?_; clear hf a; intro a hf
             refine ops_end ?_
             refine then_n ⟨⟨fun _ _ => (AtE.of hh (by intro q hq; rw [List.mem_singleton.1 hq]; simp)), trivial⟩, ?_⟩
             refine mc_e rfl fun Q1 => ?_
             refine o_off hf ?_; clear hf a; intro a hf
             refine ops_end ?_
             refine then_n ⟨⟨fun _ _ => (AtE.of hh (by intro q hq; rw [List.mem_singleton.1 hq]; simp)), trivial⟩, ?_⟩
             refine mc_e rfl fun Q1 => ?_
             refine o_off hf ?_; clear hf a; intro a hf
             refine ops_end ?_
             refine then_n ⟨⟨fun _ _ => (AtE.of hh (by intro q hq; rw [List.mem_singleton.1 hq]; simp)), trivial⟩, ?_⟩
             refine mc_e rfl fun Q1 => ?_
             refine o_off hf ?_; clear hf a; intro a hf
             refine ops_end ?_
             refine then_n ⟨⟨fun _ _ => (AtE.of hh (by intro q hq; rw [List.mem_singleton.1 hq]; simp)), trivial⟩, ?_⟩
             refine mc_p rfl   hf (y_pf rfl rfl) (.inl rfl) rfl rfl ?_; clear hf a; intro a hf
             refine mc_end ?_
             refine then_n ?_
             refine c_f hf ?_
             refine sy_skip ?_
             refine blk_n ?_
             refine then_n ?_
             refine sy_ops ?_
             refine o_v hf hh (y_add rfl rfl) ?_; clear hf a; intro a hf
             refine o_v hf hh (yv_move rfl) ?_; clear hf a; intro a hf
             refine ops_end ?_
             refine then_n ?_
             first
               | exact ⟨(i + 1, own ++ [vn], v5, X5), ⟨⟨by simp only; omega, hod2, hO5, hh⟩, (hf.head (by repeat' (first | exact True.intro | refine And.intro rfl ?_)) (Keep.cons rfl (Keep.cons rfl (Keep.cons rfl (Keep.cons rfl (Keep.cons rfl (Keep.cons rfl (Keep.cons rfl (Keep.cons rfl (Keep.cons rfl (Keep.cons rfl (Keep.cons rfl (Keep.cons rfl (Keep.cons rfl (Keep.cons rfl (Keep.cons rfl (Keep.cons rfl (Keep.cons rfl (Keep.cons rfl (Keep.cons rfl (Keep.cons rfl (Keep.cons rfl (Keep.cons rfl (Keep.cons rfl (Keep.cons rfl (Keep.cons rfl (Keep.cons rfl (Keep.cons rfl (Keep.cons rfl (Keep.cons rfl (Keep.app rfl (Keep.rm rfl Keep.base))))))))))))))))))))))))))))))))⟩, by simp only; omega⟩
               | exact ⟨(i + 1, own, _, X), ⟨⟨by simp only; omega, hod, hOw, (by first | exact hh | exact hh.less (List.sublist_append_right _ _))⟩, (hf.head (by repeat' (first | exact True.intro | refine And.intro rfl ?_)) (Keep.cons rfl (Keep.cons rfl (Keep.cons rfl (Keep.cons rfl (Keep.cons rfl (Keep.cons rfl (Keep.cons rfl (Keep.cons rfl (Keep.cons rfl (Keep.cons rfl (Keep.cons rfl (Keep.cons rfl (Keep.cons rfl (Keep.cons rfl (Keep.cons rfl (Keep.cons rfl (Keep.cons rfl (Keep.cons rfl (Keep.cons rfl (Keep.cons rfl (Keep.cons rfl (Keep.cons rfl (Keep.cons rfl (Keep.cons rfl (Keep.cons rfl (Keep.cons rfl (Keep.cons rfl (Keep.cons rfl (Keep.cons rfl (Keep.app rfl (Keep.rm rfl Keep.base))))))))))))))))))))))))))))))))⟩, by simp only; omega⟩
          ·have hG28 := hg28; try simp only [gS] at hG28
           refine sy_exit ?_
           refine then_e ?_
           refine then_e ?_
           refine blk_e ?_
           refine then_n ?_
           refine sy_seq ?_
           have hc1 := comE_ok (price := price) htb ⟨hp0, hp1⟩ hll
           have hc2 := comE_ok (price := price) htb ⟨hp0, hp1⟩ hlo
           refine sy_ops ?_
           refine o_v hf hh (y_lds Tryz.ag_27 rfl) ?_; clear hf a; intro a hf
           refine o_v hf hh (yv_move rfl) ?_; clear hf a; intro a hf
           refine o_v hf hh (yv_move rfl) ?_; clear hf a; intro a hf
           refine o_v hf hh (yv_len Tryz.se_28 rfl) ?_; clear hf a; intro a hf
           refine o_call hf Tryz.en_11 rfl rfl rfl (p17 tm price ((l.length : Nat) : Int) _) ?_; clear hf a; intro v a w hR hf
           obtain ⟨rfl, hx⟩ := hR; rw [hc1.1, hc1.2] at hf; replace hh := hh.more hx; clear hx
           refine o_v hf hh (yv_move rfl) ?_; clear hf a; intro a hf
           refine o_v hf hh (yv_extract rfl rfl) ?_; clear hf a; intro a hf
           refine o_v hf hh (yv_extract rfl rfl) ?_; clear hf a; intro a hf
           refine o_v hf hh (yv_assign rfl) ?_; clear hf a; intro a hf
           refine o_v hf hh (yv_assign rfl) ?_; clear hf a; intro a hf
           refine o_end ?_
           refine sy_sq ?_
           refine o_v hf hh (y_lds Tryz.ag_27 rfl) ?_; clear hf a; intro a hf
           refine o_v hf hh (yv_move rfl) ?_; clear hf a; intro a hf
           refine o_v hf hh (yv_move rfl) ?_; clear hf a; intro a hf
           refine o_v hf hh (yv_len Tryz.se_28 rfl) ?_; clear hf a; intro a hf
           refine o_call hf Tryz.en_11 rfl rfl rfl (p17 tm price ((own.length : Nat) : Int) _) ?_; clear hf a; intro v a w hR hf
           obtain ⟨rfl, hx⟩ := hR; rw [hc2.1, hc2.2] at hf; replace hh := hh.more hx; clear hx
           refine o_v hf hh (yv_move rfl) ?_; clear hf a; intro a hf
           refine o_v hf hh (yv_extract rfl rfl) ?_; clear hf a; intro a hf
           refine o_v hf hh (yv_extract rfl rfl) ?_; clear hf a; intro a hf
           refine o_v hf hh (yv_assign rfl) ?_; clear hf a; intro a hf
           refine o_v hf hh (yv_assign rfl) ?_; clear hf a; intro a hf
           refine o_end ?_
           refine sy_sq ?_
           refine o_v hf hh (y_lds Tryz.ag_25 rfl) ?_; clear hf a; intro a hf
           refine o_v hf hh (yv_move rfl) ?_; clear hf a; intro a hf
           refine o_call hf Tryz.en_12 rfl rfl rfl (k12 t p _ (hAt.ext hh.ext) hok own oa13 cp13 (hV13 w (fun q hq => hh.get q (by simp [hq]))) (ords_iff.2 hod) (ord_lt hod) hlo) ?_; clear hf a; intro v a w hR hf
           obtain ⟨rfl, hx⟩ := hR; replace hh := hh.more hx; clear hx
           refine o_v hf hh (yv_move rfl) ?_; clear hf a; intro a hf
           refine o_v hf hh (yv_extract rfl rfl) ?_; clear hf a; intro a hf
           refine o_v hf hh (yv_extract rfl rfl) ?_; clear hf a; intro a hf
           refine o_v hf hh (yv_assign rfl) ?_; clear hf a; intro a hf
           refine o_v hf hh (yv_assign rfl) ?_; clear hf a; intro a hf
           refine o_end ?_
           refine sy_cut (σ := Unit) [10, 134, 135, 136, 137, 138, 139, 140, 141, 142, 143, 144, 145, 146, 147, 148, 149, 150, 151, 152] (fun q => []) (fun q => fun w' => Hp u [] ((B6, .cells (tmV tm).cells 27) :: (B5, .cells (touC t p) 25) :: (X ++ K)) w') hf ?_ ?_
           ·refine sy_sq ?_
            refine o_v hf hh (yv_move rfl) ?_; clear hf a; intro a hf
            refine o_v hf hh (yv_bin rfl rfl rfl) ?_; clear hf a; intro a hf
            refine o_v hf hh (yv_move rfl) ?_; clear hf a; intro a hf
            refine o_v hf hh (yv_move rfl) ?_; clear hf a; intro a hf
            refine o_v hf hh (yv_bin rfl rfl rfl) ?_; clear hf a; intro a hf
            refine o_v hf hh (y_pf rfl rfl) ?_; clear hf a; intro a hf
            refine o_v hf hh (yv_move rfl) ?_; clear hf a; intro a hf
            refine o_v hf hh (yv_move rfl) ?_; clear hf a; intro a hf
            refine o_v hf hh (yv_bin rfl rfl rfl) ?_; clear hf a; intro a hf
            refine o_v hf hh (y_pf rfl rfl) ?_; clear hf a; intro a hf
            refine o_v hf hh (yv_move rfl) ?_; clear hf a; intro a hf
            refine o_v hf hh (yv_move rfl) ?_; clear hf a; intro a hf
            refine o_v hf hh (yv_bin rfl rfl rfl) ?_; clear hf a; intro a hf
            refine o_v hf hh (yv_move rfl) ?_; clear hf a; intro a hf
            refine guard_split hf (t := 147) rfl (fun hg62 => ?_) (fun hg62 => ?_)
            ·have hG62 := hg62; try simp only [gS] at hG62
             refine o_v hf hh (yv_move rfl) ?_; clear hf a; intro a hf
             refine o_v hf hh (yv_move rfl) ?_; clear hf a; intro a hf
             have hsu : surB t own = true := by
               have hw2 : walN t own = 2 := by assumption
               unfold walN at hw2
               cases h : surB t own
               · rw [h, if_neg (by decide)] at hw2
                 split at hw2 <;> omega
               · rfl
             have hle := com_sure hTm ⟨hp0, hp1⟩ hSh hO hod hsu
             rw [← hl] at hle
             refine o_v hf hh (yv_bin rfl rfl rfl) ?_; clear hf a; intro a hf
             refine o_v hf hh (y_pt rfl rfl) ?_; clear hf a; intro a hf
             refine o_v hf hh (y_pf rfl rfl) ?_; clear hf a; intro a hf
             refine o_end ?_
             refine c_f hf ?_
             refine sy_skip ?_
             refine then_n ?_
             exact ⟨(), hh, hf.head True.intro (Keep.cons rfl (Keep.cons rfl (Keep.cons rfl (Keep.cons rfl (Keep.cons rfl (Keep.cons rfl (Keep.cons rfl (Keep.cons rfl (Keep.cons rfl (Keep.cons rfl (Keep.cons rfl (Keep.cons rfl (Keep.cons rfl (Keep.cons rfl (Keep.cons rfl (Keep.cons rfl (Keep.cons rfl (Keep.cons rfl (Keep.cons rfl (Keep.base))))))))))))))))))))⟩
            ·have hG62 := hg62; try simp only [gS] at hG62
             refine o_off hf ?_; clear hf a; intro a hf
             refine o_off hf ?_; clear hf a; intro a hf
             refine o_off hf ?_; clear hf a; intro a hf
             refine o_v hf hh (y_pf rfl rfl) ?_; clear hf a; intro a hf
             refine o_v hf hh (y_pf rfl rfl) ?_; clear hf a; intro a hf
             refine o_end ?_
             refine c_f hf ?_
             refine sy_skip ?_
             refine then_n ?_
             exact ⟨(), hh, hf.head True.intro (Keep.cons rfl (Keep.cons rfl (Keep.cons rfl (Keep.cons rfl (Keep.cons rfl (Keep.cons rfl (Keep.cons rfl (Keep.cons rfl (Keep.cons rfl (Keep.cons rfl (Keep.cons rfl (Keep.cons rfl (Keep.cons rfl (Keep.cons rfl (Keep.cons rfl (Keep.cons rfl (Keep.cons rfl (Keep.cons rfl (Keep.cons rfl (Keep.base))))))))))))))))))))⟩
           ·rintro q a w hh hf
            refine sy_sq ?_
            refine o_v hf hh (y_lds Tryz.ag_27 rfl) ?_; clear hf a; intro a hf
            refine ops_buildSl hf hh Tryz.bl_41_1 rfl rfl (.inl rfl) rfl ?_; clear hf hh; clear a; intro B154 a w hf hh
            refine o_v hf hh (yv_move rfl) ?_; clear hf a; intro a hf
            refine ops_buildSl hf hh Tryz.bl_28_1 rfl rfl (.inl rfl) rfl ?_; clear hf hh; clear a; intro B156 a w hf hh
            refine o_v hf hh (yv_move rfl) ?_; clear hf a; intro a hf
            refine ops_buildSl hf hh Tryz.bl_42_1 rfl rfl (.inl rfl) rfl ?_; clear hf hh; clear a; intro B158 a w hf hh
            refine ops_buildSl hf hh Tryz.bl_28_1 rfl rfl (.inl rfl) rfl ?_; clear hf hh; clear a; intro B159 a w hf hh
            refine o_v hf hh (yv_buildS Tryz.bs_45 rfl rfl) ?_; clear hf a; intro a hf
            refine o_alloc hf hh Tryz.ze_45 ?_; clear hf hh a; intro B23 a w hf hh
            refine o_store hf hh Tryz.sz_45 fun w hh => ?_
            refine o_end ?_
            refine sy_seq ?_
            refine sy_seq ?_
            obtain ⟨R, hRd⟩ : ∃ R, R = ((B6, .cells (tmV tm).cells 27) :: (B5, .cells (touC t p) 25) :: (X ++ K)) := ⟨_, rfl⟩
            replace hh : Hp u [] ((B23, .cells #[.slice (some ⟨B154, 0, none⟩) 1 1, .slice (some ⟨B156, 0, none⟩) 1 1, .slice (some ⟨B158, 0, none⟩) 1 1, .slice none 0 0, .slice (some ⟨B159, 0, none⟩) 1 1] 45) :: (B159, .cells #[.int .i64 0] 3) :: (B158, .cells #[.slice ss sh.length cs] 28) :: (B156, .cells #[.int .i64 price] 3) :: (B154, .cells (tmV tm).cells 27) :: R) w := by rw [hRd]; exact hh
            refine sy_ops ?_
            refine o_v hf hh (yv_move rfl) ?_; clear hf a; intro a hf
            refine o_v hf hh (yv_len Tryz.se_28 rfl) ?_; clear hf a; intro a hf
            refine o_v hf hh (yv_move rfl) ?_; clear hf a; intro a hf
            refine o_end ?_
            refine sy_block ?_
            refine sy_loopH (σ := Nat × Value × List (Nat × Obj)) [24, 163, 164, 165, 166, 167, 168, 169, 170, 171, 172, 173, 174] (fun s => [(163, .int .i64 (s.1 : Nat))]) (fun s => fun w' => s.1 ≤ l.length ∧ OwnSl 47 4 s.2.1 s.1 (rpsC s.1) s.2.2 ∧ Hp u [] ((B23, .cells #[.slice (some ⟨B154, 0, none⟩) 1 1, .slice (some ⟨B156, 0, none⟩) 1 1, .slice (some ⟨B158, 0, none⟩) 1 1, s.2.1, .slice (some ⟨B159, 0, none⟩) 1 1] 45) :: (B159, .cells #[.int .i64 0] 3) :: (B158, .cells #[.slice ss sh.length cs] 28) :: (B156, .cells #[.int .i64 price] 3) :: (B154, .cells (tmV tm).cells 27) :: (s.2.2 ++ R)) w') (fun s => l.length - s.1) ((0, .slice none 0 0, [])) hf ?_ ?_ ?_
            · repeat' (first | exact True.intro | refine And.intro rfl ?_)
            · exact ⟨Nat.zero_le _, OwnSl.nil _ _, hh⟩
            ·rintro s a w ⟨hi2, hO2, hh⟩ hf
             obtain ⟨i, v2, X2⟩ := s; simp only at hi2 hO2 hh hf ⊢
             refine sy_sq ?_
             refine o_v hf hh (yv_bin rfl rfl rfl) ?_; clear hf a; intro a hf
             refine o_end ?_
             refine sy_seq ?_
             refine sy_cond hf rfl (fun hg65 => ?_) (fun hg65 => ?_)
             ·have hG65 := hg65; try simp only [gS] at hG65
              refine sy_skip ?_
              refine then_n ?_
              refine sy_seq ?_
              refine sy_block ?_
              refine sy_sq ?_
              refine o_v hf hh (yv_move rfl) ?_; clear hf a; intro a hf
              refine o_v hf hh (yv_assign rfl) ?_; clear hf a; intro a hf
              refine o_end ?_
              refine sy_ops ?_
              refine o_v hf hh (yv_fieldAddr Tryz.fo_45_3 rfl) ?_; clear hf a; intro a hf
              refine o_v hf hh (y_ld Tryz.sc_43 rfl) ?_; clear hf a; intro a hf
              refine o_v hf hh (yv_move rfl) ?_; clear hf a; intro a hf
              refine o_v hf hh (yv_move rfl) ?_; clear hf a; intro a hf
              refine o_v hf hh (yv_buildS Tryz.bs_47 rfl rfl) ?_; clear hf a; intro a hf
              refine ops_buildSl hf hh Tryz.bl_43_1 rfl rfl (.inl rfl) rfl ?_; clear hf hh; clear a; intro B171 a w hf hh
              refine ops_append (e := 47) (size := 4) (xs := rpsC i) (news := rpC (rndR i)) (X := X2) (m := i) (q := 1) hf (hh.perm (.cons _ (List.perm_append_comm_assoc [_, _, _, _, _] X2 R))) Tryz.eb_43 rfl rfl hO2 rfl rfl rfl (by simp only [maxLen]; omega) (by omega) (.inl rfl) rfl ?_
              clear hf hh a; intro v3 X3 a w hO3 hf hh
              replace hh := hh.perm (List.perm_append_comm_assoc X3 [_, _, _, _, _] R)
              simp only [List.cons_append, List.nil_append] at hh
              replace hO3 : OwnSl 47 4 v3 (i + 1) (rpsC (i + 1)) X3 := by rw [rps_snoc]; exact hO3
              obtain ⟨oa3, cp3, rfl⟩ := own_val hO3
              refine o_v hf hh (yv_fieldAddr Tryz.fo_45_3 rfl) ?_; clear hf a; intro a hf
              refine o_store (i := 0) hf hh Tryz.sz_43 fun w hh => ?_
              replace hh : Hp u [] ((B23, .cells #[.slice (some ⟨B154, 0, none⟩) 1 1, .slice (some ⟨B156, 0, none⟩) 1 1, .slice (some ⟨B158, 0, none⟩) 1 1, .slice oa3 (i + 1) cp3, .slice (some ⟨B159, 0, none⟩) 1 1] 45) :: (B159, .cells #[.int .i64 0] 3) :: (B158, .cells #[.slice ss sh.length cs] 28) :: (B156, .cells #[.int .i64 price] 3) :: (B154, .cells (tmV tm).cells 27) :: (X3 ++ R)) w := hh
              refine ops_end ?_
              refine blk_n ?_
              refine then_n ?_
              refine sy_ops ?_
              refine o_v hf hh (y_add rfl rfl) ?_; clear hf a; intro a hf
              refine o_v hf hh (yv_move rfl) ?_; clear hf a; intro a hf
              refine ops_end ?_
              refine then_n ?_
              exact ⟨(i + 1, _, X3), ⟨⟨by simp only; omega, hO3, hh⟩, (hf.head (by repeat' (first | exact True.intro | refine And.intro rfl ?_)) (Keep.cons rfl (Keep.cons rfl (Keep.cons rfl (Keep.cons rfl (Keep.cons rfl (Keep.cons rfl (Keep.cons rfl (Keep.cons rfl (Keep.cons rfl (Keep.cons rfl (Keep.cons rfl (Keep.cons rfl (Keep.cons rfl (Keep.app rfl (Keep.rm rfl Keep.base))))))))))))))))⟩, by simp only; omega⟩
             ·have hG65 := hg65; try simp only [gS] at hG65
              refine sy_exit ?_
              refine then_e ?_
              refine then_e ?_
              refine blk_e ?_
              refine then_n ?_
              refine sy_seq ?_
              obtain rfl : i = l.length := by omega
              obtain ⟨sr, cr, rfl, hcr, hTr⟩ := own_rps hO2
              obtain ⟨d, hd⟩ : ∃ d, d = rndD tm price sh l.length := ⟨_, rfl⟩
              obtain ⟨pl, hpl⟩ : ∃ pl : Pl, pl = ⟨some ⟨B154, 0, none⟩, some ⟨B156, 0, none⟩, some ⟨B158, 0, none⟩, sr, some ⟨B159, 0, none⟩, 1, 1, 1, cr, 1⟩ := ⟨_, rfl⟩
              have hroy : royC d pl = #[.slice (some ⟨B154, 0, none⟩) 1 1, .slice (some ⟨B156, 0, none⟩) 1 1, .slice (some ⟨B158, 0, none⟩) 1 1, .slice sr l.length cr, .slice (some ⟨B159, 0, none⟩) 1 1] := by
                subst hd hpl
                unfold royC rndD
                simp only [List.length_map, List.length_range]; rfl
              have hRy : ∀ w2 : World, Ext [] u w2 → (∀ q ∈ ((B159, .cells #[.int .i64 0] 3) :: (B158, .cells #[.slice ss sh.length cs] 28) :: (B156, .cells #[.int .i64 price] 3) :: (B154, .cells (tmV tm).cells 27) :: X2), w2.heap[q.1]? = some q.2) → RoyAt w2 d pl := fun w2 e2 hw => by
                subst hd hpl
                refine ⟨tat_cells (hw _ (.tail _ (.tail _ (.tail _ (.head _))))), iat_cells (hw _ (.tail _ (.tail _ (.head _)))), lat_cells (hw _ (.tail _ (.head _))) (hS.ext e2), hTr w2 (fun q hq => hw q (.tail _ (.tail _ (.tail _ (.tail _ hq))))), iat_cells (hw _ (.head _)), by show 1 ≤ 1000; omega, by show 1 ≤ 1000; omega, by show 1 ≤ 1000; omega, by show ((List.range l.length).map rndR).length ≤ 1000; rw [List.length_map, List.length_range]; omega, by show 1 ≤ 1000; omega, fun z hz => ?_, by show ((List.range l.length).map rndR).length ≤ cr; rw [List.length_map, List.length_range]; exact hcr⟩
                rw [List.mem_singleton.1 hz]
                have := hSh.n2
                omega
              obtain ⟨ho1, ho2⟩ := rnd_owe hTm ⟨hp0, hp1⟩ hll hSh
              obtain ⟨ha1, ha2⟩ := rnd_all hTm ⟨hp0, hp1⟩ hll hSh
              obtain ⟨hg0, hg1, hg2, hg3, hg4, hg5⟩ := rnd_get hTm ⟨hp0, hp1⟩ hll hSh
              rw [← hd] at ho1 ho2 ha1 ha2 hg5
              obtain ⟨cm, hcm⟩ : ∃ cm, cm = comV tm price (l.length : Nat) := ⟨_, rfl⟩
              obtain ⟨PP, hPP⟩ : ∃ PP, PP = ((l.length : Nat) : Int) * price - cm := ⟨_, rfl⟩
              rw [← hcm] at ho2 ha2 hg0 hg1 hg2 hg3 hg4 hg5 hf
              rw [← hPP] at hg1 hg2 hg3 hg4 hg5
              have hmp : 0 ≤ ((l.length : Nat) : Int) * price ∧ ((l.length : Nat) : Int) * price ≤ 6 * 1048576 := ⟨Int.mul_nonneg (by omega) hp0, Int.mul_le_mul (by omega) hp1 hp0 (by omega)⟩
              refine sy_ops ?_
              refine o_v hf hh (y_lds Tryz.ag_45 rfl) ?_; clear hf a; intro a hf
              have hcon := p25 d pl 0 w (hRy _ hh.ext (fun q hq => hh.get q (by
                simp only [List.mem_cons, List.mem_append] at hq ⊢
                rcases hq with h | h | h | h | h <;> simp [h])))
              rw [hroy] at hcon
              refine o_call hf Tryz.en_13 rfl rfl rfl hcon ?_; clear hf a hcon; intro v a w hR hf
              obtain ⟨rfl, hx⟩ := hR; rw [ho1, ho2] at hf; replace hh := hh.more hx; clear hx
              refine o_v hf hh (yv_move rfl) ?_; clear hf a; intro a hf
              refine o_v hf hh (yv_extract rfl rfl) ?_; clear hf a; intro a hf
              refine o_v hf hh (yv_extract rfl rfl) ?_; clear hf a; intro a hf
              refine o_alloc hf hh Tryz.ze_49 ?_; clear hf hh a; intro B25 a w hf hh
              refine o_store hf hh Tryz.sz_49 fun w hh => ?_
              refine o_v hf hh (yv_assign rfl) ?_; clear hf a; intro a hf
              refine o_end ?_
              refine sy_seq ?_
              replace hh : Hp u [] ((B25, .cells #[.int .i64 cm, .int .i64 cm] 49) :: ((B23, .cells #[.slice (some ⟨B154, 0, none⟩) 1 1, .slice (some ⟨B156, 0, none⟩) 1 1, .slice (some ⟨B158, 0, none⟩) 1 1, .slice sr l.length cr, .slice (some ⟨B159, 0, none⟩) 1 1] 45) :: (B159, .cells #[.int .i64 0] 3) :: (B158, .cells #[.slice ss sh.length cs] 28) :: (B156, .cells #[.int .i64 price] 3) :: (B154, .cells (tmV tm).cells 27) :: (X2 ++ R))) w := hh
              refine sy_ops ?_
              refine o_v hf hh (y_lds Tryz.ag_45 rfl) ?_; clear hf a; intro a hf
              have hcon := p28 d pl 0 w (hRy _ hh.ext (fun q hq => hh.get q (by
                simp only [List.mem_cons, List.mem_append] at hq ⊢
                rcases hq with h | h | h | h | h <;> simp [h])))
              rw [hroy] at hcon
              refine o_call hf Tryz.en_14 rfl rfl rfl hcon ?_; clear hf a hcon; intro v a w hR hf
              obtain ⟨rfl, hx⟩ := hR; rw [ha1, ha2] at hf; replace hh := hh.more hx; clear hx
              refine o_v hf hh (yv_move rfl) ?_; clear hf a; intro a hf
              refine o_v hf hh (yv_extract rfl rfl) ?_; clear hf a; intro a hf
              refine o_v hf hh (yv_extract rfl rfl) ?_; clear hf a; intro a hf
              refine o_alloc hf hh Tryz.ze_49 ?_; clear hf hh a; intro B27 a w hf hh
              refine o_store hf hh Tryz.sz_49 fun w hh => ?_
              refine o_v hf hh (yv_assign rfl) ?_; clear hf a; intro a hf
              refine o_end ?_
              refine sy_seq ?_
              refine sy_seq ?_
              replace hh : Hp u [] ((B27, .cells #[.int .i64 cm, .int .i64 cm] 49) :: (B25, .cells #[.int .i64 cm, .int .i64 cm] 49) :: ((B23, .cells #[.slice (some ⟨B154, 0, none⟩) 1 1, .slice (some ⟨B156, 0, none⟩) 1 1, .slice (some ⟨B158, 0, none⟩) 1 1, .slice sr l.length cr, .slice (some ⟨B159, 0, none⟩) 1 1] 45) :: (B159, .cells #[.int .i64 0] 3) :: (B158, .cells #[.slice ss sh.length cs] 28) :: (B156, .cells #[.int .i64 price] 3) :: (B154, .cells (tmV tm).cells 27) :: (X2 ++ R))) w := hh
              refine sy_quiet (C := Hp _ _ _) Tryz.follows (by kernel_rfl) (hh.drawn _) ?_
              refine oq_v hf (yv_move rfl) ?_; clear hf a; intro a hf
              refine oq_v hf (yv_bin rfl rfl rfl) ?_; clear hf a; intro a hf
              refine oq_v hf (yv_move rfl) ?_; clear hf a; intro a hf
              refine oq_v hf (yv_move rfl) ?_; clear hf a; intro a hf
              refine oq_v hf (yv_bin rfl rfl rfl) ?_; clear hf a; intro a hf
              refine oq_v hf (y_pf rfl rfl) ?_; clear hf a; intro a hf
              refine oq_v hf (yv_move rfl) ?_; clear hf a; intro a hf
              refine oq_v hf (y_lds Tryz.ag_49 rfl) ?_; clear hf a; intro a hf
              refine oq_v hf (yv_move rfl) ?_; clear hf a; intro a hf
              refine oq_v hf (yv_move rfl) ?_; clear hf a; intro a hf
              refine oq_call hf Tryz.en_15 rfl rfl rfl (fun w hh => k15 cm cm _) ?_; clear hf a; intro a hf
              refine oq_v hf (yv_neF [cm, cm] [cm, cm] (by kernel_rfl) rfl rfl) ?_; clear hf a; intro a hf
              refine oq_v hf (y_pf rfl rfl) ?_; clear hf a; intro a hf
              refine oq_v hf (yv_move rfl) ?_; clear hf a; intro a hf
              refine oq_v hf (y_lds Tryz.ag_49 rfl) ?_; clear hf a; intro a hf
              refine oq_v hf (y_lds Tryz.ag_49 rfl) ?_; clear hf a; intro a hf
              refine oq_v hf (yv_neF [cm, cm] [cm, cm] (by kernel_rfl) rfl rfl) ?_; clear hf a; intro a hf
              refine oq_v hf (y_pf rfl rfl) ?_; clear hf a; intro a hf
              refine q_end fun w hh => ?_
              refine then_n ?_
              refine c_f hf ?_
              refine sy_skip ?_
              refine then_n ?_
              refine sy_sq ?_
              refine o_v hf hh (yv_move rfl) ?_; clear hf a; intro a hf
              refine o_v hf hh (yv_assign rfl) ?_; clear hf a; intro a hf
              refine o_end ?_
              refine sy_seq ?_
              refine sy_sq ?_
              refine o_v hf hh (yv_move rfl) ?_; clear hf a; intro a hf
              refine o_v hf hh (yv_len Tryz.se_28 rfl) ?_; clear hf a; intro a hf
              refine o_v hf hh (yv_move rfl) ?_; clear hf a; intro a hf
              refine o_end ?_
              refine sy_block ?_
              refine sy_loopF (σ := Nat) [10, 29, 30, 31, 32, 206, 207, 208, 209, 210, 211, 212, 213, 214, 215, 216, 217, 218, 219, 220, 221, 222, 223, 224, 225, 226, 227, 228] (fun j => [(206, .int .i64 (j : Nat)), (29, .int .i64 (cm + sumI ((splitL PP sh).take j)))]) (fun j => j ≤ sh.length) (fun j => sh.length - j) (0) hf hh ?_ ?_ ?_
              · exact ⟨rfl, congrArg some (intv (by show _ = cm + 0; omega)), True.intro⟩
              · exact Nat.zero_le _
              ·rintro j a w hj hf hh
               refine sy_sq ?_
               refine o_v hf hh (yv_bin rfl rfl rfl) ?_; clear hf a; intro a hf
               refine o_end ?_
               refine sy_seq ?_
               refine sy_cond hf rfl (fun hg77 => ?_) (fun hg77 => ?_)
               ·have hG77 := hg77; try simp only [gS] at hG77
                refine sy_skip ?_
                refine then_n ?_
                refine sy_seq ?_
                refine sy_block ?_
                refine sy_sq ?_
                refine o_v hf hh (yv_move rfl) ?_; clear hf a; intro a hf
                refine o_v hf hh (yv_assign rfl) ?_; clear hf a; intro a hf
                refine o_end ?_
                refine sy_seq ?_
                obtain ⟨hge, hgv⟩ := hg5 j (by omega)
                have hst := sumI_takeW (l := splitL PP sh) (i := j) (by rw [hg4]; omega)
                have hb1 := split_take (n := PP) hg1 (by omega) hSh j
                have hb2 := split_take (n := PP) hg1 (by omega) hSh (j + 1)
                refine sy_ops ?_
                refine o_v hf hh (y_lds Tryz.ag_45 rfl) ?_; clear hf a; intro a hf
                refine o_v hf hh (yv_move rfl) ?_; clear hf a; intro a hf
                have hcon := p32 d pl 0 ((j : Nat) : Int) w (hRy _ hh.ext (fun q hq => hh.get q (by
                  simp only [List.mem_cons, List.mem_append] at hq ⊢
                  rcases hq with h | h | h | h | h <;> simp [h])))
                rw [hroy] at hcon
                refine o_call hf Tryz.en_16 rfl rfl rfl hcon ?_; clear hf a hcon; intro v a w hR hf
                obtain ⟨rfl, hx⟩ := hR; rw [hge, hgv] at hf; replace hh := hh.more hx; clear hx
                refine o_v hf hh (yv_move rfl) ?_; clear hf a; intro a hf
                refine o_v hf hh (yv_extract rfl rfl) ?_; clear hf a; intro a hf
                refine o_v hf hh (yv_extract rfl rfl) ?_; clear hf a; intro a hf
                refine o_alloc hf hh Tryz.ze_49 ?_; clear hf hh a; intro B31 a w hf hh
                refine o_store hf hh Tryz.sz_49 fun w hh => ?_
                refine o_v hf hh (yv_assign rfl) ?_; clear hf a; intro a hf
                refine o_end ?_
                refine sy_seq ?_
                refine sy_sq ?_
                refine o_v hf hh (yv_move rfl) ?_; clear hf a; intro a hf
                refine o_v hf hh (yv_bin rfl rfl rfl) ?_; clear hf a; intro a hf
                refine o_v hf hh (yv_move rfl) ?_; clear hf a; intro a hf
                refine o_v hf hh (yv_fieldAddr Tryz.fo_49_0 rfl) ?_; clear hf a; intro a hf
                refine o_v hf hh (y_ld Tryz.sc_3 rfl) ?_; clear hf a; intro a hf
                refine o_v hf hh (yv_fieldAddr Tryz.fo_49_1 rfl) ?_; clear hf a; intro a hf
                refine o_v hf hh (y_ld Tryz.sc_3 rfl) ?_; clear hf a; intro a hf
                refine o_v hf hh (yv_bin rfl rfl rfl) ?_; clear hf a; intro a hf
                refine o_v hf hh (y_pf rfl rfl) ?_; clear hf a; intro a hf
                refine o_end ?_
                refine c_f hf ?_
                refine sy_skip ?_
                refine then_n ?_
                refine sy_ops ?_
                refine o_v hf hh (yv_move rfl) ?_; clear hf a; intro a hf
                refine o_v hf hh (yv_fieldAddr Tryz.fo_49_0 rfl) ?_; clear hf a; intro a hf
                refine o_v hf hh (y_ld Tryz.sc_3 rfl) ?_; clear hf a; intro a hf
                refine o_v hf hh (y_add rfl rfl) ?_; clear hf a; intro a hf
                refine o_v hf hh (yv_assign rfl) ?_; clear hf a; intro a hf
                refine ops_end ?_
                refine blk_n ?_
                refine then_n ?_
                refine sy_ops ?_
                refine o_v hf hh (y_add rfl rfl) ?_; clear hf a; intro a hf
                refine o_v hf hh (yv_move rfl) ?_; clear hf a; intro a hf
                refine ops_end ?_
                refine then_n ?_
                exact ⟨j + 1, ⟨by omega, hf.head ⟨rfl, congrArg some (intv (by omega)), True.intro⟩ (Keep.cons rfl (Keep.cons rfl (Keep.cons rfl (Keep.cons rfl (Keep.cons rfl (Keep.cons rfl (Keep.cons rfl (Keep.cons rfl (Keep.cons rfl (Keep.cons rfl (Keep.cons rfl (Keep.cons rfl (Keep.cons rfl (Keep.cons rfl (Keep.cons rfl (Keep.cons rfl (Keep.cons rfl (Keep.cons rfl (Keep.cons rfl (Keep.cons rfl (Keep.cons rfl (Keep.cons rfl (Keep.cons rfl (Keep.cons rfl (Keep.cons rfl (Keep.cons rfl (Keep.cons rfl (Keep.app rfl (Keep.rm rfl Keep.base))))))))))))))))))))))))))))), hh.less (.cons _ (List.Sublist.refl _))⟩, by omega⟩
               ·have hG77 := hg77; try simp only [gS] at hG77
                refine sy_exit ?_
                refine then_e ?_
                refine then_e ?_
                refine blk_e ?_
                refine then_n ?_
                refine sy_seq ?_
                obtain rfl : j = sh.length := by omega
                rw [show sh.length = (splitL PP sh).length from hg4.symm, List.take_length, hg3] at hf
                refine sy_ops ?_
                refine o_v hf hh (yv_move rfl) ?_; clear hf a; intro a hf
                refine o_v hf hh (yv_move rfl) ?_; clear hf a; intro a hf
                refine o_v hf hh (yv_len Tryz.se_28 rfl) ?_; clear hf a; intro a hf
                refine o_v hf hh (yv_move rfl) ?_; clear hf a; intro a hf
                refine o_v hf hh (yv_mul rfl rfl (by omega) (by omega)) ?_; clear hf a; intro a hf
                refine o_v hf hh (yv_bin rfl rfl rfl) ?_; clear hf a; intro a hf
                refine o_v hf hh (yv_move rfl) ?_; clear hf a; intro a hf
                refine o_call hf Tryz.en_8 rfl rfl rfl (k8 _) ?_; clear hf a; intro v a w hR hf
                obtain ⟨rfl, hx⟩ := hR; replace hh := hh.more hx; clear hx
                refine o_v hf hh (y_pt rfl rfl) ?_; clear hf a; intro a hf
                refine o_v hf hh (yv_assign rfl) ?_; clear hf a; intro a hf
                refine o_end ?_
                refine sy_ret ?_
                refine ret_r hf rfl rfl ?_
                exact ⟨rfl, hh.ext⟩
end Go.Proofs.YtccpgpnekoncoaaGreat

