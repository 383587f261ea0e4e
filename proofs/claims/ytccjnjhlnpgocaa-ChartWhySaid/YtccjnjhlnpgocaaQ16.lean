/- Lemmas, in order: ChartWhy. What a law is handed, opened: charts, sights, numbers.. -/
import Derived.Test.YtccjnjhlnpgocaaQ15
import Derived.Test.YtccjnjhlnpgocaaRows
import Derived.Test.YtccjnjhlnpgocaaChecked
import Derived.JoinedOf
import Derived.LaidLaws
import Derived.RowKit
import Derived.RowKitTokens
import Derived.LaidHandle
import Derived.Stop.Joined
import Derived.Lay
import Derived.SizedLaws
import Derived.SevenTiedAt
namespace Go.Proofs.Ytccjnjhlnpgocaa
open Go Go.Sy Go.ChaM
set_option maxRecDepth 100000 in
set_option maxHeartbeats 4000000 in
theorem p8 (c : ChD) (sa : Option Addr) (cp : Nat) (z : Int) (u : World) (hC : ChIn u c sa) (hz : 0 ≤ z ∧ z ≤ 65535) : Calls Try.prog 8 #[.agg (chC c sa cp), .int .u16 z] u (Ret fun v w' => v = .bool true ∧ Ext [] u w') := by
  refine calls_of Try.func8 rfl rfl (fun a hf => ?_)
  have hh := Hp.init u []
  obtain ⟨zn, rfl⟩ : ∃ k : Nat, z = k := ⟨z.toNat, by omega⟩
  refine sy_sq ?_
  refine o_box hf hh ?_; clear hf hh a; intro B2 a w hf hh
  refine o_v hf hh (yv_assign rfl) ?_; clear hf a; intro a hf
  refine o_end ?_
  refine sy_seq ?_
  refine sy_sq ?_
  refine o_v hf hh (y_lds Try.ag_24 rfl) ?_; clear hf a; intro a hf
  refine o_call hf Try.en_13 rfl rfl rfl (p13 c sa cp _) ?_; clear hf a; intro v a w hR hf
  obtain ⟨rfl, hx⟩ := hR; replace hh := hh.more hx; clear hx
  refine o_end ?_
  refine sy_cond hf rfl (fun hg2 => ?_) (fun hg2 => ?_)
  ·have hG2 := hg2; try simp only [gS] at hG2
   refine sy_sq ?_
   refine o_call hf Try.en_14 rfl rfl rfl (p14 _) ?_; clear hf a; intro v a w hR hf
   obtain ⟨rfl, hx⟩ := hR; replace hh := hh.more hx; clear hx
   refine o_v hf hh (yv_assign rfl) ?_; clear hf a; intro a hf
   refine o_end ?_
   refine sy_ret ?_
   refine then_r ?_
   refine ret_r hf rfl rfl ?_
   first
     | exact ⟨rfl, hh.ext⟩
     | (exfalso
        (repeat (rename Fr _ _ _ _ => z9; clear z9))
        (repeat (rename Hp _ _ _ _ => z9; clear z9))
        (try clear hcn); (try clear hat); (try clear hbe)
        first
          | (rcases hK with ⟨h1, h2, h3⟩ | ⟨h1, h2, h3⟩ | ⟨h1, h2, h3⟩ <;> first | (omega; done) | (simp_all; done))
          | (omega; done)
          | (simp_all; done)
          | (simp_all <;> omega))
  ·have hG2 := hg2; try simp only [gS] at hG2
   refine sy_skip ?_
   refine then_n ?_
   refine sy_seq ?_
   have hA := hC.at (by assumption)
   refine sy_ops ?_
   refine o_v hf hh (y_lds Try.ag_24 rfl) ?_; clear hf a; intro a hf
   refine o_call hf Try.en_24 rfl rfl rfl (p24 c sa cp _ (hA.ext hh.ext)) ?_; clear hf a; intro v a w hR hf
   obtain ⟨rfl, hx⟩ := hR; replace hh := hh.more hx; clear hx
   refine o_v hf hh (yv_move rfl) ?_; clear hf a; intro a hf
   refine o_v hf hh (yv_extract rfl rfl) ?_; clear hf a; intro a hf
   refine o_v hf hh (yv_extract rfl rfl) ?_; clear hf a; intro a hf
   refine o_v hf hh (yv_assign rfl) ?_; clear hf a; intro a hf
   refine o_v hf hh (yv_assign rfl) ?_; clear hf a; intro a hf
   refine o_end ?_
   refine sy_seq ?_
   refine sy_sq ?_
   refine o_v hf hh (yv_move rfl) ?_; clear hf a; intro a hf
   refine o_v hf hh (yv_bin rfl rfl rfl) ?_; clear hf a; intro a hf
   refine o_v hf hh (yv_move rfl) ?_; clear hf a; intro a hf
   refine guard_split hf (t := 28) rfl (fun hg8 => ?_) (fun hg8 => ?_)
   ·have hG8 := hg8; try simp only [gS] at hG8
    refine o_off hf ?_; clear hf a; intro a hf
    refine o_off hf ?_; clear hf a; intro a hf
    refine o_off hf ?_; clear hf a; intro a hf
    refine o_v hf hh (y_pt rfl rfl) ?_; clear hf a; intro a hf
    refine o_end ?_
    refine c_t hf ?_
    refine sy_seq ?_
    have hK : (chB c = false ∧ whyE c = 1 ∧ whyV c = 0) ∨ (chB c = true ∧ whyE c ≠ 1) := by
      cases hb : chB c with
      | false => exact .inl ⟨rfl, why_bad hb⟩
      | true => right; refine ⟨rfl, ?_⟩; rcases why_two hb with h | h <;> omega
    refine sy_ops ?_
    refine o_v hf hh (yv_move rfl) ?_; clear hf a; intro a hf
    refine o_v hf hh (yv_bin rfl rfl rfl) ?_; clear hf a; intro a hf
    refine o_v hf hh (yv_move rfl) ?_; clear hf a; intro a hf
    refine guard_split hf (t := 35) rfl (fun hg10 => ?_) (fun hg10 => ?_)
    ·have hG10 := hg10; try simp only [gS] at hG10
     refine o_v hf hh (yv_move rfl) ?_; clear hf a; intro a hf
     refine o_v hf hh (yv_bin rfl rfl rfl) ?_; clear hf a; intro a hf
     refine o_v hf hh (y_pt rfl rfl) ?_; clear hf a; intro a hf
     refine o_v hf hh (yv_move rfl) ?_; clear hf a; intro a hf
     refine guard_split hf (t := 39) rfl (fun hg12 => ?_) (fun hg12 => ?_)
     ·have hG12 := hg12; try simp only [gS] at hG12
      refine o_v hf hh (y_lds Try.ag_24 rfl) ?_; clear hf a; intro a hf
      refine o_call hf Try.en_31 rfl rfl rfl (p31 c sa cp _ (hA.ext hh.ext)) ?_; clear hf a; intro v a w hR hf
      obtain ⟨rfl, hx⟩ := hR; replace hh := hh.more hx; clear hx
      refine o_v hf hh (yv_not rfl) ?_; clear hf a; intro a hf
      refine o_v hf hh (y_pt rfl rfl) ?_; clear hf a; intro a hf
      refine o_v hf hh (yv_move rfl) ?_; clear hf a; intro a hf
      refine guard_split hf (t := 44) rfl (fun hg14 => ?_) (fun hg14 => ?_)
      ·have hG14 := hg14; try simp only [gS] at hG14
       refine o_call hf Try.en_14 rfl rfl rfl (p14 _) ?_; clear hf a; intro v a w hR hf
       obtain ⟨rfl, hx⟩ := hR; replace hh := hh.more hx; clear hx
       refine o_v hf hh (y_pt rfl rfl) ?_; clear hf a; intro a hf
       refine o_v hf hh (yv_assign rfl) ?_; clear hf a; intro a hf
       refine o_end ?_
       refine sy_ret ?_
       refine then_r ?_
       refine ret_r hf rfl rfl ?_
       first
         | exact ⟨rfl, hh.ext⟩
         | (exfalso
            (repeat (rename Fr _ _ _ _ => z9; clear z9))
            (repeat (rename Hp _ _ _ _ => z9; clear z9))
            (try clear hcn); (try clear hat); (try clear hbe)
            first
              | (rcases hK with ⟨h1, h2, h3⟩ | ⟨h1, h2, h3⟩ | ⟨h1, h2, h3⟩ <;> first | (omega; done) | (simp_all; done))
              | (omega; done)
              | (simp_all; done)
              | (simp_all <;> omega))
      ·have hG14 := hg14; try simp only [gS] at hG14
       refine o_off hf ?_; clear hf a; intro a hf
       refine o_v hf hh (y_pf rfl rfl) ?_; clear hf a; intro a hf
       refine o_v hf hh (yv_assign rfl) ?_; clear hf a; intro a hf
       refine o_end ?_
       refine sy_ret ?_
       refine then_r ?_
       refine ret_r hf rfl rfl ?_
       first
         | exact ⟨rfl, hh.ext⟩
         | (exfalso
            (repeat (rename Fr _ _ _ _ => z9; clear z9))
            (repeat (rename Hp _ _ _ _ => z9; clear z9))
            (try clear hcn); (try clear hat); (try clear hbe)
            first
              | (rcases hK with ⟨h1, h2, h3⟩ | ⟨h1, h2, h3⟩ | ⟨h1, h2, h3⟩ <;> first | (omega; done) | (simp_all; done))
              | (omega; done)
              | (simp_all; done)
              | (simp_all <;> omega))
     ·have hG12 := hg12; try simp only [gS] at hG12
      refine o_off hf ?_; clear hf a; intro a hf
      refine o_off hf ?_; clear hf a; intro a hf
      refine o_off hf ?_; clear hf a; intro a hf
      refine o_v hf hh (y_pf rfl rfl) ?_; clear hf a; intro a hf
      refine o_v hf hh (yv_move rfl) ?_; clear hf a; intro a hf
      refine o_off hf ?_; clear hf a; intro a hf
      refine o_v hf hh (y_pf rfl rfl) ?_; clear hf a; intro a hf
      refine o_v hf hh (yv_assign rfl) ?_; clear hf a; intro a hf
      refine o_end ?_
      refine sy_ret ?_
      refine then_r ?_
      refine ret_r hf rfl rfl ?_
      first
        | exact ⟨rfl, hh.ext⟩
        | (exfalso
           (repeat (rename Fr _ _ _ _ => z9; clear z9))
           (repeat (rename Hp _ _ _ _ => z9; clear z9))
           (try clear hcn); (try clear hat); (try clear hbe)
           first
             | (rcases hK with ⟨h1, h2, h3⟩ | ⟨h1, h2, h3⟩ | ⟨h1, h2, h3⟩ <;> first | (omega; done) | (simp_all; done))
             | (omega; done)
             | (simp_all; done)
             | (simp_all <;> omega))
    ·have hG10 := hg10; try simp only [gS] at hG10
     refine o_off hf ?_; clear hf a; intro a hf
     refine o_off hf ?_; clear hf a; intro a hf
     refine o_v hf hh (y_pf rfl rfl) ?_; clear hf a; intro a hf
     refine o_v hf hh (yv_move rfl) ?_; clear hf a; intro a hf
     refine o_off hf ?_; clear hf a; intro a hf
     refine o_off hf ?_; clear hf a; intro a hf
     refine o_off hf ?_; clear hf a; intro a hf
     refine o_v hf hh (y_pf rfl rfl) ?_; clear hf a; intro a hf
     refine o_v hf hh (yv_move rfl) ?_; clear hf a; intro a hf
     refine o_off hf ?_; clear hf a; intro a hf
     refine o_v hf hh (y_pf rfl rfl) ?_; clear hf a; intro a hf
     refine o_v hf hh (yv_assign rfl) ?_; clear hf a; intro a hf
     refine o_end ?_
     refine sy_ret ?_
     refine then_r ?_
     refine ret_r hf rfl rfl ?_
     first
       | exact ⟨rfl, hh.ext⟩
       | (exfalso
          (repeat (rename Fr _ _ _ _ => z9; clear z9))
          (repeat (rename Hp _ _ _ _ => z9; clear z9))
          (try clear hcn); (try clear hat); (try clear hbe)
          first
            | (rcases hK with ⟨h1, h2, h3⟩ | ⟨h1, h2, h3⟩ | ⟨h1, h2, h3⟩ <;> first | (omega; done) | (simp_all; done))
            | (omega; done)
            | (simp_all; done)
            | (simp_all <;> omega))
   ·have hG8 := hg8; try simp only [gS] at hG8
    refine o_v hf hh (y_lds Try.ag_24 rfl) ?_; clear hf a; intro a hf
    refine o_call hf Try.en_31 rfl rfl rfl (p31 c sa cp _ (hA.ext hh.ext)) ?_; clear hf a; intro v a w hR hf
    obtain ⟨rfl, hx⟩ := hR; replace hh := hh.more hx; clear hx
    refine o_v hf hh (yv_not rfl) ?_; clear hf a; intro a hf
    refine o_v hf hh (y_pf rfl rfl) ?_; clear hf a; intro a hf
    refine o_end ?_
    refine sy_cond hf rfl (fun hg17 => ?_) (fun hg17 => ?_)
    ·have hG17 := hg17; try simp only [gS] at hG17
     refine sy_seq ?_
     have hK : (chB c = false ∧ whyE c = 1 ∧ whyV c = 0) ∨ (chB c = true ∧ whyE c ≠ 1) := by
       cases hb : chB c with
       | false => exact .inl ⟨rfl, why_bad hb⟩
       | true => right; refine ⟨rfl, ?_⟩; rcases why_two hb with h | h <;> omega
     refine sy_ops ?_
     refine o_v hf hh (yv_move rfl) ?_; clear hf a; intro a hf
     refine o_v hf hh (yv_bin rfl rfl rfl) ?_; clear hf a; intro a hf
     refine o_v hf hh (yv_move rfl) ?_; clear hf a; intro a hf
     refine guard_split hf (t := 35) rfl (fun hg19 => ?_) (fun hg19 => ?_)
     ·have hG19 := hg19; try simp only [gS] at hG19
      refine o_v hf hh (yv_move rfl) ?_; clear hf a; intro a hf
      refine o_v hf hh (yv_bin rfl rfl rfl) ?_; clear hf a; intro a hf
      refine o_v hf hh (y_pt rfl rfl) ?_; clear hf a; intro a hf
      refine o_v hf hh (yv_move rfl) ?_; clear hf a; intro a hf
      refine guard_split hf (t := 39) rfl (fun hg21 => ?_) (fun hg21 => ?_)
      ·have hG21 := hg21; try simp only [gS] at hG21
       refine o_v hf hh (y_lds Try.ag_24 rfl) ?_; clear hf a; intro a hf
       refine o_call hf Try.en_31 rfl rfl rfl (p31 c sa cp _ (hA.ext hh.ext)) ?_; clear hf a; intro v a w hR hf
       obtain ⟨rfl, hx⟩ := hR; replace hh := hh.more hx; clear hx
       refine o_v hf hh (yv_not rfl) ?_; clear hf a; intro a hf
       refine o_v hf hh (y_pt rfl rfl) ?_; clear hf a; intro a hf
       refine o_v hf hh (yv_move rfl) ?_; clear hf a; intro a hf
       refine guard_split hf (t := 44) rfl (fun hg23 => ?_) (fun hg23 => ?_)
       ·have hG23 := hg23; try simp only [gS] at hG23
        refine o_call hf Try.en_14 rfl rfl rfl (p14 _) ?_; clear hf a; intro v a w hR hf
        obtain ⟨rfl, hx⟩ := hR; replace hh := hh.more hx; clear hx
        refine o_v hf hh (y_pt rfl rfl) ?_; clear hf a; intro a hf
        refine o_v hf hh (yv_assign rfl) ?_; clear hf a; intro a hf
        refine o_end ?_
        refine sy_ret ?_
        refine then_r ?_
        refine ret_r hf rfl rfl ?_
        first
          | exact ⟨rfl, hh.ext⟩
          | (exfalso
             (repeat (rename Fr _ _ _ _ => z9; clear z9))
             (repeat (rename Hp _ _ _ _ => z9; clear z9))
             (try clear hcn); (try clear hat); (try clear hbe)
             first
               | (rcases hK with ⟨h1, h2, h3⟩ | ⟨h1, h2, h3⟩ | ⟨h1, h2, h3⟩ <;> first | (omega; done) | (simp_all; done))
               | (omega; done)
               | (simp_all; done)
               | (simp_all <;> omega))
       ·have hG23 := hg23; try simp only [gS] at hG23
        refine o_off hf ?_; clear hf a; intro a hf
        refine o_v hf hh (y_pf rfl rfl) ?_; clear hf a; intro a hf
        refine o_v hf hh (yv_assign rfl) ?_; clear hf a; intro a hf
        refine o_end ?_
        refine sy_ret ?_
        refine then_r ?_
        refine ret_r hf rfl rfl ?_
        first
          | exact ⟨rfl, hh.ext⟩
          | (exfalso
             (repeat (rename Fr _ _ _ _ => z9; clear z9))
             (repeat (rename Hp _ _ _ _ => z9; clear z9))
             (try clear hcn); (try clear hat); (try clear hbe)
             first
               | (rcases hK with ⟨h1, h2, h3⟩ | ⟨h1, h2, h3⟩ | ⟨h1, h2, h3⟩ <;> first | (omega; done) | (simp_all; done))
               | (omega; done)
               | (simp_all; done)
               | (simp_all <;> omega))
      ·have hG21 := hg21; try simp only [gS] at hG21
       refine o_off hf ?_; clear hf a; intro a hf
       refine o_off hf ?_; clear hf a; intro a hf
       refine o_off hf ?_; clear hf a; intro a hf
       refine o_v hf hh (y_pf rfl rfl) ?_; clear hf a; intro a hf
       refine o_v hf hh (yv_move rfl) ?_; clear hf a; intro a hf
       refine o_off hf ?_; clear hf a; intro a hf
       refine o_v hf hh (y_pf rfl rfl) ?_; clear hf a; intro a hf
       refine o_v hf hh (yv_assign rfl) ?_; clear hf a; intro a hf
       refine o_end ?_
       refine sy_ret ?_
       refine then_r ?_
       refine ret_r hf rfl rfl ?_
       first
         | exact ⟨rfl, hh.ext⟩
         | (exfalso
            (repeat (rename Fr _ _ _ _ => z9; clear z9))
            (repeat (rename Hp _ _ _ _ => z9; clear z9))
            (try clear hcn); (try clear hat); (try clear hbe)
            first
              | (rcases hK with ⟨h1, h2, h3⟩ | ⟨h1, h2, h3⟩ | ⟨h1, h2, h3⟩ <;> first | (omega; done) | (simp_all; done))
              | (omega; done)
              | (simp_all; done)
              | (simp_all <;> omega))
     ·have hG19 := hg19; try simp only [gS] at hG19
      refine o_off hf ?_; clear hf a; intro a hf
      refine o_off hf ?_; clear hf a; intro a hf
      refine o_v hf hh (y_pf rfl rfl) ?_; clear hf a; intro a hf
      refine o_v hf hh (yv_move rfl) ?_; clear hf a; intro a hf
      refine o_off hf ?_; clear hf a; intro a hf
      refine o_off hf ?_; clear hf a; intro a hf
      refine o_off hf ?_; clear hf a; intro a hf
      refine o_v hf hh (y_pf rfl rfl) ?_; clear hf a; intro a hf
      refine o_v hf hh (yv_move rfl) ?_; clear hf a; intro a hf
      refine o_off hf ?_; clear hf a; intro a hf
      refine o_v hf hh (y_pf rfl rfl) ?_; clear hf a; intro a hf
      refine o_v hf hh (yv_assign rfl) ?_; clear hf a; intro a hf
      refine o_end ?_
      refine sy_ret ?_
      refine then_r ?_
      refine ret_r hf rfl rfl ?_
      first
        | exact ⟨rfl, hh.ext⟩
        | (exfalso
           (repeat (rename Fr _ _ _ _ => z9; clear z9))
           (repeat (rename Hp _ _ _ _ => z9; clear z9))
           (try clear hcn); (try clear hat); (try clear hbe)
           first
             | (rcases hK with ⟨h1, h2, h3⟩ | ⟨h1, h2, h3⟩ | ⟨h1, h2, h3⟩ <;> first | (omega; done) | (simp_all; done))
             | (omega; done)
             | (simp_all; done)
             | (simp_all <;> omega))
    ·have hG17 := hg17; try simp only [gS] at hG17
     refine sy_skip ?_
     refine then_n ?_
     refine sy_seq ?_
     have hcb : chB c = true := by assumption
     have hO := chB_iff.1 hcb
     have hl10 := hO.l
     have hpl := pow_ten hl10
     have hwl := why_lt hcb
     have hwp := pc_ten hcb hwl
     have hpp := pow_ten hwp
     have hW2 := why_two hcb
     refine sy_ops ?_
     refine o_v hf hh (yv_fieldAddr Try.fo_24_1 rfl) ?_; clear hf a; intro a hf
     refine o_v hf hh (y_ld Try.sc_22 rfl) ?_; clear hf a; intro a hf
     refine o_v hf hh (yv_len Try.se_22 rfl) ?_; clear hf a; intro a hf
     refine ops_v hf hh (yv_cast (yv_shl1 (.inl rfl) rfl rfl (by omega) (by omega)) (intv (b := ((2 ^ c.si.length : Nat) : Int)) (by rw [Int.toNat_natCast]))) (.inl rfl) rfl rfl rfl ?_; clear hf a; intro a hf
     refine o_v hf hh (y_sub rfl rfl) ?_; clear hf a; intro a hf
     refine o_v hf hh (yv_assign rfl) ?_; clear hf a; intro a hf
     refine o_end ?_
     refine sy_seq ?_
     refine sy_sq ?_
     refine o_v hf hh (yv_move rfl) ?_; clear hf a; intro a hf
     refine o_v hf hh (yv_bin rfl rfl rfl) ?_; clear hf a; intro a hf
     refine o_v hf hh (yv_move rfl) ?_; clear hf a; intro a hf
     refine guard_split hf (t := 54) rfl (fun hg27 => ?_) (fun hg27 => ?_)
     ·have hG27 := hg27; try simp only [gS] at hG27
      refine o_off hf ?_; clear hf a; intro a hf
      refine o_off hf ?_; clear hf a; intro a hf
      refine o_off hf ?_; clear hf a; intro a hf
      refine o_v hf hh (y_pt rfl rfl) ?_; clear hf a; intro a hf
      refine o_v hf hh (yv_move rfl) ?_; clear hf a; intro a hf
      refine o_off hf ?_; clear hf a; intro a hf
      refine o_off hf ?_; clear hf a; intro a hf
      refine o_off hf ?_; clear hf a; intro a hf
      refine o_off hf ?_; clear hf a; intro a hf
      refine o_off hf ?_; clear hf a; intro a hf
      refine o_v hf hh (y_pt rfl rfl) ?_; clear hf a; intro a hf
      refine o_v hf hh (yv_move rfl) ?_; clear hf a; intro a hf
      refine o_off hf ?_; clear hf a; intro a hf
      refine o_off hf ?_; clear hf a; intro a hf
      refine o_off hf ?_; clear hf a; intro a hf
      refine o_off hf ?_; clear hf a; intro a hf
      refine o_off hf ?_; clear hf a; intro a hf
      refine o_off hf ?_; clear hf a; intro a hf
      refine o_v hf hh (y_pt rfl rfl) ?_; clear hf a; intro a hf
      refine o_end ?_
      refine c_t hf ?_
      refine sy_sq ?_
      refine o_v hf hh (yv_assign rfl) ?_; clear hf a; intro a hf
      refine o_end ?_
      refine sy_ret ?_
      refine then_r ?_
      refine ret_r hf rfl rfl ?_
      first
        | exact ⟨rfl, hh.ext⟩
        | (exfalso
           (repeat (rename Fr _ _ _ _ => z9; clear z9))
           (repeat (rename Hp _ _ _ _ => z9; clear z9))
           (try clear hcn); (try clear hat); (try clear hbe)
           first
             | (rcases hK with ⟨h1, h2, h3⟩ | ⟨h1, h2, h3⟩ | ⟨h1, h2, h3⟩ <;> first | (omega; done) | (simp_all; done))
             | (omega; done)
             | (simp_all; done)
             | (simp_all <;> omega))
     ·have hG27 := hg27; try simp only [gS] at hG27
      refine o_v hf hh (yv_move rfl) ?_; clear hf a; intro a hf
      refine o_v hf hh (yv_move rfl) ?_; clear hf a; intro a hf
      refine o_v hf hh (yv_bin rfl rfl rfl) ?_; clear hf a; intro a hf
      refine o_v hf hh (y_pf rfl rfl) ?_; clear hf a; intro a hf
      refine o_v hf hh (yv_move rfl) ?_; clear hf a; intro a hf
      refine guard_split hf (t := 59) rfl (fun hg29 => ?_) (fun hg29 => ?_)
      ·have hG29 := hg29; try simp only [gS] at hG29
       refine o_off hf ?_; clear hf a; intro a hf
       refine o_off hf ?_; clear hf a; intro a hf
       refine o_off hf ?_; clear hf a; intro a hf
       refine o_off hf ?_; clear hf a; intro a hf
       refine o_off hf ?_; clear hf a; intro a hf
       refine o_v hf hh (y_pt rfl rfl) ?_; clear hf a; intro a hf
       refine o_v hf hh (yv_move rfl) ?_; clear hf a; intro a hf
       refine o_off hf ?_; clear hf a; intro a hf
       refine o_off hf ?_; clear hf a; intro a hf
       refine o_off hf ?_; clear hf a; intro a hf
       refine o_off hf ?_; clear hf a; intro a hf
       refine o_off hf ?_; clear hf a; intro a hf
       refine o_off hf ?_; clear hf a; intro a hf
       refine o_v hf hh (y_pt rfl rfl) ?_; clear hf a; intro a hf
       refine o_end ?_
       refine c_t hf ?_
       refine sy_sq ?_
       refine o_v hf hh (yv_assign rfl) ?_; clear hf a; intro a hf
       refine o_end ?_
       refine sy_ret ?_
       refine then_r ?_
       refine ret_r hf rfl rfl ?_
       first
         | exact ⟨rfl, hh.ext⟩
         | (exfalso
            (repeat (rename Fr _ _ _ _ => z9; clear z9))
            (repeat (rename Hp _ _ _ _ => z9; clear z9))
            (try clear hcn); (try clear hat); (try clear hbe)
            first
              | (rcases hK with ⟨h1, h2, h3⟩ | ⟨h1, h2, h3⟩ | ⟨h1, h2, h3⟩ <;> first | (omega; done) | (simp_all; done))
              | (omega; done)
              | (simp_all; done)
              | (simp_all <;> omega))
      ·have hG29 := hg29; try simp only [gS] at hG29
       refine o_v hf hh (yv_move rfl) ?_; clear hf a; intro a hf
       refine o_v hf hh (yv_bin rfl rfl rfl) ?_; clear hf a; intro a hf
       refine o_v hf hh (yv_move rfl) ?_; clear hf a; intro a hf
       refine o_v hf hh (yv_bin rfl rfl rfl) ?_; clear hf a; intro a hf
       refine o_v hf hh (yv_neb Try.ub_4 rfl rfl) ?_; clear hf a; intro a hf
       refine o_v hf hh (y_pf rfl rfl) ?_; clear hf a; intro a hf
       refine o_v hf hh (yv_move rfl) ?_; clear hf a; intro a hf
       refine guard_split hf (t := 66) rfl (fun hg33 => ?_) (fun hg33 => ?_)
       ·have hG33 := hg33; try simp only [gS] at hG33
        refine o_off hf ?_; clear hf a; intro a hf
        refine o_off hf ?_; clear hf a; intro a hf
        refine o_off hf ?_; clear hf a; intro a hf
        refine o_off hf ?_; clear hf a; intro a hf
        refine o_off hf ?_; clear hf a; intro a hf
        refine o_off hf ?_; clear hf a; intro a hf
        refine o_v hf hh (y_pt rfl rfl) ?_; clear hf a; intro a hf
        refine o_end ?_
        refine c_t hf ?_
        refine sy_sq ?_
        refine o_v hf hh (yv_assign rfl) ?_; clear hf a; intro a hf
        refine o_end ?_
        refine sy_ret ?_
        refine then_r ?_
        refine ret_r hf rfl rfl ?_
        first
          | exact ⟨rfl, hh.ext⟩
          | (exfalso
             (repeat (rename Fr _ _ _ _ => z9; clear z9))
             (repeat (rename Hp _ _ _ _ => z9; clear z9))
             (try clear hcn); (try clear hat); (try clear hbe)
             first
               | (rcases hK with ⟨h1, h2, h3⟩ | ⟨h1, h2, h3⟩ | ⟨h1, h2, h3⟩ <;> first | (omega; done) | (simp_all; done))
               | (omega; done)
               | (simp_all; done)
               | (simp_all <;> omega))
       ·have hG33 := hg33; try simp only [gS] at hG33
        refine o_v hf hh (yv_move rfl) ?_; clear hf a; intro a hf
        refine o_v hf hh (yv_bin rfl rfl rfl) ?_; clear hf a; intro a hf
        refine o_v hf hh (yv_move rfl) ?_; clear hf a; intro a hf
        refine guard_split hf (t := 69) rfl (fun hg35 => ?_) (fun hg35 => ?_)
        ·have hG35 := hg35; try simp only [gS] at hG35
         refine o_v hf hh (yv_move rfl) ?_; clear hf a; intro a hf
         refine o_v hf hh (yv_bin rfl rfl rfl) ?_; clear hf a; intro a hf
         refine o_v hf hh (y_pt rfl rfl) ?_; clear hf a; intro a hf
         refine o_v hf hh (y_pf rfl rfl) ?_; clear hf a; intro a hf
         refine o_end ?_
         refine sy_cond hf rfl (fun hg37 => ?_) (fun hg37 => ?_)
         ·have hG37 := hg37; try simp only [gS] at hG37
          refine sy_sq ?_
          refine o_v hf hh (yv_assign rfl) ?_; clear hf a; intro a hf
          refine o_end ?_
          refine sy_ret ?_
          refine then_r ?_
          refine ret_r hf rfl rfl ?_
          first
            | exact ⟨rfl, hh.ext⟩
            | (exfalso
               (repeat (rename Fr _ _ _ _ => z9; clear z9))
               (repeat (rename Hp _ _ _ _ => z9; clear z9))
               (try clear hcn); (try clear hat); (try clear hbe)
               first
                 | (rcases hK with ⟨h1, h2, h3⟩ | ⟨h1, h2, h3⟩ | ⟨h1, h2, h3⟩ <;> first | (omega; done) | (simp_all; done))
                 | (omega; done)
                 | (simp_all; done)
                 | (simp_all <;> omega))
         ·have hG37 := hg37; try simp only [gS] at hG37
          refine sy_skip ?_
          refine then_n ?_
          refine sy_seq ?_
          refine sy_sq ?_
          refine o_v hf hh (yv_move rfl) ?_; clear hf a; intro a hf
          refine o_v hf hh (yv_bin rfl rfl rfl) ?_; clear hf a; intro a hf
          refine o_end ?_
          refine sy_cond hf rfl (fun hg39 => ?_) (fun hg39 => ?_)
          ·have hG39 := hg39; try simp only [gS] at hG39
           refine sy_seq ?_
           refine sy_seq ?_
           obtain ⟨he11, hwr, hw0⟩ := hW2.resolve_left (fun h => absurd h.1 (by assumption))
           obtain ⟨ho1, ho2⟩ := own_two hcb hwr
           refine sy_ops ?_
           refine o_v hf hh (y_lds Try.ag_24 rfl) ?_; clear hf a; intro a hf
           refine o_v hf hh (yv_move rfl) ?_; clear hf a; intro a hf
           refine o_call hf Try.en_35 rfl rfl rfl (p35 c sa cp (whyV c) _ (hA.ext hh.ext) hO (by omega)) ?_; clear hf a; intro v a w hR hf
           obtain ⟨sx, cx, X9, rfl, hAt, hx⟩ := hR; replace hh := hh.join hx; clear hx
           refine o_call hf Try.en_24 rfl rfl rfl (p24 (partC c (whyV c).testBit) sx cx _ (hAt _ (fun q hq => hh.get q (by simp [hq])))) ?_; clear hf a; intro v a w hR hf
           obtain ⟨rfl, hx⟩ := hR; replace hh := (hh.more hx).less (List.sublist_append_right X9 _); clear hx
           refine o_v hf hh (yv_move rfl) ?_; clear hf a; intro a hf
           refine o_v hf hh (yv_extract rfl rfl) ?_; clear hf a; intro a hf
           refine o_v hf hh (yv_extract rfl rfl) ?_; clear hf a; intro a hf
           refine o_v hf hh (yv_assign rfl) ?_; clear hf a; intro a hf
           refine o_v hf hh (yv_assign rfl) ?_; clear hf a; intro a hf
           refine o_end ?_
           refine sy_sq ?_
           refine o_v hf hh (yv_move rfl) ?_; clear hf a; intro a hf
           refine o_v hf hh (yv_bin rfl rfl rfl) ?_; clear hf a; intro a hf
           refine o_v hf hh (yv_move rfl) ?_; clear hf a; intro a hf
           refine guard_split hf (t := 85) rfl (fun hg45 => ?_) (fun hg45 => ?_)
           ·have hG45 := hg45; try simp only [gS] at hG45
            refine o_off hf ?_; clear hf a; intro a hf
            refine o_off hf ?_; clear hf a; intro a hf
            refine o_off hf ?_; clear hf a; intro a hf
            refine o_off hf ?_; clear hf a; intro a hf
            refine o_off hf ?_; clear hf a; intro a hf
            refine o_off hf ?_; clear hf a; intro a hf
            refine o_v hf hh (y_pt rfl rfl) ?_; clear hf a; intro a hf
            refine o_end ?_
            refine c_t hf ?_
            refine sy_sq ?_
            refine o_v hf hh (yv_assign rfl) ?_; clear hf a; intro a hf
            refine o_end ?_
            refine sy_ret ?_
            refine then_r ?_
            refine then_r ?_
            refine ret_r hf rfl rfl ?_
            first
              | exact ⟨rfl, hh.ext⟩
              | (exfalso
                 (repeat (rename Fr _ _ _ _ => z9; clear z9))
                 (repeat (rename Hp _ _ _ _ => z9; clear z9))
                 (try clear hcn); (try clear hat); (try clear hbe)
                 first
                   | (rcases hK with ⟨h1, h2, h3⟩ | ⟨h1, h2, h3⟩ | ⟨h1, h2, h3⟩ <;> first | (omega; done) | (simp_all; done))
                   | (omega; done)
                   | (simp_all; done)
                   | (simp_all <;> omega))
           ·have hG45 := hg45; try simp only [gS] at hG45
            refine o_v hf hh (yv_move rfl) ?_; clear hf a; intro a hf
            refine o_v hf hh (yv_move rfl) ?_; clear hf a; intro a hf
            refine o_call hf Try.en_36 rfl rfl rfl (p36 (whyV c) (by omega) _) ?_; clear hf a; intro v a w hR hf
            obtain ⟨rfl, hx⟩ := hR; replace hh := hh.more hx; clear hx
            refine ops_v hf hh (yv_cast (yv_shl1 (.inl rfl) rfl rfl (by omega) (by omega)) (intv (b := ((2 ^ pc (whyV c) : Nat) : Int)) (by rw [Int.toNat_natCast]))) (gon rfl rfl rfl (by first | assumption | rfl | (simp; done) | (simp; omega))) rfl rfl rfl ?_; clear hf a; intro a hf
            refine o_v hf hh (y_sub rfl rfl) ?_; clear hf a; intro a hf
            refine o_v hf hh (yv_bin rfl rfl rfl) ?_; clear hf a; intro a hf
            refine o_v hf hh (y_pf rfl rfl) ?_; clear hf a; intro a hf
            refine o_end ?_
            refine sy_cond hf rfl (fun hg49 => ?_) (fun hg49 => ?_)
            ·have hG49 := hg49; try simp only [gS] at hG49
             refine sy_sq ?_
             refine o_v hf hh (yv_assign rfl) ?_; clear hf a; intro a hf
             refine o_end ?_
             refine sy_ret ?_
             refine then_r ?_
             refine then_r ?_
             refine ret_r hf rfl rfl ?_
             first
               | exact ⟨rfl, hh.ext⟩
               | (exfalso
                  (repeat (rename Fr _ _ _ _ => z9; clear z9))
                  (repeat (rename Hp _ _ _ _ => z9; clear z9))
                  (try clear hcn); (try clear hat); (try clear hbe)
                  first
                    | (rcases hK with ⟨h1, h2, h3⟩ | ⟨h1, h2, h3⟩ | ⟨h1, h2, h3⟩ <;> first | (omega; done) | (simp_all; done))
                    | (omega; done)
                    | (simp_all; done)
                    | (simp_all <;> omega))
            ·have hG49 := hg49; try simp only [gS] at hG49
             refine sy_skip ?_
             refine then_n ?_
             refine sy_sq ?_
             refine o_v hf hh (yv_fieldAddr Try.fo_24_1 rfl) ?_; clear hf a; intro a hf
             refine o_v hf hh (y_ld Try.sc_22 rfl) ?_; clear hf a; intro a hf
             refine o_v hf hh (yv_len Try.se_22 rfl) ?_; clear hf a; intro a hf
             refine o_v hf hh (yv_move rfl) ?_; clear hf a; intro a hf
             refine o_end ?_
             refine sy_block ?_
             refine sy_loopH (σ := Nat) [4, 10, 11, 12, 96, 97, 98, 99, 100, 101, 102, 103, 104, 105, 106, 107, 108, 109, 110, 111, 112, 113, 114, 115, 116] (fun i => [(96, .int .i64 (i : Nat))]) (fun i => fun w' => i ≤ c.si.length ∧ Hp u [] [(B2, .cells (chC c sa cp) 24)] w') (fun i => c.si.length - i) (0) hf ?_ ?_ ?_
             · repeat' (first | exact True.intro | refine And.intro rfl ?_)
             · exact ⟨Nat.zero_le _, hh⟩
             ·rintro i a w ⟨hi, hh⟩ hf
              refine sy_sq ?_
              refine o_v hf hh (yv_bin rfl rfl rfl) ?_; clear hf a; intro a hf
              refine o_end ?_
              refine sy_seq ?_
              refine sy_cond hf rfl (fun hg51 => ?_) (fun hg51 => ?_)
              ·have hG51 := hg51; try simp only [gS] at hG51
               refine sy_skip ?_
               refine then_n ?_
               refine sy_seq ?_
               refine sy_block ?_
               refine sy_sq ?_
               refine o_v hf hh (yv_move rfl) ?_; clear hf a; intro a hf
               refine o_v hf hh (yv_assign rfl) ?_; clear hf a; intro a hf
               refine o_end ?_
               refine sy_sq ?_
               refine o_v hf hh (yv_move rfl) ?_; clear hf a; intro a hf
               refine o_v hf hh (yv_move rfl) ?_; clear hf a; intro a hf
               refine o_v hf hh (yv_shrN rfl rfl) ?_; clear hf a; intro a hf
               refine o_v hf hh (yv_and1 rfl rfl (by omega)) ?_; clear hf a; intro a hf
               refine o_v hf hh (yv_cast (yv_bin rfl rfl rfl) (show Value.bool (decide (((whyV c >>> i &&& 1 : Nat) : Int) = 1)) = Value.bool ((whyV c).testBit i) by rw [bit1]; cases (whyV c).testBit i <;> rfl)) ?_; clear hf a; intro a hf
               refine o_end ?_
               refine sy_cond hf rfl (fun hg55 => ?_) (fun hg55 => ?_)
               ·have hG55 := hg55; try simp only [gS] at hG55
                refine sy_seq ?_
                have hbi : (whyV c).testBit i = true := by assumption
                have hle := less_two hcb hwr hbi
                have hil : i < c.si.length := by omega
                have hp2 : 2 ^ i ≤ 2 ^ 10 := Nat.pow_le_pow_right (by omega) (by omega)
                have hxl : whyV c ^^^ (whyV c &&& 2 ^ i) ≤ 4611686018427387904 := by
                  have h1 : whyV c ^^^ (whyV c &&& 2 ^ i) < 2 ^ 10 := Nat.lt_of_lt_of_le (Nat.xor_lt_two_pow hwl (Nat.lt_of_le_of_lt Nat.and_le_left hwl)) (Nat.pow_le_pow_right (by omega) hl10)
                  omega
                refine sy_treeC (.q 0 0 (.p 1 (.p 2 (.p 3 (.p 4 (.e1 5 (.e1 6 (.p 7 (.p 8 (.p 9 (.p 10 (.p 11 (.fin))))))))))))) [[]] [(AtE u [] [(B2, .cells (chC c sa cp) 24)], [])] Try.follows (by kernel_rfl) rfl hh (fun w hh => ?_)
                refine mc_q rfl rfl (AtE.of hh (by intro p hp; rw [List.mem_singleton.1 hp]; simp)) hf (y_lds Try.ag_24 rfl) (.inl rfl) rfl rfl ?_; clear hf a; intro a hf
                refine mc_p rfl   hf (yv_move rfl) (.inl rfl) rfl rfl ?_; clear hf a; intro a hf
                refine mc_p rfl   hf (yv_move rfl) (.inl rfl) rfl rfl ?_; clear hf a; intro a hf
                refine mc_p rfl   hf (yv_cast (yv_shl1 (.inl rfl) rfl rfl (by omega) (by omega)) (intv (b := ((2 ^ i : Nat) : Int)) (by rw [Int.toNat_natCast]))) (.inl rfl) rfl rfl ?_; clear hf a; intro a hf
                refine mc_p rfl   hf (yv_andnI rfl rfl (by omega) (by omega)) (.inl rfl) rfl rfl ?_; clear hf a; intro a hf
                refine mc_e rfl fun Q1 => ?_
                refine o_call hf Try.en_35 rfl rfl rfl (p35 c sa cp (whyV c ^^^ (whyV c &&& 2 ^ i)) _ (hA.ext hh.ext) hO (by omega)) ?_; clear hf a; intro v a w hR hf
                obtain ⟨sx, cx, X9, rfl, hAt, hx⟩ := hR; replace hh := hh.join hx; clear hx
                refine ops_end ?_
                refine then_n ⟨⟨fun _ _ => (AtE.of hh (by intro p hp; rw [List.mem_singleton.1 hp]; simp)), trivial⟩, ?_⟩
                refine mc_e rfl fun Q1 => ?_
                refine o_call hf Try.en_24 rfl rfl rfl (p24 (partC c (whyV c ^^^ (whyV c &&& 2 ^ i)).testBit) sx cx _ (hAt _ (fun q hq => hh.get q (by simp [hq])))) ?_; clear hf a; intro v a w hR hf
                obtain ⟨rfl, hx⟩ := hR; replace hh := (hh.more hx).less (List.sublist_append_right X9 _); clear hx
                refine ops_end ?_
                refine then_n ⟨⟨fun _ _ => (AtE.of hh (by intro p hp; rw [List.mem_singleton.1 hp]; simp)), trivial⟩, ?_⟩
                refine mc_p rfl   hf (yv_move rfl) (.inl rfl) rfl rfl ?_; clear hf a; intro a hf
                refine mc_p rfl   hf (yv_extract rfl rfl) (.inl rfl) rfl rfl ?_; clear hf a; intro a hf
                refine mc_p rfl   hf (yv_extract rfl rfl) (.inl rfl) rfl rfl ?_; clear hf a; intro a hf
                refine mc_p rfl   hf (yv_assign rfl) (.inl rfl) rfl rfl ?_; clear hf a; intro a hf
                refine mc_p rfl   hf (yv_assign rfl) (.inl rfl) rfl rfl ?_; clear hf a; intro a hf
                refine mc_end ?_
                refine then_n ?_
                refine sy_sq ?_
                refine o_v hf hh (yv_move rfl) ?_; clear hf a; intro a hf
                refine o_v hf hh (yv_bin rfl rfl rfl) ?_; clear hf a; intro a hf
                refine o_end ?_
                refine sy_cond hf rfl (fun hg63 => ?_) (fun hg63 => ?_)
                ·have hG63 := hg63; try simp only [gS] at hG63
                 refine sy_sq ?_
                 refine o_v hf hh (yv_assign rfl) ?_; clear hf a; intro a hf
                 refine o_end ?_
                 refine sy_ret ?_
                 refine blk_r ?_
                 refine then_r ?_
                 refine then_r ?_
                 refine blk_r ?_
                 refine then_r ?_
                 refine ret_r hf rfl rfl ?_
                 first
                   | exact ⟨rfl, hh.ext⟩
                   | (exfalso
                      (repeat (rename Fr _ _ _ _ => z9; clear z9))
                      (repeat (rename Hp _ _ _ _ => z9; clear z9))
                      (try clear hcn); (try clear hat); (try clear hbe)
                      first
                        | (rcases hK with ⟨h1, h2, h3⟩ | ⟨h1, h2, h3⟩ | ⟨h1, h2, h3⟩ <;> first | (omega; done) | (simp_all; done))
                        | (omega; done)
                        | (simp_all; done)
                        | (simp_all <;> omega))
                ·have hG63 := hg63; try simp only [gS] at hG63
                 refine sy_skip ?_
                 refine blk_n ?_
                 refine then_n ?_
                 refine sy_ops ?_
                 refine o_v hf hh (y_add rfl rfl) ?_; clear hf a; intro a hf
                 refine o_v hf hh (yv_move rfl) ?_; clear hf a; intro a hf
                 refine ops_end ?_
                 refine then_n ?_
                 exact ⟨i + 1, ⟨⟨by omega, hh⟩, (hf.head (by repeat' (first | exact True.intro | refine And.intro rfl ?_)) (Keep.cons rfl (Keep.cons rfl (Keep.cons rfl (Keep.cons rfl (Keep.cons rfl (Keep.cons rfl (Keep.cons rfl (Keep.cons rfl (Keep.cons rfl (Keep.cons rfl (Keep.cons rfl (Keep.cons rfl (Keep.cons rfl (Keep.cons rfl (Keep.cons rfl (Keep.cons rfl (Keep.cons rfl (Keep.cons rfl (Keep.cons rfl (Keep.cons rfl (Keep.cons rfl (Keep.cons rfl (Keep.cons rfl (Keep.cons rfl (Keep.app rfl (Keep.rm rfl Keep.base)))))))))))))))))))))))))))⟩, by omega⟩
               ·have hG55 := hg55; try simp only [gS] at hG55
                refine sy_skip ?_
                refine blk_n ?_
                refine then_n ?_
                refine sy_ops ?_
                refine o_v hf hh (y_add rfl rfl) ?_; clear hf a; intro a hf
                refine o_v hf hh (yv_move rfl) ?_; clear hf a; intro a hf
                refine ops_end ?_
                refine then_n ?_
                exact ⟨i + 1, ⟨⟨by omega, hh⟩, (hf.head (by repeat' (first | exact True.intro | refine And.intro rfl ?_)) (Keep.cons rfl (Keep.cons rfl (Keep.cons rfl (Keep.cons rfl (Keep.cons rfl (Keep.cons rfl (Keep.cons rfl (Keep.cons rfl (Keep.cons rfl (Keep.cons rfl (Keep.app rfl (Keep.rm rfl Keep.base)))))))))))))⟩, by omega⟩
              ·have hG51 := hg51; try simp only [gS] at hG51
               refine sy_exit ?_
               refine then_e ?_
               refine then_e ?_
               refine blk_e ?_
               refine then_n ?_
               refine sy_seq ?_
               obtain ⟨so, hso⟩ : ∃ so, so = zn &&& (2 ^ c.si.length - 1) := ⟨_, rfl⟩
               have hsl : so < 2 ^ c.si.length := by rw [hso]; exact and_all zn c.si.length
               have hS2 := some_two hcb hsl
               have hsp := pc_ten hcb hsl
               refine sy_ops ?_
               refine o_v hf hh (yv_move rfl) ?_; clear hf a; intro a hf
               first | refine o_v hf hh (yv_convx (.inl rfl) (by kernel_rfl) Try.un_3 rfl (by omega) (by simp only [IntKind.top]; omega)) ?_; clear hf a; intro a hf | refine o_v hf hh (yv_conv (by kernel_rfl) Try.un_3 rfl) ?_; clear hf a; intro a hf
               refine o_v hf hh (yv_move rfl) ?_; clear hf a; intro a hf
               refine ops_v hf hh (yv_cast (yv_and (.inl rfl) rfl rfl (by omega) (by simp only [IntKind.top]; omega) (by omega) (by simp only [IntKind.top]; omega)) (intv (b := ((so : Nat) : Int)) (by rw [hso, Int.toNat_natCast, show (((2 ^ c.si.length : Nat) : Int) - 1).toNat = 2 ^ c.si.length - 1 by omega]))) (.inl rfl) rfl rfl rfl ?_; clear hf a; intro a hf
               refine o_v hf hh (yv_assign rfl) ?_; clear hf a; intro a hf
               refine o_end ?_
               refine sy_sq ?_
               refine o_v hf hh (y_lds Try.ag_24 rfl) ?_; clear hf a; intro a hf
               refine o_v hf hh (yv_move rfl) ?_; clear hf a; intro a hf
               refine o_call hf Try.en_35 rfl rfl rfl (p35 c sa cp (so) _ (hA.ext hh.ext) hO (by omega)) ?_; clear hf a; intro v a w hR hf
               obtain ⟨sx, cx, X9, rfl, hAt, hx⟩ := hR; replace hh := hh.join hx; clear hx
               refine o_call hf Try.en_24 rfl rfl rfl (p24 (partC c (so).testBit) sx cx _ (hAt _ (fun q hq => hh.get q (by simp [hq])))) ?_; clear hf a; intro v a w hR hf
               obtain ⟨rfl, hx⟩ := hR; replace hh := (hh.more hx).less (List.sublist_append_right X9 _); clear hx
               refine o_v hf hh (yv_move rfl) ?_; clear hf a; intro a hf
               refine o_v hf hh (yv_extract rfl rfl) ?_; clear hf a; intro a hf
               refine o_v hf hh (yv_extract rfl rfl) ?_; clear hf a; intro a hf
               refine o_v hf hh (yv_assign rfl) ?_; clear hf a; intro a hf
               refine o_v hf hh (yv_assign rfl) ?_; clear hf a; intro a hf
               refine o_end ?_
               refine sy_seq ?_
               refine sy_sq ?_
               refine o_v hf hh (yv_move rfl) ?_; clear hf a; intro a hf
               refine o_v hf hh (yv_bin rfl rfl rfl) ?_; clear hf a; intro a hf
               refine o_end ?_
               refine sy_cond hf rfl (fun hg70 => ?_) (fun hg70 => ?_)
               ·have hG70 := hg70; try simp only [gS] at hG70
                refine sy_sq ?_
                refine o_call hf Try.en_14 rfl rfl rfl (p14 _) ?_; clear hf a; intro v a w hR hf
                obtain ⟨rfl, hx⟩ := hR; replace hh := hh.more hx; clear hx
                refine o_v hf hh (yv_assign rfl) ?_; clear hf a; intro a hf
                refine o_end ?_
                refine sy_ret ?_
                refine then_r ?_
                refine ret_r hf rfl rfl ?_
                first
                  | exact ⟨rfl, hh.ext⟩
                  | (exfalso
                     (repeat (rename Fr _ _ _ _ => z9; clear z9))
                     (repeat (rename Hp _ _ _ _ => z9; clear z9))
                     (try clear hcn); (try clear hat); (try clear hbe)
                     first
                       | (rcases hK with ⟨h1, h2, h3⟩ | ⟨h1, h2, h3⟩ | ⟨h1, h2, h3⟩ <;> first | (omega; done) | (simp_all; done))
                       | (omega; done)
                       | (simp_all; done)
                       | (simp_all <;> omega))
               ·have hG70 := hg70; try simp only [gS] at hG70
                refine sy_skip ?_
                refine then_n ?_
                refine sy_sq ?_
                refine o_v hf hh (yv_move rfl) ?_; clear hf a; intro a hf
                refine o_call hf Try.en_36 rfl rfl rfl (p36 so (by omega) _) ?_; clear hf a; intro v a w hR hf
                obtain ⟨rfl, hx⟩ := hR; replace hh := hh.more hx; clear hx
                refine o_v hf hh (yv_move rfl) ?_; clear hf a; intro a hf
                refine o_call hf Try.en_36 rfl rfl rfl (p36 (whyV c) (by omega) _) ?_; clear hf a; intro v a w hR hf
                obtain ⟨rfl, hx⟩ := hR; replace hh := hh.more hx; clear hx
                refine o_v hf hh (yv_assign rfl) ?_; clear hf a; intro a hf
                refine o_v hf hh (yv_assign rfl) ?_; clear hf a; intro a hf
                refine o_end ?_
                refine sy_sq ?_
                refine o_v hf hh (yv_move rfl) ?_; clear hf a; intro a hf
                refine o_v hf hh (yv_bin rfl rfl rfl) ?_; clear hf a; intro a hf
                refine o_v hf hh (yv_move rfl) ?_; clear hf a; intro a hf
                refine guard_split hf (t := 137) rfl (fun hg75 => ?_) (fun hg75 => ?_)
                ·have hG75 := hg75; try simp only [gS] at hG75
                 refine o_v hf hh (yv_move rfl) ?_; clear hf a; intro a hf
                 refine o_v hf hh (yv_bin rfl rfl rfl) ?_; clear hf a; intro a hf
                 refine o_v hf hh (y_pt rfl rfl) ?_; clear hf a; intro a hf
                 refine o_v hf hh (yv_move rfl) ?_; clear hf a; intro a hf
                 refine guard_split hf (t := 141) rfl (fun hg77 => ?_) (fun hg77 => ?_)
                 ·have hG77 := hg77; try simp only [gS] at hG77
                  refine o_v hf hh (yv_move rfl) ?_; clear hf a; intro a hf
                  refine o_v hf hh (yv_move rfl) ?_; clear hf a; intro a hf
                  refine o_v hf hh (yv_bin rfl rfl rfl) ?_; clear hf a; intro a hf
                  refine o_v hf hh (yv_move rfl) ?_; clear hf a; intro a hf
                  refine guard_split hf (t := 145) rfl (fun hg79 => ?_) (fun hg79 => ?_)
                  ·have hG79 := hg79; try simp only [gS] at hG79
                   refine o_off hf ?_; clear hf a; intro a hf
                   refine o_off hf ?_; clear hf a; intro a hf
                   refine o_off hf ?_; clear hf a; intro a hf
                   refine o_off hf ?_; clear hf a; intro a hf
                   refine o_off hf ?_; clear hf a; intro a hf
                   refine o_off hf ?_; clear hf a; intro a hf
                   refine o_off hf ?_; clear hf a; intro a hf
                   refine o_off hf ?_; clear hf a; intro a hf
                   refine o_v hf hh (y_pt rfl rfl) ?_; clear hf a; intro a hf
                   refine o_v hf hh (y_pt rfl rfl) ?_; clear hf a; intro a hf
                   refine o_v hf hh (yv_move rfl) ?_; clear hf a; intro a hf
                   refine o_call hf Try.en_14 rfl rfl rfl (p14 _) ?_; clear hf a; intro v a w hR hf
                   obtain ⟨rfl, hx⟩ := hR; replace hh := hh.more hx; clear hx
                   refine o_v hf hh (y_pt rfl rfl) ?_; clear hf a; intro a hf
                   refine o_v hf hh (yv_assign rfl) ?_; clear hf a; intro a hf
                   refine o_end ?_
                   refine sy_ret ?_
                   refine ret_r hf rfl rfl ?_
                   first
                     | exact ⟨rfl, hh.ext⟩
                     | (exfalso
                        (repeat (rename Fr _ _ _ _ => z9; clear z9))
                        (repeat (rename Hp _ _ _ _ => z9; clear z9))
                        (try clear hcn); (try clear hat); (try clear hbe)
                        first
                          | (rcases hK with ⟨h1, h2, h3⟩ | ⟨h1, h2, h3⟩ | ⟨h1, h2, h3⟩ <;> first | (omega; done) | (simp_all; done))
                          | (omega; done)
                          | (simp_all; done)
                          | (simp_all <;> omega))
                  ·have hG79 := hg79; try simp only [gS] at hG79
                   refine o_v hf hh (yv_move rfl) ?_; clear hf a; intro a hf
                   refine o_v hf hh (yv_move rfl) ?_; clear hf a; intro a hf
                   refine o_v hf hh (yv_bin rfl rfl rfl) ?_; clear hf a; intro a hf
                   refine o_v hf hh (yv_move rfl) ?_; clear hf a; intro a hf
                   refine guard_split hf (t := 149) rfl (fun hg82 => ?_) (fun hg82 => ?_)
                   ·have hG82 := hg82; try simp only [gS] at hG82
                    refine o_v hf hh (yv_move rfl) ?_; clear hf a; intro a hf
                    refine o_v hf hh (yv_move rfl) ?_; clear hf a; intro a hf
                    refine o_v hf hh (yv_bin rfl rfl rfl) ?_; clear hf a; intro a hf
                    refine o_v hf hh (y_pt rfl rfl) ?_; clear hf a; intro a hf
                    refine o_v hf hh (y_pf rfl rfl) ?_; clear hf a; intro a hf
                    refine o_v hf hh (y_pt rfl rfl) ?_; clear hf a; intro a hf
                    refine o_v hf hh (yv_move rfl) ?_; clear hf a; intro a hf
                    refine guard_split hf (t := 156) rfl (fun hg84 => ?_) (fun hg84 => ?_)
                    ·have hG84 := hg84; try simp only [gS] at hG84
                     refine o_call hf Try.en_14 rfl rfl rfl (p14 _) ?_; clear hf a; intro v a w hR hf
                     obtain ⟨rfl, hx⟩ := hR; replace hh := hh.more hx; clear hx
                     refine o_v hf hh (y_pt rfl rfl) ?_; clear hf a; intro a hf
                     refine o_v hf hh (yv_assign rfl) ?_; clear hf a; intro a hf
                     refine o_end ?_
                     refine sy_ret ?_
                     refine ret_r hf rfl rfl ?_
                     first
                       | exact ⟨rfl, hh.ext⟩
                       | (exfalso
                          (repeat (rename Fr _ _ _ _ => z9; clear z9))
                          (repeat (rename Hp _ _ _ _ => z9; clear z9))
                          (try clear hcn); (try clear hat); (try clear hbe)
                          first
                            | (rcases hK with ⟨h1, h2, h3⟩ | ⟨h1, h2, h3⟩ | ⟨h1, h2, h3⟩ <;> first | (omega; done) | (simp_all; done))
                            | (omega; done)
                            | (simp_all; done)
                            | (simp_all <;> omega))
                    ·have hG84 := hg84; try simp only [gS] at hG84
                     refine o_off hf ?_; clear hf a; intro a hf
                     refine o_v hf hh (y_pf rfl rfl) ?_; clear hf a; intro a hf
                     refine o_v hf hh (yv_assign rfl) ?_; clear hf a; intro a hf
                     refine o_end ?_
                     refine sy_ret ?_
                     refine ret_r hf rfl rfl ?_
                     first
                       | exact ⟨rfl, hh.ext⟩
                       | (exfalso
                          (repeat (rename Fr _ _ _ _ => z9; clear z9))
                          (repeat (rename Hp _ _ _ _ => z9; clear z9))
                          (try clear hcn); (try clear hat); (try clear hbe)
                          first
                            | (rcases hK with ⟨h1, h2, h3⟩ | ⟨h1, h2, h3⟩ | ⟨h1, h2, h3⟩ <;> first | (omega; done) | (simp_all; done))
                            | (omega; done)
                            | (simp_all; done)
                            | (simp_all <;> omega))
                   ·have hG82 := hg82; try simp only [gS] at hG82
                    refine o_off hf ?_; clear hf a; intro a hf
                    refine o_off hf ?_; clear hf a; intro a hf
                    refine o_off hf ?_; clear hf a; intro a hf
                    refine o_v hf hh (y_pf rfl rfl) ?_; clear hf a; intro a hf
                    refine o_v hf hh (y_pf rfl rfl) ?_; clear hf a; intro a hf
                    refine o_v hf hh (y_pt rfl rfl) ?_; clear hf a; intro a hf
                    refine o_v hf hh (yv_move rfl) ?_; clear hf a; intro a hf
                    refine o_off hf ?_; clear hf a; intro a hf
                    refine o_v hf hh (y_pf rfl rfl) ?_; clear hf a; intro a hf
                    refine o_v hf hh (yv_assign rfl) ?_; clear hf a; intro a hf
                    refine o_end ?_
                    refine sy_ret ?_
                    refine ret_r hf rfl rfl ?_
                    first
                      | exact ⟨rfl, hh.ext⟩
                      | (exfalso
                         (repeat (rename Fr _ _ _ _ => z9; clear z9))
                         (repeat (rename Hp _ _ _ _ => z9; clear z9))
                         (try clear hcn); (try clear hat); (try clear hbe)
                         first
                           | (rcases hK with ⟨h1, h2, h3⟩ | ⟨h1, h2, h3⟩ | ⟨h1, h2, h3⟩ <;> first | (omega; done) | (simp_all; done))
                           | (omega; done)
                           | (simp_all; done)
                           | (simp_all <;> omega))
                 ·have hG77 := hg77; try simp only [gS] at hG77
                  refine o_off hf ?_; clear hf a; intro a hf
                  refine o_off hf ?_; clear hf a; intro a hf
                  refine o_off hf ?_; clear hf a; intro a hf
                  refine o_off hf ?_; clear hf a; intro a hf
                  refine o_off hf ?_; clear hf a; intro a hf
                  refine o_off hf ?_; clear hf a; intro a hf
                  refine o_off hf ?_; clear hf a; intro a hf
                  refine o_off hf ?_; clear hf a; intro a hf
                  refine o_off hf ?_; clear hf a; intro a hf
                  refine o_off hf ?_; clear hf a; intro a hf
                  refine o_off hf ?_; clear hf a; intro a hf
                  refine o_off hf ?_; clear hf a; intro a hf
                  refine o_off hf ?_; clear hf a; intro a hf
                  refine o_v hf hh (y_pf rfl rfl) ?_; clear hf a; intro a hf
                  refine o_v hf hh (yv_move rfl) ?_; clear hf a; intro a hf
                  refine o_off hf ?_; clear hf a; intro a hf
                  refine o_v hf hh (y_pf rfl rfl) ?_; clear hf a; intro a hf
                  refine o_v hf hh (yv_assign rfl) ?_; clear hf a; intro a hf
                  refine o_end ?_
                  refine sy_ret ?_
                  refine ret_r hf rfl rfl ?_
                  first
                    | exact ⟨rfl, hh.ext⟩
                    | (exfalso
                       (repeat (rename Fr _ _ _ _ => z9; clear z9))
                       (repeat (rename Hp _ _ _ _ => z9; clear z9))
                       (try clear hcn); (try clear hat); (try clear hbe)
                       first
                         | (rcases hK with ⟨h1, h2, h3⟩ | ⟨h1, h2, h3⟩ | ⟨h1, h2, h3⟩ <;> first | (omega; done) | (simp_all; done))
                         | (omega; done)
                         | (simp_all; done)
                         | (simp_all <;> omega))
                ·have hG75 := hg75; try simp only [gS] at hG75
                 refine o_off hf ?_; clear hf a; intro a hf
                 refine o_off hf ?_; clear hf a; intro a hf
                 refine o_v hf hh (y_pf rfl rfl) ?_; clear hf a; intro a hf
                 refine o_v hf hh (yv_move rfl) ?_; clear hf a; intro a hf
                 refine o_off hf ?_; clear hf a; intro a hf
                 refine o_off hf ?_; clear hf a; intro a hf
                 refine o_off hf ?_; clear hf a; intro a hf
                 refine o_off hf ?_; clear hf a; intro a hf
                 refine o_off hf ?_; clear hf a; intro a hf
                 refine o_off hf ?_; clear hf a; intro a hf
                 refine o_off hf ?_; clear hf a; intro a hf
                 refine o_off hf ?_; clear hf a; intro a hf
                 refine o_off hf ?_; clear hf a; intro a hf
                 refine o_off hf ?_; clear hf a; intro a hf
                 refine o_off hf ?_; clear hf a; intro a hf
                 refine o_off hf ?_; clear hf a; intro a hf
                 refine o_off hf ?_; clear hf a; intro a hf
                 refine o_v hf hh (y_pf rfl rfl) ?_; clear hf a; intro a hf
                 refine o_v hf hh (yv_move rfl) ?_; clear hf a; intro a hf
                 refine o_off hf ?_; clear hf a; intro a hf
                 refine o_v hf hh (y_pf rfl rfl) ?_; clear hf a; intro a hf
                 refine o_v hf hh (yv_assign rfl) ?_; clear hf a; intro a hf
                 refine o_end ?_
                 refine sy_ret ?_
                 refine ret_r hf rfl rfl ?_
                 first
                   | exact ⟨rfl, hh.ext⟩
                   | (exfalso
                      (repeat (rename Fr _ _ _ _ => z9; clear z9))
                      (repeat (rename Hp _ _ _ _ => z9; clear z9))
                      (try clear hcn); (try clear hat); (try clear hbe)
                      first
                        | (rcases hK with ⟨h1, h2, h3⟩ | ⟨h1, h2, h3⟩ | ⟨h1, h2, h3⟩ <;> first | (omega; done) | (simp_all; done))
                        | (omega; done)
                        | (simp_all; done)
                        | (simp_all <;> omega))
          ·have hG39 := hg39; try simp only [gS] at hG39
           refine sy_skip ?_
           refine then_n ?_
           refine sy_seq ?_
           obtain ⟨so, hso⟩ : ∃ so, so = zn &&& (2 ^ c.si.length - 1) := ⟨_, rfl⟩
           have hsl : so < 2 ^ c.si.length := by rw [hso]; exact and_all zn c.si.length
           have hS2 := some_two hcb hsl
           have hsp := pc_ten hcb hsl
           refine sy_ops ?_
           refine o_v hf hh (yv_move rfl) ?_; clear hf a; intro a hf
           first | refine o_v hf hh (yv_convx (.inl rfl) (by kernel_rfl) Try.un_3 rfl (by omega) (by simp only [IntKind.top]; omega)) ?_; clear hf a; intro a hf | refine o_v hf hh (yv_conv (by kernel_rfl) Try.un_3 rfl) ?_; clear hf a; intro a hf
           refine o_v hf hh (yv_move rfl) ?_; clear hf a; intro a hf
           refine ops_v hf hh (yv_cast (yv_and (.inl rfl) rfl rfl (by omega) (by simp only [IntKind.top]; omega) (by omega) (by simp only [IntKind.top]; omega)) (intv (b := ((so : Nat) : Int)) (by rw [hso, Int.toNat_natCast, show (((2 ^ c.si.length : Nat) : Int) - 1).toNat = 2 ^ c.si.length - 1 by omega]))) (.inl rfl) rfl rfl rfl ?_; clear hf a; intro a hf
           refine o_v hf hh (yv_assign rfl) ?_; clear hf a; intro a hf
           refine o_end ?_
           refine sy_sq ?_
           refine o_v hf hh (y_lds Try.ag_24 rfl) ?_; clear hf a; intro a hf
           refine o_v hf hh (yv_move rfl) ?_; clear hf a; intro a hf
           refine o_call hf Try.en_35 rfl rfl rfl (p35 c sa cp (so) _ (hA.ext hh.ext) hO (by omega)) ?_; clear hf a; intro v a w hR hf
           obtain ⟨sx, cx, X9, rfl, hAt, hx⟩ := hR; replace hh := hh.join hx; clear hx
           refine o_call hf Try.en_24 rfl rfl rfl (p24 (partC c (so).testBit) sx cx _ (hAt _ (fun q hq => hh.get q (by simp [hq])))) ?_; clear hf a; intro v a w hR hf
           obtain ⟨rfl, hx⟩ := hR; replace hh := (hh.more hx).less (List.sublist_append_right X9 _); clear hx
           refine o_v hf hh (yv_move rfl) ?_; clear hf a; intro a hf
           refine o_v hf hh (yv_extract rfl rfl) ?_; clear hf a; intro a hf
           refine o_v hf hh (yv_extract rfl rfl) ?_; clear hf a; intro a hf
           refine o_v hf hh (yv_assign rfl) ?_; clear hf a; intro a hf
           refine o_v hf hh (yv_assign rfl) ?_; clear hf a; intro a hf
           refine o_end ?_
           refine sy_seq ?_
           refine sy_sq ?_
           refine o_v hf hh (yv_move rfl) ?_; clear hf a; intro a hf
           refine o_v hf hh (yv_bin rfl rfl rfl) ?_; clear hf a; intro a hf
           refine o_end ?_
           refine sy_cond hf rfl (fun hg92 => ?_) (fun hg92 => ?_)
           ·have hG92 := hg92; try simp only [gS] at hG92
            refine sy_sq ?_
            refine o_call hf Try.en_14 rfl rfl rfl (p14 _) ?_; clear hf a; intro v a w hR hf
            obtain ⟨rfl, hx⟩ := hR; replace hh := hh.more hx; clear hx
            refine o_v hf hh (yv_assign rfl) ?_; clear hf a; intro a hf
            refine o_end ?_
            refine sy_ret ?_
            refine then_r ?_
            refine ret_r hf rfl rfl ?_
            first
              | exact ⟨rfl, hh.ext⟩
              | (exfalso
                 (repeat (rename Fr _ _ _ _ => z9; clear z9))
                 (repeat (rename Hp _ _ _ _ => z9; clear z9))
                 (try clear hcn); (try clear hat); (try clear hbe)
                 first
                   | (rcases hK with ⟨h1, h2, h3⟩ | ⟨h1, h2, h3⟩ | ⟨h1, h2, h3⟩ <;> first | (omega; done) | (simp_all; done))
                   | (omega; done)
                   | (simp_all; done)
                   | (simp_all <;> omega))
           ·have hG92 := hg92; try simp only [gS] at hG92
            refine sy_skip ?_
            refine then_n ?_
            refine sy_sq ?_
            refine o_v hf hh (yv_move rfl) ?_; clear hf a; intro a hf
            refine o_call hf Try.en_36 rfl rfl rfl (p36 so (by omega) _) ?_; clear hf a; intro v a w hR hf
            obtain ⟨rfl, hx⟩ := hR; replace hh := hh.more hx; clear hx
            refine o_v hf hh (yv_move rfl) ?_; clear hf a; intro a hf
            refine o_call hf Try.en_36 rfl rfl rfl (p36 (whyV c) (by omega) _) ?_; clear hf a; intro v a w hR hf
            obtain ⟨rfl, hx⟩ := hR; replace hh := hh.more hx; clear hx
            refine o_v hf hh (yv_assign rfl) ?_; clear hf a; intro a hf
            refine o_v hf hh (yv_assign rfl) ?_; clear hf a; intro a hf
            refine o_end ?_
            refine sy_sq ?_
            refine o_v hf hh (yv_move rfl) ?_; clear hf a; intro a hf
            refine o_v hf hh (yv_bin rfl rfl rfl) ?_; clear hf a; intro a hf
            refine o_v hf hh (yv_move rfl) ?_; clear hf a; intro a hf
            refine guard_split hf (t := 137) rfl (fun hg97 => ?_) (fun hg97 => ?_)
            ·have hG97 := hg97; try simp only [gS] at hG97
             refine o_v hf hh (yv_move rfl) ?_; clear hf a; intro a hf
             refine o_v hf hh (yv_bin rfl rfl rfl) ?_; clear hf a; intro a hf
             refine o_v hf hh (y_pt rfl rfl) ?_; clear hf a; intro a hf
             refine o_v hf hh (yv_move rfl) ?_; clear hf a; intro a hf
             refine guard_split hf (t := 141) rfl (fun hg99 => ?_) (fun hg99 => ?_)
             ·have hG99 := hg99; try simp only [gS] at hG99
              refine o_v hf hh (yv_move rfl) ?_; clear hf a; intro a hf
              refine o_v hf hh (yv_move rfl) ?_; clear hf a; intro a hf
              refine o_v hf hh (yv_bin rfl rfl rfl) ?_; clear hf a; intro a hf
              refine o_v hf hh (yv_move rfl) ?_; clear hf a; intro a hf
              refine guard_split hf (t := 145) rfl (fun hg101 => ?_) (fun hg101 => ?_)
              ·have hG101 := hg101; try simp only [gS] at hG101
               refine o_off hf ?_; clear hf a; intro a hf
               refine o_off hf ?_; clear hf a; intro a hf
               refine o_off hf ?_; clear hf a; intro a hf
               refine o_off hf ?_; clear hf a; intro a hf
               refine o_off hf ?_; clear hf a; intro a hf
               refine o_off hf ?_; clear hf a; intro a hf
               refine o_off hf ?_; clear hf a; intro a hf
               refine o_off hf ?_; clear hf a; intro a hf
               refine o_v hf hh (y_pt rfl rfl) ?_; clear hf a; intro a hf
               refine o_v hf hh (y_pt rfl rfl) ?_; clear hf a; intro a hf
               refine o_v hf hh (yv_move rfl) ?_; clear hf a; intro a hf
               refine o_call hf Try.en_14 rfl rfl rfl (p14 _) ?_; clear hf a; intro v a w hR hf
               obtain ⟨rfl, hx⟩ := hR; replace hh := hh.more hx; clear hx
               refine o_v hf hh (y_pt rfl rfl) ?_; clear hf a; intro a hf
               refine o_v hf hh (yv_assign rfl) ?_; clear hf a; intro a hf
               refine o_end ?_
               refine sy_ret ?_
               refine ret_r hf rfl rfl ?_
               first
                 | exact ⟨rfl, hh.ext⟩
                 | (exfalso
                    (repeat (rename Fr _ _ _ _ => z9; clear z9))
                    (repeat (rename Hp _ _ _ _ => z9; clear z9))
                    (try clear hcn); (try clear hat); (try clear hbe)
                    first
                      | (rcases hK with ⟨h1, h2, h3⟩ | ⟨h1, h2, h3⟩ | ⟨h1, h2, h3⟩ <;> first | (omega; done) | (simp_all; done))
                      | (omega; done)
                      | (simp_all; done)
                      | (simp_all <;> omega))
              ·have hG101 := hg101; try simp only [gS] at hG101
               refine o_v hf hh (yv_move rfl) ?_; clear hf a; intro a hf
               refine o_v hf hh (yv_move rfl) ?_; clear hf a; intro a hf
               refine o_v hf hh (yv_bin rfl rfl rfl) ?_; clear hf a; intro a hf
               refine o_v hf hh (yv_move rfl) ?_; clear hf a; intro a hf
               refine guard_split hf (t := 149) rfl (fun hg104 => ?_) (fun hg104 => ?_)
               ·have hG104 := hg104; try simp only [gS] at hG104
                refine o_v hf hh (yv_move rfl) ?_; clear hf a; intro a hf
                refine o_v hf hh (yv_move rfl) ?_; clear hf a; intro a hf
                refine o_v hf hh (yv_bin rfl rfl rfl) ?_; clear hf a; intro a hf
                refine o_v hf hh (y_pt rfl rfl) ?_; clear hf a; intro a hf
                refine o_v hf hh (y_pf rfl rfl) ?_; clear hf a; intro a hf
                refine o_v hf hh (y_pt rfl rfl) ?_; clear hf a; intro a hf
                refine o_v hf hh (yv_move rfl) ?_; clear hf a; intro a hf
                refine guard_split hf (t := 156) rfl (fun hg106 => ?_) (fun hg106 => ?_)
                ·have hG106 := hg106; try simp only [gS] at hG106
                 refine o_call hf Try.en_14 rfl rfl rfl (p14 _) ?_; clear hf a; intro v a w hR hf
                 obtain ⟨rfl, hx⟩ := hR; replace hh := hh.more hx; clear hx
                 refine o_v hf hh (y_pt rfl rfl) ?_; clear hf a; intro a hf
                 refine o_v hf hh (yv_assign rfl) ?_; clear hf a; intro a hf
                 refine o_end ?_
                 refine sy_ret ?_
                 refine ret_r hf rfl rfl ?_
                 first
                   | exact ⟨rfl, hh.ext⟩
                   | (exfalso
                      (repeat (rename Fr _ _ _ _ => z9; clear z9))
                      (repeat (rename Hp _ _ _ _ => z9; clear z9))
                      (try clear hcn); (try clear hat); (try clear hbe)
                      first
                        | (rcases hK with ⟨h1, h2, h3⟩ | ⟨h1, h2, h3⟩ | ⟨h1, h2, h3⟩ <;> first | (omega; done) | (simp_all; done))
                        | (omega; done)
                        | (simp_all; done)
                        | (simp_all <;> omega))
                ·have hG106 := hg106; try simp only [gS] at hG106
                 refine o_off hf ?_; clear hf a; intro a hf
                 refine o_v hf hh (y_pf rfl rfl) ?_; clear hf a; intro a hf
                 refine o_v hf hh (yv_assign rfl) ?_; clear hf a; intro a hf
                 refine o_end ?_
                 refine sy_ret ?_
                 refine ret_r hf rfl rfl ?_
                 first
                   | exact ⟨rfl, hh.ext⟩
                   | (exfalso
                      (repeat (rename Fr _ _ _ _ => z9; clear z9))
                      (repeat (rename Hp _ _ _ _ => z9; clear z9))
                      (try clear hcn); (try clear hat); (try clear hbe)
                      first
                        | (rcases hK with ⟨h1, h2, h3⟩ | ⟨h1, h2, h3⟩ | ⟨h1, h2, h3⟩ <;> first | (omega; done) | (simp_all; done))
                        | (omega; done)
                        | (simp_all; done)
                        | (simp_all <;> omega))
               ·have hG104 := hg104; try simp only [gS] at hG104
                refine o_off hf ?_; clear hf a; intro a hf
                refine o_off hf ?_; clear hf a; intro a hf
                refine o_off hf ?_; clear hf a; intro a hf
                refine o_v hf hh (y_pf rfl rfl) ?_; clear hf a; intro a hf
                refine o_v hf hh (y_pf rfl rfl) ?_; clear hf a; intro a hf
                refine o_v hf hh (y_pt rfl rfl) ?_; clear hf a; intro a hf
                refine o_v hf hh (yv_move rfl) ?_; clear hf a; intro a hf
                refine o_off hf ?_; clear hf a; intro a hf
                refine o_v hf hh (y_pf rfl rfl) ?_; clear hf a; intro a hf
                refine o_v hf hh (yv_assign rfl) ?_; clear hf a; intro a hf
                refine o_end ?_
                refine sy_ret ?_
                refine ret_r hf rfl rfl ?_
                first
                  | exact ⟨rfl, hh.ext⟩
                  | (exfalso
                     (repeat (rename Fr _ _ _ _ => z9; clear z9))
                     (repeat (rename Hp _ _ _ _ => z9; clear z9))
                     (try clear hcn); (try clear hat); (try clear hbe)
                     first
                       | (rcases hK with ⟨h1, h2, h3⟩ | ⟨h1, h2, h3⟩ | ⟨h1, h2, h3⟩ <;> first | (omega; done) | (simp_all; done))
                       | (omega; done)
                       | (simp_all; done)
                       | (simp_all <;> omega))
             ·have hG99 := hg99; try simp only [gS] at hG99
              refine o_off hf ?_; clear hf a; intro a hf
              refine o_off hf ?_; clear hf a; intro a hf
              refine o_off hf ?_; clear hf a; intro a hf
              refine o_off hf ?_; clear hf a; intro a hf
              refine o_off hf ?_; clear hf a; intro a hf
              refine o_off hf ?_; clear hf a; intro a hf
              refine o_off hf ?_; clear hf a; intro a hf
              refine o_off hf ?_; clear hf a; intro a hf
              refine o_off hf ?_; clear hf a; intro a hf
              refine o_off hf ?_; clear hf a; intro a hf
              refine o_off hf ?_; clear hf a; intro a hf
              refine o_off hf ?_; clear hf a; intro a hf
              refine o_off hf ?_; clear hf a; intro a hf
              refine o_v hf hh (y_pf rfl rfl) ?_; clear hf a; intro a hf
              refine o_v hf hh (yv_move rfl) ?_; clear hf a; intro a hf
              refine o_off hf ?_; clear hf a; intro a hf
              refine o_v hf hh (y_pf rfl rfl) ?_; clear hf a; intro a hf
              refine o_v hf hh (yv_assign rfl) ?_; clear hf a; intro a hf
              refine o_end ?_
              refine sy_ret ?_
              refine ret_r hf rfl rfl ?_
              first
                | exact ⟨rfl, hh.ext⟩
                | (exfalso
                   (repeat (rename Fr _ _ _ _ => z9; clear z9))
                   (repeat (rename Hp _ _ _ _ => z9; clear z9))
                   (try clear hcn); (try clear hat); (try clear hbe)
                   first
                     | (rcases hK with ⟨h1, h2, h3⟩ | ⟨h1, h2, h3⟩ | ⟨h1, h2, h3⟩ <;> first | (omega; done) | (simp_all; done))
                     | (omega; done)
                     | (simp_all; done)
                     | (simp_all <;> omega))
            ·have hG97 := hg97; try simp only [gS] at hG97
             refine o_off hf ?_; clear hf a; intro a hf
             refine o_off hf ?_; clear hf a; intro a hf
             refine o_v hf hh (y_pf rfl rfl) ?_; clear hf a; intro a hf
             refine o_v hf hh (yv_move rfl) ?_; clear hf a; intro a hf
             refine o_off hf ?_; clear hf a; intro a hf
             refine o_off hf ?_; clear hf a; intro a hf
             refine o_off hf ?_; clear hf a; intro a hf
             refine o_off hf ?_; clear hf a; intro a hf
             refine o_off hf ?_; clear hf a; intro a hf
             refine o_off hf ?_; clear hf a; intro a hf
             refine o_off hf ?_; clear hf a; intro a hf
             refine o_off hf ?_; clear hf a; intro a hf
             refine o_off hf ?_; clear hf a; intro a hf
             refine o_off hf ?_; clear hf a; intro a hf
             refine o_off hf ?_; clear hf a; intro a hf
             refine o_off hf ?_; clear hf a; intro a hf
             refine o_off hf ?_; clear hf a; intro a hf
             refine o_v hf hh (y_pf rfl rfl) ?_; clear hf a; intro a hf
             refine o_v hf hh (yv_move rfl) ?_; clear hf a; intro a hf
             refine o_off hf ?_; clear hf a; intro a hf
             refine o_v hf hh (y_pf rfl rfl) ?_; clear hf a; intro a hf
             refine o_v hf hh (yv_assign rfl) ?_; clear hf a; intro a hf
             refine o_end ?_
             refine sy_ret ?_
             refine ret_r hf rfl rfl ?_
             first
               | exact ⟨rfl, hh.ext⟩
               | (exfalso
                  (repeat (rename Fr _ _ _ _ => z9; clear z9))
                  (repeat (rename Hp _ _ _ _ => z9; clear z9))
                  (try clear hcn); (try clear hat); (try clear hbe)
                  first
                    | (rcases hK with ⟨h1, h2, h3⟩ | ⟨h1, h2, h3⟩ | ⟨h1, h2, h3⟩ <;> first | (omega; done) | (simp_all; done))
                    | (omega; done)
                    | (simp_all; done)
                    | (simp_all <;> omega))
        ·have hG35 := hg35; try simp only [gS] at hG35
         refine o_off hf ?_; clear hf a; intro a hf
         refine o_off hf ?_; clear hf a; intro a hf
         refine o_v hf hh (y_pf rfl rfl) ?_; clear hf a; intro a hf
         refine o_v hf hh (y_pf rfl rfl) ?_; clear hf a; intro a hf
         refine o_end ?_
         refine c_f hf ?_
         refine sy_skip ?_
         refine then_n ?_
         refine sy_seq ?_
         refine sy_sq ?_
         refine o_v hf hh (yv_move rfl) ?_; clear hf a; intro a hf
         refine o_v hf hh (yv_bin rfl rfl rfl) ?_; clear hf a; intro a hf
         refine o_end ?_
         refine sy_cond hf rfl (fun hg109 => ?_) (fun hg109 => ?_)
         ·have hG109 := hg109; try simp only [gS] at hG109
          refine sy_seq ?_
          refine sy_seq ?_
          obtain ⟨he11, hwr, hw0⟩ := hW2.resolve_left (fun h => absurd h.1 (by assumption))
          obtain ⟨ho1, ho2⟩ := own_two hcb hwr
          refine sy_ops ?_
          refine o_v hf hh (y_lds Try.ag_24 rfl) ?_; clear hf a; intro a hf
          refine o_v hf hh (yv_move rfl) ?_; clear hf a; intro a hf
          refine o_call hf Try.en_35 rfl rfl rfl (p35 c sa cp (whyV c) _ (hA.ext hh.ext) hO (by omega)) ?_; clear hf a; intro v a w hR hf
          obtain ⟨sx, cx, X9, rfl, hAt, hx⟩ := hR; replace hh := hh.join hx; clear hx
          refine o_call hf Try.en_24 rfl rfl rfl (p24 (partC c (whyV c).testBit) sx cx _ (hAt _ (fun q hq => hh.get q (by simp [hq])))) ?_; clear hf a; intro v a w hR hf
          obtain ⟨rfl, hx⟩ := hR; replace hh := (hh.more hx).less (List.sublist_append_right X9 _); clear hx
          refine o_v hf hh (yv_move rfl) ?_; clear hf a; intro a hf
          refine o_v hf hh (yv_extract rfl rfl) ?_; clear hf a; intro a hf
          refine o_v hf hh (yv_extract rfl rfl) ?_; clear hf a; intro a hf
          refine o_v hf hh (yv_assign rfl) ?_; clear hf a; intro a hf
          refine o_v hf hh (yv_assign rfl) ?_; clear hf a; intro a hf
          refine o_end ?_
          refine sy_sq ?_
          refine o_v hf hh (yv_move rfl) ?_; clear hf a; intro a hf
          refine o_v hf hh (yv_bin rfl rfl rfl) ?_; clear hf a; intro a hf
          refine o_v hf hh (yv_move rfl) ?_; clear hf a; intro a hf
          refine guard_split hf (t := 85) rfl (fun hg115 => ?_) (fun hg115 => ?_)
          ·have hG115 := hg115; try simp only [gS] at hG115
           refine o_off hf ?_; clear hf a; intro a hf
           refine o_off hf ?_; clear hf a; intro a hf
           refine o_off hf ?_; clear hf a; intro a hf
           refine o_off hf ?_; clear hf a; intro a hf
           refine o_off hf ?_; clear hf a; intro a hf
           refine o_off hf ?_; clear hf a; intro a hf
           refine o_v hf hh (y_pt rfl rfl) ?_; clear hf a; intro a hf
           refine o_end ?_
           refine c_t hf ?_
           refine sy_sq ?_
           refine o_v hf hh (yv_assign rfl) ?_; clear hf a; intro a hf
           refine o_end ?_
           refine sy_ret ?_
           refine then_r ?_
           refine then_r ?_
           refine ret_r hf rfl rfl ?_
           first
             | exact ⟨rfl, hh.ext⟩
             | (exfalso
                (repeat (rename Fr _ _ _ _ => z9; clear z9))
                (repeat (rename Hp _ _ _ _ => z9; clear z9))
                (try clear hcn); (try clear hat); (try clear hbe)
                first
                  | (rcases hK with ⟨h1, h2, h3⟩ | ⟨h1, h2, h3⟩ | ⟨h1, h2, h3⟩ <;> first | (omega; done) | (simp_all; done))
                  | (omega; done)
                  | (simp_all; done)
                  | (simp_all <;> omega))
          ·have hG115 := hg115; try simp only [gS] at hG115
           refine o_v hf hh (yv_move rfl) ?_; clear hf a; intro a hf
           refine o_v hf hh (yv_move rfl) ?_; clear hf a; intro a hf
           refine o_call hf Try.en_36 rfl rfl rfl (p36 (whyV c) (by omega) _) ?_; clear hf a; intro v a w hR hf
           obtain ⟨rfl, hx⟩ := hR; replace hh := hh.more hx; clear hx
           refine ops_v hf hh (yv_cast (yv_shl1 (.inl rfl) rfl rfl (by omega) (by omega)) (intv (b := ((2 ^ pc (whyV c) : Nat) : Int)) (by rw [Int.toNat_natCast]))) (gon rfl rfl rfl (by first | assumption | rfl | (simp; done) | (simp; omega))) rfl rfl rfl ?_; clear hf a; intro a hf
           refine o_v hf hh (y_sub rfl rfl) ?_; clear hf a; intro a hf
           refine o_v hf hh (yv_bin rfl rfl rfl) ?_; clear hf a; intro a hf
           refine o_v hf hh (y_pf rfl rfl) ?_; clear hf a; intro a hf
           refine o_end ?_
           refine sy_cond hf rfl (fun hg119 => ?_) (fun hg119 => ?_)
           ·have hG119 := hg119; try simp only [gS] at hG119
            refine sy_sq ?_
            refine o_v hf hh (yv_assign rfl) ?_; clear hf a; intro a hf
            refine o_end ?_
            refine sy_ret ?_
            refine then_r ?_
            refine then_r ?_
            refine ret_r hf rfl rfl ?_
            first
              | exact ⟨rfl, hh.ext⟩
              | (exfalso
                 (repeat (rename Fr _ _ _ _ => z9; clear z9))
                 (repeat (rename Hp _ _ _ _ => z9; clear z9))
                 (try clear hcn); (try clear hat); (try clear hbe)
                 first
                   | (rcases hK with ⟨h1, h2, h3⟩ | ⟨h1, h2, h3⟩ | ⟨h1, h2, h3⟩ <;> first | (omega; done) | (simp_all; done))
                   | (omega; done)
                   | (simp_all; done)
                   | (simp_all <;> omega))
           ·have hG119 := hg119; try simp only [gS] at hG119
            refine sy_skip ?_
            refine then_n ?_
            refine sy_sq ?_
            refine o_v hf hh (yv_fieldAddr Try.fo_24_1 rfl) ?_; clear hf a; intro a hf
            refine o_v hf hh (y_ld Try.sc_22 rfl) ?_; clear hf a; intro a hf
            refine o_v hf hh (yv_len Try.se_22 rfl) ?_; clear hf a; intro a hf
            refine o_v hf hh (yv_move rfl) ?_; clear hf a; intro a hf
            refine o_end ?_
            refine sy_block ?_
            refine sy_loopH (σ := Nat) [4, 10, 11, 12, 96, 97, 98, 99, 100, 101, 102, 103, 104, 105, 106, 107, 108, 109, 110, 111, 112, 113, 114, 115, 116] (fun i => [(96, .int .i64 (i : Nat))]) (fun i => fun w' => i ≤ c.si.length ∧ Hp u [] [(B2, .cells (chC c sa cp) 24)] w') (fun i => c.si.length - i) (0) hf ?_ ?_ ?_
            · repeat' (first | exact True.intro | refine And.intro rfl ?_)
            · exact ⟨Nat.zero_le _, hh⟩
            ·rintro i a w ⟨hi, hh⟩ hf
             refine sy_sq ?_
             refine o_v hf hh (yv_bin rfl rfl rfl) ?_; clear hf a; intro a hf
             refine o_end ?_
             refine sy_seq ?_
             refine sy_cond hf rfl (fun hg121 => ?_) (fun hg121 => ?_)
             ·have hG121 := hg121; try simp only [gS] at hG121
              refine sy_skip ?_
              refine then_n ?_
              refine sy_seq ?_
              refine sy_block ?_
              refine sy_sq ?_
              refine o_v hf hh (yv_move rfl) ?_; clear hf a; intro a hf
              refine o_v hf hh (yv_assign rfl) ?_; clear hf a; intro a hf
              refine o_end ?_
              refine sy_sq ?_
              refine o_v hf hh (yv_move rfl) ?_; clear hf a; intro a hf
              refine o_v hf hh (yv_move rfl) ?_; clear hf a; intro a hf
              refine o_v hf hh (yv_shrN rfl rfl) ?_; clear hf a; intro a hf
              refine o_v hf hh (yv_and1 rfl rfl (by omega)) ?_; clear hf a; intro a hf
              refine o_v hf hh (yv_cast (yv_bin rfl rfl rfl) (show Value.bool (decide (((whyV c >>> i &&& 1 : Nat) : Int) = 1)) = Value.bool ((whyV c).testBit i) by rw [bit1]; cases (whyV c).testBit i <;> rfl)) ?_; clear hf a; intro a hf
              refine o_end ?_
              refine sy_cond hf rfl (fun hg125 => ?_) (fun hg125 => ?_)
              ·have hG125 := hg125; try simp only [gS] at hG125
               refine sy_seq ?_
               have hbi : (whyV c).testBit i = true := by assumption
               have hle := less_two hcb hwr hbi
               have hil : i < c.si.length := by omega
               have hp2 : 2 ^ i ≤ 2 ^ 10 := Nat.pow_le_pow_right (by omega) (by omega)
               have hxl : whyV c ^^^ (whyV c &&& 2 ^ i) ≤ 4611686018427387904 := by
                 have h1 : whyV c ^^^ (whyV c &&& 2 ^ i) < 2 ^ 10 := Nat.lt_of_lt_of_le (Nat.xor_lt_two_pow hwl (Nat.lt_of_le_of_lt Nat.and_le_left hwl)) (Nat.pow_le_pow_right (by omega) hl10)
                 omega
               refine sy_treeC (.q 0 0 (.p 1 (.p 2 (.p 3 (.p 4 (.e1 5 (.e1 6 (.p 7 (.p 8 (.p 9 (.p 10 (.p 11 (.fin))))))))))))) [[]] [(AtE u [] [(B2, .cells (chC c sa cp) 24)], [])] Try.follows (by kernel_rfl) rfl hh (fun w hh => ?_)
               refine mc_q rfl rfl (AtE.of hh (by intro p hp; rw [List.mem_singleton.1 hp]; simp)) hf (y_lds Try.ag_24 rfl) (.inl rfl) rfl rfl ?_; clear hf a; intro a hf
               refine mc_p rfl   hf (yv_move rfl) (.inl rfl) rfl rfl ?_; clear hf a; intro a hf
               refine mc_p rfl   hf (yv_move rfl) (.inl rfl) rfl rfl ?_; clear hf a; intro a hf
               refine mc_p rfl   hf (yv_cast (yv_shl1 (.inl rfl) rfl rfl (by omega) (by omega)) (intv (b := ((2 ^ i : Nat) : Int)) (by rw [Int.toNat_natCast]))) (.inl rfl) rfl rfl ?_; clear hf a; intro a hf
               refine mc_p rfl   hf (yv_andnI rfl rfl (by omega) (by omega)) (.inl rfl) rfl rfl ?_; clear hf a; intro a hf
               refine mc_e rfl fun Q1 => ?_
               refine o_call hf Try.en_35 rfl rfl rfl (p35 c sa cp (whyV c ^^^ (whyV c &&& 2 ^ i)) _ (hA.ext hh.ext) hO (by omega)) ?_; clear hf a; intro v a w hR hf
               obtain ⟨sx, cx, X9, rfl, hAt, hx⟩ := hR; replace hh := hh.join hx; clear hx
               refine ops_end ?_
               refine then_n ⟨⟨fun _ _ => (AtE.of hh (by intro p hp; rw [List.mem_singleton.1 hp]; simp)), trivial⟩, ?_⟩
               refine mc_e rfl fun Q1 => ?_
               refine o_call hf Try.en_24 rfl rfl rfl (p24 (partC c (whyV c ^^^ (whyV c &&& 2 ^ i)).testBit) sx cx _ (hAt _ (fun q hq => hh.get q (by simp [hq])))) ?_; clear hf a; intro v a w hR hf
               obtain ⟨rfl, hx⟩ := hR; replace hh := (hh.more hx).less (List.sublist_append_right X9 _); clear hx
               refine ops_end ?_
               refine then_n ⟨⟨fun _ _ => (AtE.of hh (by intro p hp; rw [List.mem_singleton.1 hp]; simp)), trivial⟩, ?_⟩
               refine mc_p rfl   hf (yv_move rfl) (.inl rfl) rfl rfl ?_; clear hf a; intro a hf
               refine mc_p rfl   hf (yv_extract rfl rfl) (.inl rfl) rfl rfl ?_; clear hf a; intro a hf
               refine mc_p rfl   hf (yv_extract rfl rfl) (.inl rfl) rfl rfl ?_; clear hf a; intro a hf
               refine mc_p rfl   hf (yv_assign rfl) (.inl rfl) rfl rfl ?_; clear hf a; intro a hf
               refine mc_p rfl   hf (yv_assign rfl) (.inl rfl) rfl rfl ?_; clear hf a; intro a hf
               refine mc_end ?_
               refine then_n ?_
               refine sy_sq ?_
               refine o_v hf hh (yv_move rfl) ?_; clear hf a; intro a hf
               refine o_v hf hh (yv_bin rfl rfl rfl) ?_; clear hf a; intro a hf
               refine o_end ?_
               refine sy_cond hf rfl (fun hg133 => ?_) (fun hg133 => ?_)
               ·have hG133 := hg133; try simp only [gS] at hG133
                refine sy_sq ?_
                refine o_v hf hh (yv_assign rfl) ?_; clear hf a; intro a hf
                refine o_end ?_
                refine sy_ret ?_
                refine blk_r ?_
                refine then_r ?_
                refine then_r ?_
                refine blk_r ?_
                refine then_r ?_
                refine ret_r hf rfl rfl ?_
                first
                  | exact ⟨rfl, hh.ext⟩
                  | (exfalso
                     (repeat (rename Fr _ _ _ _ => z9; clear z9))
                     (repeat (rename Hp _ _ _ _ => z9; clear z9))
                     (try clear hcn); (try clear hat); (try clear hbe)
                     first
                       | (rcases hK with ⟨h1, h2, h3⟩ | ⟨h1, h2, h3⟩ | ⟨h1, h2, h3⟩ <;> first | (omega; done) | (simp_all; done))
                       | (omega; done)
                       | (simp_all; done)
                       | (simp_all <;> omega))
               ·have hG133 := hg133; try simp only [gS] at hG133
                refine sy_skip ?_
                refine blk_n ?_
                refine then_n ?_
                refine sy_ops ?_
                refine o_v hf hh (y_add rfl rfl) ?_; clear hf a; intro a hf
                refine o_v hf hh (yv_move rfl) ?_; clear hf a; intro a hf
                refine ops_end ?_
                refine then_n ?_
                exact ⟨i + 1, ⟨⟨by omega, hh⟩, (hf.head (by repeat' (first | exact True.intro | refine And.intro rfl ?_)) (Keep.cons rfl (Keep.cons rfl (Keep.cons rfl (Keep.cons rfl (Keep.cons rfl (Keep.cons rfl (Keep.cons rfl (Keep.cons rfl (Keep.cons rfl (Keep.cons rfl (Keep.cons rfl (Keep.cons rfl (Keep.cons rfl (Keep.cons rfl (Keep.cons rfl (Keep.cons rfl (Keep.cons rfl (Keep.cons rfl (Keep.cons rfl (Keep.cons rfl (Keep.cons rfl (Keep.cons rfl (Keep.cons rfl (Keep.cons rfl (Keep.app rfl (Keep.rm rfl Keep.base)))))))))))))))))))))))))))⟩, by omega⟩
              ·have hG125 := hg125; try simp only [gS] at hG125
               refine sy_skip ?_
               refine blk_n ?_
               refine then_n ?_
               refine sy_ops ?_
               refine o_v hf hh (y_add rfl rfl) ?_; clear hf a; intro a hf
               refine o_v hf hh (yv_move rfl) ?_; clear hf a; intro a hf
               refine ops_end ?_
               refine then_n ?_
               exact ⟨i + 1, ⟨⟨by omega, hh⟩, (hf.head (by repeat' (first | exact True.intro | refine And.intro rfl ?_)) (Keep.cons rfl (Keep.cons rfl (Keep.cons rfl (Keep.cons rfl (Keep.cons rfl (Keep.cons rfl (Keep.cons rfl (Keep.cons rfl (Keep.cons rfl (Keep.cons rfl (Keep.app rfl (Keep.rm rfl Keep.base)))))))))))))⟩, by omega⟩
             ·have hG121 := hg121; try simp only [gS] at hG121
              refine sy_exit ?_
              refine then_e ?_
              refine then_e ?_
              refine blk_e ?_
              refine then_n ?_
              refine sy_seq ?_
              obtain ⟨so, hso⟩ : ∃ so, so = zn &&& (2 ^ c.si.length - 1) := ⟨_, rfl⟩
              have hsl : so < 2 ^ c.si.length := by rw [hso]; exact and_all zn c.si.length
              have hS2 := some_two hcb hsl
              have hsp := pc_ten hcb hsl
              refine sy_ops ?_
              refine o_v hf hh (yv_move rfl) ?_; clear hf a; intro a hf
              first | refine o_v hf hh (yv_convx (.inl rfl) (by kernel_rfl) Try.un_3 rfl (by omega) (by simp only [IntKind.top]; omega)) ?_; clear hf a; intro a hf | refine o_v hf hh (yv_conv (by kernel_rfl) Try.un_3 rfl) ?_; clear hf a; intro a hf
              refine o_v hf hh (yv_move rfl) ?_; clear hf a; intro a hf
              refine ops_v hf hh (yv_cast (yv_and (.inl rfl) rfl rfl (by omega) (by simp only [IntKind.top]; omega) (by omega) (by simp only [IntKind.top]; omega)) (intv (b := ((so : Nat) : Int)) (by rw [hso, Int.toNat_natCast, show (((2 ^ c.si.length : Nat) : Int) - 1).toNat = 2 ^ c.si.length - 1 by omega]))) (.inl rfl) rfl rfl rfl ?_; clear hf a; intro a hf
              refine o_v hf hh (yv_assign rfl) ?_; clear hf a; intro a hf
              refine o_end ?_
              refine sy_sq ?_
              refine o_v hf hh (y_lds Try.ag_24 rfl) ?_; clear hf a; intro a hf
              refine o_v hf hh (yv_move rfl) ?_; clear hf a; intro a hf
              refine o_call hf Try.en_35 rfl rfl rfl (p35 c sa cp (so) _ (hA.ext hh.ext) hO (by omega)) ?_; clear hf a; intro v a w hR hf
              obtain ⟨sx, cx, X9, rfl, hAt, hx⟩ := hR; replace hh := hh.join hx; clear hx
              refine o_call hf Try.en_24 rfl rfl rfl (p24 (partC c (so).testBit) sx cx _ (hAt _ (fun q hq => hh.get q (by simp [hq])))) ?_; clear hf a; intro v a w hR hf
              obtain ⟨rfl, hx⟩ := hR; replace hh := (hh.more hx).less (List.sublist_append_right X9 _); clear hx
              refine o_v hf hh (yv_move rfl) ?_; clear hf a; intro a hf
              refine o_v hf hh (yv_extract rfl rfl) ?_; clear hf a; intro a hf
              refine o_v hf hh (yv_extract rfl rfl) ?_; clear hf a; intro a hf
              refine o_v hf hh (yv_assign rfl) ?_; clear hf a; intro a hf
              refine o_v hf hh (yv_assign rfl) ?_; clear hf a; intro a hf
              refine o_end ?_
              refine sy_seq ?_
              refine sy_sq ?_
              refine o_v hf hh (yv_move rfl) ?_; clear hf a; intro a hf
              refine o_v hf hh (yv_bin rfl rfl rfl) ?_; clear hf a; intro a hf
              refine o_end ?_
              refine sy_cond hf rfl (fun hg140 => ?_) (fun hg140 => ?_)
              ·have hG140 := hg140; try simp only [gS] at hG140
               refine sy_sq ?_
               refine o_call hf Try.en_14 rfl rfl rfl (p14 _) ?_; clear hf a; intro v a w hR hf
               obtain ⟨rfl, hx⟩ := hR; replace hh := hh.more hx; clear hx
               refine o_v hf hh (yv_assign rfl) ?_; clear hf a; intro a hf
               refine o_end ?_
               refine sy_ret ?_
               refine then_r ?_
               refine ret_r hf rfl rfl ?_
               first
                 | exact ⟨rfl, hh.ext⟩
                 | (exfalso
                    (repeat (rename Fr _ _ _ _ => z9; clear z9))
                    (repeat (rename Hp _ _ _ _ => z9; clear z9))
                    (try clear hcn); (try clear hat); (try clear hbe)
                    first
                      | (rcases hK with ⟨h1, h2, h3⟩ | ⟨h1, h2, h3⟩ | ⟨h1, h2, h3⟩ <;> first | (omega; done) | (simp_all; done))
                      | (omega; done)
                      | (simp_all; done)
                      | (simp_all <;> omega))
              ·have hG140 := hg140; try simp only [gS] at hG140
               refine sy_skip ?_
               refine then_n ?_
               refine sy_sq ?_
               refine o_v hf hh (yv_move rfl) ?_; clear hf a; intro a hf
               refine o_call hf Try.en_36 rfl rfl rfl (p36 so (by omega) _) ?_; clear hf a; intro v a w hR hf
               obtain ⟨rfl, hx⟩ := hR; replace hh := hh.more hx; clear hx
               refine o_v hf hh (yv_move rfl) ?_; clear hf a; intro a hf
               refine o_call hf Try.en_36 rfl rfl rfl (p36 (whyV c) (by omega) _) ?_; clear hf a; intro v a w hR hf
               obtain ⟨rfl, hx⟩ := hR; replace hh := hh.more hx; clear hx
               refine o_v hf hh (yv_assign rfl) ?_; clear hf a; intro a hf
               refine o_v hf hh (yv_assign rfl) ?_; clear hf a; intro a hf
               refine o_end ?_
               refine sy_sq ?_
               refine o_v hf hh (yv_move rfl) ?_; clear hf a; intro a hf
               refine o_v hf hh (yv_bin rfl rfl rfl) ?_; clear hf a; intro a hf
               refine o_v hf hh (yv_move rfl) ?_; clear hf a; intro a hf
               refine guard_split hf (t := 137) rfl (fun hg145 => ?_) (fun hg145 => ?_)
               ·have hG145 := hg145; try simp only [gS] at hG145
                refine o_v hf hh (yv_move rfl) ?_; clear hf a; intro a hf
                refine o_v hf hh (yv_bin rfl rfl rfl) ?_; clear hf a; intro a hf
                refine o_v hf hh (y_pt rfl rfl) ?_; clear hf a; intro a hf
                refine o_v hf hh (yv_move rfl) ?_; clear hf a; intro a hf
                refine guard_split hf (t := 141) rfl (fun hg147 => ?_) (fun hg147 => ?_)
                ·have hG147 := hg147; try simp only [gS] at hG147
                 refine o_v hf hh (yv_move rfl) ?_; clear hf a; intro a hf
                 refine o_v hf hh (yv_move rfl) ?_; clear hf a; intro a hf
                 refine o_v hf hh (yv_bin rfl rfl rfl) ?_; clear hf a; intro a hf
                 refine o_v hf hh (yv_move rfl) ?_; clear hf a; intro a hf
                 refine guard_split hf (t := 145) rfl (fun hg149 => ?_) (fun hg149 => ?_)
                 ·have hG149 := hg149; try simp only [gS] at hG149
                  refine o_off hf ?_; clear hf a; intro a hf
                  refine o_off hf ?_; clear hf a; intro a hf
                  refine o_off hf ?_; clear hf a; intro a hf
                  refine o_off hf ?_; clear hf a; intro a hf
                  refine o_off hf ?_; clear hf a; intro a hf
                  refine o_off hf ?_; clear hf a; intro a hf
                  refine o_off hf ?_; clear hf a; intro a hf
                  refine o_off hf ?_; clear hf a; intro a hf
                  refine o_v hf hh (y_pt rfl rfl) ?_; clear hf a; intro a hf
                  refine o_v hf hh (y_pt rfl rfl) ?_; clear hf a; intro a hf
                  refine o_v hf hh (yv_move rfl) ?_; clear hf a; intro a hf
                  refine o_call hf Try.en_14 rfl rfl rfl (p14 _) ?_; clear hf a; intro v a w hR hf
                  obtain ⟨rfl, hx⟩ := hR; replace hh := hh.more hx; clear hx
                  refine o_v hf hh (y_pt rfl rfl) ?_; clear hf a; intro a hf
                  refine o_v hf hh (yv_assign rfl) ?_; clear hf a; intro a hf
                  refine o_end ?_
                  refine sy_ret ?_
                  refine ret_r hf rfl rfl ?_
                  first
                    | exact ⟨rfl, hh.ext⟩
                    | (exfalso
                       (repeat (rename Fr _ _ _ _ => z9; clear z9))
                       (repeat (rename Hp _ _ _ _ => z9; clear z9))
                       (try clear hcn); (try clear hat); (try clear hbe)
                       first
                         | (rcases hK with ⟨h1, h2, h3⟩ | ⟨h1, h2, h3⟩ | ⟨h1, h2, h3⟩ <;> first | (omega; done) | (simp_all; done))
                         | (omega; done)
                         | (simp_all; done)
                         | (simp_all <;> omega))
                 ·have hG149 := hg149; try simp only [gS] at hG149
                  refine o_v hf hh (yv_move rfl) ?_; clear hf a; intro a hf
                  refine o_v hf hh (yv_move rfl) ?_; clear hf a; intro a hf
                  refine o_v hf hh (yv_bin rfl rfl rfl) ?_; clear hf a; intro a hf
                  refine o_v hf hh (yv_move rfl) ?_; clear hf a; intro a hf
                  refine guard_split hf (t := 149) rfl (fun hg152 => ?_) (fun hg152 => ?_)
                  ·have hG152 := hg152; try simp only [gS] at hG152
                   refine o_v hf hh (yv_move rfl) ?_; clear hf a; intro a hf
                   refine o_v hf hh (yv_move rfl) ?_; clear hf a; intro a hf
                   refine o_v hf hh (yv_bin rfl rfl rfl) ?_; clear hf a; intro a hf
                   refine o_v hf hh (y_pt rfl rfl) ?_; clear hf a; intro a hf
                   refine o_v hf hh (y_pf rfl rfl) ?_; clear hf a; intro a hf
                   refine o_v hf hh (y_pt rfl rfl) ?_; clear hf a; intro a hf
                   refine o_v hf hh (yv_move rfl) ?_; clear hf a; intro a hf
                   refine guard_split hf (t := 156) rfl (fun hg154 => ?_) (fun hg154 => ?_)
                   ·have hG154 := hg154; try simp only [gS] at hG154
                    refine o_call hf Try.en_14 rfl rfl rfl (p14 _) ?_; clear hf a; intro v a w hR hf
                    obtain ⟨rfl, hx⟩ := hR; replace hh := hh.more hx; clear hx
                    refine o_v hf hh (y_pt rfl rfl) ?_; clear hf a; intro a hf
                    refine o_v hf hh (yv_assign rfl) ?_; clear hf a; intro a hf
                    refine o_end ?_
                    refine sy_ret ?_
                    refine ret_r hf rfl rfl ?_
                    first
                      | exact ⟨rfl, hh.ext⟩
                      | (exfalso
                         (repeat (rename Fr _ _ _ _ => z9; clear z9))
                         (repeat (rename Hp _ _ _ _ => z9; clear z9))
                         (try clear hcn); (try clear hat); (try clear hbe)
                         first
                           | (rcases hK with ⟨h1, h2, h3⟩ | ⟨h1, h2, h3⟩ | ⟨h1, h2, h3⟩ <;> first | (omega; done) | (simp_all; done))
                           | (omega; done)
                           | (simp_all; done)
                           | (simp_all <;> omega))
                   ·have hG154 := hg154; try simp only [gS] at hG154
                    refine o_off hf ?_; clear hf a; intro a hf
                    refine o_v hf hh (y_pf rfl rfl) ?_; clear hf a; intro a hf
                    refine o_v hf hh (yv_assign rfl) ?_; clear hf a; intro a hf
                    refine o_end ?_
                    refine sy_ret ?_
                    refine ret_r hf rfl rfl ?_
                    first
                      | exact ⟨rfl, hh.ext⟩
                      | (exfalso
                         (repeat (rename Fr _ _ _ _ => z9; clear z9))
                         (repeat (rename Hp _ _ _ _ => z9; clear z9))
                         (try clear hcn); (try clear hat); (try clear hbe)
                         first
                           | (rcases hK with ⟨h1, h2, h3⟩ | ⟨h1, h2, h3⟩ | ⟨h1, h2, h3⟩ <;> first | (omega; done) | (simp_all; done))
                           | (omega; done)
                           | (simp_all; done)
                           | (simp_all <;> omega))
                  ·have hG152 := hg152; try simp only [gS] at hG152
                   refine o_off hf ?_; clear hf a; intro a hf
                   refine o_off hf ?_; clear hf a; intro a hf
                   refine o_off hf ?_; clear hf a; intro a hf
                   refine o_v hf hh (y_pf rfl rfl) ?_; clear hf a; intro a hf
                   refine o_v hf hh (y_pf rfl rfl) ?_; clear hf a; intro a hf
                   refine o_v hf hh (y_pt rfl rfl) ?_; clear hf a; intro a hf
                   refine o_v hf hh (yv_move rfl) ?_; clear hf a; intro a hf
                   refine o_off hf ?_; clear hf a; intro a hf
                   refine o_v hf hh (y_pf rfl rfl) ?_; clear hf a; intro a hf
                   refine o_v hf hh (yv_assign rfl) ?_; clear hf a; intro a hf
                   refine o_end ?_
                   refine sy_ret ?_
                   refine ret_r hf rfl rfl ?_
                   first
                     | exact ⟨rfl, hh.ext⟩
                     | (exfalso
                        (repeat (rename Fr _ _ _ _ => z9; clear z9))
                        (repeat (rename Hp _ _ _ _ => z9; clear z9))
                        (try clear hcn); (try clear hat); (try clear hbe)
                        first
                          | (rcases hK with ⟨h1, h2, h3⟩ | ⟨h1, h2, h3⟩ | ⟨h1, h2, h3⟩ <;> first | (omega; done) | (simp_all; done))
                          | (omega; done)
                          | (simp_all; done)
                          | (simp_all <;> omega))
                ·have hG147 := hg147; try simp only [gS] at hG147
                 refine o_off hf ?_; clear hf a; intro a hf
                 refine o_off hf ?_; clear hf a; intro a hf
                 refine o_off hf ?_; clear hf a; intro a hf
                 refine o_off hf ?_; clear hf a; intro a hf
                 refine o_off hf ?_; clear hf a; intro a hf
                 refine o_off hf ?_; clear hf a; intro a hf
                 refine o_off hf ?_; clear hf a; intro a hf
                 refine o_off hf ?_; clear hf a; intro a hf
                 refine o_off hf ?_; clear hf a; intro a hf
                 refine o_off hf ?_; clear hf a; intro a hf
                 refine o_off hf ?_; clear hf a; intro a hf
                 refine o_off hf ?_; clear hf a; intro a hf
                 refine o_off hf ?_; clear hf a; intro a hf
                 refine o_v hf hh (y_pf rfl rfl) ?_; clear hf a; intro a hf
                 refine o_v hf hh (yv_move rfl) ?_; clear hf a; intro a hf
                 refine o_off hf ?_; clear hf a; intro a hf
                 refine o_v hf hh (y_pf rfl rfl) ?_; clear hf a; intro a hf
                 refine o_v hf hh (yv_assign rfl) ?_; clear hf a; intro a hf
                 refine o_end ?_
                 refine sy_ret ?_
                 refine ret_r hf rfl rfl ?_
                 first
                   | exact ⟨rfl, hh.ext⟩
                   | (exfalso
                      (repeat (rename Fr _ _ _ _ => z9; clear z9))
                      (repeat (rename Hp _ _ _ _ => z9; clear z9))
                      (try clear hcn); (try clear hat); (try clear hbe)
                      first
                        | (rcases hK with ⟨h1, h2, h3⟩ | ⟨h1, h2, h3⟩ | ⟨h1, h2, h3⟩ <;> first | (omega; done) | (simp_all; done))
                        | (omega; done)
                        | (simp_all; done)
                        | (simp_all <;> omega))
               ·have hG145 := hg145; try simp only [gS] at hG145
                refine o_off hf ?_; clear hf a; intro a hf
                refine o_off hf ?_; clear hf a; intro a hf
                refine o_v hf hh (y_pf rfl rfl) ?_; clear hf a; intro a hf
                refine o_v hf hh (yv_move rfl) ?_; clear hf a; intro a hf
                refine o_off hf ?_; clear hf a; intro a hf
                refine o_off hf ?_; clear hf a; intro a hf
                refine o_off hf ?_; clear hf a; intro a hf
                refine o_off hf ?_; clear hf a; intro a hf
                refine o_off hf ?_; clear hf a; intro a hf
                refine o_off hf ?_; clear hf a; intro a hf
                refine o_off hf ?_; clear hf a; intro a hf
                refine o_off hf ?_; clear hf a; intro a hf
                refine o_off hf ?_; clear hf a; intro a hf
                refine o_off hf ?_; clear hf a; intro a hf
                refine o_off hf ?_; clear hf a; intro a hf
                refine o_off hf ?_; clear hf a; intro a hf
                refine o_off hf ?_; clear hf a; intro a hf
                refine o_v hf hh (y_pf rfl rfl) ?_; clear hf a; intro a hf
                refine o_v hf hh (yv_move rfl) ?_; clear hf a; intro a hf
                refine o_off hf ?_; clear hf a; intro a hf
                refine o_v hf hh (y_pf rfl rfl) ?_; clear hf a; intro a hf
                refine o_v hf hh (yv_assign rfl) ?_; clear hf a; intro a hf
                refine o_end ?_
                refine sy_ret ?_
                refine ret_r hf rfl rfl ?_
                first
                  | exact ⟨rfl, hh.ext⟩
                  | (exfalso
                     (repeat (rename Fr _ _ _ _ => z9; clear z9))
                     (repeat (rename Hp _ _ _ _ => z9; clear z9))
                     (try clear hcn); (try clear hat); (try clear hbe)
                     first
                       | (rcases hK with ⟨h1, h2, h3⟩ | ⟨h1, h2, h3⟩ | ⟨h1, h2, h3⟩ <;> first | (omega; done) | (simp_all; done))
                       | (omega; done)
                       | (simp_all; done)
                       | (simp_all <;> omega))
         ·have hG109 := hg109; try simp only [gS] at hG109
          refine sy_skip ?_
          refine then_n ?_
          refine sy_seq ?_
          obtain ⟨so, hso⟩ : ∃ so, so = zn &&& (2 ^ c.si.length - 1) := ⟨_, rfl⟩
          have hsl : so < 2 ^ c.si.length := by rw [hso]; exact and_all zn c.si.length
          have hS2 := some_two hcb hsl
          have hsp := pc_ten hcb hsl
          refine sy_ops ?_
          refine o_v hf hh (yv_move rfl) ?_; clear hf a; intro a hf
          first | refine o_v hf hh (yv_convx (.inl rfl) (by kernel_rfl) Try.un_3 rfl (by omega) (by simp only [IntKind.top]; omega)) ?_; clear hf a; intro a hf | refine o_v hf hh (yv_conv (by kernel_rfl) Try.un_3 rfl) ?_; clear hf a; intro a hf
          refine o_v hf hh (yv_move rfl) ?_; clear hf a; intro a hf
          refine ops_v hf hh (yv_cast (yv_and (.inl rfl) rfl rfl (by omega) (by simp only [IntKind.top]; omega) (by omega) (by simp only [IntKind.top]; omega)) (intv (b := ((so : Nat) : Int)) (by rw [hso, Int.toNat_natCast, show (((2 ^ c.si.length : Nat) : Int) - 1).toNat = 2 ^ c.si.length - 1 by omega]))) (.inl rfl) rfl rfl rfl ?_; clear hf a; intro a hf
          refine o_v hf hh (yv_assign rfl) ?_; clear hf a; intro a hf
          refine o_end ?_
          refine sy_sq ?_
          refine o_v hf hh (y_lds Try.ag_24 rfl) ?_; clear hf a; intro a hf
          refine o_v hf hh (yv_move rfl) ?_; clear hf a; intro a hf
          refine o_call hf Try.en_35 rfl rfl rfl (p35 c sa cp (so) _ (hA.ext hh.ext) hO (by omega)) ?_; clear hf a; intro v a w hR hf
          obtain ⟨sx, cx, X9, rfl, hAt, hx⟩ := hR; replace hh := hh.join hx; clear hx
          refine o_call hf Try.en_24 rfl rfl rfl (p24 (partC c (so).testBit) sx cx _ (hAt _ (fun q hq => hh.get q (by simp [hq])))) ?_; clear hf a; intro v a w hR hf
          obtain ⟨rfl, hx⟩ := hR; replace hh := (hh.more hx).less (List.sublist_append_right X9 _); clear hx
          refine o_v hf hh (yv_move rfl) ?_; clear hf a; intro a hf
          refine o_v hf hh (yv_extract rfl rfl) ?_; clear hf a; intro a hf
          refine o_v hf hh (yv_extract rfl rfl) ?_; clear hf a; intro a hf
          refine o_v hf hh (yv_assign rfl) ?_; clear hf a; intro a hf
          refine o_v hf hh (yv_assign rfl) ?_; clear hf a; intro a hf
          refine o_end ?_
          refine sy_seq ?_
          refine sy_sq ?_
          refine o_v hf hh (yv_move rfl) ?_; clear hf a; intro a hf
          refine o_v hf hh (yv_bin rfl rfl rfl) ?_; clear hf a; intro a hf
          refine o_end ?_
          refine sy_cond hf rfl (fun hg162 => ?_) (fun hg162 => ?_)
          ·have hG162 := hg162; try simp only [gS] at hG162
           refine sy_sq ?_
           refine o_call hf Try.en_14 rfl rfl rfl (p14 _) ?_; clear hf a; intro v a w hR hf
           obtain ⟨rfl, hx⟩ := hR; replace hh := hh.more hx; clear hx
           refine o_v hf hh (yv_assign rfl) ?_; clear hf a; intro a hf
           refine o_end ?_
           refine sy_ret ?_
           refine then_r ?_
           refine ret_r hf rfl rfl ?_
           first
             | exact ⟨rfl, hh.ext⟩
             | (exfalso
                (repeat (rename Fr _ _ _ _ => z9; clear z9))
                (repeat (rename Hp _ _ _ _ => z9; clear z9))
                (try clear hcn); (try clear hat); (try clear hbe)
                first
                  | (rcases hK with ⟨h1, h2, h3⟩ | ⟨h1, h2, h3⟩ | ⟨h1, h2, h3⟩ <;> first | (omega; done) | (simp_all; done))
                  | (omega; done)
                  | (simp_all; done)
                  | (simp_all <;> omega))
          ·have hG162 := hg162; try simp only [gS] at hG162
           refine sy_skip ?_
           refine then_n ?_
           refine sy_sq ?_
           refine o_v hf hh (yv_move rfl) ?_; clear hf a; intro a hf
           refine o_call hf Try.en_36 rfl rfl rfl (p36 so (by omega) _) ?_; clear hf a; intro v a w hR hf
           obtain ⟨rfl, hx⟩ := hR; replace hh := hh.more hx; clear hx
           refine o_v hf hh (yv_move rfl) ?_; clear hf a; intro a hf
           refine o_call hf Try.en_36 rfl rfl rfl (p36 (whyV c) (by omega) _) ?_; clear hf a; intro v a w hR hf
           obtain ⟨rfl, hx⟩ := hR; replace hh := hh.more hx; clear hx
           refine o_v hf hh (yv_assign rfl) ?_; clear hf a; intro a hf
           refine o_v hf hh (yv_assign rfl) ?_; clear hf a; intro a hf
           refine o_end ?_
           refine sy_sq ?_
           refine o_v hf hh (yv_move rfl) ?_; clear hf a; intro a hf
           refine o_v hf hh (yv_bin rfl rfl rfl) ?_; clear hf a; intro a hf
           refine o_v hf hh (yv_move rfl) ?_; clear hf a; intro a hf
           refine guard_split hf (t := 137) rfl (fun hg167 => ?_) (fun hg167 => ?_)
           ·have hG167 := hg167; try simp only [gS] at hG167
            refine o_v hf hh (yv_move rfl) ?_; clear hf a; intro a hf
            refine o_v hf hh (yv_bin rfl rfl rfl) ?_; clear hf a; intro a hf
            refine o_v hf hh (y_pt rfl rfl) ?_; clear hf a; intro a hf
            refine o_v hf hh (yv_move rfl) ?_; clear hf a; intro a hf
            refine guard_split hf (t := 141) rfl (fun hg169 => ?_) (fun hg169 => ?_)
            ·have hG169 := hg169; try simp only [gS] at hG169
             refine o_v hf hh (yv_move rfl) ?_; clear hf a; intro a hf
             refine o_v hf hh (yv_move rfl) ?_; clear hf a; intro a hf
             refine o_v hf hh (yv_bin rfl rfl rfl) ?_; clear hf a; intro a hf
             refine o_v hf hh (yv_move rfl) ?_; clear hf a; intro a hf
             refine guard_split hf (t := 145) rfl (fun hg171 => ?_) (fun hg171 => ?_)
             ·have hG171 := hg171; try simp only [gS] at hG171
              refine o_off hf ?_; clear hf a; intro a hf
              refine o_off hf ?_; clear hf a; intro a hf
              refine o_off hf ?_; clear hf a; intro a hf
              refine o_off hf ?_; clear hf a; intro a hf
              refine o_off hf ?_; clear hf a; intro a hf
              refine o_off hf ?_; clear hf a; intro a hf
              refine o_off hf ?_; clear hf a; intro a hf
              refine o_off hf ?_; clear hf a; intro a hf
              refine o_v hf hh (y_pt rfl rfl) ?_; clear hf a; intro a hf
              refine o_v hf hh (y_pt rfl rfl) ?_; clear hf a; intro a hf
              refine o_v hf hh (yv_move rfl) ?_; clear hf a; intro a hf
              refine o_call hf Try.en_14 rfl rfl rfl (p14 _) ?_; clear hf a; intro v a w hR hf
              obtain ⟨rfl, hx⟩ := hR; replace hh := hh.more hx; clear hx
              refine o_v hf hh (y_pt rfl rfl) ?_; clear hf a; intro a hf
              refine o_v hf hh (yv_assign rfl) ?_; clear hf a; intro a hf
              refine o_end ?_
              refine sy_ret ?_
              refine ret_r hf rfl rfl ?_
              first
                | exact ⟨rfl, hh.ext⟩
                | (exfalso
                   (repeat (rename Fr _ _ _ _ => z9; clear z9))
                   (repeat (rename Hp _ _ _ _ => z9; clear z9))
                   (try clear hcn); (try clear hat); (try clear hbe)
                   first
                     | (rcases hK with ⟨h1, h2, h3⟩ | ⟨h1, h2, h3⟩ | ⟨h1, h2, h3⟩ <;> first | (omega; done) | (simp_all; done))
                     | (omega; done)
                     | (simp_all; done)
                     | (simp_all <;> omega))
             ·have hG171 := hg171; try simp only [gS] at hG171
              refine o_v hf hh (yv_move rfl) ?_; clear hf a; intro a hf
              refine o_v hf hh (yv_move rfl) ?_; clear hf a; intro a hf
              refine o_v hf hh (yv_bin rfl rfl rfl) ?_; clear hf a; intro a hf
              refine o_v hf hh (yv_move rfl) ?_; clear hf a; intro a hf
              refine guard_split hf (t := 149) rfl (fun hg174 => ?_) (fun hg174 => ?_)
              ·have hG174 := hg174; try simp only [gS] at hG174
               refine o_v hf hh (yv_move rfl) ?_; clear hf a; intro a hf
               refine o_v hf hh (yv_move rfl) ?_; clear hf a; intro a hf
               refine o_v hf hh (yv_bin rfl rfl rfl) ?_; clear hf a; intro a hf
               refine o_v hf hh (y_pt rfl rfl) ?_; clear hf a; intro a hf
               refine o_v hf hh (y_pf rfl rfl) ?_; clear hf a; intro a hf
               refine o_v hf hh (y_pt rfl rfl) ?_; clear hf a; intro a hf
               refine o_v hf hh (yv_move rfl) ?_; clear hf a; intro a hf
               refine guard_split hf (t := 156) rfl (fun hg176 => ?_) (fun hg176 => ?_)
               ·have hG176 := hg176; try simp only [gS] at hG176
                refine o_call hf Try.en_14 rfl rfl rfl (p14 _) ?_; clear hf a; intro v a w hR hf
                obtain ⟨rfl, hx⟩ := hR; replace hh := hh.more hx; clear hx
                refine o_v hf hh (y_pt rfl rfl) ?_; clear hf a; intro a hf
                refine o_v hf hh (yv_assign rfl) ?_; clear hf a; intro a hf
                refine o_end ?_
                refine sy_ret ?_
                refine ret_r hf rfl rfl ?_
                first
                  | exact ⟨rfl, hh.ext⟩
                  | (exfalso
                     (repeat (rename Fr _ _ _ _ => z9; clear z9))
                     (repeat (rename Hp _ _ _ _ => z9; clear z9))
                     (try clear hcn); (try clear hat); (try clear hbe)
                     first
                       | (rcases hK with ⟨h1, h2, h3⟩ | ⟨h1, h2, h3⟩ | ⟨h1, h2, h3⟩ <;> first | (omega; done) | (simp_all; done))
                       | (omega; done)
                       | (simp_all; done)
                       | (simp_all <;> omega))
               ·have hG176 := hg176; try simp only [gS] at hG176
                refine o_off hf ?_; clear hf a; intro a hf
                refine o_v hf hh (y_pf rfl rfl) ?_; clear hf a; intro a hf
                refine o_v hf hh (yv_assign rfl) ?_; clear hf a; intro a hf
                refine o_end ?_
                refine sy_ret ?_
                refine ret_r hf rfl rfl ?_
                first
                  | exact ⟨rfl, hh.ext⟩
                  | (exfalso
                     (repeat (rename Fr _ _ _ _ => z9; clear z9))
                     (repeat (rename Hp _ _ _ _ => z9; clear z9))
                     (try clear hcn); (try clear hat); (try clear hbe)
                     first
                       | (rcases hK with ⟨h1, h2, h3⟩ | ⟨h1, h2, h3⟩ | ⟨h1, h2, h3⟩ <;> first | (omega; done) | (simp_all; done))
                       | (omega; done)
                       | (simp_all; done)
                       | (simp_all <;> omega))
              ·have hG174 := hg174; try simp only [gS] at hG174
               refine o_off hf ?_; clear hf a; intro a hf
               refine o_off hf ?_; clear hf a; intro a hf
               refine o_off hf ?_; clear hf a; intro a hf
               refine o_v hf hh (y_pf rfl rfl) ?_; clear hf a; intro a hf
               refine o_v hf hh (y_pf rfl rfl) ?_; clear hf a; intro a hf
               refine o_v hf hh (y_pt rfl rfl) ?_; clear hf a; intro a hf
               refine o_v hf hh (yv_move rfl) ?_; clear hf a; intro a hf
               refine o_off hf ?_; clear hf a; intro a hf
               refine o_v hf hh (y_pf rfl rfl) ?_; clear hf a; intro a hf
               refine o_v hf hh (yv_assign rfl) ?_; clear hf a; intro a hf
               refine o_end ?_
               refine sy_ret ?_
               refine ret_r hf rfl rfl ?_
               first
                 | exact ⟨rfl, hh.ext⟩
                 | (exfalso
                    (repeat (rename Fr _ _ _ _ => z9; clear z9))
                    (repeat (rename Hp _ _ _ _ => z9; clear z9))
                    (try clear hcn); (try clear hat); (try clear hbe)
                    first
                      | (rcases hK with ⟨h1, h2, h3⟩ | ⟨h1, h2, h3⟩ | ⟨h1, h2, h3⟩ <;> first | (omega; done) | (simp_all; done))
                      | (omega; done)
                      | (simp_all; done)
                      | (simp_all <;> omega))
            ·have hG169 := hg169; try simp only [gS] at hG169
             refine o_off hf ?_; clear hf a; intro a hf
             refine o_off hf ?_; clear hf a; intro a hf
             refine o_off hf ?_; clear hf a; intro a hf
             refine o_off hf ?_; clear hf a; intro a hf
             refine o_off hf ?_; clear hf a; intro a hf
             refine o_off hf ?_; clear hf a; intro a hf
             refine o_off hf ?_; clear hf a; intro a hf
             refine o_off hf ?_; clear hf a; intro a hf
             refine o_off hf ?_; clear hf a; intro a hf
             refine o_off hf ?_; clear hf a; intro a hf
             refine o_off hf ?_; clear hf a; intro a hf
             refine o_off hf ?_; clear hf a; intro a hf
             refine o_off hf ?_; clear hf a; intro a hf
             refine o_v hf hh (y_pf rfl rfl) ?_; clear hf a; intro a hf
             refine o_v hf hh (yv_move rfl) ?_; clear hf a; intro a hf
             refine o_off hf ?_; clear hf a; intro a hf
             refine o_v hf hh (y_pf rfl rfl) ?_; clear hf a; intro a hf
             refine o_v hf hh (yv_assign rfl) ?_; clear hf a; intro a hf
             refine o_end ?_
             refine sy_ret ?_
             refine ret_r hf rfl rfl ?_
             first
               | exact ⟨rfl, hh.ext⟩
               | (exfalso
                  (repeat (rename Fr _ _ _ _ => z9; clear z9))
                  (repeat (rename Hp _ _ _ _ => z9; clear z9))
                  (try clear hcn); (try clear hat); (try clear hbe)
                  first
                    | (rcases hK with ⟨h1, h2, h3⟩ | ⟨h1, h2, h3⟩ | ⟨h1, h2, h3⟩ <;> first | (omega; done) | (simp_all; done))
                    | (omega; done)
                    | (simp_all; done)
                    | (simp_all <;> omega))
           ·have hG167 := hg167; try simp only [gS] at hG167
            refine o_off hf ?_; clear hf a; intro a hf
            refine o_off hf ?_; clear hf a; intro a hf
            refine o_v hf hh (y_pf rfl rfl) ?_; clear hf a; intro a hf
            refine o_v hf hh (yv_move rfl) ?_; clear hf a; intro a hf
            refine o_off hf ?_; clear hf a; intro a hf
            refine o_off hf ?_; clear hf a; intro a hf
            refine o_off hf ?_; clear hf a; intro a hf
            refine o_off hf ?_; clear hf a; intro a hf
            refine o_off hf ?_; clear hf a; intro a hf
            refine o_off hf ?_; clear hf a; intro a hf
            refine o_off hf ?_; clear hf a; intro a hf
            refine o_off hf ?_; clear hf a; intro a hf
            refine o_off hf ?_; clear hf a; intro a hf
            refine o_off hf ?_; clear hf a; intro a hf
            refine o_off hf ?_; clear hf a; intro a hf
            refine o_off hf ?_; clear hf a; intro a hf
            refine o_off hf ?_; clear hf a; intro a hf
            refine o_v hf hh (y_pf rfl rfl) ?_; clear hf a; intro a hf
            refine o_v hf hh (yv_move rfl) ?_; clear hf a; intro a hf
            refine o_off hf ?_; clear hf a; intro a hf
            refine o_v hf hh (y_pf rfl rfl) ?_; clear hf a; intro a hf
            refine o_v hf hh (yv_assign rfl) ?_; clear hf a; intro a hf
            refine o_end ?_
            refine sy_ret ?_
            refine ret_r hf rfl rfl ?_
            first
              | exact ⟨rfl, hh.ext⟩
              | (exfalso
                 (repeat (rename Fr _ _ _ _ => z9; clear z9))
                 (repeat (rename Hp _ _ _ _ => z9; clear z9))
                 (try clear hcn); (try clear hat); (try clear hbe)
                 first
                   | (rcases hK with ⟨h1, h2, h3⟩ | ⟨h1, h2, h3⟩ | ⟨h1, h2, h3⟩ <;> first | (omega; done) | (simp_all; done))
                   | (omega; done)
                   | (simp_all; done)
                   | (simp_all <;> omega))
end Go.Proofs.Ytccjnjhlnpgocaa
namespace Go.Proofs.Ytccjnjhlnpgocaa
open Go Go.Sy Go.ChaM Go.ChangeShapes Go.WideShapes Go.Deep Go.RowKit
theorem hs24 : Try.prog.underlying 24 = some (.struct (Try.prog.fieldsOf 24)) := by kernel_rfl
theorem fs24 : (Try.prog.fieldsOf 24).map (fun f => (f.offset, f.type)) = #[(0, 3), (1, 22)] := by kernel_rfl
theorem co24 : Try.prog.cellsOf 24 = 2 := by kernel_rfl
theorem co22 : Try.prog.cellsOf 22 = 1 := by kernel_rfl
theorem co3 : Try.prog.cellsOf 3 = 1 := by kernel_rfl
theorem un22 : Try.prog.underlying 22 = some (.slice 46) := by kernel_rfl
theorem un42 : Try.prog.underlying 42 = some (.slice 56) := by kernel_rfl
theorem un56 : Try.prog.underlying 56 = some (.int .u16) := by kernel_rfl
theorem un5 : Try.prog.underlying 5 = some (.int .u8) := by kernel_rfl
theorem hs46 : Try.prog.underlying 46 = some (.struct (Try.prog.fieldsOf 46)) := by kernel_rfl
theorem co46 : Try.prog.cellsOf 46 = 6 := by kernel_rfl
theorem fk46 : flK Try.prog .i64 9 46 = some 6 := by kernel_rfl
theorem fk56 : flK Try.prog .u16 9 56 = some 1 := by kernel_rfl
theorem un4 : Try.prog.underlying 4 = some .bool := by kernel_rfl
theorem own : ownKnob Try.prog.godebug = none := by kernel_rfl
def toSi (p : List Int) : SiD := match p with
  | [a, b, c, d, e, f] => ⟨a, b, c, d, e, f⟩
  | _ => ⟨0, 0, 0, 0, 0, 0⟩
theorem toSi_enc {p : List Int} (h : p.length = 6) : siC (toSi p) = p.map (Value.int .i64) := by
  match p, h with
  | [a, b, c, d, e, f], _ => rfl
theorem toSi_bd {p : List Int} (h : p.length = 6) (hb : ∀ z ∈ p, I64 z) : SiI (toSi p) := by
  match p, h with
  | [a, b, c, d, e, f], _ => exact ⟨hb a (by simp), hb b (by simp), hb c (by simp), hb d (by simp), hb e (by simp), hb f (by simp)⟩
theorem tAt_flat {α : Type} {W : World} {sa : Option Addr} {l : List (List Int)} {n : Nat} {enc : α → List Value} {f : List Int → α} (hf : ∀ p ∈ l, enc (f p) = p.map (Value.int .i64)) (h : FlatAt W .i64 sa n l) : TAt n enc W sa (l.map f) := fun i s hi => by
  rw [List.getElem?_map] at hi
  cases hp : l[i]? with
  | none => rw [hp] at hi; cases hi
  | some p =>
    rw [hp] at hi
    cases hi
    obtain ⟨blk, off, c, T, fr, h1, h2, h3⟩ := h i p hp
    exact ⟨blk, off, c, T, fr, h1, h2, by rw [hf p (List.mem_of_getElem? hp)]; exact h3⟩
theorem len2 {l : List Value} (h : l.length = 2) : ∃ a b, l = [a, b] := by
  match l, h with
  | [a, b], _ => exact ⟨a, b, rfl⟩
section
variable {H : Type} {enc : TypeId × Value → H} {W : World} {base : Nat} {spare : Nat → Bool} {held : Bool}
set_option maxRecDepth 100000 in
theorem openCha {r : Reach} {b0 : Nat} {v : Value} {d : DataW H} {p : List MemPlace} (hv : Value.okWide Try.prog W r b0 24 v) (h : DataW.Trod enc Try.prog W base spare held 24 v d p) : ∃ (c : ChD) (sa : Option Addr) (cp : Nat), v = .agg (chC c sa cp) ∧ ChIn W c sa ∧ c.si.length ≤ cp := by
  obtain ⟨cs, rfl, hsz⟩ := okWide_struct hs24 hv
  obtain ⟨fuel, h⟩ := h
  obtain ⟨_, hf⟩ := trod_field hs24 h
  rw [fs24] at hf
  rw [co24] at hsz
  obtain ⟨l, rfl⟩ : ∃ l : List Value, cs = l.toArray := ⟨cs.toList, by simp⟩
  obtain ⟨c0, c1, rfl⟩ := len2 (by simpa using hsz)
  replace hf : ∀ (i o : Nat) (u : TypeId) (c : Nat), (#[(0, 3), (1, 22)] : Array (Nat × TypeId))[i]? = some (o, u) → Try.prog.cellsOf u = c → ∃ n y, DataW.trod enc Try.prog W base spare held n u (([c0, c1].drop o).take c) = some y := hf
  obtain ⟨_, y0, g0⟩ := hf 0 0 3 1 rfl co3
  obtain ⟨_, _, g1⟩ := hf 1 1 22 1 rfl co22
  obtain ⟨n, e1, _, hn⟩ := DataW.trod_int Try.un_3 g0
  obtain ⟨l1, s1, a1, e2, m1, b1, f1⟩ := trod_slices un22 fk46 (by omega) g1
  have hc1 := trod_cap un22 e2 g1
  simp at e1 e2
  subst e1; subst e2
  refine ⟨⟨n, l1.map toSi⟩, s1, a1, by simp, ⟨tAt_flat (fun p hp => toSi_enc (b1 p hp).1) f1, wf64 hn, fun s hs => ?_⟩, by simpa using hc1⟩
  obtain ⟨p, hp, rfl⟩ := List.mem_map.1 hs
  exact toSi_bd (b1 p hp).1 (fun z hz => wf64 ((b1 p hp).2 z hz))
set_option maxRecDepth 100000 in
theorem openSi {r : Reach} {b0 : Nat} {v : Value} {d : DataW H} {p : List MemPlace} (hv : Value.okWide Try.prog W r b0 46 v) (h : DataW.Trod enc Try.prog W base spare held 46 v d p) : ∃ t : SiD, v = siV t ∧ SiI t := by
  obtain ⟨cs, rfl, hsz⟩ := okWide_struct hs46 hv
  obtain ⟨fuel, h⟩ := h
  obtain ⟨p, h1, h2, h3⟩ := trod_fl fk46 h
  refine ⟨toSi p, ?_, toSi_bd h1 (fun z hz => wf64 (h3 z hz))⟩
  match p, h1 with
  | [x1, x2, x3, x4, x5, x6], _ =>
    have e : cs = #[.int .i64 x1, .int .i64 x2, .int .i64 x3, .int .i64 x4, .int .i64 x5, .int .i64 x6] := by
      apply Array.ext'
      have h4 : cs.toList = [x1, x2, x3, x4, x5, x6].map (Value.int .i64) := h2
      rw [h4]; rfl
    subst e
    rfl
end
end Go.Proofs.Ytccjnjhlnpgocaa
