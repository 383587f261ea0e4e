/- Lemmas, in order: ChartIdle. What a law is handed, opened: charts, sights, numbers.. -/
import Derived.Test.YtccjnjhlnpgocaaQ15
import Derived.Test.YtccjnjhlnpgocaaRows
import Derived.Test.YtccjnjhlnpgocaaChecked
import Derived.JoinedOf
import Derived.LaidLaws
import Derived.RowKit
import Derived.RowKitTokens
import Derived.LaidHandle
import Derived.Stop.Joined
import Derived.Lay
import Derived.SizedLaws
import Derived.SevenTiedAt
namespace Go.Proofs.Ytccjnjhlnpgocaa
open Go Go.Sy Go.ChaM
set_option maxRecDepth 100000 in
set_option maxHeartbeats 4000000 in
theorem p10 (c : ChD) (sa : Option Addr) (cp : Nat) (z y : Int) (u : World) (hC : ChIn u c sa) (hz : 0 ≤ z ∧ z ≤ 255) (hy : 0 ≤ y ∧ y ≤ 255) : Calls Try.prog 10 #[.agg (chC c sa cp), .int .u8 z, .int .u8 y] u (Ret fun v w' => v = .bool true ∧ Ext [] u w') := by
  refine calls_of Try.func10 rfl rfl (fun a hf => ?_)
  have hh := Hp.init u []
  obtain ⟨zn, rfl⟩ : ∃ k : Nat, z = k := ⟨z.toNat, by omega⟩
  obtain ⟨yn, rfl⟩ : ∃ k : Nat, y = k := ⟨y.toNat, by omega⟩
  refine sy_sq ?_
  refine o_box hf hh ?_; clear hf hh a; intro B3 a w hf hh
  refine o_v hf hh (yv_assign rfl) ?_; clear hf a; intro a hf
  refine o_end ?_
  refine sy_seq ?_
  refine sy_sq ?_
  refine o_v hf hh (y_lds Try.ag_24 rfl) ?_; clear hf a; intro a hf
  refine o_call hf Try.en_13 rfl rfl rfl (p13 c sa cp _) ?_; clear hf a; intro v a w hR hf
  obtain ⟨rfl, hx⟩ := hR; replace hh := hh.more hx; clear hx
  refine o_end ?_
  refine sy_cond hf rfl (fun hg2 => ?_) (fun hg2 => ?_)
  ·have hG2 := hg2; try simp only [gS] at hG2
   refine sy_sq ?_
   refine o_call hf Try.en_14 rfl rfl rfl (p14 _) ?_; clear hf a; intro v a w hR hf
   obtain ⟨rfl, hx⟩ := hR; replace hh := hh.more hx; clear hx
   refine o_v hf hh (yv_assign rfl) ?_; clear hf a; intro a hf
   refine o_end ?_
   refine sy_ret ?_
   refine then_r ?_
   refine ret_r hf rfl rfl ?_
   first
     | exact ⟨rfl, hh.ext⟩
     | (exfalso
        (repeat (rename Fr _ _ _ _ => z9; clear z9))
        (repeat (rename Hp _ _ _ _ => z9; clear z9))
        (try clear hcn); (try clear hat); (try clear hbe)
        first
          | (rcases hK with ⟨h1, h2, h3⟩ | ⟨h1, h2, h3⟩ | ⟨h1, h2, h3⟩ <;> first | (omega; done) | (simp_all; done))
          | (omega; done)
          | (simp_all; done)
          | (simp_all <;> omega))
  ·have hG2 := hg2; try simp only [gS] at hG2
   refine sy_skip ?_
   refine then_n ?_
   refine sy_seq ?_
   have hA := hC.at (by assumption)
   refine sy_ops ?_
   refine o_v hf hh (y_lds Try.ag_24 rfl) ?_; clear hf a; intro a hf
   refine o_call hf Try.en_21 rfl rfl rfl (p21 c sa cp _ (hA.ext hh.ext)) ?_; clear hf a; intro v a w hR hf
   obtain ⟨rfl, hx⟩ := hR; replace hh := hh.more hx; clear hx
   refine o_v hf hh (yv_move rfl) ?_; clear hf a; intro a hf
   refine o_v hf hh (yv_extract rfl rfl) ?_; clear hf a; intro a hf
   refine o_v hf hh (yv_extract rfl rfl) ?_; clear hf a; intro a hf
   refine o_v hf hh (yv_assign rfl) ?_; clear hf a; intro a hf
   refine o_v hf hh (yv_assign rfl) ?_; clear hf a; intro a hf
   refine o_end ?_
   refine sy_seq ?_
   refine sy_sq ?_
   refine o_v hf hh (yv_move rfl) ?_; clear hf a; intro a hf
   refine o_v hf hh (yv_bin rfl rfl rfl) ?_; clear hf a; intro a hf
   refine o_end ?_
   refine sy_cond hf rfl (fun hg8 => ?_) (fun hg8 => ?_)
   ·have hG8 := hg8; try simp only [gS] at hG8
    refine sy_seq ?_
    obtain ⟨hv0, hK⟩ := idl_e (c := c) (by assumption)
    refine sy_ops ?_
    refine o_v hf hh (y_lds Try.ag_24 rfl) ?_; clear hf a; intro a hf
    refine o_call hf Try.en_24 rfl rfl rfl (p24 c sa cp _ (hA.ext hh.ext)) ?_; clear hf a; intro v a w hR hf
    obtain ⟨rfl, hx⟩ := hR; replace hh := hh.more hx; clear hx
    refine o_v hf hh (yv_move rfl) ?_; clear hf a; intro a hf
    refine o_v hf hh (yv_extract rfl rfl) ?_; clear hf a; intro a hf
    refine o_v hf hh (yv_extract rfl rfl) ?_; clear hf a; intro a hf
    refine o_v hf hh (yv_assign rfl) ?_; clear hf a; intro a hf
    refine o_v hf hh (yv_assign rfl) ?_; clear hf a; intro a hf
    refine o_end ?_
    refine sy_sq ?_
    refine o_v hf hh (yv_move rfl) ?_; clear hf a; intro a hf
    refine o_v hf hh (yv_bin rfl rfl rfl) ?_; clear hf a; intro a hf
    refine o_v hf hh (yv_move rfl) ?_; clear hf a; intro a hf
    refine guard_split hf (t := 46) rfl (fun hg13 => ?_) (fun hg13 => ?_)
    ·have hG13 := hg13; try simp only [gS] at hG13
     refine o_v hf hh (yv_move rfl) ?_; clear hf a; intro a hf
     refine o_v hf hh (yv_bin rfl rfl rfl) ?_; clear hf a; intro a hf
     refine o_v hf hh (yv_move rfl) ?_; clear hf a; intro a hf
     refine guard_split hf (t := 49) rfl (fun hg15 => ?_) (fun hg15 => ?_)
     ·have hG15 := hg15; try simp only [gS] at hG15
      refine o_v hf hh (y_lds Try.ag_24 rfl) ?_; clear hf a; intro a hf
      refine o_call hf Try.en_31 rfl rfl rfl (p31 c sa cp _ (hA.ext hh.ext)) ?_; clear hf a; intro v a w hR hf
      obtain ⟨rfl, hx⟩ := hR; replace hh := hh.more hx; clear hx
      refine o_v hf hh (yv_not rfl) ?_; clear hf a; intro a hf
      refine o_v hf hh (y_pt rfl rfl) ?_; clear hf a; intro a hf
      refine o_v hf hh (yv_move rfl) ?_; clear hf a; intro a hf
      refine guard_split hf (t := 54) rfl (fun hg17 => ?_) (fun hg17 => ?_)
      ·have hG17 := hg17; try simp only [gS] at hG17
       refine o_off hf ?_; clear hf a; intro a hf
       refine o_off hf ?_; clear hf a; intro a hf
       refine o_off hf ?_; clear hf a; intro a hf
       refine o_off hf ?_; clear hf a; intro a hf
       refine o_off hf ?_; clear hf a; intro a hf
       refine o_off hf ?_; clear hf a; intro a hf
       refine o_v hf hh (y_pt rfl rfl) ?_; clear hf a; intro a hf
       refine o_v hf hh (y_pt rfl rfl) ?_; clear hf a; intro a hf
       refine o_v hf hh (yv_move rfl) ?_; clear hf a; intro a hf
       refine o_call hf Try.en_14 rfl rfl rfl (p14 _) ?_; clear hf a; intro v a w hR hf
       obtain ⟨rfl, hx⟩ := hR; replace hh := hh.more hx; clear hx
       refine o_v hf hh (y_pt rfl rfl) ?_; clear hf a; intro a hf
       refine o_v hf hh (yv_assign rfl) ?_; clear hf a; intro a hf
       refine o_end ?_
       refine sy_ret ?_
       refine then_r ?_
       refine ret_r hf rfl rfl ?_
       first
         | exact ⟨rfl, hh.ext⟩
         | (exfalso
            (repeat (rename Fr _ _ _ _ => z9; clear z9))
            (repeat (rename Hp _ _ _ _ => z9; clear z9))
            (try clear hcn); (try clear hat); (try clear hbe)
            first
              | (rcases hK with ⟨h1, h2, h3⟩ | ⟨h1, h2, h3⟩ | ⟨h1, h2, h3⟩ <;> first | (omega; done) | (simp_all; done))
              | (omega; done)
              | (simp_all; done)
              | (simp_all <;> omega))
      ·have hG17 := hg17; try simp only [gS] at hG17
       refine o_v hf hh (yv_move rfl) ?_; clear hf a; intro a hf
       refine o_v hf hh (yv_bin rfl rfl rfl) ?_; clear hf a; intro a hf
       refine o_v hf hh (yv_move rfl) ?_; clear hf a; intro a hf
       refine guard_split hf (t := 57) rfl (fun hg20 => ?_) (fun hg20 => ?_)
       ·have hG20 := hg20; try simp only [gS] at hG20
        refine o_v hf hh (yv_move rfl) ?_; clear hf a; intro a hf
        refine o_v hf hh (yv_bin rfl rfl rfl) ?_; clear hf a; intro a hf
        refine o_v hf hh (y_pt rfl rfl) ?_; clear hf a; intro a hf
        refine o_v hf hh (y_pf rfl rfl) ?_; clear hf a; intro a hf
        refine o_v hf hh (y_pt rfl rfl) ?_; clear hf a; intro a hf
        refine o_v hf hh (yv_move rfl) ?_; clear hf a; intro a hf
        refine guard_split hf (t := 63) rfl (fun hg22 => ?_) (fun hg22 => ?_)
        ·have hG22 := hg22; try simp only [gS] at hG22
         refine o_call hf Try.en_14 rfl rfl rfl (p14 _) ?_; clear hf a; intro v a w hR hf
         obtain ⟨rfl, hx⟩ := hR; replace hh := hh.more hx; clear hx
         refine o_v hf hh (y_pt rfl rfl) ?_; clear hf a; intro a hf
         refine o_v hf hh (yv_assign rfl) ?_; clear hf a; intro a hf
         refine o_end ?_
         refine sy_ret ?_
         refine then_r ?_
         refine ret_r hf rfl rfl ?_
         first
           | exact ⟨rfl, hh.ext⟩
           | (exfalso
              (repeat (rename Fr _ _ _ _ => z9; clear z9))
              (repeat (rename Hp _ _ _ _ => z9; clear z9))
              (try clear hcn); (try clear hat); (try clear hbe)
              first
                | (rcases hK with ⟨h1, h2, h3⟩ | ⟨h1, h2, h3⟩ | ⟨h1, h2, h3⟩ <;> first | (omega; done) | (simp_all; done))
                | (omega; done)
                | (simp_all; done)
                | (simp_all <;> omega))
        ·have hG22 := hg22; try simp only [gS] at hG22
         refine o_off hf ?_; clear hf a; intro a hf
         refine o_v hf hh (y_pf rfl rfl) ?_; clear hf a; intro a hf
         refine o_v hf hh (yv_assign rfl) ?_; clear hf a; intro a hf
         refine o_end ?_
         refine sy_ret ?_
         refine then_r ?_
         refine ret_r hf rfl rfl ?_
         first
           | exact ⟨rfl, hh.ext⟩
           | (exfalso
              (repeat (rename Fr _ _ _ _ => z9; clear z9))
              (repeat (rename Hp _ _ _ _ => z9; clear z9))
              (try clear hcn); (try clear hat); (try clear hbe)
              first
                | (rcases hK with ⟨h1, h2, h3⟩ | ⟨h1, h2, h3⟩ | ⟨h1, h2, h3⟩ <;> first | (omega; done) | (simp_all; done))
                | (omega; done)
                | (simp_all; done)
                | (simp_all <;> omega))
       ·have hG20 := hg20; try simp only [gS] at hG20
        refine o_off hf ?_; clear hf a; intro a hf
        refine o_off hf ?_; clear hf a; intro a hf
        refine o_v hf hh (y_pf rfl rfl) ?_; clear hf a; intro a hf
        refine o_v hf hh (y_pf rfl rfl) ?_; clear hf a; intro a hf
        refine o_v hf hh (y_pt rfl rfl) ?_; clear hf a; intro a hf
        refine o_v hf hh (yv_move rfl) ?_; clear hf a; intro a hf
        refine o_off hf ?_; clear hf a; intro a hf
        refine o_v hf hh (y_pf rfl rfl) ?_; clear hf a; intro a hf
        refine o_v hf hh (yv_assign rfl) ?_; clear hf a; intro a hf
        refine o_end ?_
        refine sy_ret ?_
        refine then_r ?_
        refine ret_r hf rfl rfl ?_
        first
          | exact ⟨rfl, hh.ext⟩
          | (exfalso
             (repeat (rename Fr _ _ _ _ => z9; clear z9))
             (repeat (rename Hp _ _ _ _ => z9; clear z9))
             (try clear hcn); (try clear hat); (try clear hbe)
             first
               | (rcases hK with ⟨h1, h2, h3⟩ | ⟨h1, h2, h3⟩ | ⟨h1, h2, h3⟩ <;> first | (omega; done) | (simp_all; done))
               | (omega; done)
               | (simp_all; done)
               | (simp_all <;> omega))
     ·have hG15 := hg15; try simp only [gS] at hG15
      refine o_off hf ?_; clear hf a; intro a hf
      refine o_off hf ?_; clear hf a; intro a hf
      refine o_off hf ?_; clear hf a; intro a hf
      refine o_v hf hh (y_pf rfl rfl) ?_; clear hf a; intro a hf
      refine o_v hf hh (yv_move rfl) ?_; clear hf a; intro a hf
      refine o_v hf hh (yv_move rfl) ?_; clear hf a; intro a hf
      refine o_v hf hh (yv_bin rfl rfl rfl) ?_; clear hf a; intro a hf
      refine o_v hf hh (yv_move rfl) ?_; clear hf a; intro a hf
      refine guard_split hf (t := 57) rfl (fun hg25 => ?_) (fun hg25 => ?_)
      ·have hG25 := hg25; try simp only [gS] at hG25
       refine o_v hf hh (yv_move rfl) ?_; clear hf a; intro a hf
       refine o_v hf hh (yv_bin rfl rfl rfl) ?_; clear hf a; intro a hf
       refine o_v hf hh (y_pt rfl rfl) ?_; clear hf a; intro a hf
       refine o_v hf hh (y_pf rfl rfl) ?_; clear hf a; intro a hf
       refine o_v hf hh (y_pt rfl rfl) ?_; clear hf a; intro a hf
       refine o_v hf hh (yv_move rfl) ?_; clear hf a; intro a hf
       refine guard_split hf (t := 63) rfl (fun hg27 => ?_) (fun hg27 => ?_)
       ·have hG27 := hg27; try simp only [gS] at hG27
        refine o_call hf Try.en_14 rfl rfl rfl (p14 _) ?_; clear hf a; intro v a w hR hf
        obtain ⟨rfl, hx⟩ := hR; replace hh := hh.more hx; clear hx
        refine o_v hf hh (y_pt rfl rfl) ?_; clear hf a; intro a hf
        refine o_v hf hh (yv_assign rfl) ?_; clear hf a; intro a hf
        refine o_end ?_
        refine sy_ret ?_
        refine then_r ?_
        refine ret_r hf rfl rfl ?_
        first
          | exact ⟨rfl, hh.ext⟩
          | (exfalso
             (repeat (rename Fr _ _ _ _ => z9; clear z9))
             (repeat (rename Hp _ _ _ _ => z9; clear z9))
             (try clear hcn); (try clear hat); (try clear hbe)
             first
               | (rcases hK with ⟨h1, h2, h3⟩ | ⟨h1, h2, h3⟩ | ⟨h1, h2, h3⟩ <;> first | (omega; done) | (simp_all; done))
               | (omega; done)
               | (simp_all; done)
               | (simp_all <;> omega))
       ·have hG27 := hg27; try simp only [gS] at hG27
        refine o_off hf ?_; clear hf a; intro a hf
        refine o_v hf hh (y_pf rfl rfl) ?_; clear hf a; intro a hf
        refine o_v hf hh (yv_assign rfl) ?_; clear hf a; intro a hf
        refine o_end ?_
        refine sy_ret ?_
        refine then_r ?_
        refine ret_r hf rfl rfl ?_
        first
          | exact ⟨rfl, hh.ext⟩
          | (exfalso
             (repeat (rename Fr _ _ _ _ => z9; clear z9))
             (repeat (rename Hp _ _ _ _ => z9; clear z9))
             (try clear hcn); (try clear hat); (try clear hbe)
             first
               | (rcases hK with ⟨h1, h2, h3⟩ | ⟨h1, h2, h3⟩ | ⟨h1, h2, h3⟩ <;> first | (omega; done) | (simp_all; done))
               | (omega; done)
               | (simp_all; done)
               | (simp_all <;> omega))
      ·have hG25 := hg25; try simp only [gS] at hG25
       refine o_off hf ?_; clear hf a; intro a hf
       refine o_off hf ?_; clear hf a; intro a hf
       refine o_v hf hh (y_pf rfl rfl) ?_; clear hf a; intro a hf
       refine o_v hf hh (y_pf rfl rfl) ?_; clear hf a; intro a hf
       refine o_v hf hh (y_pt rfl rfl) ?_; clear hf a; intro a hf
       refine o_v hf hh (yv_move rfl) ?_; clear hf a; intro a hf
       refine o_off hf ?_; clear hf a; intro a hf
       refine o_v hf hh (y_pf rfl rfl) ?_; clear hf a; intro a hf
       refine o_v hf hh (yv_assign rfl) ?_; clear hf a; intro a hf
       refine o_end ?_
       refine sy_ret ?_
       refine then_r ?_
       refine ret_r hf rfl rfl ?_
       first
         | exact ⟨rfl, hh.ext⟩
         | (exfalso
            (repeat (rename Fr _ _ _ _ => z9; clear z9))
            (repeat (rename Hp _ _ _ _ => z9; clear z9))
            (try clear hcn); (try clear hat); (try clear hbe)
            first
              | (rcases hK with ⟨h1, h2, h3⟩ | ⟨h1, h2, h3⟩ | ⟨h1, h2, h3⟩ <;> first | (omega; done) | (simp_all; done))
              | (omega; done)
              | (simp_all; done)
              | (simp_all <;> omega))
    ·have hG13 := hg13; try simp only [gS] at hG13
     refine o_off hf ?_; clear hf a; intro a hf
     refine o_off hf ?_; clear hf a; intro a hf
     refine o_off hf ?_; clear hf a; intro a hf
     refine o_off hf ?_; clear hf a; intro a hf
     refine o_off hf ?_; clear hf a; intro a hf
     refine o_off hf ?_; clear hf a; intro a hf
     refine o_off hf ?_; clear hf a; intro a hf
     refine o_off hf ?_; clear hf a; intro a hf
     refine o_off hf ?_; clear hf a; intro a hf
     refine o_off hf ?_; clear hf a; intro a hf
     refine o_off hf ?_; clear hf a; intro a hf
     refine o_off hf ?_; clear hf a; intro a hf
     refine o_off hf ?_; clear hf a; intro a hf
     refine o_off hf ?_; clear hf a; intro a hf
     refine o_off hf ?_; clear hf a; intro a hf
     refine o_v hf hh (y_pf rfl rfl) ?_; clear hf a; intro a hf
     refine o_v hf hh (yv_move rfl) ?_; clear hf a; intro a hf
     refine o_off hf ?_; clear hf a; intro a hf
     refine o_v hf hh (y_pf rfl rfl) ?_; clear hf a; intro a hf
     refine o_v hf hh (yv_assign rfl) ?_; clear hf a; intro a hf
     refine o_end ?_
     refine sy_ret ?_
     refine then_r ?_
     refine ret_r hf rfl rfl ?_
     first
       | exact ⟨rfl, hh.ext⟩
       | (exfalso
          (repeat (rename Fr _ _ _ _ => z9; clear z9))
          (repeat (rename Hp _ _ _ _ => z9; clear z9))
          (try clear hcn); (try clear hat); (try clear hbe)
          first
            | (rcases hK with ⟨h1, h2, h3⟩ | ⟨h1, h2, h3⟩ | ⟨h1, h2, h3⟩ <;> first | (omega; done) | (simp_all; done))
            | (omega; done)
            | (simp_all; done)
            | (simp_all <;> omega))
   ·have hG8 := hg8; try simp only [gS] at hG8
    refine sy_skip ?_
    refine then_n ?_
    refine sy_seq ?_
    obtain ⟨hcb, hO, hwr, hvl, hbit⟩ := idl_v (c := c) (by assumption)
    have hl10 := hO.l
    have hpl := pow_ten hl10
    have hof := off_lt c.si.length
    have hn1 := hO.n1; have hn2 := hO.n2
    refine sy_ops ?_
    refine o_v hf hh (yv_fieldAddr Try.fo_24_1 rfl) ?_; clear hf a; intro a hf
    refine o_v hf hh (y_ld Try.sc_22 rfl) ?_; clear hf a; intro a hf
    refine o_v hf hh (yv_len Try.se_22 rfl) ?_; clear hf a; intro a hf
    refine ops_v hf hh (yv_cast (yv_shl1 (.inl rfl) rfl rfl (by omega) (by omega)) (intv (b := ((2 ^ c.si.length : Nat) : Int)) (by rw [Int.toNat_natCast]))) (.inl rfl) rfl rfl rfl ?_; clear hf a; intro a hf
    refine o_v hf hh (y_sub rfl rfl) ?_; clear hf a; intro a hf
    refine o_v hf hh (yv_assign rfl) ?_; clear hf a; intro a hf
    refine o_end ?_
    refine sy_seq ?_
    refine sy_sq ?_
    refine o_v hf hh (y_lds Try.ag_24 rfl) ?_; clear hf a; intro a hf
    refine o_call hf Try.en_31 rfl rfl rfl (p31 c sa cp _ (hA.ext hh.ext)) ?_; clear hf a; intro v a w hR hf
    obtain ⟨rfl, hx⟩ := hR; replace hh := hh.more hx; clear hx
    refine o_v hf hh (yv_not rfl) ?_; clear hf a; intro a hf
    refine o_v hf hh (yv_move rfl) ?_; clear hf a; intro a hf
    refine guard_split hf (t := 74) rfl (fun hg31 => ?_) (fun hg31 => ?_)
    ·have hG31 := hg31; try simp only [gS] at hG31
     refine o_off hf ?_; clear hf a; intro a hf
     refine o_off hf ?_; clear hf a; intro a hf
     refine o_v hf hh (y_pt rfl rfl) ?_; clear hf a; intro a hf
     refine o_v hf hh (yv_move rfl) ?_; clear hf a; intro a hf
     refine o_off hf ?_; clear hf a; intro a hf
     refine o_off hf ?_; clear hf a; intro a hf
     refine o_off hf ?_; clear hf a; intro a hf
     refine o_v hf hh (y_pt rfl rfl) ?_; clear hf a; intro a hf
     refine o_end ?_
     refine c_t hf ?_
     refine sy_sq ?_
     refine o_v hf hh (yv_assign rfl) ?_; clear hf a; intro a hf
     refine o_end ?_
     refine sy_ret ?_
     refine then_r ?_
     refine ret_r hf rfl rfl ?_
     first
       | exact ⟨rfl, hh.ext⟩
       | (exfalso
          (repeat (rename Fr _ _ _ _ => z9; clear z9))
          (repeat (rename Hp _ _ _ _ => z9; clear z9))
          (try clear hcn); (try clear hat); (try clear hbe)
          first
            | (rcases hK with ⟨h1, h2, h3⟩ | ⟨h1, h2, h3⟩ | ⟨h1, h2, h3⟩ <;> first | (omega; done) | (simp_all; done))
            | (omega; done)
            | (simp_all; done)
            | (simp_all <;> omega))
    ·have hG31 := hg31; try simp only [gS] at hG31
     refine o_v hf hh (yv_move rfl) ?_; clear hf a; intro a hf
     refine o_v hf hh (yv_bin rfl rfl rfl) ?_; clear hf a; intro a hf
     refine o_v hf hh (y_pf rfl rfl) ?_; clear hf a; intro a hf
     refine o_v hf hh (yv_move rfl) ?_; clear hf a; intro a hf
     refine guard_split hf (t := 78) rfl (fun hg33 => ?_) (fun hg33 => ?_)
     ·have hG33 := hg33; try simp only [gS] at hG33
      refine o_off hf ?_; clear hf a; intro a hf
      refine o_off hf ?_; clear hf a; intro a hf
      refine o_off hf ?_; clear hf a; intro a hf
      refine o_v hf hh (y_pt rfl rfl) ?_; clear hf a; intro a hf
      refine o_end ?_
      refine c_t hf ?_
      refine sy_sq ?_
      refine o_v hf hh (yv_assign rfl) ?_; clear hf a; intro a hf
      refine o_end ?_
      refine sy_ret ?_
      refine then_r ?_
      refine ret_r hf rfl rfl ?_
      first
        | exact ⟨rfl, hh.ext⟩
        | (exfalso
           (repeat (rename Fr _ _ _ _ => z9; clear z9))
           (repeat (rename Hp _ _ _ _ => z9; clear z9))
           (try clear hcn); (try clear hat); (try clear hbe)
           first
             | (rcases hK with ⟨h1, h2, h3⟩ | ⟨h1, h2, h3⟩ | ⟨h1, h2, h3⟩ <;> first | (omega; done) | (simp_all; done))
             | (omega; done)
             | (simp_all; done)
             | (simp_all <;> omega))
     ·have hG33 := hg33; try simp only [gS] at hG33
      refine o_v hf hh (yv_move rfl) ?_; clear hf a; intro a hf
      refine o_v hf hh (yv_move rfl) ?_; clear hf a; intro a hf
      refine o_v hf hh (yv_bin rfl rfl rfl) ?_; clear hf a; intro a hf
      refine o_v hf hh (y_pf rfl rfl) ?_; clear hf a; intro a hf
      refine o_end ?_
      refine sy_cond hf rfl (fun hg35 => ?_) (fun hg35 => ?_)
      ·have hG35 := hg35; try simp only [gS] at hG35
       refine sy_sq ?_
       refine o_v hf hh (yv_assign rfl) ?_; clear hf a; intro a hf
       refine o_end ?_
       refine sy_ret ?_
       refine then_r ?_
       refine ret_r hf rfl rfl ?_
       first
         | exact ⟨rfl, hh.ext⟩
         | (exfalso
            (repeat (rename Fr _ _ _ _ => z9; clear z9))
            (repeat (rename Hp _ _ _ _ => z9; clear z9))
            (try clear hcn); (try clear hat); (try clear hbe)
            first
              | (rcases hK with ⟨h1, h2, h3⟩ | ⟨h1, h2, h3⟩ | ⟨h1, h2, h3⟩ <;> first | (omega; done) | (simp_all; done))
              | (omega; done)
              | (simp_all; done)
              | (simp_all <;> omega))
      ·have hG35 := hg35; try simp only [gS] at hG35
       refine sy_skip ?_
       refine then_n ?_
       refine sy_seq ?_
       obtain ⟨nn, hnn⟩ : ∃ nn : Nat, c.n = nn := ⟨c.n.toNat, by omega⟩
       obtain ⟨ia, hia⟩ : ∃ ia, ia = zn % nn := ⟨_, rfl⟩
       obtain ⟨ka, hka⟩ : ∃ ka, ka = yn % nn := ⟨_, rfl⟩
       refine sy_quiet (C := Hp _ _ _) Try.follows (by kernel_rfl) (hh.drawn _) ?_
       refine oq_v hf (yv_move rfl) ?_; clear hf a; intro a hf
       first | refine oq_v hf (yv_convx (.inl rfl) (by kernel_rfl) Try.un_3 rfl (by omega) (by simp only [IntKind.top]; omega)) ?_; clear hf a; intro a hf | refine oq_v hf (yv_conv (by kernel_rfl) Try.un_3 rfl) ?_; clear hf a; intro a hf
       refine oq_v hf (yv_fieldAddr Try.fo_24_0 rfl) ?_; clear hf a; intro a hf
       refine oq_v hf (y_ld Try.sc_3 rfl) ?_; clear hf a; intro a hf
       refine q_v hf (yv_cast (yv_rem rfl rfl (by omega) (by omega)) (intv (b := ((ia : Nat) : Int)) (by rw [hia, Int.natCast_emod, hnn]))) (.inl rfl) rfl rfl ?_; clear hf a; intro a hf
       refine oq_v hf (yv_move rfl) ?_; clear hf a; intro a hf
       first | refine oq_v hf (yv_convx (.inl rfl) (by kernel_rfl) Try.un_3 rfl (by omega) (by simp only [IntKind.top]; omega)) ?_; clear hf a; intro a hf | refine oq_v hf (yv_conv (by kernel_rfl) Try.un_3 rfl) ?_; clear hf a; intro a hf
       refine oq_v hf (yv_fieldAddr Try.fo_24_0 rfl) ?_; clear hf a; intro a hf
       refine oq_v hf (y_ld Try.sc_3 rfl) ?_; clear hf a; intro a hf
       refine q_v hf (yv_cast (yv_rem rfl rfl (by omega) (by omega)) (intv (b := ((ka : Nat) : Int)) (by rw [hka, Int.natCast_emod, hnn]))) (.inl rfl) rfl rfl ?_; clear hf a; intro a hf
       refine oq_v hf (yv_assign rfl) ?_; clear hf a; intro a hf
       refine oq_v hf (yv_assign rfl) ?_; clear hf a; intro a hf
       refine q_end fun w hh => ?_
       refine then_n ?_
       refine sy_sq ?_
       refine o_v hf hh (y_lds Try.ag_24 rfl) ?_; clear hf a; intro a hf
       refine o_v hf hh (yv_move rfl) ?_; clear hf a; intro a hf
       refine o_v hf hh (yv_move rfl) ?_; clear hf a; intro a hf
       refine o_call hf Try.en_17 rfl rfl rfl (p17 c sa cp (ia : Nat) (ka : Nat) _ (hA.ext hh.ext)) ?_; clear hf a; intro v a w hR hf
       obtain ⟨rfl, hx⟩ := hR; replace hh := hh.more hx; clear hx
       refine o_v hf hh (yv_move rfl) ?_; clear hf a; intro a hf
       refine o_v hf hh (yv_extract rfl rfl) ?_; clear hf a; intro a hf
       refine o_v hf hh (yv_extract rfl rfl) ?_; clear hf a; intro a hf
       refine o_v hf hh (yv_extract rfl rfl) ?_; clear hf a; intro a hf
       refine o_alloc hf hh Try.ze_28 ?_; clear hf hh a; intro B14 a w hf hh
       refine o_alloc hf hh Try.ze_28 ?_; clear hf hh a; intro B15 a w hf hh
       refine o_store hf hh Try.sz_28 fun w hh => ?_
       refine o_store hf hh Try.sz_28 fun w hh => ?_
       refine o_v hf hh (yv_assign rfl) ?_; clear hf a; intro a hf
       refine o_end ?_
       refine sy_seq ?_
       refine sy_seq ?_
       replace hh : Hp u [] [(B15, .cells (spV (betV c true (ia : Nat) (ka : Nat))).cells 28), (B14, .cells (spV (betV c false (ia : Nat) (ka : Nat))).cells 28), (B3, .cells (chC c sa cp) 24)] w := hh
       refine sy_ops ?_
       refine o_v hf hh (yv_fieldAddr Try.fo_24_1 rfl) ?_; clear hf a; intro a hf
       refine o_v hf hh (y_ld Try.sc_22 rfl) ?_; clear hf a; intro a hf
       refine o_v hf hh (yv_len Try.se_22 rfl) ?_; clear hf a; intro a hf
       refine o_v hf hh (yv_move rfl) ?_; clear hf a; intro a hf
       refine o_end ?_
       refine sy_block ?_
       refine sy_loopH (σ := Nat) [6, 17, 18, 19, 20, 21, 22, 23, 24, 25, 26, 27, 28, 104, 105, 106, 107, 108, 109, 110, 111, 112, 113, 114, 115, 116, 117, 118, 119, 120, 121, 122, 123, 124, 125, 126, 127, 128, 129, 130, 131, 132, 133, 134, 135, 136, 137, 138, 139, 140, 141, 142, 143, 144, 145, 146, 147, 148, 149, 150, 151, 152, 153, 154, 155, 156, 157, 158, 159, 160, 161, 162, 163, 164, 165, 166, 167, 168, 169, 170, 171, 172, 173, 174, 175, 176, 177, 178, 179, 180, 181, 182, 183, 184, 185, 186, 187, 188, 189, 190, 191, 192, 193, 194, 195, 196, 197, 198, 199, 200, 201, 202, 203, 204, 205, 206, 207, 208, 209, 210, 211] (fun i => [(104, .int .i64 (i : Nat))]) (fun i => fun w' => i ≤ c.si.length ∧ Hp u [] [(B15, .cells (spV (betV c true (ia : Nat) (ka : Nat))).cells 28), (B14, .cells (spV (betV c false (ia : Nat) (ka : Nat))).cells 28), (B3, .cells (chC c sa cp) 24)] w') (fun i => c.si.length - i) (0) hf ?_ ?_ ?_
       · repeat' (first | exact True.intro | refine And.intro rfl ?_)
       · exact ⟨Nat.zero_le _, hh⟩
       ·rintro i a w ⟨hi, hh⟩ hf
        refine sy_sq ?_
        refine o_v hf hh (yv_bin rfl rfl rfl) ?_; clear hf a; intro a hf
        refine o_end ?_
        refine sy_seq ?_
        refine sy_cond hf rfl (fun hg43 => ?_) (fun hg43 => ?_)
        ·have hG43 := hg43; try simp only [gS] at hG43
         refine sy_skip ?_
         refine then_n ?_
         refine sy_seq ?_
         refine sy_block ?_
         refine sy_seq ?_
         obtain ⟨s, hs⟩ := ex_of (l := c.si) (i := i) (by omega)
         obtain ⟨blk, off, cc, T, fr, esa, hb2, hc⟩ := hA.at_ i s hs
         have hsm := List.mem_of_getElem? hs
         have hso := hO.s s hsm
         have hil := len_of hs
         have hI := idl_s hO hwr hs
         obtain ⟨f, t, el, eh, nl, nh⟩ := s
         have hf0 := hso.f0; have hf1 := hso.f1; have ht0 := hso.t0; have ht1 := hso.t1
         dsimp only at hf0 hf1 ht0 ht1
         obtain ⟨kf, rfl⟩ : ∃ k : Nat, f = k := ⟨f.toNat, by omega⟩
         obtain ⟨kt, rfl⟩ : ∃ k : Nat, t = k := ⟨t.toNat, by omega⟩
         have hp2 : 2 ^ i ≤ 2 ^ 10 := Nat.pow_le_pow_right (by omega) (by omega)
         obtain ⟨i1, i2, i3, i4, i5, i6⟩ := hI
         dsimp only at i1 i2 i3 i4 i5 i6
         refine sy_ops ?_
         refine o_v hf hh (yv_move rfl) ?_; clear hf a; intro a hf
         refine o_v hf hh (y_ix Try.se_22 (congrArg (fun z => some (Value.slice z c.si.length cp)) esa) rfl) ?_; clear hf a; intro a hf
         refine o_v hf hh (y_lds Try.ag_46 rfl) ?_; clear hf a; intro a hf
         refine o_alloc hf hh Try.ze_46 ?_; clear hf hh a; intro B18 a w hf hh
         refine o_v hf hh (yv_assign rfl) ?_; clear hf a; intro a hf
         refine o_store hf hh Try.sz_46 fun w hh => ?_
         refine o_end ?_
         refine sy_seq ?_
         replace hh : Hp u [] [(B18, .cells #[.int .i64 (kf : Nat), .int .i64 (kt : Nat), .int .i64 el, .int .i64 eh, .int .i64 nl, .int .i64 nh] 46), (B15, .cells (spV (betV c true (ia : Nat) (ka : Nat))).cells 28), (B14, .cells (spV (betV c false (ia : Nat) (ka : Nat))).cells 28), (B3, .cells (chC c sa cp) 24)] w := hh
         refine sy_treeC (.q 0 0 (.p 1 (.p 2 (.p 3 (.p 4 (.e2 5 (.e1 6 (.e1 7 (.fin))) 6 (.e1 5 (.e1 7 (.fin))))))))) [[7]] [(AtE u [] [(B3, .cells (chC c sa cp) 24)], [7])] Try.follows (by kernel_rfl) rfl hh (fun w hh => ?_)
         refine mc_q rfl rfl (AtE.of hh (by intro p hp; rw [List.mem_singleton.1 hp]; simp)) hf (y_lds Try.ag_24 rfl) (.inl rfl) rfl rfl ?_; clear hf a; intro a hf
         refine mc_p rfl   hf (yv_move rfl) (.inl rfl) rfl rfl ?_; clear hf a; intro a hf
         refine mc_p rfl   hf (yv_move rfl) (.inl rfl) rfl rfl ?_; clear hf a; intro a hf
         refine mc_p rfl   hf (yv_cast (yv_shl1 (.inl rfl) rfl rfl (by omega) (by omega)) (intv (b := ((2 ^ i : Nat) : Int)) (by rw [Int.toNat_natCast]))) (.inl rfl) rfl rfl ?_; clear hf a; intro a hf
         refine mc_p rfl   hf (yv_cast (yv_andnI (p := 2 ^ c.si.length - 1) (q := 2 ^ i) (show _ = some (Value.int .i64 (((2 ^ c.si.length - 1 : Nat) : Nat) : Int)) from congrArg some (intv (by omega))) rfl (by omega) (by omega)) (show Value.int .i64 _ = Value.int .i64 ((offN c.si.length (2 ^ i) : Nat) : Int) from rfl)) (.inl rfl) rfl rfl ?_; clear hf a; intro a hf
         refine ⟨?_, ?_⟩
         ·refine mc_e rfl fun Q1 => ?_
          refine o_call hf Try.en_35 rfl rfl rfl (p35 c sa cp (offN c.si.length (2 ^ i)) _ (hA.ext hh.ext) hO (by have := hof (2 ^ i); omega)) ?_; clear hf a; intro v a w hR hf
          rw [offp] at hR
          obtain ⟨sx, cx, X9, rfl, hAt, hx⟩ := hR; replace hh := (hh.join hx).perm List.perm_append_comm; clear hx
          refine ops_end ?_
          refine then_n ⟨⟨fun _ _ => (AtE.of hh (by intro p hp; rw [List.mem_singleton.1 hp]; simp)), trivial⟩, ?_⟩
          refine mc_e rfl fun Q1 => ?_
          refine o_alloc hf hh Try.ze_24 ?_; clear hf hh a; intro B19 a w hf hh
          refine ops_end ?_
          refine then_n ⟨⟨fun _ _ => (AtE.of hh (by intro p hp; rw [List.mem_singleton.1 hp]; simp)), trivial⟩, ?_⟩
          refine mc_e rfl fun Q1 => ?_
          refine o_store hf hh Try.sz_24 fun w hh => ?_
          refine ops_end ?_
          refine then_n ⟨⟨fun h => Bool.noConfusion (show true = false from h), trivial⟩, ?_⟩
          refine mc_end ?_
          refine then_n ?_
          refine sy_sq ?_
          refine o_v hf hh (y_lds Try.ag_24 rfl) ?_; clear hf a; intro a hf
          refine o_v hf hh (yv_fieldAddr Try.fo_46_0 rfl) ?_; clear hf a; intro a hf
          refine o_v hf hh (y_ld Try.sc_3 rfl) ?_; clear hf a; intro a hf
          refine o_v hf hh (yv_fieldAddr Try.fo_46_1 rfl) ?_; clear hf a; intro a hf
          refine o_v hf hh (y_ld Try.sc_3 rfl) ?_; clear hf a; intro a hf
          refine o_call hf Try.en_17 rfl rfl rfl (p17 (lessC c i) sx cx (kf : Nat) (kt : Nat) _ (hAt _ (fun q hq => hh.get q (by simp [hq])))) ?_; clear hf a; intro v a w hR hf
          obtain ⟨rfl, hx⟩ := hR; replace hh := hh.more hx; clear hx
          refine o_v hf hh (yv_move rfl) ?_; clear hf a; intro a hf
          refine o_v hf hh (yv_extract rfl rfl) ?_; clear hf a; intro a hf
          refine o_v hf hh (yv_extract rfl rfl) ?_; clear hf a; intro a hf
          refine o_v hf hh (yv_extract rfl rfl) ?_; clear hf a; intro a hf
          refine o_alloc hf hh Try.ze_28 ?_; clear hf hh a; intro B20 a w hf hh
          refine o_alloc hf hh Try.ze_28 ?_; clear hf hh a; intro B21 a w hf hh
          refine o_store hf hh Try.sz_28 fun w hh => ?_
          refine o_store hf hh Try.sz_28 fun w hh => ?_
          refine o_v hf hh (yv_assign rfl) ?_; clear hf a; intro a hf
          refine o_end ?_
          refine sy_sq ?_
          refine o_v hf hh (y_lds Try.ag_24 rfl) ?_; clear hf a; intro a hf
          refine o_v hf hh (yv_fieldAddr Try.fo_46_0 rfl) ?_; clear hf a; intro a hf
          refine o_v hf hh (y_ld Try.sc_3 rfl) ?_; clear hf a; intro a hf
          refine o_v hf hh (yv_fieldAddr Try.fo_46_1 rfl) ?_; clear hf a; intro a hf
          refine o_v hf hh (y_ld Try.sc_3 rfl) ?_; clear hf a; intro a hf
          refine o_call hf Try.en_17 rfl rfl rfl (p17 c sa cp (kf : Nat) (kt : Nat) _ (hA.ext hh.ext)) ?_; clear hf a; intro v a w hR hf
          obtain ⟨rfl, hx⟩ := hR; replace hh := hh.more hx; clear hx
          refine o_v hf hh (yv_move rfl) ?_; clear hf a; intro a hf
          refine o_v hf hh (yv_extract rfl rfl) ?_; clear hf a; intro a hf
          refine o_v hf hh (yv_extract rfl rfl) ?_; clear hf a; intro a hf
          refine o_v hf hh (yv_extract rfl rfl) ?_; clear hf a; intro a hf
          refine o_alloc hf hh Try.ze_28 ?_; clear hf hh a; intro B23 a w hf hh
          refine o_alloc hf hh Try.ze_28 ?_; clear hf hh a; intro B24 a w hf hh
          refine o_store hf hh Try.sz_28 fun w hh => ?_
          refine o_store hf hh Try.sz_28 fun w hh => ?_
          refine o_v hf hh (yv_assign rfl) ?_; clear hf a; intro a hf
          refine o_end ?_
          refine sy_sq ?_
          refine o_v hf hh (y_lds Try.ag_24 rfl) ?_; clear hf a; intro a hf
          refine o_v hf hh (yv_move rfl) ?_; clear hf a; intro a hf
          refine o_v hf hh (yv_move rfl) ?_; clear hf a; intro a hf
          refine o_call hf Try.en_17 rfl rfl rfl (p17 (lessC c i) sx cx (ia : Nat) (ka : Nat) _ (hAt _ (fun q hq => hh.get q (by simp [hq])))) ?_; clear hf a; intro v a w hR hf
          obtain ⟨rfl, hx⟩ := hR; replace hh := hh.more hx; clear hx
          refine o_v hf hh (yv_move rfl) ?_; clear hf a; intro a hf
          refine o_v hf hh (yv_extract rfl rfl) ?_; clear hf a; intro a hf
          refine o_v hf hh (yv_extract rfl rfl) ?_; clear hf a; intro a hf
          refine o_v hf hh (yv_extract rfl rfl) ?_; clear hf a; intro a hf
          refine o_alloc hf hh Try.ze_28 ?_; clear hf hh a; intro B26 a w hf hh
          refine o_alloc hf hh Try.ze_28 ?_; clear hf hh a; intro B27 a w hf hh
          refine o_store hf hh Try.sz_28 fun w hh => ?_
          refine o_store hf hh Try.sz_28 fun w hh => ?_
          refine o_v hf hh (yv_assign rfl) ?_; clear hf a; intro a hf
          refine o_end ?_
          refine sy_seq ?_
          refine sy_sq ?_
          refine o_v hf hh (yv_move rfl) ?_; clear hf a; intro a hf
          refine o_v hf hh (yv_bin rfl rfl rfl) ?_; clear hf a; intro a hf
          refine o_v hf hh (yv_move rfl) ?_; clear hf a; intro a hf
          refine guard_split hf (t := 145) rfl (fun hg61 => ?_) (fun hg61 => ?_)
          ·have hG61 := hg61; try simp only [gS] at hG61
           refine o_off hf ?_; clear hf a; intro a hf
           refine o_off hf ?_; clear hf a; intro a hf
           refine o_off hf ?_; clear hf a; intro a hf
           refine o_off hf ?_; clear hf a; intro a hf
           refine o_off hf ?_; clear hf a; intro a hf
           refine o_v hf hh (y_pt rfl rfl) ?_; clear hf a; intro a hf
           refine o_v hf hh (yv_move rfl) ?_; clear hf a; intro a hf
           refine o_off hf ?_; clear hf a; intro a hf
           refine o_off hf ?_; clear hf a; intro a hf
           refine o_off hf ?_; clear hf a; intro a hf
           refine o_off hf ?_; clear hf a; intro a hf
           refine o_off hf ?_; clear hf a; intro a hf
           refine o_v hf hh (y_pt rfl rfl) ?_; clear hf a; intro a hf
           refine o_end ?_
           refine c_t hf ?_
           refine sy_sq ?_
           refine o_v hf hh (yv_assign rfl) ?_; clear hf a; intro a hf
           refine o_end ?_
           refine sy_ret ?_
           refine then_r ?_
           refine blk_r ?_
           refine then_r ?_
           refine then_r ?_
           refine blk_r ?_
           refine then_r ?_
           refine ret_r hf rfl rfl ?_
           first
             | exact ⟨rfl, hh.ext⟩
             | (exfalso
                (repeat (rename Fr _ _ _ _ => z9; clear z9))
                (repeat (rename Hp _ _ _ _ => z9; clear z9))
                (try clear hcn); (try clear hat); (try clear hbe)
                first
                  | (rcases hK with ⟨h1, h2, h3⟩ | ⟨h1, h2, h3⟩ | ⟨h1, h2, h3⟩ <;> first | (omega; done) | (simp_all; done))
                  | (omega; done)
                  | (simp_all; done)
                  | (simp_all <;> omega))
          ·have hG61 := hg61; try simp only [gS] at hG61
           refine o_v hf hh (y_lds Try.ag_28 rfl) ?_; clear hf a; intro a hf
           refine o_v hf hh (yv_fieldAddr Try.fo_46_2 rfl) ?_; clear hf a; intro a hf
           refine o_v hf hh (y_lds Try.ag_28 rfl) ?_; clear hf a; intro a hf
           refine o_call hf Try.en_37 rfl rfl rfl (p37 (betV c false (kf : Nat) (kt : Nat)) (el, eh) _) ?_; clear hf a; intro v a w hR hf
           obtain ⟨rfl, hx⟩ := hR; replace hh := hh.more hx; clear hx
           refine o_v hf hh (yv_not rfl) ?_; clear hf a; intro a hf
           refine o_v hf hh (y_pf rfl rfl) ?_; clear hf a; intro a hf
           refine o_v hf hh (yv_move rfl) ?_; clear hf a; intro a hf
           refine guard_split hf (t := 152) rfl (fun hg63 => ?_) (fun hg63 => ?_)
           ·have hG63 := hg63; try simp only [gS] at hG63
            refine o_off hf ?_; clear hf a; intro a hf
            refine o_off hf ?_; clear hf a; intro a hf
            refine o_off hf ?_; clear hf a; intro a hf
            refine o_off hf ?_; clear hf a; intro a hf
            refine o_off hf ?_; clear hf a; intro a hf
            refine o_v hf hh (y_pt rfl rfl) ?_; clear hf a; intro a hf
            refine o_end ?_
            refine c_t hf ?_
            refine sy_sq ?_
            refine o_v hf hh (yv_assign rfl) ?_; clear hf a; intro a hf
            refine o_end ?_
            refine sy_ret ?_
            refine then_r ?_
            refine blk_r ?_
            refine then_r ?_
            refine then_r ?_
            refine blk_r ?_
            refine then_r ?_
            refine ret_r hf rfl rfl ?_
            first
              | exact ⟨rfl, hh.ext⟩
              | (exfalso
                 (repeat (rename Fr _ _ _ _ => z9; clear z9))
                 (repeat (rename Hp _ _ _ _ => z9; clear z9))
                 (try clear hcn); (try clear hat); (try clear hbe)
                 first
                   | (rcases hK with ⟨h1, h2, h3⟩ | ⟨h1, h2, h3⟩ | ⟨h1, h2, h3⟩ <;> first | (omega; done) | (simp_all; done))
                   | (omega; done)
                   | (simp_all; done)
                   | (simp_all <;> omega))
           ·have hG63 := hg63; try simp only [gS] at hG63
            refine o_v hf hh (y_lds Try.ag_28 rfl) ?_; clear hf a; intro a hf
            refine o_v hf hh (yv_fieldAddr Try.fo_46_3 rfl) ?_; clear hf a; intro a hf
            refine o_v hf hh (y_lds Try.ag_28 rfl) ?_; clear hf a; intro a hf
            refine o_call hf Try.en_37 rfl rfl rfl (p37 (betV c true (kf : Nat) (kt : Nat)) (nl, nh) _) ?_; clear hf a; intro v a w hR hf
            obtain ⟨rfl, hx⟩ := hR; replace hh := hh.more hx; clear hx
            refine o_v hf hh (yv_not rfl) ?_; clear hf a; intro a hf
            refine o_v hf hh (y_pf rfl rfl) ?_; clear hf a; intro a hf
            refine o_end ?_
            refine sy_cond hf rfl (fun hg65 => ?_) (fun hg65 => ?_)
            ·have hG65 := hg65; try simp only [gS] at hG65
             refine sy_sq ?_
             refine o_v hf hh (yv_assign rfl) ?_; clear hf a; intro a hf
             refine o_end ?_
             refine sy_ret ?_
             refine then_r ?_
             refine blk_r ?_
             refine then_r ?_
             refine then_r ?_
             refine blk_r ?_
             refine then_r ?_
             refine ret_r hf rfl rfl ?_
             first
               | exact ⟨rfl, hh.ext⟩
               | (exfalso
                  (repeat (rename Fr _ _ _ _ => z9; clear z9))
                  (repeat (rename Hp _ _ _ _ => z9; clear z9))
                  (try clear hcn); (try clear hat); (try clear hbe)
                  first
                    | (rcases hK with ⟨h1, h2, h3⟩ | ⟨h1, h2, h3⟩ | ⟨h1, h2, h3⟩ <;> first | (omega; done) | (simp_all; done))
                    | (omega; done)
                    | (simp_all; done)
                    | (simp_all <;> omega))
            ·have hG65 := hg65; try simp only [gS] at hG65
             refine sy_skip ?_
             refine then_n ?_
             refine sy_seq ?_
             refine sy_sq ?_
             refine o_v hf hh (yv_move rfl) ?_; clear hf a; intro a hf
             refine o_v hf hh (yv_move rfl) ?_; clear hf a; intro a hf
             refine o_v hf hh (yv_shrN rfl rfl) ?_; clear hf a; intro a hf
             refine o_v hf hh (yv_and1 rfl rfl (by omega)) ?_; clear hf a; intro a hf
             refine o_v hf hh (yv_cast (yv_bin rfl rfl rfl) (show Value.bool (decide (((idlV c >>> i &&& 1 : Nat) : Int) = 1)) = Value.bool (idlB c i) by rw [bit1, ← hbit i (by omega)]; cases (idlV c).testBit i <;> rfl)) ?_; clear hf a; intro a hf
             refine o_end ?_
             refine sy_cond hf rfl (fun hg69 => ?_) (fun hg69 => ?_)
             ·have hG69 := hg69; try simp only [gS] at hG69
              refine sy_seq ?_
              refine sy_seq ?_
              obtain ⟨g1, g2⟩ := i4 (by assumption)
              obtain ⟨g3, g4⟩ := g2 (kf : Nat) (kt : Nat)
              obtain ⟨g5, g6⟩ := g2 (ia : Nat) (ka : Nat)
              have g7 := g4 false; have g8 := g4 true; have g9 := g6 false; have g10 := g6 true
              clear g2 g4 g6
              refine sy_ops ?_
              refine o_v hf hh (yv_move rfl) ?_; clear hf a; intro a hf
              refine o_v hf hh (yv_bin rfl rfl rfl) ?_; clear hf a; intro a hf
              refine o_v hf hh (yv_move rfl) ?_; clear hf a; intro a hf
              refine guard_split hf (t := 166) rfl (fun hg71 => ?_) (fun hg71 => ?_)
              ·have hG71 := hg71; try simp only [gS] at hG71
               refine o_off hf ?_; clear hf a; intro a hf
               refine o_off hf ?_; clear hf a; intro a hf
               refine o_off hf ?_; clear hf a; intro a hf
               refine o_v hf hh (y_pt rfl rfl) ?_; clear hf a; intro a hf
               refine o_v hf hh (yv_move rfl) ?_; clear hf a; intro a hf
               refine o_off hf ?_; clear hf a; intro a hf
               refine o_off hf ?_; clear hf a; intro a hf
               refine o_off hf ?_; clear hf a; intro a hf
               refine o_v hf hh (y_pt rfl rfl) ?_; clear hf a; intro a hf
               refine o_v hf hh (yv_move rfl) ?_; clear hf a; intro a hf
               refine o_off hf ?_; clear hf a; intro a hf
               refine o_off hf ?_; clear hf a; intro a hf
               refine o_off hf ?_; clear hf a; intro a hf
               refine o_v hf hh (y_pt rfl rfl) ?_; clear hf a; intro a hf
               refine o_v hf hh (yv_move rfl) ?_; clear hf a; intro a hf
               refine o_off hf ?_; clear hf a; intro a hf
               refine o_off hf ?_; clear hf a; intro a hf
               refine o_off hf ?_; clear hf a; intro a hf
               refine o_v hf hh (y_pt rfl rfl) ?_; clear hf a; intro a hf
               refine o_v hf hh (yv_move rfl) ?_; clear hf a; intro a hf
               refine o_off hf ?_; clear hf a; intro a hf
               refine o_off hf ?_; clear hf a; intro a hf
               refine o_off hf ?_; clear hf a; intro a hf
               refine o_v hf hh (y_pt rfl rfl) ?_; clear hf a; intro a hf
               refine o_end ?_
               refine c_t hf ?_
               refine sy_sq ?_
               refine o_v hf hh (yv_assign rfl) ?_; clear hf a; intro a hf
               refine o_end ?_
               refine sy_ret ?_
               refine then_r ?_
               refine then_r ?_
               refine blk_r ?_
               refine then_r ?_
               refine then_r ?_
               refine blk_r ?_
               refine then_r ?_
               refine ret_r hf rfl rfl ?_
               first
                 | exact ⟨rfl, hh.ext⟩
                 | (exfalso
                    (repeat (rename Fr _ _ _ _ => z9; clear z9))
                    (repeat (rename Hp _ _ _ _ => z9; clear z9))
                    (try clear hcn); (try clear hat); (try clear hbe)
                    first
                      | (rcases hK with ⟨h1, h2, h3⟩ | ⟨h1, h2, h3⟩ | ⟨h1, h2, h3⟩ <;> first | (omega; done) | (simp_all; done))
                      | (omega; done)
                      | (simp_all; done)
                      | (simp_all <;> omega))
              ·have hG71 := hg71; try simp only [gS] at hG71
               refine o_v hf hh (y_lds Try.ag_28 rfl) ?_; clear hf a; intro a hf
               refine o_v hf hh (y_lds Try.ag_28 rfl) ?_; clear hf a; intro a hf
               refine o_v hf hh (yv_cast (yv_neF [(betV (lessC c i) false (kf : Nat) (kt : Nat)).1, (betV (lessC c i) false (kf : Nat) (kt : Nat)).2] [(betV c false (kf : Nat) (kt : Nat)).1, (betV c false (kf : Nat) (kt : Nat)).2] fl28 rfl rfl) (congrArg (fun b => Value.bool (!b)) (pair_dec (betV (lessC c i) false (kf : Nat) (kt : Nat)) (betV c false (kf : Nat) (kt : Nat))))) ?_; clear hf a; intro a hf
               refine o_v hf hh (y_pf rfl rfl) ?_; clear hf a; intro a hf
               refine o_v hf hh (yv_move rfl) ?_; clear hf a; intro a hf
               refine guard_split hf (t := 171) rfl (fun hg73 => ?_) (fun hg73 => ?_)
               ·have hG73 := hg73; try simp only [gS] at hG73
                refine o_off hf ?_; clear hf a; intro a hf
                refine o_off hf ?_; clear hf a; intro a hf
                refine o_off hf ?_; clear hf a; intro a hf
                refine o_v hf hh (y_pt rfl rfl) ?_; clear hf a; intro a hf
                refine o_v hf hh (yv_move rfl) ?_; clear hf a; intro a hf
                refine o_off hf ?_; clear hf a; intro a hf
                refine o_off hf ?_; clear hf a; intro a hf
                refine o_off hf ?_; clear hf a; intro a hf
                refine o_v hf hh (y_pt rfl rfl) ?_; clear hf a; intro a hf
                refine o_v hf hh (yv_move rfl) ?_; clear hf a; intro a hf
                refine o_off hf ?_; clear hf a; intro a hf
                refine o_off hf ?_; clear hf a; intro a hf
                refine o_off hf ?_; clear hf a; intro a hf
                refine o_v hf hh (y_pt rfl rfl) ?_; clear hf a; intro a hf
                refine o_v hf hh (yv_move rfl) ?_; clear hf a; intro a hf
                refine o_off hf ?_; clear hf a; intro a hf
                refine o_off hf ?_; clear hf a; intro a hf
                refine o_off hf ?_; clear hf a; intro a hf
                refine o_v hf hh (y_pt rfl rfl) ?_; clear hf a; intro a hf
                refine o_end ?_
                refine c_t hf ?_
                refine sy_sq ?_
                refine o_v hf hh (yv_assign rfl) ?_; clear hf a; intro a hf
                refine o_end ?_
                refine sy_ret ?_
                refine then_r ?_
                refine then_r ?_
                refine blk_r ?_
                refine then_r ?_
                refine then_r ?_
                refine blk_r ?_
                refine then_r ?_
                refine ret_r hf rfl rfl ?_
                first
                  | exact ⟨rfl, hh.ext⟩
                  | (exfalso
                     (repeat (rename Fr _ _ _ _ => z9; clear z9))
                     (repeat (rename Hp _ _ _ _ => z9; clear z9))
                     (try clear hcn); (try clear hat); (try clear hbe)
                     first
                       | (rcases hK with ⟨h1, h2, h3⟩ | ⟨h1, h2, h3⟩ | ⟨h1, h2, h3⟩ <;> first | (omega; done) | (simp_all; done))
                       | (omega; done)
                       | (simp_all; done)
                       | (simp_all <;> omega))
               ·have hG73 := hg73; try simp only [gS] at hG73
                refine o_v hf hh (y_lds Try.ag_28 rfl) ?_; clear hf a; intro a hf
                refine o_v hf hh (y_lds Try.ag_28 rfl) ?_; clear hf a; intro a hf
                refine o_v hf hh (yv_cast (yv_neF [(betV (lessC c i) true (kf : Nat) (kt : Nat)).1, (betV (lessC c i) true (kf : Nat) (kt : Nat)).2] [(betV c true (kf : Nat) (kt : Nat)).1, (betV c true (kf : Nat) (kt : Nat)).2] fl28 rfl rfl) (congrArg (fun b => Value.bool (!b)) (pair_dec (betV (lessC c i) true (kf : Nat) (kt : Nat)) (betV c true (kf : Nat) (kt : Nat))))) ?_; clear hf a; intro a hf
                refine o_v hf hh (y_pf rfl rfl) ?_; clear hf a; intro a hf
                refine o_v hf hh (yv_move rfl) ?_; clear hf a; intro a hf
                refine guard_split hf (t := 176) rfl (fun hg75 => ?_) (fun hg75 => ?_)
                ·have hG75 := hg75; try simp only [gS] at hG75
                 refine o_off hf ?_; clear hf a; intro a hf
                 refine o_off hf ?_; clear hf a; intro a hf
                 refine o_off hf ?_; clear hf a; intro a hf
                 refine o_v hf hh (y_pt rfl rfl) ?_; clear hf a; intro a hf
                 refine o_v hf hh (yv_move rfl) ?_; clear hf a; intro a hf
                 refine o_off hf ?_; clear hf a; intro a hf
                 refine o_off hf ?_; clear hf a; intro a hf
                 refine o_off hf ?_; clear hf a; intro a hf
                 refine o_v hf hh (y_pt rfl rfl) ?_; clear hf a; intro a hf
                 refine o_v hf hh (yv_move rfl) ?_; clear hf a; intro a hf
                 refine o_off hf ?_; clear hf a; intro a hf
                 refine o_off hf ?_; clear hf a; intro a hf
                 refine o_off hf ?_; clear hf a; intro a hf
                 refine o_v hf hh (y_pt rfl rfl) ?_; clear hf a; intro a hf
                 refine o_end ?_
                 refine c_t hf ?_
                 refine sy_sq ?_
                 refine o_v hf hh (yv_assign rfl) ?_; clear hf a; intro a hf
                 refine o_end ?_
                 refine sy_ret ?_
                 refine then_r ?_
                 refine then_r ?_
                 refine blk_r ?_
                 refine then_r ?_
                 refine then_r ?_
                 refine blk_r ?_
                 refine then_r ?_
                 refine ret_r hf rfl rfl ?_
                 first
                   | exact ⟨rfl, hh.ext⟩
                   | (exfalso
                      (repeat (rename Fr _ _ _ _ => z9; clear z9))
                      (repeat (rename Hp _ _ _ _ => z9; clear z9))
                      (try clear hcn); (try clear hat); (try clear hbe)
                      first
                        | (rcases hK with ⟨h1, h2, h3⟩ | ⟨h1, h2, h3⟩ | ⟨h1, h2, h3⟩ <;> first | (omega; done) | (simp_all; done))
                        | (omega; done)
                        | (simp_all; done)
                        | (simp_all <;> omega))
                ·have hG75 := hg75; try simp only [gS] at hG75
                 refine o_v hf hh (y_lds Try.ag_28 rfl) ?_; clear hf a; intro a hf
                 refine o_v hf hh (y_lds Try.ag_28 rfl) ?_; clear hf a; intro a hf
                 refine o_v hf hh (yv_cast (yv_neF [(betV (lessC c i) false (ia : Nat) (ka : Nat)).1, (betV (lessC c i) false (ia : Nat) (ka : Nat)).2] [(betV c false (ia : Nat) (ka : Nat)).1, (betV c false (ia : Nat) (ka : Nat)).2] fl28 rfl rfl) (congrArg (fun b => Value.bool (!b)) (pair_dec (betV (lessC c i) false (ia : Nat) (ka : Nat)) (betV c false (ia : Nat) (ka : Nat))))) ?_; clear hf a; intro a hf
                 refine o_v hf hh (y_pf rfl rfl) ?_; clear hf a; intro a hf
                 refine o_v hf hh (yv_move rfl) ?_; clear hf a; intro a hf
                 refine guard_split hf (t := 181) rfl (fun hg77 => ?_) (fun hg77 => ?_)
                 ·have hG77 := hg77; try simp only [gS] at hG77
                  refine o_off hf ?_; clear hf a; intro a hf
                  refine o_off hf ?_; clear hf a; intro a hf
                  refine o_off hf ?_; clear hf a; intro a hf
                  refine o_v hf hh (y_pt rfl rfl) ?_; clear hf a; intro a hf
                  refine o_v hf hh (yv_move rfl) ?_; clear hf a; intro a hf
                  refine o_off hf ?_; clear hf a; intro a hf
                  refine o_off hf ?_; clear hf a; intro a hf
                  refine o_off hf ?_; clear hf a; intro a hf
                  refine o_v hf hh (y_pt rfl rfl) ?_; clear hf a; intro a hf
                  refine o_end ?_
                  refine c_t hf ?_
                  refine sy_sq ?_
                  refine o_v hf hh (yv_assign rfl) ?_; clear hf a; intro a hf
                  refine o_end ?_
                  refine sy_ret ?_
                  refine then_r ?_
                  refine then_r ?_
                  refine blk_r ?_
                  refine then_r ?_
                  refine then_r ?_
                  refine blk_r ?_
                  refine then_r ?_
                  refine ret_r hf rfl rfl ?_
                  first
                    | exact ⟨rfl, hh.ext⟩
                    | (exfalso
                       (repeat (rename Fr _ _ _ _ => z9; clear z9))
                       (repeat (rename Hp _ _ _ _ => z9; clear z9))
                       (try clear hcn); (try clear hat); (try clear hbe)
                       first
                         | (rcases hK with ⟨h1, h2, h3⟩ | ⟨h1, h2, h3⟩ | ⟨h1, h2, h3⟩ <;> first | (omega; done) | (simp_all; done))
                         | (omega; done)
                         | (simp_all; done)
                         | (simp_all <;> omega))
                 ·have hG77 := hg77; try simp only [gS] at hG77
                  refine o_v hf hh (y_lds Try.ag_28 rfl) ?_; clear hf a; intro a hf
                  refine o_v hf hh (y_lds Try.ag_28 rfl) ?_; clear hf a; intro a hf
                  refine o_v hf hh (yv_cast (yv_neF [(betV (lessC c i) true (ia : Nat) (ka : Nat)).1, (betV (lessC c i) true (ia : Nat) (ka : Nat)).2] [(betV c true (ia : Nat) (ka : Nat)).1, (betV c true (ia : Nat) (ka : Nat)).2] fl28 rfl rfl) (congrArg (fun b => Value.bool (!b)) (pair_dec (betV (lessC c i) true (ia : Nat) (ka : Nat)) (betV c true (ia : Nat) (ka : Nat))))) ?_; clear hf a; intro a hf
                  refine o_v hf hh (y_pf rfl rfl) ?_; clear hf a; intro a hf
                  refine o_v hf hh (yv_move rfl) ?_; clear hf a; intro a hf
                  refine guard_split hf (t := 186) rfl (fun hg79 => ?_) (fun hg79 => ?_)
                  ·have hG79 := hg79; try simp only [gS] at hG79
                   refine o_off hf ?_; clear hf a; intro a hf
                   refine o_off hf ?_; clear hf a; intro a hf
                   refine o_off hf ?_; clear hf a; intro a hf
                   refine o_v hf hh (y_pt rfl rfl) ?_; clear hf a; intro a hf
                   refine o_end ?_
                   refine c_t hf ?_
                   refine sy_sq ?_
                   refine o_v hf hh (yv_assign rfl) ?_; clear hf a; intro a hf
                   refine o_end ?_
                   refine sy_ret ?_
                   refine then_r ?_
                   refine then_r ?_
                   refine blk_r ?_
                   refine then_r ?_
                   refine then_r ?_
                   refine blk_r ?_
                   refine then_r ?_
                   refine ret_r hf rfl rfl ?_
                   first
                     | exact ⟨rfl, hh.ext⟩
                     | (exfalso
                        (repeat (rename Fr _ _ _ _ => z9; clear z9))
                        (repeat (rename Hp _ _ _ _ => z9; clear z9))
                        (try clear hcn); (try clear hat); (try clear hbe)
                        first
                          | (rcases hK with ⟨h1, h2, h3⟩ | ⟨h1, h2, h3⟩ | ⟨h1, h2, h3⟩ <;> first | (omega; done) | (simp_all; done))
                          | (omega; done)
                          | (simp_all; done)
                          | (simp_all <;> omega))
                  ·have hG79 := hg79; try simp only [gS] at hG79
                   refine o_v hf hh (yv_move rfl) ?_; clear hf a; intro a hf
                   refine o_v hf hh (yv_move rfl) ?_; clear hf a; intro a hf
                   refine o_v hf hh (yv_bin rfl rfl rfl) ?_; clear hf a; intro a hf
                   refine o_v hf hh (y_pf rfl rfl) ?_; clear hf a; intro a hf
                   refine o_end ?_
                   refine sy_cond hf rfl (fun hg81 => ?_) (fun hg81 => ?_)
                   ·have hG81 := hg81; try simp only [gS] at hG81
                    refine sy_sq ?_
                    refine o_v hf hh (yv_assign rfl) ?_; clear hf a; intro a hf
                    refine o_end ?_
                    refine sy_ret ?_
                    refine then_r ?_
                    refine then_r ?_
                    refine blk_r ?_
                    refine then_r ?_
                    refine then_r ?_
                    refine blk_r ?_
                    refine then_r ?_
                    refine ret_r hf rfl rfl ?_
                    first
                      | exact ⟨rfl, hh.ext⟩
                      | (exfalso
                         (repeat (rename Fr _ _ _ _ => z9; clear z9))
                         (repeat (rename Hp _ _ _ _ => z9; clear z9))
                         (try clear hcn); (try clear hat); (try clear hbe)
                         first
                           | (rcases hK with ⟨h1, h2, h3⟩ | ⟨h1, h2, h3⟩ | ⟨h1, h2, h3⟩ <;> first | (omega; done) | (simp_all; done))
                           | (omega; done)
                           | (simp_all; done)
                           | (simp_all <;> omega))
                   ·have hG81 := hg81; try simp only [gS] at hG81
                    refine sy_skip ?_
                    refine then_n ?_
                    refine sy_exit ?_
                    refine then_e ?_
                    refine blk_e ?_
                    refine then_n ?_
                    refine sy_ops ?_
                    refine o_v hf hh (y_add rfl rfl) ?_; clear hf a; intro a hf
                    refine o_v hf hh (yv_move rfl) ?_; clear hf a; intro a hf
                    refine ops_end ?_
                    refine then_n ?_
                    replace hh : Hp u [] [(B15, .cells (spV (betV c true (ia : Nat) (ka : Nat))).cells 28), (B14, .cells (spV (betV c false (ia : Nat) (ka : Nat))).cells 28), (B3, .cells (chC c sa cp) 24)] w := hh.pick [8, 9, 10]
                    exact ⟨i + 1, ⟨⟨by omega, hh⟩, (hf.head (by repeat' (first | exact True.intro | refine And.intro rfl ?_)) (Keep.cons rfl (Keep.cons rfl (Keep.cons rfl (Keep.cons rfl (Keep.cons rfl (Keep.cons rfl (Keep.cons rfl (Keep.cons rfl (Keep.cons rfl (Keep.cons rfl (Keep.cons rfl (Keep.cons rfl (Keep.cons rfl (Keep.cons rfl (Keep.cons rfl (Keep.cons rfl (Keep.cons rfl (Keep.cons rfl (Keep.cons rfl (Keep.cons rfl (Keep.cons rfl (Keep.cons rfl (Keep.cons rfl (Keep.cons rfl (Keep.cons rfl (Keep.cons rfl (Keep.cons rfl (Keep.cons rfl (Keep.cons rfl (Keep.cons rfl (Keep.cons rfl (Keep.cons rfl (Keep.cons rfl (Keep.cons rfl (Keep.cons rfl (Keep.cons rfl (Keep.cons rfl (Keep.cons rfl (Keep.cons rfl (Keep.cons rfl (Keep.cons rfl (Keep.cons rfl (Keep.cons rfl (Keep.cons rfl (Keep.cons rfl (Keep.cons rfl (Keep.cons rfl (Keep.cons rfl (Keep.cons rfl (Keep.cons rfl (Keep.cons rfl (Keep.cons rfl (Keep.cons rfl (Keep.cons rfl (Keep.cons rfl (Keep.cons rfl (Keep.cons rfl (Keep.cons rfl (Keep.cons rfl (Keep.cons rfl (Keep.cons rfl (Keep.cons rfl (Keep.cons rfl (Keep.cons rfl (Keep.cons rfl (Keep.cons rfl (Keep.cons rfl (Keep.cons rfl (Keep.cons rfl (Keep.cons rfl (Keep.cons rfl (Keep.cons rfl (Keep.cons rfl (Keep.cons rfl (Keep.cons rfl (Keep.cons rfl (Keep.cons rfl (Keep.cons rfl (Keep.cons rfl (Keep.cons rfl (Keep.cons rfl (Keep.cons rfl (Keep.cons rfl (Keep.cons rfl (Keep.cons rfl (Keep.cons rfl (Keep.cons rfl (Keep.cons rfl (Keep.cons rfl (Keep.cons rfl (Keep.cons rfl (Keep.cons rfl (Keep.cons rfl (Keep.cons rfl (Keep.cons rfl (Keep.cons rfl (Keep.cons rfl (Keep.cons rfl (Keep.cons rfl (Keep.cons rfl (Keep.app rfl (Keep.rm rfl Keep.base)))))))))))))))))))))))))))))))))))))))))))))))))))))))))))))))))))))))))))))))))))))))))))))))))))))))⟩, by omega⟩
             ·have hG69 := hg69; try simp only [gS] at hG69
              refine sy_skip ?_
              refine then_n ?_
              refine sy_seq ?_
              have g11 := i5 (by assumption)
              refine sy_ops ?_
              refine o_v hf hh (yv_move rfl) ?_; clear hf a; intro a hf
              refine o_v hf hh (yv_bin rfl rfl rfl) ?_; clear hf a; intro a hf
              refine o_v hf hh (yv_move rfl) ?_; clear hf a; intro a hf
              refine guard_split hf (t := 193) rfl (fun hg83 => ?_) (fun hg83 => ?_)
              ·have hG83 := hg83; try simp only [gS] at hG83
               refine o_v hf hh (y_lds Try.ag_28 rfl) ?_; clear hf a; intro a hf
               refine o_v hf hh (y_lds Try.ag_28 rfl) ?_; clear hf a; intro a hf
               refine o_v hf hh (yv_cast (yv_eqF [(betV (lessC c i) false (kf : Nat) (kt : Nat)).1, (betV (lessC c i) false (kf : Nat) (kt : Nat)).2] [(betV c false (kf : Nat) (kt : Nat)).1, (betV c false (kf : Nat) (kt : Nat)).2] fl28 rfl rfl) (congrArg Value.bool (pair_dec (betV (lessC c i) false (kf : Nat) (kt : Nat)) (betV c false (kf : Nat) (kt : Nat))))) ?_; clear hf a; intro a hf
               refine o_v hf hh (y_pt rfl rfl) ?_; clear hf a; intro a hf
               refine o_v hf hh (yv_move rfl) ?_; clear hf a; intro a hf
               refine guard_split hf (t := 198) rfl (fun hg85 => ?_) (fun hg85 => ?_)
               ·have hG85 := hg85; try simp only [gS] at hG85
                refine o_v hf hh (y_lds Try.ag_28 rfl) ?_; clear hf a; intro a hf
                refine o_v hf hh (y_lds Try.ag_28 rfl) ?_; clear hf a; intro a hf
                refine o_v hf hh (yv_cast (yv_eqF [(betV (lessC c i) true (kf : Nat) (kt : Nat)).1, (betV (lessC c i) true (kf : Nat) (kt : Nat)).2] [(betV c true (kf : Nat) (kt : Nat)).1, (betV c true (kf : Nat) (kt : Nat)).2] fl28 rfl rfl) (congrArg Value.bool (pair_dec (betV (lessC c i) true (kf : Nat) (kt : Nat)) (betV c true (kf : Nat) (kt : Nat))))) ?_; clear hf a; intro a hf
                refine o_v hf hh (y_pt rfl rfl) ?_; clear hf a; intro a hf
                refine o_v hf hh (yv_move rfl) ?_; clear hf a; intro a hf
                refine guard_split hf (t := 203) rfl (fun hg87 => ?_) (fun hg87 => ?_)
                ·have hG87 := hg87; try simp only [gS] at hG87
                 refine o_off hf ?_; clear hf a; intro a hf
                 refine o_off hf ?_; clear hf a; intro a hf
                 refine o_off hf ?_; clear hf a; intro a hf
                 refine o_off hf ?_; clear hf a; intro a hf
                 refine o_off hf ?_; clear hf a; intro a hf
                 refine o_off hf ?_; clear hf a; intro a hf
                 refine o_v hf hh (y_pt rfl rfl) ?_; clear hf a; intro a hf
                 refine o_end ?_
                 refine c_t hf ?_
                 refine sy_sq ?_
                 refine o_v hf hh (yv_assign rfl) ?_; clear hf a; intro a hf
                 refine o_end ?_
                 refine sy_ret ?_
                 refine blk_r ?_
                 refine then_r ?_
                 refine then_r ?_
                 refine blk_r ?_
                 refine then_r ?_
                 refine ret_r hf rfl rfl ?_
                 first
                   | exact ⟨rfl, hh.ext⟩
                   | (exfalso
                      (repeat (rename Fr _ _ _ _ => z9; clear z9))
                      (repeat (rename Hp _ _ _ _ => z9; clear z9))
                      (try clear hcn); (try clear hat); (try clear hbe)
                      first
                        | (rcases hK with ⟨h1, h2, h3⟩ | ⟨h1, h2, h3⟩ | ⟨h1, h2, h3⟩ <;> first | (omega; done) | (simp_all; done))
                        | (omega; done)
                        | (simp_all; done)
                        | (simp_all <;> omega))
                ·have hG87 := hg87; try simp only [gS] at hG87
                 refine o_v hf hh (yv_move rfl) ?_; clear hf a; intro a hf
                 refine o_v hf hh (yv_bin rfl rfl rfl) ?_; clear hf a; intro a hf
                 refine o_v hf hh (yv_move rfl) ?_; clear hf a; intro a hf
                 refine guard_split hf (t := 206) rfl (fun hg89 => ?_) (fun hg89 => ?_)
                 ·have hG89 := hg89; try simp only [gS] at hG89
                  refine o_v hf hh (yv_move rfl) ?_; clear hf a; intro a hf
                  refine o_v hf hh (yv_bin rfl rfl rfl) ?_; clear hf a; intro a hf
                  refine o_v hf hh (y_pt rfl rfl) ?_; clear hf a; intro a hf
                  refine o_v hf hh (y_pf rfl rfl) ?_; clear hf a; intro a hf
                  refine o_end ?_
                  refine sy_cond hf rfl (fun hg91 => ?_) (fun hg91 => ?_)
                  ·have hG91 := hg91; try simp only [gS] at hG91
                   refine sy_sq ?_
                   refine o_v hf hh (yv_assign rfl) ?_; clear hf a; intro a hf
                   refine o_end ?_
                   refine sy_ret ?_
                   refine blk_r ?_
                   refine then_r ?_
                   refine then_r ?_
                   refine blk_r ?_
                   refine then_r ?_
                   refine ret_r hf rfl rfl ?_
                   first
                     | exact ⟨rfl, hh.ext⟩
                     | (exfalso
                        (repeat (rename Fr _ _ _ _ => z9; clear z9))
                        (repeat (rename Hp _ _ _ _ => z9; clear z9))
                        (try clear hcn); (try clear hat); (try clear hbe)
                        first
                          | (rcases hK with ⟨h1, h2, h3⟩ | ⟨h1, h2, h3⟩ | ⟨h1, h2, h3⟩ <;> first | (omega; done) | (simp_all; done))
                          | (omega; done)
                          | (simp_all; done)
                          | (simp_all <;> omega))
                  ·have hG91 := hg91; try simp only [gS] at hG91
                   refine sy_skip ?_
                   refine blk_n ?_
                   refine then_n ?_
                   refine sy_ops ?_
                   refine o_v hf hh (y_add rfl rfl) ?_; clear hf a; intro a hf
                   refine o_v hf hh (yv_move rfl) ?_; clear hf a; intro a hf
                   refine ops_end ?_
                   refine then_n ?_
                   replace hh : Hp u [] [(B15, .cells (spV (betV c true (ia : Nat) (ka : Nat))).cells 28), (B14, .cells (spV (betV c false (ia : Nat) (ka : Nat))).cells 28), (B3, .cells (chC c sa cp) 24)] w := hh.pick [8, 9, 10]
                   exact ⟨i + 1, ⟨⟨by omega, hh⟩, (hf.head (by repeat' (first | exact True.intro | refine And.intro rfl ?_)) (Keep.cons rfl (Keep.cons rfl (Keep.cons rfl (Keep.cons rfl (Keep.cons rfl (Keep.cons rfl (Keep.cons rfl (Keep.cons rfl (Keep.cons rfl (Keep.cons rfl (Keep.cons rfl (Keep.cons rfl (Keep.cons rfl (Keep.cons rfl (Keep.cons rfl (Keep.cons rfl (Keep.cons rfl (Keep.cons rfl (Keep.cons rfl (Keep.cons rfl (Keep.cons rfl (Keep.cons rfl (Keep.cons rfl (Keep.cons rfl (Keep.cons rfl (Keep.cons rfl (Keep.cons rfl (Keep.cons rfl (Keep.cons rfl (Keep.cons rfl (Keep.cons rfl (Keep.cons rfl (Keep.cons rfl (Keep.cons rfl (Keep.cons rfl (Keep.cons rfl (Keep.cons rfl (Keep.cons rfl (Keep.cons rfl (Keep.cons rfl (Keep.cons rfl (Keep.cons rfl (Keep.cons rfl (Keep.cons rfl (Keep.cons rfl (Keep.cons rfl (Keep.cons rfl (Keep.cons rfl (Keep.cons rfl (Keep.cons rfl (Keep.cons rfl (Keep.cons rfl (Keep.cons rfl (Keep.cons rfl (Keep.cons rfl (Keep.cons rfl (Keep.cons rfl (Keep.cons rfl (Keep.cons rfl (Keep.cons rfl (Keep.cons rfl (Keep.cons rfl (Keep.cons rfl (Keep.cons rfl (Keep.cons rfl (Keep.cons rfl (Keep.cons rfl (Keep.cons rfl (Keep.cons rfl (Keep.cons rfl (Keep.cons rfl (Keep.cons rfl (Keep.cons rfl (Keep.cons rfl (Keep.cons rfl (Keep.cons rfl (Keep.cons rfl (Keep.cons rfl (Keep.cons rfl (Keep.cons rfl (Keep.cons rfl (Keep.cons rfl (Keep.cons rfl (Keep.cons rfl (Keep.cons rfl (Keep.cons rfl (Keep.cons rfl (Keep.cons rfl (Keep.cons rfl (Keep.cons rfl (Keep.cons rfl (Keep.cons rfl (Keep.cons rfl (Keep.app rfl (Keep.rm rfl Keep.base))))))))))))))))))))))))))))))))))))))))))))))))))))))))))))))))))))))))))))))))))))))))))))))))⟩, by omega⟩
                 ·have hG89 := hg89; try simp only [gS] at hG89
                  refine o_off hf ?_; clear hf a; intro a hf
                  refine o_off hf ?_; clear hf a; intro a hf
                  refine o_v hf hh (y_pf rfl rfl) ?_; clear hf a; intro a hf
                  refine o_v hf hh (y_pf rfl rfl) ?_; clear hf a; intro a hf
                  refine o_end ?_
                  refine c_f hf ?_
                  refine sy_skip ?_
                  refine blk_n ?_
                  refine then_n ?_
                  refine sy_ops ?_
                  refine o_v hf hh (y_add rfl rfl) ?_; clear hf a; intro a hf
                  refine o_v hf hh (yv_move rfl) ?_; clear hf a; intro a hf
                  refine ops_end ?_
                  refine then_n ?_
                  replace hh : Hp u [] [(B15, .cells (spV (betV c true (ia : Nat) (ka : Nat))).cells 28), (B14, .cells (spV (betV c false (ia : Nat) (ka : Nat))).cells 28), (B3, .cells (chC c sa cp) 24)] w := hh.pick [8, 9, 10]
                  exact ⟨i + 1, ⟨⟨by omega, hh⟩, (hf.head (by repeat' (first | exact True.intro | refine And.intro rfl ?_)) (Keep.cons rfl (Keep.cons rfl (Keep.cons rfl (Keep.cons rfl (Keep.cons rfl (Keep.cons rfl (Keep.cons rfl (Keep.cons rfl (Keep.cons rfl (Keep.cons rfl (Keep.cons rfl (Keep.cons rfl (Keep.cons rfl (Keep.cons rfl (Keep.cons rfl (Keep.cons rfl (Keep.cons rfl (Keep.cons rfl (Keep.cons rfl (Keep.cons rfl (Keep.cons rfl (Keep.cons rfl (Keep.cons rfl (Keep.cons rfl (Keep.cons rfl (Keep.cons rfl (Keep.cons rfl (Keep.cons rfl (Keep.cons rfl (Keep.cons rfl (Keep.cons rfl (Keep.cons rfl (Keep.cons rfl (Keep.cons rfl (Keep.cons rfl (Keep.cons rfl (Keep.cons rfl (Keep.cons rfl (Keep.cons rfl (Keep.cons rfl (Keep.cons rfl (Keep.cons rfl (Keep.cons rfl (Keep.cons rfl (Keep.cons rfl (Keep.cons rfl (Keep.cons rfl (Keep.cons rfl (Keep.cons rfl (Keep.cons rfl (Keep.cons rfl (Keep.cons rfl (Keep.cons rfl (Keep.cons rfl (Keep.cons rfl (Keep.cons rfl (Keep.cons rfl (Keep.cons rfl (Keep.cons rfl (Keep.cons rfl (Keep.cons rfl (Keep.cons rfl (Keep.cons rfl (Keep.cons rfl (Keep.cons rfl (Keep.cons rfl (Keep.cons rfl (Keep.cons rfl (Keep.cons rfl (Keep.cons rfl (Keep.cons rfl (Keep.cons rfl (Keep.cons rfl (Keep.cons rfl (Keep.cons rfl (Keep.cons rfl (Keep.cons rfl (Keep.cons rfl (Keep.cons rfl (Keep.cons rfl (Keep.cons rfl (Keep.cons rfl (Keep.cons rfl (Keep.cons rfl (Keep.cons rfl (Keep.cons rfl (Keep.cons rfl (Keep.cons rfl (Keep.cons rfl (Keep.cons rfl (Keep.cons rfl (Keep.cons rfl (Keep.cons rfl (Keep.app rfl (Keep.rm rfl Keep.base))))))))))))))))))))))))))))))))))))))))))))))))))))))))))))))))))))))))))))))))))))))))))))))))⟩, by omega⟩
               ·have hG85 := hg85; try simp only [gS] at hG85
                refine o_off hf ?_; clear hf a; intro a hf
                refine o_off hf ?_; clear hf a; intro a hf
                refine o_off hf ?_; clear hf a; intro a hf
                refine o_v hf hh (y_pf rfl rfl) ?_; clear hf a; intro a hf
                refine o_v hf hh (yv_move rfl) ?_; clear hf a; intro a hf
                refine o_v hf hh (yv_move rfl) ?_; clear hf a; intro a hf
                refine o_v hf hh (yv_bin rfl rfl rfl) ?_; clear hf a; intro a hf
                refine o_v hf hh (yv_move rfl) ?_; clear hf a; intro a hf
                refine guard_split hf (t := 206) rfl (fun hg93 => ?_) (fun hg93 => ?_)
                ·have hG93 := hg93; try simp only [gS] at hG93
                 refine o_v hf hh (yv_move rfl) ?_; clear hf a; intro a hf
                 refine o_v hf hh (yv_bin rfl rfl rfl) ?_; clear hf a; intro a hf
                 refine o_v hf hh (y_pt rfl rfl) ?_; clear hf a; intro a hf
                 refine o_v hf hh (y_pf rfl rfl) ?_; clear hf a; intro a hf
                 refine o_end ?_
                 refine sy_cond hf rfl (fun hg95 => ?_) (fun hg95 => ?_)
                 ·have hG95 := hg95; try simp only [gS] at hG95
                  refine sy_sq ?_
                  refine o_v hf hh (yv_assign rfl) ?_; clear hf a; intro a hf
                  refine o_end ?_
                  refine sy_ret ?_
                  refine blk_r ?_
                  refine then_r ?_
                  refine then_r ?_
                  refine blk_r ?_
                  refine then_r ?_
                  refine ret_r hf rfl rfl ?_
                  first
                    | exact ⟨rfl, hh.ext⟩
                    | (exfalso
                       (repeat (rename Fr _ _ _ _ => z9; clear z9))
                       (repeat (rename Hp _ _ _ _ => z9; clear z9))
                       (try clear hcn); (try clear hat); (try clear hbe)
                       first
                         | (rcases hK with ⟨h1, h2, h3⟩ | ⟨h1, h2, h3⟩ | ⟨h1, h2, h3⟩ <;> first | (omega; done) | (simp_all; done))
                         | (omega; done)
                         | (simp_all; done)
                         | (simp_all <;> omega))
                 ·have hG95 := hg95; try simp only [gS] at hG95
                  refine sy_skip ?_
                  refine blk_n ?_
                  refine then_n ?_
                  refine sy_ops ?_
                  refine o_v hf hh (y_add rfl rfl) ?_; clear hf a; intro a hf
                  refine o_v hf hh (yv_move rfl) ?_; clear hf a; intro a hf
                  refine ops_end ?_
                  refine then_n ?_
                  replace hh : Hp u [] [(B15, .cells (spV (betV c true (ia : Nat) (ka : Nat))).cells 28), (B14, .cells (spV (betV c false (ia : Nat) (ka : Nat))).cells 28), (B3, .cells (chC c sa cp) 24)] w := hh.pick [8, 9, 10]
                  exact ⟨i + 1, ⟨⟨by omega, hh⟩, (hf.head (by repeat' (first | exact True.intro | refine And.intro rfl ?_)) (Keep.cons rfl (Keep.cons rfl (Keep.cons rfl (Keep.cons rfl (Keep.cons rfl (Keep.cons rfl (Keep.cons rfl (Keep.cons rfl (Keep.cons rfl (Keep.cons rfl (Keep.cons rfl (Keep.cons rfl (Keep.cons rfl (Keep.cons rfl (Keep.cons rfl (Keep.cons rfl (Keep.cons rfl (Keep.cons rfl (Keep.cons rfl (Keep.cons rfl (Keep.cons rfl (Keep.cons rfl (Keep.cons rfl (Keep.cons rfl (Keep.cons rfl (Keep.cons rfl (Keep.cons rfl (Keep.cons rfl (Keep.cons rfl (Keep.cons rfl (Keep.cons rfl (Keep.cons rfl (Keep.cons rfl (Keep.cons rfl (Keep.cons rfl (Keep.cons rfl (Keep.cons rfl (Keep.cons rfl (Keep.cons rfl (Keep.cons rfl (Keep.cons rfl (Keep.cons rfl (Keep.cons rfl (Keep.cons rfl (Keep.cons rfl (Keep.cons rfl (Keep.cons rfl (Keep.cons rfl (Keep.cons rfl (Keep.cons rfl (Keep.cons rfl (Keep.cons rfl (Keep.cons rfl (Keep.cons rfl (Keep.cons rfl (Keep.cons rfl (Keep.cons rfl (Keep.cons rfl (Keep.cons rfl (Keep.cons rfl (Keep.cons rfl (Keep.cons rfl (Keep.cons rfl (Keep.cons rfl (Keep.cons rfl (Keep.cons rfl (Keep.cons rfl (Keep.cons rfl (Keep.cons rfl (Keep.cons rfl (Keep.cons rfl (Keep.cons rfl (Keep.cons rfl (Keep.cons rfl (Keep.cons rfl (Keep.cons rfl (Keep.cons rfl (Keep.cons rfl (Keep.cons rfl (Keep.cons rfl (Keep.cons rfl (Keep.cons rfl (Keep.cons rfl (Keep.cons rfl (Keep.cons rfl (Keep.cons rfl (Keep.cons rfl (Keep.cons rfl (Keep.cons rfl (Keep.cons rfl (Keep.cons rfl (Keep.cons rfl (Keep.cons rfl (Keep.app rfl (Keep.rm rfl Keep.base))))))))))))))))))))))))))))))))))))))))))))))))))))))))))))))))))))))))))))))))))))))))))))))))⟩, by omega⟩
                ·have hG93 := hg93; try simp only [gS] at hG93
                 refine o_off hf ?_; clear hf a; intro a hf
                 refine o_off hf ?_; clear hf a; intro a hf
                 refine o_v hf hh (y_pf rfl rfl) ?_; clear hf a; intro a hf
                 refine o_v hf hh (y_pf rfl rfl) ?_; clear hf a; intro a hf
                 refine o_end ?_
                 refine c_f hf ?_
                 refine sy_skip ?_
                 refine blk_n ?_
                 refine then_n ?_
                 refine sy_ops ?_
                 refine o_v hf hh (y_add rfl rfl) ?_; clear hf a; intro a hf
                 refine o_v hf hh (yv_move rfl) ?_; clear hf a; intro a hf
                 refine ops_end ?_
                 refine then_n ?_
                 replace hh : Hp u [] [(B15, .cells (spV (betV c true (ia : Nat) (ka : Nat))).cells 28), (B14, .cells (spV (betV c false (ia : Nat) (ka : Nat))).cells 28), (B3, .cells (chC c sa cp) 24)] w := hh.pick [8, 9, 10]
                 exact ⟨i + 1, ⟨⟨by omega, hh⟩, (hf.head (by repeat' (first | exact True.intro | refine And.intro rfl ?_)) (Keep.cons rfl (Keep.cons rfl (Keep.cons rfl (Keep.cons rfl (Keep.cons rfl (Keep.cons rfl (Keep.cons rfl (Keep.cons rfl (Keep.cons rfl (Keep.cons rfl (Keep.cons rfl (Keep.cons rfl (Keep.cons rfl (Keep.cons rfl (Keep.cons rfl (Keep.cons rfl (Keep.cons rfl (Keep.cons rfl (Keep.cons rfl (Keep.cons rfl (Keep.cons rfl (Keep.cons rfl (Keep.cons rfl (Keep.cons rfl (Keep.cons rfl (Keep.cons rfl (Keep.cons rfl (Keep.cons rfl (Keep.cons rfl (Keep.cons rfl (Keep.cons rfl (Keep.cons rfl (Keep.cons rfl (Keep.cons rfl (Keep.cons rfl (Keep.cons rfl (Keep.cons rfl (Keep.cons rfl (Keep.cons rfl (Keep.cons rfl (Keep.cons rfl (Keep.cons rfl (Keep.cons rfl (Keep.cons rfl (Keep.cons rfl (Keep.cons rfl (Keep.cons rfl (Keep.cons rfl (Keep.cons rfl (Keep.cons rfl (Keep.cons rfl (Keep.cons rfl (Keep.cons rfl (Keep.cons rfl (Keep.cons rfl (Keep.cons rfl (Keep.cons rfl (Keep.cons rfl (Keep.cons rfl (Keep.cons rfl (Keep.cons rfl (Keep.cons rfl (Keep.cons rfl (Keep.cons rfl (Keep.cons rfl (Keep.cons rfl (Keep.cons rfl (Keep.cons rfl (Keep.cons rfl (Keep.cons rfl (Keep.cons rfl (Keep.cons rfl (Keep.cons rfl (Keep.cons rfl (Keep.cons rfl (Keep.cons rfl (Keep.cons rfl (Keep.cons rfl (Keep.cons rfl (Keep.cons rfl (Keep.cons rfl (Keep.cons rfl (Keep.cons rfl (Keep.cons rfl (Keep.cons rfl (Keep.cons rfl (Keep.cons rfl (Keep.cons rfl (Keep.cons rfl (Keep.cons rfl (Keep.cons rfl (Keep.cons rfl (Keep.cons rfl (Keep.app rfl (Keep.rm rfl Keep.base))))))))))))))))))))))))))))))))))))))))))))))))))))))))))))))))))))))))))))))))))))))))))))))))⟩, by omega⟩
              ·have hG83 := hg83; try simp only [gS] at hG83
               refine o_off hf ?_; clear hf a; intro a hf
               refine o_off hf ?_; clear hf a; intro a hf
               refine o_off hf ?_; clear hf a; intro a hf
               refine o_v hf hh (y_pf rfl rfl) ?_; clear hf a; intro a hf
               refine o_v hf hh (yv_move rfl) ?_; clear hf a; intro a hf
               refine o_off hf ?_; clear hf a; intro a hf
               refine o_off hf ?_; clear hf a; intro a hf
               refine o_off hf ?_; clear hf a; intro a hf
               refine o_v hf hh (y_pf rfl rfl) ?_; clear hf a; intro a hf
               refine o_v hf hh (yv_move rfl) ?_; clear hf a; intro a hf
               refine o_v hf hh (yv_move rfl) ?_; clear hf a; intro a hf
               refine o_v hf hh (yv_bin rfl rfl rfl) ?_; clear hf a; intro a hf
               refine o_v hf hh (yv_move rfl) ?_; clear hf a; intro a hf
               refine guard_split hf (t := 206) rfl (fun hg97 => ?_) (fun hg97 => ?_)
               ·have hG97 := hg97; try simp only [gS] at hG97
                refine o_v hf hh (yv_move rfl) ?_; clear hf a; intro a hf
                refine o_v hf hh (yv_bin rfl rfl rfl) ?_; clear hf a; intro a hf
                refine o_v hf hh (y_pt rfl rfl) ?_; clear hf a; intro a hf
                refine o_v hf hh (y_pf rfl rfl) ?_; clear hf a; intro a hf
                refine o_end ?_
                refine sy_cond hf rfl (fun hg99 => ?_) (fun hg99 => ?_)
                ·have hG99 := hg99; try simp only [gS] at hG99
                 refine sy_sq ?_
                 refine o_v hf hh (yv_assign rfl) ?_; clear hf a; intro a hf
                 refine o_end ?_
                 refine sy_ret ?_
                 refine blk_r ?_
                 refine then_r ?_
                 refine then_r ?_
                 refine blk_r ?_
                 refine then_r ?_
                 refine ret_r hf rfl rfl ?_
                 first
                   | exact ⟨rfl, hh.ext⟩
                   | (exfalso
                      (repeat (rename Fr _ _ _ _ => z9; clear z9))
                      (repeat (rename Hp _ _ _ _ => z9; clear z9))
                      (try clear hcn); (try clear hat); (try clear hbe)
                      first
                        | (rcases hK with ⟨h1, h2, h3⟩ | ⟨h1, h2, h3⟩ | ⟨h1, h2, h3⟩ <;> first | (omega; done) | (simp_all; done))
                        | (omega; done)
                        | (simp_all; done)
                        | (simp_all <;> omega))
                ·have hG99 := hg99; try simp only [gS] at hG99
                 refine sy_skip ?_
                 refine blk_n ?_
                 refine then_n ?_
                 refine sy_ops ?_
                 refine o_v hf hh (y_add rfl rfl) ?_; clear hf a; intro a hf
                 refine o_v hf hh (yv_move rfl) ?_; clear hf a; intro a hf
                 refine ops_end ?_
                 refine then_n ?_
                 replace hh : Hp u [] [(B15, .cells (spV (betV c true (ia : Nat) (ka : Nat))).cells 28), (B14, .cells (spV (betV c false (ia : Nat) (ka : Nat))).cells 28), (B3, .cells (chC c sa cp) 24)] w := hh.pick [8, 9, 10]
                 exact ⟨i + 1, ⟨⟨by omega, hh⟩, (hf.head (by repeat' (first | exact True.intro | refine And.intro rfl ?_)) (Keep.cons rfl (Keep.cons rfl (Keep.cons rfl (Keep.cons rfl (Keep.cons rfl (Keep.cons rfl (Keep.cons rfl (Keep.cons rfl (Keep.cons rfl (Keep.cons rfl (Keep.cons rfl (Keep.cons rfl (Keep.cons rfl (Keep.cons rfl (Keep.cons rfl (Keep.cons rfl (Keep.cons rfl (Keep.cons rfl (Keep.cons rfl (Keep.cons rfl (Keep.cons rfl (Keep.cons rfl (Keep.cons rfl (Keep.cons rfl (Keep.cons rfl (Keep.cons rfl (Keep.cons rfl (Keep.cons rfl (Keep.cons rfl (Keep.cons rfl (Keep.cons rfl (Keep.cons rfl (Keep.cons rfl (Keep.cons rfl (Keep.cons rfl (Keep.cons rfl (Keep.cons rfl (Keep.cons rfl (Keep.cons rfl (Keep.cons rfl (Keep.cons rfl (Keep.cons rfl (Keep.cons rfl (Keep.cons rfl (Keep.cons rfl (Keep.cons rfl (Keep.cons rfl (Keep.cons rfl (Keep.cons rfl (Keep.cons rfl (Keep.cons rfl (Keep.cons rfl (Keep.cons rfl (Keep.cons rfl (Keep.cons rfl (Keep.cons rfl (Keep.cons rfl (Keep.cons rfl (Keep.cons rfl (Keep.cons rfl (Keep.cons rfl (Keep.cons rfl (Keep.cons rfl (Keep.cons rfl (Keep.cons rfl (Keep.cons rfl (Keep.cons rfl (Keep.cons rfl (Keep.cons rfl (Keep.cons rfl (Keep.cons rfl (Keep.cons rfl (Keep.cons rfl (Keep.cons rfl (Keep.cons rfl (Keep.cons rfl (Keep.cons rfl (Keep.cons rfl (Keep.cons rfl (Keep.cons rfl (Keep.cons rfl (Keep.cons rfl (Keep.cons rfl (Keep.cons rfl (Keep.cons rfl (Keep.cons rfl (Keep.cons rfl (Keep.cons rfl (Keep.cons rfl (Keep.cons rfl (Keep.cons rfl (Keep.cons rfl (Keep.cons rfl (Keep.app rfl (Keep.rm rfl Keep.base))))))))))))))))))))))))))))))))))))))))))))))))))))))))))))))))))))))))))))))))))))))))))))))))⟩, by omega⟩
               ·have hG97 := hg97; try simp only [gS] at hG97
                refine o_off hf ?_; clear hf a; intro a hf
                refine o_off hf ?_; clear hf a; intro a hf
                refine o_v hf hh (y_pf rfl rfl) ?_; clear hf a; intro a hf
                refine o_v hf hh (y_pf rfl rfl) ?_; clear hf a; intro a hf
                refine o_end ?_
                refine c_f hf ?_
                refine sy_skip ?_
                refine blk_n ?_
                refine then_n ?_
                refine sy_ops ?_
                refine o_v hf hh (y_add rfl rfl) ?_; clear hf a; intro a hf
                refine o_v hf hh (yv_move rfl) ?_; clear hf a; intro a hf
                refine ops_end ?_
                refine then_n ?_
                replace hh : Hp u [] [(B15, .cells (spV (betV c true (ia : Nat) (ka : Nat))).cells 28), (B14, .cells (spV (betV c false (ia : Nat) (ka : Nat))).cells 28), (B3, .cells (chC c sa cp) 24)] w := hh.pick [8, 9, 10]
                exact ⟨i + 1, ⟨⟨by omega, hh⟩, (hf.head (by repeat' (first | exact True.intro | refine And.intro rfl ?_)) (Keep.cons rfl (Keep.cons rfl (Keep.cons rfl (Keep.cons rfl (Keep.cons rfl (Keep.cons rfl (Keep.cons rfl (Keep.cons rfl (Keep.cons rfl (Keep.cons rfl (Keep.cons rfl (Keep.cons rfl (Keep.cons rfl (Keep.cons rfl (Keep.cons rfl (Keep.cons rfl (Keep.cons rfl (Keep.cons rfl (Keep.cons rfl (Keep.cons rfl (Keep.cons rfl (Keep.cons rfl (Keep.cons rfl (Keep.cons rfl (Keep.cons rfl (Keep.cons rfl (Keep.cons rfl (Keep.cons rfl (Keep.cons rfl (Keep.cons rfl (Keep.cons rfl (Keep.cons rfl (Keep.cons rfl (Keep.cons rfl (Keep.cons rfl (Keep.cons rfl (Keep.cons rfl (Keep.cons rfl (Keep.cons rfl (Keep.cons rfl (Keep.cons rfl (Keep.cons rfl (Keep.cons rfl (Keep.cons rfl (Keep.cons rfl (Keep.cons rfl (Keep.cons rfl (Keep.cons rfl (Keep.cons rfl (Keep.cons rfl (Keep.cons rfl (Keep.cons rfl (Keep.cons rfl (Keep.cons rfl (Keep.cons rfl (Keep.cons rfl (Keep.cons rfl (Keep.cons rfl (Keep.cons rfl (Keep.cons rfl (Keep.cons rfl (Keep.cons rfl (Keep.cons rfl (Keep.cons rfl (Keep.cons rfl (Keep.cons rfl (Keep.cons rfl (Keep.cons rfl (Keep.cons rfl (Keep.cons rfl (Keep.cons rfl (Keep.cons rfl (Keep.cons rfl (Keep.cons rfl (Keep.cons rfl (Keep.cons rfl (Keep.cons rfl (Keep.cons rfl (Keep.cons rfl (Keep.cons rfl (Keep.cons rfl (Keep.cons rfl (Keep.cons rfl (Keep.cons rfl (Keep.cons rfl (Keep.cons rfl (Keep.cons rfl (Keep.cons rfl (Keep.cons rfl (Keep.cons rfl (Keep.cons rfl (Keep.cons rfl (Keep.cons rfl (Keep.app rfl (Keep.rm rfl Keep.base))))))))))))))))))))))))))))))))))))))))))))))))))))))))))))))))))))))))))))))))))))))))))))))))⟩, by omega⟩
         ·refine mc_e rfl fun Q1 => ?_
          refine o_alloc hf hh Try.ze_24 ?_; clear hf hh a; intro B19 a w hf hh
          refine ops_end ?_
          refine then_n ⟨⟨fun _ _ => (AtE.of hh (by intro p hp; rw [List.mem_singleton.1 hp]; simp)), trivial⟩, ?_⟩
          refine mc_e rfl fun Q1 => ?_
          refine o_call hf Try.en_35 rfl rfl rfl (p35 c sa cp (offN c.si.length (2 ^ i)) _ (hA.ext hh.ext) hO (by have := hof (2 ^ i); omega)) ?_; clear hf a; intro v a w hR hf
          rw [offp] at hR
          obtain ⟨sx, cx, X9, rfl, hAt, hx⟩ := hR; replace hh := (hh.join hx).perm List.perm_append_comm; clear hx
          refine ops_end ?_
          refine then_n ⟨⟨fun _ _ => (AtE.of hh (by intro p hp; rw [List.mem_singleton.1 hp]; simp)), trivial⟩, ?_⟩
          refine mc_e rfl fun Q1 => ?_
          refine o_store hf hh Try.sz_24 fun w hh => ?_
          refine ops_end ?_
          refine then_n ⟨⟨fun h => Bool.noConfusion (show true = false from h), trivial⟩, ?_⟩
          refine mc_end ?_
          refine then_n ?_
          refine sy_sq ?_
          refine o_v hf hh (y_lds Try.ag_24 rfl) ?_; clear hf a; intro a hf
          refine o_v hf hh (yv_fieldAddr Try.fo_46_0 rfl) ?_; clear hf a; intro a hf
          refine o_v hf hh (y_ld Try.sc_3 rfl) ?_; clear hf a; intro a hf
          refine o_v hf hh (yv_fieldAddr Try.fo_46_1 rfl) ?_; clear hf a; intro a hf
          refine o_v hf hh (y_ld Try.sc_3 rfl) ?_; clear hf a; intro a hf
          refine o_call hf Try.en_17 rfl rfl rfl (p17 (lessC c i) sx cx (kf : Nat) (kt : Nat) _ (hAt _ (fun q hq => hh.get q (by simp [hq])))) ?_; clear hf a; intro v a w hR hf
          obtain ⟨rfl, hx⟩ := hR; replace hh := hh.more hx; clear hx
          refine o_v hf hh (yv_move rfl) ?_; clear hf a; intro a hf
          refine o_v hf hh (yv_extract rfl rfl) ?_; clear hf a; intro a hf
          refine o_v hf hh (yv_extract rfl rfl) ?_; clear hf a; intro a hf
          refine o_v hf hh (yv_extract rfl rfl) ?_; clear hf a; intro a hf
          refine o_alloc hf hh Try.ze_28 ?_; clear hf hh a; intro B20 a w hf hh
          refine o_alloc hf hh Try.ze_28 ?_; clear hf hh a; intro B21 a w hf hh
          refine o_store hf hh Try.sz_28 fun w hh => ?_
          refine o_store hf hh Try.sz_28 fun w hh => ?_
          refine o_v hf hh (yv_assign rfl) ?_; clear hf a; intro a hf
          refine o_end ?_
          refine sy_sq ?_
          refine o_v hf hh (y_lds Try.ag_24 rfl) ?_; clear hf a; intro a hf
          refine o_v hf hh (yv_fieldAddr Try.fo_46_0 rfl) ?_; clear hf a; intro a hf
          refine o_v hf hh (y_ld Try.sc_3 rfl) ?_; clear hf a; intro a hf
          refine o_v hf hh (yv_fieldAddr Try.fo_46_1 rfl) ?_; clear hf a; intro a hf
          refine o_v hf hh (y_ld Try.sc_3 rfl) ?_; clear hf a; intro a hf
          refine o_call hf Try.en_17 rfl rfl rfl (p17 c sa cp (kf : Nat) (kt : Nat) _ (hA.ext hh.ext)) ?_; clear hf a; intro v a w hR hf
          obtain ⟨rfl, hx⟩ := hR; replace hh := hh.more hx; clear hx
          refine o_v hf hh (yv_move rfl) ?_; clear hf a; intro a hf
          refine o_v hf hh (yv_extract rfl rfl) ?_; clear hf a; intro a hf
          refine o_v hf hh (yv_extract rfl rfl) ?_; clear hf a; intro a hf
          refine o_v hf hh (yv_extract rfl rfl) ?_; clear hf a; intro a hf
          refine o_alloc hf hh Try.ze_28 ?_; clear hf hh a; intro B23 a w hf hh
          refine o_alloc hf hh Try.ze_28 ?_; clear hf hh a; intro B24 a w hf hh
          refine o_store hf hh Try.sz_28 fun w hh => ?_
          refine o_store hf hh Try.sz_28 fun w hh => ?_
          refine o_v hf hh (yv_assign rfl) ?_; clear hf a; intro a hf
          refine o_end ?_
          refine sy_sq ?_
          refine o_v hf hh (y_lds Try.ag_24 rfl) ?_; clear hf a; intro a hf
          refine o_v hf hh (yv_move rfl) ?_; clear hf a; intro a hf
          refine o_v hf hh (yv_move rfl) ?_; clear hf a; intro a hf
          refine o_call hf Try.en_17 rfl rfl rfl (p17 (lessC c i) sx cx (ia : Nat) (ka : Nat) _ (hAt _ (fun q hq => hh.get q (by simp [hq])))) ?_; clear hf a; intro v a w hR hf
          obtain ⟨rfl, hx⟩ := hR; replace hh := hh.more hx; clear hx
          refine o_v hf hh (yv_move rfl) ?_; clear hf a; intro a hf
          refine o_v hf hh (yv_extract rfl rfl) ?_; clear hf a; intro a hf
          refine o_v hf hh (yv_extract rfl rfl) ?_; clear hf a; intro a hf
          refine o_v hf hh (yv_extract rfl rfl) ?_; clear hf a; intro a hf
          refine o_alloc hf hh Try.ze_28 ?_; clear hf hh a; intro B26 a w hf hh
          refine o_alloc hf hh Try.ze_28 ?_; clear hf hh a; intro B27 a w hf hh
          refine o_store hf hh Try.sz_28 fun w hh => ?_
          refine o_store hf hh Try.sz_28 fun w hh => ?_
          refine o_v hf hh (yv_assign rfl) ?_; clear hf a; intro a hf
          refine o_end ?_
          refine sy_seq ?_
          refine sy_sq ?_
          refine o_v hf hh (yv_move rfl) ?_; clear hf a; intro a hf
          refine o_v hf hh (yv_bin rfl rfl rfl) ?_; clear hf a; intro a hf
          refine o_v hf hh (yv_move rfl) ?_; clear hf a; intro a hf
          refine guard_split hf (t := 145) rfl (fun hg114 => ?_) (fun hg114 => ?_)
          ·have hG114 := hg114; try simp only [gS] at hG114
           refine o_off hf ?_; clear hf a; intro a hf
           refine o_off hf ?_; clear hf a; intro a hf
           refine o_off hf ?_; clear hf a; intro a hf
           refine o_off hf ?_; clear hf a; intro a hf
           refine o_off hf ?_; clear hf a; intro a hf
           refine o_v hf hh (y_pt rfl rfl) ?_; clear hf a; intro a hf
           refine o_v hf hh (yv_move rfl) ?_; clear hf a; intro a hf
           refine o_off hf ?_; clear hf a; intro a hf
           refine o_off hf ?_; clear hf a; intro a hf
           refine o_off hf ?_; clear hf a; intro a hf
           refine o_off hf ?_; clear hf a; intro a hf
           refine o_off hf ?_; clear hf a; intro a hf
           refine o_v hf hh (y_pt rfl rfl) ?_; clear hf a; intro a hf
           refine o_end ?_
           refine c_t hf ?_
           refine sy_sq ?_
           refine o_v hf hh (yv_assign rfl) ?_; clear hf a; intro a hf
           refine o_end ?_
           refine sy_ret ?_
           refine then_r ?_
           refine blk_r ?_
           refine then_r ?_
           refine then_r ?_
           refine blk_r ?_
           refine then_r ?_
           refine ret_r hf rfl rfl ?_
           first
             | exact ⟨rfl, hh.ext⟩
             | (exfalso
                (repeat (rename Fr _ _ _ _ => z9; clear z9))
                (repeat (rename Hp _ _ _ _ => z9; clear z9))
                (try clear hcn); (try clear hat); (try clear hbe)
                first
                  | (rcases hK with ⟨h1, h2, h3⟩ | ⟨h1, h2, h3⟩ | ⟨h1, h2, h3⟩ <;> first | (omega; done) | (simp_all; done))
                  | (omega; done)
                  | (simp_all; done)
                  | (simp_all <;> omega))
          ·have hG114 := hg114; try simp only [gS] at hG114
           refine o_v hf hh (y_lds Try.ag_28 rfl) ?_; clear hf a; intro a hf
           refine o_v hf hh (yv_fieldAddr Try.fo_46_2 rfl) ?_; clear hf a; intro a hf
           refine o_v hf hh (y_lds Try.ag_28 rfl) ?_; clear hf a; intro a hf
           refine o_call hf Try.en_37 rfl rfl rfl (p37 (betV c false (kf : Nat) (kt : Nat)) (el, eh) _) ?_; clear hf a; intro v a w hR hf
           obtain ⟨rfl, hx⟩ := hR; replace hh := hh.more hx; clear hx
           refine o_v hf hh (yv_not rfl) ?_; clear hf a; intro a hf
           refine o_v hf hh (y_pf rfl rfl) ?_; clear hf a; intro a hf
           refine o_v hf hh (yv_move rfl) ?_; clear hf a; intro a hf
           refine guard_split hf (t := 152) rfl (fun hg116 => ?_) (fun hg116 => ?_)
           ·have hG116 := hg116; try simp only [gS] at hG116
            refine o_off hf ?_; clear hf a; intro a hf
            refine o_off hf ?_; clear hf a; intro a hf
            refine o_off hf ?_; clear hf a; intro a hf
            refine o_off hf ?_; clear hf a; intro a hf
            refine o_off hf ?_; clear hf a; intro a hf
            refine o_v hf hh (y_pt rfl rfl) ?_; clear hf a; intro a hf
            refine o_end ?_
            refine c_t hf ?_
            refine sy_sq ?_
            refine o_v hf hh (yv_assign rfl) ?_; clear hf a; intro a hf
            refine o_end ?_
            refine sy_ret ?_
            refine then_r ?_
            refine blk_r ?_
            refine then_r ?_
            refine then_r ?_
            refine blk_r ?_
            refine then_r ?_
            refine ret_r hf rfl rfl ?_
            first
              | exact ⟨rfl, hh.ext⟩
              | (exfalso
                 (repeat (rename Fr _ _ _ _ => z9; clear z9))
                 (repeat (rename Hp _ _ _ _ => z9; clear z9))
                 (try clear hcn); (try clear hat); (try clear hbe)
                 first
                   | (rcases hK with ⟨h1, h2, h3⟩ | ⟨h1, h2, h3⟩ | ⟨h1, h2, h3⟩ <;> first | (omega; done) | (simp_all; done))
                   | (omega; done)
                   | (simp_all; done)
                   | (simp_all <;> omega))
           ·have hG116 := hg116; try simp only [gS] at hG116
            refine o_v hf hh (y_lds Try.ag_28 rfl) ?_; clear hf a; intro a hf
            refine o_v hf hh (yv_fieldAddr Try.fo_46_3 rfl) ?_; clear hf a; intro a hf
            refine o_v hf hh (y_lds Try.ag_28 rfl) ?_; clear hf a; intro a hf
            refine o_call hf Try.en_37 rfl rfl rfl (p37 (betV c true (kf : Nat) (kt : Nat)) (nl, nh) _) ?_; clear hf a; intro v a w hR hf
            obtain ⟨rfl, hx⟩ := hR; replace hh := hh.more hx; clear hx
            refine o_v hf hh (yv_not rfl) ?_; clear hf a; intro a hf
            refine o_v hf hh (y_pf rfl rfl) ?_; clear hf a; intro a hf
            refine o_end ?_
            refine sy_cond hf rfl (fun hg118 => ?_) (fun hg118 => ?_)
            ·have hG118 := hg118; try simp only [gS] at hG118
             refine sy_sq ?_
             refine o_v hf hh (yv_assign rfl) ?_; clear hf a; intro a hf
             refine o_end ?_
             refine sy_ret ?_
             refine then_r ?_
             refine blk_r ?_
             refine then_r ?_
             refine then_r ?_
             refine blk_r ?_
             refine then_r ?_
             refine ret_r hf rfl rfl ?_
             first
               | exact ⟨rfl, hh.ext⟩
               | (exfalso
                  (repeat (rename Fr _ _ _ _ => z9; clear z9))
                  (repeat (rename Hp _ _ _ _ => z9; clear z9))
                  (try clear hcn); (try clear hat); (try clear hbe)
                  first
                    | (rcases hK with ⟨h1, h2, h3⟩ | ⟨h1, h2, h3⟩ | ⟨h1, h2, h3⟩ <;> first | (omega; done) | (simp_all; done))
                    | (omega; done)
                    | (simp_all; done)
                    | (simp_all <;> omega))
            ·have hG118 := hg118; try simp only [gS] at hG118
             refine sy_skip ?_
             refine then_n ?_
             refine sy_seq ?_
             refine sy_sq ?_
             refine o_v hf hh (yv_move rfl) ?_; clear hf a; intro a hf
             refine o_v hf hh (yv_move rfl) ?_; clear hf a; intro a hf
             refine o_v hf hh (yv_shrN rfl rfl) ?_; clear hf a; intro a hf
             refine o_v hf hh (yv_and1 rfl rfl (by omega)) ?_; clear hf a; intro a hf
             refine o_v hf hh (yv_cast (yv_bin rfl rfl rfl) (show Value.bool (decide (((idlV c >>> i &&& 1 : Nat) : Int) = 1)) = Value.bool (idlB c i) by rw [bit1, ← hbit i (by omega)]; cases (idlV c).testBit i <;> rfl)) ?_; clear hf a; intro a hf
             refine o_end ?_
             refine sy_cond hf rfl (fun hg122 => ?_) (fun hg122 => ?_)
             ·have hG122 := hg122; try simp only [gS] at hG122
              refine sy_seq ?_
              refine sy_seq ?_
              obtain ⟨g1, g2⟩ := i4 (by assumption)
              obtain ⟨g3, g4⟩ := g2 (kf : Nat) (kt : Nat)
              obtain ⟨g5, g6⟩ := g2 (ia : Nat) (ka : Nat)
              have g7 := g4 false; have g8 := g4 true; have g9 := g6 false; have g10 := g6 true
              clear g2 g4 g6
              refine sy_ops ?_
              refine o_v hf hh (yv_move rfl) ?_; clear hf a; intro a hf
              refine o_v hf hh (yv_bin rfl rfl rfl) ?_; clear hf a; intro a hf
              refine o_v hf hh (yv_move rfl) ?_; clear hf a; intro a hf
              refine guard_split hf (t := 166) rfl (fun hg124 => ?_) (fun hg124 => ?_)
              ·have hG124 := hg124; try simp only [gS] at hG124
               refine o_off hf ?_; clear hf a; intro a hf
               refine o_off hf ?_; clear hf a; intro a hf
               refine o_off hf ?_; clear hf a; intro a hf
               refine o_v hf hh (y_pt rfl rfl) ?_; clear hf a; intro a hf
               refine o_v hf hh (yv_move rfl) ?_; clear hf a; intro a hf
               refine o_off hf ?_; clear hf a; intro a hf
               refine o_off hf ?_; clear hf a; intro a hf
               refine o_off hf ?_; clear hf a; intro a hf
               refine o_v hf hh (y_pt rfl rfl) ?_; clear hf a; intro a hf
               refine o_v hf hh (yv_move rfl) ?_; clear hf a; intro a hf
               refine o_off hf ?_; clear hf a; intro a hf
               refine o_off hf ?_; clear hf a; intro a hf
               refine o_off hf ?_; clear hf a; intro a hf
               refine o_v hf hh (y_pt rfl rfl) ?_; clear hf a; intro a hf
               refine o_v hf hh (yv_move rfl) ?_; clear hf a; intro a hf
               refine o_off hf ?_; clear hf a; intro a hf
               refine o_off hf ?_; clear hf a; intro a hf
               refine o_off hf ?_; clear hf a; intro a hf
               refine o_v hf hh (y_pt rfl rfl) ?_; clear hf a; intro a hf
               refine o_v hf hh (yv_move rfl) ?_; clear hf a; intro a hf
               refine o_off hf ?_; clear hf a; intro a hf
               refine o_off hf ?_; clear hf a; intro a hf
               refine o_off hf ?_; clear hf a; intro a hf
               refine o_v hf hh (y_pt rfl rfl) ?_; clear hf a; intro a hf
               refine o_end ?_
               refine c_t hf ?_
               refine sy_sq ?_
               refine o_v hf hh (yv_assign rfl) ?_; clear hf a; intro a hf
               refine o_end ?_
               refine sy_ret ?_
               refine then_r ?_
               refine then_r ?_
               refine blk_r ?_
               refine then_r ?_
               refine then_r ?_
               refine blk_r ?_
               refine then_r ?_
               refine ret_r hf rfl rfl ?_
               first
                 | exact ⟨rfl, hh.ext⟩
                 | (exfalso
                    (repeat (rename Fr _ _ _ _ => z9; clear z9))
                    (repeat (rename Hp _ _ _ _ => z9; clear z9))
                    (try clear hcn); (try clear hat); (try clear hbe)
                    first
                      | (rcases hK with ⟨h1, h2, h3⟩ | ⟨h1, h2, h3⟩ | ⟨h1, h2, h3⟩ <;> first | (omega; done) | (simp_all; done))
                      | (omega; done)
                      | (simp_all; done)
                      | (simp_all <;> omega))
              ·have hG124 := hg124; try simp only [gS] at hG124
               refine o_v hf hh (y_lds Try.ag_28 rfl) ?_; clear hf a; intro a hf
               refine o_v hf hh (y_lds Try.ag_28 rfl) ?_; clear hf a; intro a hf
               refine o_v hf hh (yv_cast (yv_neF [(betV (lessC c i) false (kf : Nat) (kt : Nat)).1, (betV (lessC c i) false (kf : Nat) (kt : Nat)).2] [(betV c false (kf : Nat) (kt : Nat)).1, (betV c false (kf : Nat) (kt : Nat)).2] fl28 rfl rfl) (congrArg (fun b => Value.bool (!b)) (pair_dec (betV (lessC c i) false (kf : Nat) (kt : Nat)) (betV c false (kf : Nat) (kt : Nat))))) ?_; clear hf a; intro a hf
               refine o_v hf hh (y_pf rfl rfl) ?_; clear hf a; intro a hf
               refine o_v hf hh (yv_move rfl) ?_; clear hf a; intro a hf
               refine guard_split hf (t := 171) rfl (fun hg126 => ?_) (fun hg126 => ?_)
               ·have hG126 := hg126; try simp only [gS] at hG126
                refine o_off hf ?_; clear hf a; intro a hf
                refine o_off hf ?_; clear hf a; intro a hf
                refine o_off hf ?_; clear hf a; intro a hf
                refine o_v hf hh (y_pt rfl rfl) ?_; clear hf a; intro a hf
                refine o_v hf hh (yv_move rfl) ?_; clear hf a; intro a hf
                refine o_off hf ?_; clear hf a; intro a hf
                refine o_off hf ?_; clear hf a; intro a hf
                refine o_off hf ?_; clear hf a; intro a hf
                refine o_v hf hh (y_pt rfl rfl) ?_; clear hf a; intro a hf
                refine o_v hf hh (yv_move rfl) ?_; clear hf a; intro a hf
                refine o_off hf ?_; clear hf a; intro a hf
                refine o_off hf ?_; clear hf a; intro a hf
                refine o_off hf ?_; clear hf a; intro a hf
                refine o_v hf hh (y_pt rfl rfl) ?_; clear hf a; intro a hf
                refine o_v hf hh (yv_move rfl) ?_; clear hf a; intro a hf
                refine o_off hf ?_; clear hf a; intro a hf
                refine o_off hf ?_; clear hf a; intro a hf
                refine o_off hf ?_; clear hf a; intro a hf
                refine o_v hf hh (y_pt rfl rfl) ?_; clear hf a; intro a hf
                refine o_end ?_
                refine c_t hf ?_
                refine sy_sq ?_
                refine o_v hf hh (yv_assign rfl) ?_; clear hf a; intro a hf
                refine o_end ?_
                refine sy_ret ?_
                refine then_r ?_
                refine then_r ?_
                refine blk_r ?_
                refine then_r ?_
                refine then_r ?_
                refine blk_r ?_
                refine then_r ?_
                refine ret_r hf rfl rfl ?_
                first
                  | exact ⟨rfl, hh.ext⟩
                  | (exfalso
                     (repeat (rename Fr _ _ _ _ => z9; clear z9))
                     (repeat (rename Hp _ _ _ _ => z9; clear z9))
                     (try clear hcn); (try clear hat); (try clear hbe)
                     first
                       | (rcases hK with ⟨h1, h2, h3⟩ | ⟨h1, h2, h3⟩ | ⟨h1, h2, h3⟩ <;> first | (omega; done) | (simp_all; done))
                       | (omega; done)
                       | (simp_all; done)
                       | (simp_all <;> omega))
               ·have hG126 := hg126; try simp only [gS] at hG126
                refine o_v hf hh (y_lds Try.ag_28 rfl) ?_; clear hf a; intro a hf
                refine o_v hf hh (y_lds Try.ag_28 rfl) ?_; clear hf a; intro a hf
                refine o_v hf hh (yv_cast (yv_neF [(betV (lessC c i) true (kf : Nat) (kt : Nat)).1, (betV (lessC c i) true (kf : Nat) (kt : Nat)).2] [(betV c true (kf : Nat) (kt : Nat)).1, (betV c true (kf : Nat) (kt : Nat)).2] fl28 rfl rfl) (congrArg (fun b => Value.bool (!b)) (pair_dec (betV (lessC c i) true (kf : Nat) (kt : Nat)) (betV c true (kf : Nat) (kt : Nat))))) ?_; clear hf a; intro a hf
                refine o_v hf hh (y_pf rfl rfl) ?_; clear hf a; intro a hf
                refine o_v hf hh (yv_move rfl) ?_; clear hf a; intro a hf
                refine guard_split hf (t := 176) rfl (fun hg128 => ?_) (fun hg128 => ?_)
                ·have hG128 := hg128; try simp only [gS] at hG128
                 refine o_off hf ?_; clear hf a; intro a hf
                 refine o_off hf ?_; clear hf a; intro a hf
                 refine o_off hf ?_; clear hf a; intro a hf
                 refine o_v hf hh (y_pt rfl rfl) ?_; clear hf a; intro a hf
                 refine o_v hf hh (yv_move rfl) ?_; clear hf a; intro a hf
                 refine o_off hf ?_; clear hf a; intro a hf
                 refine o_off hf ?_; clear hf a; intro a hf
                 refine o_off hf ?_; clear hf a; intro a hf
                 refine o_v hf hh (y_pt rfl rfl) ?_; clear hf a; intro a hf
                 refine o_v hf hh (yv_move rfl) ?_; clear hf a; intro a hf
                 refine o_off hf ?_; clear hf a; intro a hf
                 refine o_off hf ?_; clear hf a; intro a hf
                 refine o_off hf ?_; clear hf a; intro a hf
                 refine o_v hf hh (y_pt rfl rfl) ?_; clear hf a; intro a hf
                 refine o_end ?_
                 refine c_t hf ?_
                 refine sy_sq ?_
                 refine o_v hf hh (yv_assign rfl) ?_; clear hf a; intro a hf
                 refine o_end ?_
                 refine sy_ret ?_
                 refine then_r ?_
                 refine then_r ?_
                 refine blk_r ?_
                 refine then_r ?_
                 refine then_r ?_
                 refine blk_r ?_
                 refine then_r ?_
                 refine ret_r hf rfl rfl ?_
                 first
                   | exact ⟨rfl, hh.ext⟩
                   | (exfalso
                      (repeat (rename Fr _ _ _ _ => z9; clear z9))
                      (repeat (rename Hp _ _ _ _ => z9; clear z9))
                      (try clear hcn); (try clear hat); (try clear hbe)
                      first
                        | (rcases hK with ⟨h1, h2, h3⟩ | ⟨h1, h2, h3⟩ | ⟨h1, h2, h3⟩ <;> first | (omega; done) | (simp_all; done))
                        | (omega; done)
                        | (simp_all; done)
                        | (simp_all <;> omega))
                ·have hG128 := hg128; try simp only [gS] at hG128
                 refine o_v hf hh (y_lds Try.ag_28 rfl) ?_; clear hf a; intro a hf
                 refine o_v hf hh (y_lds Try.ag_28 rfl) ?_; clear hf a; intro a hf
                 refine o_v hf hh (yv_cast (yv_neF [(betV (lessC c i) false (ia : Nat) (ka : Nat)).1, (betV (lessC c i) false (ia : Nat) (ka : Nat)).2] [(betV c false (ia : Nat) (ka : Nat)).1, (betV c false (ia : Nat) (ka : Nat)).2] fl28 rfl rfl) (congrArg (fun b => Value.bool (!b)) (pair_dec (betV (lessC c i) false (ia : Nat) (ka : Nat)) (betV c false (ia : Nat) (ka : Nat))))) ?_; clear hf a; intro a hf
                 refine o_v hf hh (y_pf rfl rfl) ?_; clear hf a; intro a hf
                 refine o_v hf hh (yv_move rfl) ?_; clear hf a; intro a hf
                 refine guard_split hf (t := 181) rfl (fun hg130 => ?_) (fun hg130 => ?_)
                 ·have hG130 := hg130; try simp only [gS] at hG130
                  refine o_off hf ?_; clear hf a; intro a hf
                  refine o_off hf ?_; clear hf a; intro a hf
                  refine o_off hf ?_; clear hf a; intro a hf
                  refine o_v hf hh (y_pt rfl rfl) ?_; clear hf a; intro a hf
                  refine o_v hf hh (yv_move rfl) ?_; clear hf a; intro a hf
                  refine o_off hf ?_; clear hf a; intro a hf
                  refine o_off hf ?_; clear hf a; intro a hf
                  refine o_off hf ?_; clear hf a; intro a hf
                  refine o_v hf hh (y_pt rfl rfl) ?_; clear hf a; intro a hf
                  refine o_end ?_
                  refine c_t hf ?_
                  refine sy_sq ?_
                  refine o_v hf hh (yv_assign rfl) ?_; clear hf a; intro a hf
                  refine o_end ?_
                  refine sy_ret ?_
                  refine then_r ?_
                  refine then_r ?_
                  refine blk_r ?_
                  refine then_r ?_
                  refine then_r ?_
                  refine blk_r ?_
                  refine then_r ?_
                  refine ret_r hf rfl rfl ?_
                  first
                    | exact ⟨rfl, hh.ext⟩
                    | (exfalso
                       (repeat (rename Fr _ _ _ _ => z9; clear z9))
                       (repeat (rename Hp _ _ _ _ => z9; clear z9))
                       (try clear hcn); (try clear hat); (try clear hbe)
                       first
                         | (rcases hK with ⟨h1, h2, h3⟩ | ⟨h1, h2, h3⟩ | ⟨h1, h2, h3⟩ <;> first | (omega; done) | (simp_all; done))
                         | (omega; done)
                         | (simp_all; done)
                         | (simp_all <;> omega))
                 ·have hG130 := hg130; try simp only [gS] at hG130
                  refine o_v hf hh (y_lds Try.ag_28 rfl) ?_; clear hf a; intro a hf
                  refine o_v hf hh (y_lds Try.ag_28 rfl) ?_; clear hf a; intro a hf
                  refine o_v hf hh (yv_cast (yv_neF [(betV (lessC c i) true (ia : Nat) (ka : Nat)).1, (betV (lessC c i) true (ia : Nat) (ka : Nat)).2] [(betV c true (ia : Nat) (ka : Nat)).1, (betV c true (ia : Nat) (ka : Nat)).2] fl28 rfl rfl) (congrArg (fun b => Value.bool (!b)) (pair_dec (betV (lessC c i) true (ia : Nat) (ka : Nat)) (betV c true (ia : Nat) (ka : Nat))))) ?_; clear hf a; intro a hf
                  refine o_v hf hh (y_pf rfl rfl) ?_; clear hf a; intro a hf
                  refine o_v hf hh (yv_move rfl) ?_; clear hf a; intro a hf
                  refine guard_split hf (t := 186) rfl (fun hg132 => ?_) (fun hg132 => ?_)
                  ·have hG132 := hg132; try simp only [gS] at hG132
                   refine o_off hf ?_; clear hf a; intro a hf
                   refine o_off hf ?_; clear hf a; intro a hf
                   refine o_off hf ?_; clear hf a; intro a hf
                   refine o_v hf hh (y_pt rfl rfl) ?_; clear hf a; intro a hf
                   refine o_end ?_
                   refine c_t hf ?_
                   refine sy_sq ?_
                   refine o_v hf hh (yv_assign rfl) ?_; clear hf a; intro a hf
                   refine o_end ?_
                   refine sy_ret ?_
                   refine then_r ?_
                   refine then_r ?_
                   refine blk_r ?_
                   refine then_r ?_
                   refine then_r ?_
                   refine blk_r ?_
                   refine then_r ?_
                   refine ret_r hf rfl rfl ?_
                   first
                     | exact ⟨rfl, hh.ext⟩
                     | (exfalso
                        (repeat (rename Fr _ _ _ _ => z9; clear z9))
                        (repeat (rename Hp _ _ _ _ => z9; clear z9))
                        (try clear hcn); (try clear hat); (try clear hbe)
                        first
                          | (rcases hK with ⟨h1, h2, h3⟩ | ⟨h1, h2, h3⟩ | ⟨h1, h2, h3⟩ <;> first | (omega; done) | (simp_all; done))
                          | (omega; done)
                          | (simp_all; done)
                          | (simp_all <;> omega))
                  ·have hG132 := hg132; try simp only [gS] at hG132
                   refine o_v hf hh (yv_move rfl) ?_; clear hf a; intro a hf
                   refine o_v hf hh (yv_move rfl) ?_; clear hf a; intro a hf
                   refine o_v hf hh (yv_bin rfl rfl rfl) ?_; clear hf a; intro a hf
                   refine o_v hf hh (y_pf rfl rfl) ?_; clear hf a; intro a hf
                   refine o_end ?_
                   refine sy_cond hf rfl (fun hg134 => ?_) (fun hg134 => ?_)
                   ·have hG134 := hg134; try simp only [gS] at hG134
                    refine sy_sq ?_
                    refine o_v hf hh (yv_assign rfl) ?_; clear hf a; intro a hf
                    refine o_end ?_
                    refine sy_ret ?_
                    refine then_r ?_
                    refine then_r ?_
                    refine blk_r ?_
                    refine then_r ?_
                    refine then_r ?_
                    refine blk_r ?_
                    refine then_r ?_
                    refine ret_r hf rfl rfl ?_
                    first
                      | exact ⟨rfl, hh.ext⟩
                      | (exfalso
                         (repeat (rename Fr _ _ _ _ => z9; clear z9))
                         (repeat (rename Hp _ _ _ _ => z9; clear z9))
                         (try clear hcn); (try clear hat); (try clear hbe)
                         first
                           | (rcases hK with ⟨h1, h2, h3⟩ | ⟨h1, h2, h3⟩ | ⟨h1, h2, h3⟩ <;> first | (omega; done) | (simp_all; done))
                           | (omega; done)
                           | (simp_all; done)
                           | (simp_all <;> omega))
                   ·have hG134 := hg134; try simp only [gS] at hG134
                    refine sy_skip ?_
                    refine then_n ?_
                    refine sy_exit ?_
                    refine then_e ?_
                    refine blk_e ?_
                    refine then_n ?_
                    refine sy_ops ?_
                    refine o_v hf hh (y_add rfl rfl) ?_; clear hf a; intro a hf
                    refine o_v hf hh (yv_move rfl) ?_; clear hf a; intro a hf
                    refine ops_end ?_
                    refine then_n ?_
                    replace hh : Hp u [] [(B15, .cells (spV (betV c true (ia : Nat) (ka : Nat))).cells 28), (B14, .cells (spV (betV c false (ia : Nat) (ka : Nat))).cells 28), (B3, .cells (chC c sa cp) 24)] w := hh.pick [8, 9, 10]
                    exact ⟨i + 1, ⟨⟨by omega, hh⟩, (hf.head (by repeat' (first | exact True.intro | refine And.intro rfl ?_)) (Keep.cons rfl (Keep.cons rfl (Keep.cons rfl (Keep.cons rfl (Keep.cons rfl (Keep.cons rfl (Keep.cons rfl (Keep.cons rfl (Keep.cons rfl (Keep.cons rfl (Keep.cons rfl (Keep.cons rfl (Keep.cons rfl (Keep.cons rfl (Keep.cons rfl (Keep.cons rfl (Keep.cons rfl (Keep.cons rfl (Keep.cons rfl (Keep.cons rfl (Keep.cons rfl (Keep.cons rfl (Keep.cons rfl (Keep.cons rfl (Keep.cons rfl (Keep.cons rfl (Keep.cons rfl (Keep.cons rfl (Keep.cons rfl (Keep.cons rfl (Keep.cons rfl (Keep.cons rfl (Keep.cons rfl (Keep.cons rfl (Keep.cons rfl (Keep.cons rfl (Keep.cons rfl (Keep.cons rfl (Keep.cons rfl (Keep.cons rfl (Keep.cons rfl (Keep.cons rfl (Keep.cons rfl (Keep.cons rfl (Keep.cons rfl (Keep.cons rfl (Keep.cons rfl (Keep.cons rfl (Keep.cons rfl (Keep.cons rfl (Keep.cons rfl (Keep.cons rfl (Keep.cons rfl (Keep.cons rfl (Keep.cons rfl (Keep.cons rfl (Keep.cons rfl (Keep.cons rfl (Keep.cons rfl (Keep.cons rfl (Keep.cons rfl (Keep.cons rfl (Keep.cons rfl (Keep.cons rfl (Keep.cons rfl (Keep.cons rfl (Keep.cons rfl (Keep.cons rfl (Keep.cons rfl (Keep.cons rfl (Keep.cons rfl (Keep.cons rfl (Keep.cons rfl (Keep.cons rfl (Keep.cons rfl (Keep.cons rfl (Keep.cons rfl (Keep.cons rfl (Keep.cons rfl (Keep.cons rfl (Keep.cons rfl (Keep.cons rfl (Keep.cons rfl (Keep.cons rfl (Keep.cons rfl (Keep.cons rfl (Keep.cons rfl (Keep.cons rfl (Keep.cons rfl (Keep.cons rfl (Keep.cons rfl (Keep.cons rfl (Keep.cons rfl (Keep.cons rfl (Keep.cons rfl (Keep.cons rfl (Keep.cons rfl (Keep.cons rfl (Keep.cons rfl (Keep.cons rfl (Keep.app rfl (Keep.rm rfl Keep.base)))))))))))))))))))))))))))))))))))))))))))))))))))))))))))))))))))))))))))))))))))))))))))))))))))))))⟩, by omega⟩
             ·have hG122 := hg122; try simp only [gS] at hG122
              refine sy_skip ?_
              refine then_n ?_
              refine sy_seq ?_
              have g11 := i5 (by assumption)
              refine sy_ops ?_
              refine o_v hf hh (yv_move rfl) ?_; clear hf a; intro a hf
              refine o_v hf hh (yv_bin rfl rfl rfl) ?_; clear hf a; intro a hf
              refine o_v hf hh (yv_move rfl) ?_; clear hf a; intro a hf
              refine guard_split hf (t := 193) rfl (fun hg136 => ?_) (fun hg136 => ?_)
              ·have hG136 := hg136; try simp only [gS] at hG136
               refine o_v hf hh (y_lds Try.ag_28 rfl) ?_; clear hf a; intro a hf
               refine o_v hf hh (y_lds Try.ag_28 rfl) ?_; clear hf a; intro a hf
               refine o_v hf hh (yv_cast (yv_eqF [(betV (lessC c i) false (kf : Nat) (kt : Nat)).1, (betV (lessC c i) false (kf : Nat) (kt : Nat)).2] [(betV c false (kf : Nat) (kt : Nat)).1, (betV c false (kf : Nat) (kt : Nat)).2] fl28 rfl rfl) (congrArg Value.bool (pair_dec (betV (lessC c i) false (kf : Nat) (kt : Nat)) (betV c false (kf : Nat) (kt : Nat))))) ?_; clear hf a; intro a hf
               refine o_v hf hh (y_pt rfl rfl) ?_; clear hf a; intro a hf
               refine o_v hf hh (yv_move rfl) ?_; clear hf a; intro a hf
               refine guard_split hf (t := 198) rfl (fun hg138 => ?_) (fun hg138 => ?_)
               ·have hG138 := hg138; try simp only [gS] at hG138
                refine o_v hf hh (y_lds Try.ag_28 rfl) ?_; clear hf a; intro a hf
                refine o_v hf hh (y_lds Try.ag_28 rfl) ?_; clear hf a; intro a hf
                refine o_v hf hh (yv_cast (yv_eqF [(betV (lessC c i) true (kf : Nat) (kt : Nat)).1, (betV (lessC c i) true (kf : Nat) (kt : Nat)).2] [(betV c true (kf : Nat) (kt : Nat)).1, (betV c true (kf : Nat) (kt : Nat)).2] fl28 rfl rfl) (congrArg Value.bool (pair_dec (betV (lessC c i) true (kf : Nat) (kt : Nat)) (betV c true (kf : Nat) (kt : Nat))))) ?_; clear hf a; intro a hf
                refine o_v hf hh (y_pt rfl rfl) ?_; clear hf a; intro a hf
                refine o_v hf hh (yv_move rfl) ?_; clear hf a; intro a hf
                refine guard_split hf (t := 203) rfl (fun hg140 => ?_) (fun hg140 => ?_)
                ·have hG140 := hg140; try simp only [gS] at hG140
                 refine o_off hf ?_; clear hf a; intro a hf
                 refine o_off hf ?_; clear hf a; intro a hf
                 refine o_off hf ?_; clear hf a; intro a hf
                 refine o_off hf ?_; clear hf a; intro a hf
                 refine o_off hf ?_; clear hf a; intro a hf
                 refine o_off hf ?_; clear hf a; intro a hf
                 refine o_v hf hh (y_pt rfl rfl) ?_; clear hf a; intro a hf
                 refine o_end ?_
                 refine c_t hf ?_
                 refine sy_sq ?_
                 refine o_v hf hh (yv_assign rfl) ?_; clear hf a; intro a hf
                 refine o_end ?_
                 refine sy_ret ?_
                 refine blk_r ?_
                 refine then_r ?_
                 refine then_r ?_
                 refine blk_r ?_
                 refine then_r ?_
                 refine ret_r hf rfl rfl ?_
                 first
                   | exact ⟨rfl, hh.ext⟩
                   | (exfalso
                      (repeat (rename Fr _ _ _ _ => z9; clear z9))
                      (repeat (rename Hp _ _ _ _ => z9; clear z9))
                      (try clear hcn); (try clear hat); (try clear hbe)
                      first
                        | (rcases hK with ⟨h1, h2, h3⟩ | ⟨h1, h2, h3⟩ | ⟨h1, h2, h3⟩ <;> first | (omega; done) | (simp_all; done))
                        | (omega; done)
                        | (simp_all; done)
                        | (simp_all <;> omega))
                ·have hG140 := hg140; try simp only [gS] at hG140
                 refine o_v hf hh (yv_move rfl) ?_; clear hf a; intro a hf
                 refine o_v hf hh (yv_bin rfl rfl rfl) ?_; clear hf a; intro a hf
                 refine o_v hf hh (yv_move rfl) ?_; clear hf a; intro a hf
                 refine guard_split hf (t := 206) rfl (fun hg142 => ?_) (fun hg142 => ?_)
                 ·have hG142 := hg142; try simp only [gS] at hG142
                  refine o_v hf hh (yv_move rfl) ?_; clear hf a; intro a hf
                  refine o_v hf hh (yv_bin rfl rfl rfl) ?_; clear hf a; intro a hf
                  refine o_v hf hh (y_pt rfl rfl) ?_; clear hf a; intro a hf
                  refine o_v hf hh (y_pf rfl rfl) ?_; clear hf a; intro a hf
                  refine o_end ?_
                  refine sy_cond hf rfl (fun hg144 => ?_) (fun hg144 => ?_)
                  ·have hG144 := hg144; try simp only [gS] at hG144
                   refine sy_sq ?_
                   refine o_v hf hh (yv_assign rfl) ?_; clear hf a; intro a hf
                   refine o_end ?_
                   refine sy_ret ?_
                   refine blk_r ?_
                   refine then_r ?_
                   refine then_r ?_
                   refine blk_r ?_
                   refine then_r ?_
                   refine ret_r hf rfl rfl ?_
                   first
                     | exact ⟨rfl, hh.ext⟩
                     | (exfalso
                        (repeat (rename Fr _ _ _ _ => z9; clear z9))
                        (repeat (rename Hp _ _ _ _ => z9; clear z9))
                        (try clear hcn); (try clear hat); (try clear hbe)
                        first
                          | (rcases hK with ⟨h1, h2, h3⟩ | ⟨h1, h2, h3⟩ | ⟨h1, h2, h3⟩ <;> first | (omega; done) | (simp_all; done))
                          | (omega; done)
                          | (simp_all; done)
                          | (simp_all <;> omega))
                  ·have hG144 := hg144; try simp only [gS] at hG144
                   refine sy_skip ?_
                   refine blk_n ?_
                   refine then_n ?_
                   refine sy_ops ?_
                   refine o_v hf hh (y_add rfl rfl) ?_; clear hf a; intro a hf
                   refine o_v hf hh (yv_move rfl) ?_; clear hf a; intro a hf
                   refine ops_end ?_
                   refine then_n ?_
                   replace hh : Hp u [] [(B15, .cells (spV (betV c true (ia : Nat) (ka : Nat))).cells 28), (B14, .cells (spV (betV c false (ia : Nat) (ka : Nat))).cells 28), (B3, .cells (chC c sa cp) 24)] w := hh.pick [8, 9, 10]
                   exact ⟨i + 1, ⟨⟨by omega, hh⟩, (hf.head (by repeat' (first | exact True.intro | refine And.intro rfl ?_)) (Keep.cons rfl (Keep.cons rfl (Keep.cons rfl (Keep.cons rfl (Keep.cons rfl (Keep.cons rfl (Keep.cons rfl (Keep.cons rfl (Keep.cons rfl (Keep.cons rfl (Keep.cons rfl (Keep.cons rfl (Keep.cons rfl (Keep.cons rfl (Keep.cons rfl (Keep.cons rfl (Keep.cons rfl (Keep.cons rfl (Keep.cons rfl (Keep.cons rfl (Keep.cons rfl (Keep.cons rfl (Keep.cons rfl (Keep.cons rfl (Keep.cons rfl (Keep.cons rfl (Keep.cons rfl (Keep.cons rfl (Keep.cons rfl (Keep.cons rfl (Keep.cons rfl (Keep.cons rfl (Keep.cons rfl (Keep.cons rfl (Keep.cons rfl (Keep.cons rfl (Keep.cons rfl (Keep.cons rfl (Keep.cons rfl (Keep.cons rfl (Keep.cons rfl (Keep.cons rfl (Keep.cons rfl (Keep.cons rfl (Keep.cons rfl (Keep.cons rfl (Keep.cons rfl (Keep.cons rfl (Keep.cons rfl (Keep.cons rfl (Keep.cons rfl (Keep.cons rfl (Keep.cons rfl (Keep.cons rfl (Keep.cons rfl (Keep.cons rfl (Keep.cons rfl (Keep.cons rfl (Keep.cons rfl (Keep.cons rfl (Keep.cons rfl (Keep.cons rfl (Keep.cons rfl (Keep.cons rfl (Keep.cons rfl (Keep.cons rfl (Keep.cons rfl (Keep.cons rfl (Keep.cons rfl (Keep.cons rfl (Keep.cons rfl (Keep.cons rfl (Keep.cons rfl (Keep.cons rfl (Keep.cons rfl (Keep.cons rfl (Keep.cons rfl (Keep.cons rfl (Keep.cons rfl (Keep.cons rfl (Keep.cons rfl (Keep.cons rfl (Keep.cons rfl (Keep.cons rfl (Keep.cons rfl (Keep.cons rfl (Keep.cons rfl (Keep.cons rfl (Keep.cons rfl (Keep.cons rfl (Keep.cons rfl (Keep.cons rfl (Keep.cons rfl (Keep.app rfl (Keep.rm rfl Keep.base))))))))))))))))))))))))))))))))))))))))))))))))))))))))))))))))))))))))))))))))))))))))))))))))⟩, by omega⟩
                 ·have hG142 := hg142; try simp only [gS] at hG142
                  refine o_off hf ?_; clear hf a; intro a hf
                  refine o_off hf ?_; clear hf a; intro a hf
                  refine o_v hf hh (y_pf rfl rfl) ?_; clear hf a; intro a hf
                  refine o_v hf hh (y_pf rfl rfl) ?_; clear hf a; intro a hf
                  refine o_end ?_
                  refine c_f hf ?_
                  refine sy_skip ?_
                  refine blk_n ?_
                  refine then_n ?_
                  refine sy_ops ?_
                  refine o_v hf hh (y_add rfl rfl) ?_; clear hf a; intro a hf
                  refine o_v hf hh (yv_move rfl) ?_; clear hf a; intro a hf
                  refine ops_end ?_
                  refine then_n ?_
                  replace hh : Hp u [] [(B15, .cells (spV (betV c true (ia : Nat) (ka : Nat))).cells 28), (B14, .cells (spV (betV c false (ia : Nat) (ka : Nat))).cells 28), (B3, .cells (chC c sa cp) 24)] w := hh.pick [8, 9, 10]
                  exact ⟨i + 1, ⟨⟨by omega, hh⟩, (hf.head (by repeat' (first | exact True.intro | refine And.intro rfl ?_)) (Keep.cons rfl (Keep.cons rfl (Keep.cons rfl (Keep.cons rfl (Keep.cons rfl (Keep.cons rfl (Keep.cons rfl (Keep.cons rfl (Keep.cons rfl (Keep.cons rfl (Keep.cons rfl (Keep.cons rfl (Keep.cons rfl (Keep.cons rfl (Keep.cons rfl (Keep.cons rfl (Keep.cons rfl (Keep.cons rfl (Keep.cons rfl (Keep.cons rfl (Keep.cons rfl (Keep.cons rfl (Keep.cons rfl (Keep.cons rfl (Keep.cons rfl (Keep.cons rfl (Keep.cons rfl (Keep.cons rfl (Keep.cons rfl (Keep.cons rfl (Keep.cons rfl (Keep.cons rfl (Keep.cons rfl (Keep.cons rfl (Keep.cons rfl (Keep.cons rfl (Keep.cons rfl (Keep.cons rfl (Keep.cons rfl (Keep.cons rfl (Keep.cons rfl (Keep.cons rfl (Keep.cons rfl (Keep.cons rfl (Keep.cons rfl (Keep.cons rfl (Keep.cons rfl (Keep.cons rfl (Keep.cons rfl (Keep.cons rfl (Keep.cons rfl (Keep.cons rfl (Keep.cons rfl (Keep.cons rfl (Keep.cons rfl (Keep.cons rfl (Keep.cons rfl (Keep.cons rfl (Keep.cons rfl (Keep.cons rfl (Keep.cons rfl (Keep.cons rfl (Keep.cons rfl (Keep.cons rfl (Keep.cons rfl (Keep.cons rfl (Keep.cons rfl (Keep.cons rfl (Keep.cons rfl (Keep.cons rfl (Keep.cons rfl (Keep.cons rfl (Keep.cons rfl (Keep.cons rfl (Keep.cons rfl (Keep.cons rfl (Keep.cons rfl (Keep.cons rfl (Keep.cons rfl (Keep.cons rfl (Keep.cons rfl (Keep.cons rfl (Keep.cons rfl (Keep.cons rfl (Keep.cons rfl (Keep.cons rfl (Keep.cons rfl (Keep.cons rfl (Keep.cons rfl (Keep.cons rfl (Keep.cons rfl (Keep.cons rfl (Keep.cons rfl (Keep.app rfl (Keep.rm rfl Keep.base))))))))))))))))))))))))))))))))))))))))))))))))))))))))))))))))))))))))))))))))))))))))))))))))⟩, by omega⟩
               ·have hG138 := hg138; try simp only [gS] at hG138
                refine o_off hf ?_; clear hf a; intro a hf
                refine o_off hf ?_; clear hf a; intro a hf
                refine o_off hf ?_; clear hf a; intro a hf
                refine o_v hf hh (y_pf rfl rfl) ?_; clear hf a; intro a hf
                refine o_v hf hh (yv_move rfl) ?_; clear hf a; intro a hf
                refine o_v hf hh (yv_move rfl) ?_; clear hf a; intro a hf
                refine o_v hf hh (yv_bin rfl rfl rfl) ?_; clear hf a; intro a hf
                refine o_v hf hh (yv_move rfl) ?_; clear hf a; intro a hf
                refine guard_split hf (t := 206) rfl (fun hg146 => ?_) (fun hg146 => ?_)
                ·have hG146 := hg146; try simp only [gS] at hG146
                 refine o_v hf hh (yv_move rfl) ?_; clear hf a; intro a hf
                 refine o_v hf hh (yv_bin rfl rfl rfl) ?_; clear hf a; intro a hf
                 refine o_v hf hh (y_pt rfl rfl) ?_; clear hf a; intro a hf
                 refine o_v hf hh (y_pf rfl rfl) ?_; clear hf a; intro a hf
                 refine o_end ?_
                 refine sy_cond hf rfl (fun hg148 => ?_) (fun hg148 => ?_)
                 ·have hG148 := hg148; try simp only [gS] at hG148
                  refine sy_sq ?_
                  refine o_v hf hh (yv_assign rfl) ?_; clear hf a; intro a hf
                  refine o_end ?_
                  refine sy_ret ?_
                  refine blk_r ?_
                  refine then_r ?_
                  refine then_r ?_
                  refine blk_r ?_
                  refine then_r ?_
                  refine ret_r hf rfl rfl ?_
                  first
                    | exact ⟨rfl, hh.ext⟩
                    | (exfalso
                       (repeat (rename Fr _ _ _ _ => z9; clear z9))
                       (repeat (rename Hp _ _ _ _ => z9; clear z9))
                       (try clear hcn); (try clear hat); (try clear hbe)
                       first
                         | (rcases hK with ⟨h1, h2, h3⟩ | ⟨h1, h2, h3⟩ | ⟨h1, h2, h3⟩ <;> first | (omega; done) | (simp_all; done))
                         | (omega; done)
                         | (simp_all; done)
                         | (simp_all <;> omega))
                 ·have hG148 := hg148; try simp only [gS] at hG148
                  refine sy_skip ?_
                  refine blk_n ?_
                  refine then_n ?_
                  refine sy_ops ?_
                  refine o_v hf hh (y_add rfl rfl) ?_; clear hf a; intro a hf
                  refine o_v hf hh (yv_move rfl) ?_; clear hf a; intro a hf
                  refine ops_end ?_
                  refine then_n ?_
                  replace hh : Hp u [] [(B15, .cells (spV (betV c true (ia : Nat) (ka : Nat))).cells 28), (B14, .cells (spV (betV c false (ia : Nat) (ka : Nat))).cells 28), (B3, .cells (chC c sa cp) 24)] w := hh.pick [8, 9, 10]
                  exact ⟨i + 1, ⟨⟨by omega, hh⟩, (hf.head (by repeat' (first | exact True.intro | refine And.intro rfl ?_)) (Keep.cons rfl (Keep.cons rfl (Keep.cons rfl (Keep.cons rfl (Keep.cons rfl (Keep.cons rfl (Keep.cons rfl (Keep.cons rfl (Keep.cons rfl (Keep.cons rfl (Keep.cons rfl (Keep.cons rfl (Keep.cons rfl (Keep.cons rfl (Keep.cons rfl (Keep.cons rfl (Keep.cons rfl (Keep.cons rfl (Keep.cons rfl (Keep.cons rfl (Keep.cons rfl (Keep.cons rfl (Keep.cons rfl (Keep.cons rfl (Keep.cons rfl (Keep.cons rfl (Keep.cons rfl (Keep.cons rfl (Keep.cons rfl (Keep.cons rfl (Keep.cons rfl (Keep.cons rfl (Keep.cons rfl (Keep.cons rfl (Keep.cons rfl (Keep.cons rfl (Keep.cons rfl (Keep.cons rfl (Keep.cons rfl (Keep.cons rfl (Keep.cons rfl (Keep.cons rfl (Keep.cons rfl (Keep.cons rfl (Keep.cons rfl (Keep.cons rfl (Keep.cons rfl (Keep.cons rfl (Keep.cons rfl (Keep.cons rfl (Keep.cons rfl (Keep.cons rfl (Keep.cons rfl (Keep.cons rfl (Keep.cons rfl (Keep.cons rfl (Keep.cons rfl (Keep.cons rfl (Keep.cons rfl (Keep.cons rfl (Keep.cons rfl (Keep.cons rfl (Keep.cons rfl (Keep.cons rfl (Keep.cons rfl (Keep.cons rfl (Keep.cons rfl (Keep.cons rfl (Keep.cons rfl (Keep.cons rfl (Keep.cons rfl (Keep.cons rfl (Keep.cons rfl (Keep.cons rfl (Keep.cons rfl (Keep.cons rfl (Keep.cons rfl (Keep.cons rfl (Keep.cons rfl (Keep.cons rfl (Keep.cons rfl (Keep.cons rfl (Keep.cons rfl (Keep.cons rfl (Keep.cons rfl (Keep.cons rfl (Keep.cons rfl (Keep.cons rfl (Keep.cons rfl (Keep.cons rfl (Keep.cons rfl (Keep.cons rfl (Keep.cons rfl (Keep.app rfl (Keep.rm rfl Keep.base))))))))))))))))))))))))))))))))))))))))))))))))))))))))))))))))))))))))))))))))))))))))))))))))⟩, by omega⟩
                ·have hG146 := hg146; try simp only [gS] at hG146
                 refine o_off hf ?_; clear hf a; intro a hf
                 refine o_off hf ?_; clear hf a; intro a hf
                 refine o_v hf hh (y_pf rfl rfl) ?_; clear hf a; intro a hf
                 refine o_v hf hh (y_pf rfl rfl) ?_; clear hf a; intro a hf
                 refine o_end ?_
                 refine c_f hf ?_
                 refine sy_skip ?_
                 refine blk_n ?_
                 refine then_n ?_
                 refine sy_ops ?_
                 refine o_v hf hh (y_add rfl rfl) ?_; clear hf a; intro a hf
                 refine o_v hf hh (yv_move rfl) ?_; clear hf a; intro a hf
                 refine ops_end ?_
                 refine then_n ?_
                 replace hh : Hp u [] [(B15, .cells (spV (betV c true (ia : Nat) (ka : Nat))).cells 28), (B14, .cells (spV (betV c false (ia : Nat) (ka : Nat))).cells 28), (B3, .cells (chC c sa cp) 24)] w := hh.pick [8, 9, 10]
                 exact ⟨i + 1, ⟨⟨by omega, hh⟩, (hf.head (by repeat' (first | exact True.intro | refine And.intro rfl ?_)) (Keep.cons rfl (Keep.cons rfl (Keep.cons rfl (Keep.cons rfl (Keep.cons rfl (Keep.cons rfl (Keep.cons rfl (Keep.cons rfl (Keep.cons rfl (Keep.cons rfl (Keep.cons rfl (Keep.cons rfl (Keep.cons rfl (Keep.cons rfl (Keep.cons rfl (Keep.cons rfl (Keep.cons rfl (Keep.cons rfl (Keep.cons rfl (Keep.cons rfl (Keep.cons rfl (Keep.cons rfl (Keep.cons rfl (Keep.cons rfl (Keep.cons rfl (Keep.cons rfl (Keep.cons rfl (Keep.cons rfl (Keep.cons rfl (Keep.cons rfl (Keep.cons rfl (Keep.cons rfl (Keep.cons rfl (Keep.cons rfl (Keep.cons rfl (Keep.cons rfl (Keep.cons rfl (Keep.cons rfl (Keep.cons rfl (Keep.cons rfl (Keep.cons rfl (Keep.cons rfl (Keep.cons rfl (Keep.cons rfl (Keep.cons rfl (Keep.cons rfl (Keep.cons rfl (Keep.cons rfl (Keep.cons rfl (Keep.cons rfl (Keep.cons rfl (Keep.cons rfl (Keep.cons rfl (Keep.cons rfl (Keep.cons rfl (Keep.cons rfl (Keep.cons rfl (Keep.cons rfl (Keep.cons rfl (Keep.cons rfl (Keep.cons rfl (Keep.cons rfl (Keep.cons rfl (Keep.cons rfl (Keep.cons rfl (Keep.cons rfl (Keep.cons rfl (Keep.cons rfl (Keep.cons rfl (Keep.cons rfl (Keep.cons rfl (Keep.cons rfl (Keep.cons rfl (Keep.cons rfl (Keep.cons rfl (Keep.cons rfl (Keep.cons rfl (Keep.cons rfl (Keep.cons rfl (Keep.cons rfl (Keep.cons rfl (Keep.cons rfl (Keep.cons rfl (Keep.cons rfl (Keep.cons rfl (Keep.cons rfl (Keep.cons rfl (Keep.cons rfl (Keep.cons rfl (Keep.cons rfl (Keep.cons rfl (Keep.cons rfl (Keep.cons rfl (Keep.app rfl (Keep.rm rfl Keep.base))))))))))))))))))))))))))))))))))))))))))))))))))))))))))))))))))))))))))))))))))))))))))))))))⟩, by omega⟩
              ·have hG136 := hg136; try simp only [gS] at hG136
               refine o_off hf ?_; clear hf a; intro a hf
               refine o_off hf ?_; clear hf a; intro a hf
               refine o_off hf ?_; clear hf a; intro a hf
               refine o_v hf hh (y_pf rfl rfl) ?_; clear hf a; intro a hf
               refine o_v hf hh (yv_move rfl) ?_; clear hf a; intro a hf
               refine o_off hf ?_; clear hf a; intro a hf
               refine o_off hf ?_; clear hf a; intro a hf
               refine o_off hf ?_; clear hf a; intro a hf
               refine o_v hf hh (y_pf rfl rfl) ?_; clear hf a; intro a hf
               refine o_v hf hh (yv_move rfl) ?_; clear hf a; intro a hf
               refine o_v hf hh (yv_move rfl) ?_; clear hf a; intro a hf
               refine o_v hf hh (yv_bin rfl rfl rfl) ?_; clear hf a; intro a hf
               refine o_v hf hh (yv_move rfl) ?_; clear hf a; intro a hf
               refine guard_split hf (t := 206) rfl (fun hg150 => ?_) (fun hg150 => ?_)
               ·have hG150 := hg150; try simp only [gS] at hG150
                refine o_v hf hh (yv_move rfl) ?_; clear hf a; intro a hf
                refine o_v hf hh (yv_bin rfl rfl rfl) ?_; clear hf a; intro a hf
                refine o_v hf hh (y_pt rfl rfl) ?_; clear hf a; intro a hf
                refine o_v hf hh (y_pf rfl rfl) ?_; clear hf a; intro a hf
                refine o_end ?_
                refine sy_cond hf rfl (fun hg152 => ?_) (fun hg152 => ?_)
                ·have hG152 := hg152; try simp only [gS] at hG152
                 refine sy_sq ?_
                 refine o_v hf hh (yv_assign rfl) ?_; clear hf a; intro a hf
                 refine o_end ?_
                 refine sy_ret ?_
                 refine blk_r ?_
                 refine then_r ?_
                 refine then_r ?_
                 refine blk_r ?_
                 refine then_r ?_
                 refine ret_r hf rfl rfl ?_
                 first
                   | exact ⟨rfl, hh.ext⟩
                   | (exfalso
                      (repeat (rename Fr _ _ _ _ => z9; clear z9))
                      (repeat (rename Hp _ _ _ _ => z9; clear z9))
                      (try clear hcn); (try clear hat); (try clear hbe)
                      first
                        | (rcases hK with ⟨h1, h2, h3⟩ | ⟨h1, h2, h3⟩ | ⟨h1, h2, h3⟩ <;> first | (omega; done) | (simp_all; done))
                        | (omega; done)
                        | (simp_all; done)
                        | (simp_all <;> omega))
                ·have hG152 := hg152; try simp only [gS] at hG152
                 refine sy_skip ?_
                 refine blk_n ?_
                 refine then_n ?_
                 refine sy_ops ?_
                 refine o_v hf hh (y_add rfl rfl) ?_; clear hf a; intro a hf
                 refine o_v hf hh (yv_move rfl) ?_; clear hf a; intro a hf
                 refine ops_end ?_
                 refine then_n ?_
                 replace hh : Hp u [] [(B15, .cells (spV (betV c true (ia : Nat) (ka : Nat))).cells 28), (B14, .cells (spV (betV c false (ia : Nat) (ka : Nat))).cells 28), (B3, .cells (chC c sa cp) 24)] w := hh.pick [8, 9, 10]
                 exact ⟨i + 1, ⟨⟨by omega, hh⟩, (hf.head (by repeat' (first | exact True.intro | refine And.intro rfl ?_)) (Keep.cons rfl (Keep.cons rfl (Keep.cons rfl (Keep.cons rfl (Keep.cons rfl (Keep.cons rfl (Keep.cons rfl (Keep.cons rfl (Keep.cons rfl (Keep.cons rfl (Keep.cons rfl (Keep.cons rfl (Keep.cons rfl (Keep.cons rfl (Keep.cons rfl (Keep.cons rfl (Keep.cons rfl (Keep.cons rfl (Keep.cons rfl (Keep.cons rfl (Keep.cons rfl (Keep.cons rfl (Keep.cons rfl (Keep.cons rfl (Keep.cons rfl (Keep.cons rfl (Keep.cons rfl (Keep.cons rfl (Keep.cons rfl (Keep.cons rfl (Keep.cons rfl (Keep.cons rfl (Keep.cons rfl (Keep.cons rfl (Keep.cons rfl (Keep.cons rfl (Keep.cons rfl (Keep.cons rfl (Keep.cons rfl (Keep.cons rfl (Keep.cons rfl (Keep.cons rfl (Keep.cons rfl (Keep.cons rfl (Keep.cons rfl (Keep.cons rfl (Keep.cons rfl (Keep.cons rfl (Keep.cons rfl (Keep.cons rfl (Keep.cons rfl (Keep.cons rfl (Keep.cons rfl (Keep.cons rfl (Keep.cons rfl (Keep.cons rfl (Keep.cons rfl (Keep.cons rfl (Keep.cons rfl (Keep.cons rfl (Keep.cons rfl (Keep.cons rfl (Keep.cons rfl (Keep.cons rfl (Keep.cons rfl (Keep.cons rfl (Keep.cons rfl (Keep.cons rfl (Keep.cons rfl (Keep.cons rfl (Keep.cons rfl (Keep.cons rfl (Keep.cons rfl (Keep.cons rfl (Keep.cons rfl (Keep.cons rfl (Keep.cons rfl (Keep.cons rfl (Keep.cons rfl (Keep.cons rfl (Keep.cons rfl (Keep.cons rfl (Keep.cons rfl (Keep.cons rfl (Keep.cons rfl (Keep.cons rfl (Keep.cons rfl (Keep.cons rfl (Keep.cons rfl (Keep.cons rfl (Keep.cons rfl (Keep.cons rfl (Keep.cons rfl (Keep.app rfl (Keep.rm rfl Keep.base))))))))))))))))))))))))))))))))))))))))))))))))))))))))))))))))))))))))))))))))))))))))))))))))⟩, by omega⟩
               ·have hG150 := hg150; try simp only [gS] at hG150
                refine o_off hf ?_; clear hf a; intro a hf
                refine o_off hf ?_; clear hf a; intro a hf
                refine o_v hf hh (y_pf rfl rfl) ?_; clear hf a; intro a hf
                refine o_v hf hh (y_pf rfl rfl) ?_; clear hf a; intro a hf
                refine o_end ?_
                refine c_f hf ?_
                refine sy_skip ?_
                refine blk_n ?_
                refine then_n ?_
                refine sy_ops ?_
                refine o_v hf hh (y_add rfl rfl) ?_; clear hf a; intro a hf
                refine o_v hf hh (yv_move rfl) ?_; clear hf a; intro a hf
                refine ops_end ?_
                refine then_n ?_
                replace hh : Hp u [] [(B15, .cells (spV (betV c true (ia : Nat) (ka : Nat))).cells 28), (B14, .cells (spV (betV c false (ia : Nat) (ka : Nat))).cells 28), (B3, .cells (chC c sa cp) 24)] w := hh.pick [8, 9, 10]
                exact ⟨i + 1, ⟨⟨by omega, hh⟩, (hf.head (by repeat' (first | exact True.intro | refine And.intro rfl ?_)) (Keep.cons rfl (Keep.cons rfl (Keep.cons rfl (Keep.cons rfl (Keep.cons rfl (Keep.cons rfl (Keep.cons rfl (Keep.cons rfl (Keep.cons rfl (Keep.cons rfl (Keep.cons rfl (Keep.cons rfl (Keep.cons rfl (Keep.cons rfl (Keep.cons rfl (Keep.cons rfl (Keep.cons rfl (Keep.cons rfl (Keep.cons rfl (Keep.cons rfl (Keep.cons rfl (Keep.cons rfl (Keep.cons rfl (Keep.cons rfl (Keep.cons rfl (Keep.cons rfl (Keep.cons rfl (Keep.cons rfl (Keep.cons rfl (Keep.cons rfl (Keep.cons rfl (Keep.cons rfl (Keep.cons rfl (Keep.cons rfl (Keep.cons rfl (Keep.cons rfl (Keep.cons rfl (Keep.cons rfl (Keep.cons rfl (Keep.cons rfl (Keep.cons rfl (Keep.cons rfl (Keep.cons rfl (Keep.cons rfl (Keep.cons rfl (Keep.cons rfl (Keep.cons rfl (Keep.cons rfl (Keep.cons rfl (Keep.cons rfl (Keep.cons rfl (Keep.cons rfl (Keep.cons rfl (Keep.cons rfl (Keep.cons rfl (Keep.cons rfl (Keep.cons rfl (Keep.cons rfl (Keep.cons rfl (Keep.cons rfl (Keep.cons rfl (Keep.cons rfl (Keep.cons rfl (Keep.cons rfl (Keep.cons rfl (Keep.cons rfl (Keep.cons rfl (Keep.cons rfl (Keep.cons rfl (Keep.cons rfl (Keep.cons rfl (Keep.cons rfl (Keep.cons rfl (Keep.cons rfl (Keep.cons rfl (Keep.cons rfl (Keep.cons rfl (Keep.cons rfl (Keep.cons rfl (Keep.cons rfl (Keep.cons rfl (Keep.cons rfl (Keep.cons rfl (Keep.cons rfl (Keep.cons rfl (Keep.cons rfl (Keep.cons rfl (Keep.cons rfl (Keep.cons rfl (Keep.cons rfl (Keep.cons rfl (Keep.cons rfl (Keep.cons rfl (Keep.app rfl (Keep.rm rfl Keep.base))))))))))))))))))))))))))))))))))))))))))))))))))))))))))))))))))))))))))))))))))))))))))))))))⟩, by omega⟩
        ·have hG43 := hg43; try simp only [gS] at hG43
         refine sy_exit ?_
         refine then_e ?_
         refine then_e ?_
         refine blk_e ?_
         refine then_n ?_
         refine sy_sq ?_
         refine o_call hf Try.en_14 rfl rfl rfl (p14 _) ?_; clear hf a; intro v a w hR hf
         obtain ⟨rfl, hx⟩ := hR; replace hh := hh.more hx; clear hx
         refine o_v hf hh (yv_assign rfl) ?_; clear hf a; intro a hf
         refine o_end ?_
         refine sy_ret ?_
         refine ret_r hf rfl rfl ?_
         first
           | exact ⟨rfl, hh.ext⟩
           | (exfalso
              (repeat (rename Fr _ _ _ _ => z9; clear z9))
              (repeat (rename Hp _ _ _ _ => z9; clear z9))
              (try clear hcn); (try clear hat); (try clear hbe)
              first
                | (rcases hK with ⟨h1, h2, h3⟩ | ⟨h1, h2, h3⟩ | ⟨h1, h2, h3⟩ <;> first | (omega; done) | (simp_all; done))
                | (omega; done)
                | (simp_all; done)
                | (simp_all <;> omega))
end Go.Proofs.Ytccjnjhlnpgocaa
namespace Go.Proofs.Ytccjnjhlnpgocaa
open Go Go.Sy Go.ChaM Go.ChangeShapes Go.WideShapes Go.Deep Go.RowKit
theorem hs24 : Try.prog.underlying 24 = some (.struct (Try.prog.fieldsOf 24)) := by kernel_rfl
theorem fs24 : (Try.prog.fieldsOf 24).map (fun f => (f.offset, f.type)) = #[(0, 3), (1, 22)] := by kernel_rfl
theorem co24 : Try.prog.cellsOf 24 = 2 := by kernel_rfl
theorem co22 : Try.prog.cellsOf 22 = 1 := by kernel_rfl
theorem co3 : Try.prog.cellsOf 3 = 1 := by kernel_rfl
theorem un22 : Try.prog.underlying 22 = some (.slice 46) := by kernel_rfl
theorem un42 : Try.prog.underlying 42 = some (.slice 56) := by kernel_rfl
theorem un56 : Try.prog.underlying 56 = some (.int .u16) := by kernel_rfl
theorem un5 : Try.prog.underlying 5 = some (.int .u8) := by kernel_rfl
theorem hs46 : Try.prog.underlying 46 = some (.struct (Try.prog.fieldsOf 46)) := by kernel_rfl
theorem co46 : Try.prog.cellsOf 46 = 6 := by kernel_rfl
theorem fk46 : flK Try.prog .i64 9 46 = some 6 := by kernel_rfl
theorem fk56 : flK Try.prog .u16 9 56 = some 1 := by kernel_rfl
theorem un4 : Try.prog.underlying 4 = some .bool := by kernel_rfl
theorem own : ownKnob Try.prog.godebug = none := by kernel_rfl
def toSi (p : List Int) : SiD := match p with
  | [a, b, c, d, e, f] => ⟨a, b, c, d, e, f⟩
  | _ => ⟨0, 0, 0, 0, 0, 0⟩
theorem toSi_enc {p : List Int} (h : p.length = 6) : siC (toSi p) = p.map (Value.int .i64) := by
  match p, h with
  | [a, b, c, d, e, f], _ => rfl
theorem toSi_bd {p : List Int} (h : p.length = 6) (hb : ∀ z ∈ p, I64 z) : SiI (toSi p) := by
  match p, h with
  | [a, b, c, d, e, f], _ => exact ⟨hb a (by simp), hb b (by simp), hb c (by simp), hb d (by simp), hb e (by simp), hb f (by simp)⟩
theorem tAt_flat {α : Type} {W : World} {sa : Option Addr} {l : List (List Int)} {n : Nat} {enc : α → List Value} {f : List Int → α} (hf : ∀ p ∈ l, enc (f p) = p.map (Value.int .i64)) (h : FlatAt W .i64 sa n l) : TAt n enc W sa (l.map f) := fun i s hi => by
  rw [List.getElem?_map] at hi
  cases hp : l[i]? with
  | none => rw [hp] at hi; cases hi
  | some p =>
    rw [hp] at hi
    cases hi
    obtain ⟨blk, off, c, T, fr, h1, h2, h3⟩ := h i p hp
    exact ⟨blk, off, c, T, fr, h1, h2, by rw [hf p (List.mem_of_getElem? hp)]; exact h3⟩
theorem len2 {l : List Value} (h : l.length = 2) : ∃ a b, l = [a, b] := by
  match l, h with
  | [a, b], _ => exact ⟨a, b, rfl⟩
section
variable {H : Type} {enc : TypeId × Value → H} {W : World} {base : Nat} {spare : Nat → Bool} {held : Bool}
set_option maxRecDepth 100000 in
theorem openCha {r : Reach} {b0 : Nat} {v : Value} {d : DataW H} {p : List MemPlace} (hv : Value.okWide Try.prog W r b0 24 v) (h : DataW.Trod enc Try.prog W base spare held 24 v d p) : ∃ (c : ChD) (sa : Option Addr) (cp : Nat), v = .agg (chC c sa cp) ∧ ChIn W c sa ∧ c.si.length ≤ cp := by
  obtain ⟨cs, rfl, hsz⟩ := okWide_struct hs24 hv
  obtain ⟨fuel, h⟩ := h
  obtain ⟨_, hf⟩ := trod_field hs24 h
  rw [fs24] at hf
  rw [co24] at hsz
  obtain ⟨l, rfl⟩ : ∃ l : List Value, cs = l.toArray := ⟨cs.toList, by simp⟩
  obtain ⟨c0, c1, rfl⟩ := len2 (by simpa using hsz)
  replace hf : ∀ (i o : Nat) (u : TypeId) (c : Nat), (#[(0, 3), (1, 22)] : Array (Nat × TypeId))[i]? = some (o, u) → Try.prog.cellsOf u = c → ∃ n y, DataW.trod enc Try.prog W base spare held n u (([c0, c1].drop o).take c) = some y := hf
  obtain ⟨_, y0, g0⟩ := hf 0 0 3 1 rfl co3
  obtain ⟨_, _, g1⟩ := hf 1 1 22 1 rfl co22
  obtain ⟨n, e1, _, hn⟩ := DataW.trod_int Try.un_3 g0
  obtain ⟨l1, s1, a1, e2, m1, b1, f1⟩ := trod_slices un22 fk46 (by omega) g1
  have hc1 := trod_cap un22 e2 g1
  simp at e1 e2
  subst e1; subst e2
  refine ⟨⟨n, l1.map toSi⟩, s1, a1, by simp, ⟨tAt_flat (fun p hp => toSi_enc (b1 p hp).1) f1, wf64 hn, fun s hs => ?_⟩, by simpa using hc1⟩
  obtain ⟨p, hp, rfl⟩ := List.mem_map.1 hs
  exact toSi_bd (b1 p hp).1 (fun z hz => wf64 ((b1 p hp).2 z hz))
set_option maxRecDepth 100000 in
theorem openSi {r : Reach} {b0 : Nat} {v : Value} {d : DataW H} {p : List MemPlace} (hv : Value.okWide Try.prog W r b0 46 v) (h : DataW.Trod enc Try.prog W base spare held 46 v d p) : ∃ t : SiD, v = siV t ∧ SiI t := by
  obtain ⟨cs, rfl, hsz⟩ := okWide_struct hs46 hv
  obtain ⟨fuel, h⟩ := h
  obtain ⟨p, h1, h2, h3⟩ := trod_fl fk46 h
  refine ⟨toSi p, ?_, toSi_bd h1 (fun z hz => wf64 (h3 z hz))⟩
  match p, h1 with
  | [x1, x2, x3, x4, x5, x6], _ =>
    have e : cs = #[.int .i64 x1, .int .i64 x2, .int .i64 x3, .int .i64 x4, .int .i64 x5, .int .i64 x6] := by
      apply Array.ext'
      have h4 : cs.toList = [x1, x2, x3, x4, x5, x6].map (Value.int .i64) := h2
      rw [h4]; rfl
    subst e
    rfl
end
end Go.Proofs.Ytccjnjhlnpgocaa
