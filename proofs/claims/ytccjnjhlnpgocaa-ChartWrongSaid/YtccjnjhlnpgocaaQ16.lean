/- Lemmas, in order: The document's Why. The document's Drop. ChartWrong. What a law is handed, opened: charts, sights, numbers.. -/
import Derived.Test.YtccjnjhlnpgocaaQ15
import Derived.Test.YtccjnjhlnpgocaaRows
import Derived.Test.YtccjnjhlnpgocaaChecked
import Derived.JoinedOf
import Derived.LaidLaws
import Derived.RowKit
import Derived.RowKitTokens
import Derived.LaidHandle
import Derived.Stop.Joined
import Derived.Lay
import Derived.SizedLaws
import Derived.SevenTiedAt
namespace Go.Proofs.Ytccjnjhlnpgocaa
open Go Go.Sy Go.ChaM
set_option maxRecDepth 100000 in
theorem p25 (c : ChD) (sa : Option Addr) (cp : Nat) (u : World) (hA : ChAt u c sa) : Calls Try.prog 25 #[.agg (chC c sa cp)] u (Ret fun v w' => v = .tuple #[.int .i64 (whyV c : Nat), .int .i64 (whyE c)] ∧ Ext [] u w') := by
  refine calls_of Try.func25 rfl rfl (fun a hf => ?_)
  have hh := Hp.init u []
  have hl9 := hA.len
  refine sy_sq ?_
  refine o_box hf hh ?_; clear hf hh a; intro B1 a w hf hh
  refine o_v hf hh (yv_assign rfl) ?_; clear hf a; intro a hf
  refine o_v hf hh (yv_assign rfl) ?_; clear hf a; intro a hf
  refine o_end ?_
  refine sy_seq ?_
  refine sy_sq ?_
  refine o_v hf hh (y_lds Try.ag_24 rfl) ?_; clear hf a; intro a hf
  refine o_call hf Try.en_31 rfl rfl rfl (p31 c sa cp _ (hA.ext hh.ext)) ?_; clear hf a; intro v a w hR hf
  obtain ⟨rfl, hx⟩ := hR; replace hh := hh.more hx; clear hx
  refine o_v hf hh (yv_not rfl) ?_; clear hf a; intro a hf
  refine o_end ?_
  refine sy_cond hf rfl (fun hg2 => ?_) (fun hg2 => ?_)
  ·have hG2 := hg2; try simp only [gS] at hG2
   refine sy_sq ?_
   refine o_v hf hh (yv_assign rfl) ?_; clear hf a; intro a hf
   refine o_v hf hh (yv_assign rfl) ?_; clear hf a; intro a hf
   refine o_end ?_
   refine sy_ret ?_
   refine then_r ?_
   refine ret_r hf rfl rfl ?_
   first
     | (have h9 : chB c = false := by assumption
        rw [(why_bad h9).1, (why_bad h9).2]; exact ⟨rfl, hh.ext⟩)
     | (have ei : i = 2 ^ c.si.length := by omega
        have e := whyF_all hO
        rw [← ei] at e
        have e1 := why_e hcb
        have e2 := why_v hcb
        by_cases hw : wrL c = []
        · rw [if_pos hw] at e e1
          first
            | (rw [e1, e2, hw]; exact ⟨rfl, hh.ext⟩)
            | (exfalso; have h9 : 0 ≤ oN (whyF c i) := by assumption
               rw [e] at h9; exact absurd h9 (by decide))
        · rw [if_neg hw] at e e1
          first
            | (have h9 : 0 ≤ oN (whyF c i) := by assumption
               rw [e1, e2]
               refine ⟨?_, hh.ext⟩
               show Value.tuple #[.int .i64 (oN (whyF c i)), .int .i64 11] = _
               rw [e]; rfl)
            | (exfalso; have h9 : oN (whyF c i) < 0 := by assumption
               rw [e] at h9
               have h8 : ((bst (wrL c) : Nat) : Int) < 0 := h9
               omega))
  ·have hG2 := hg2; try simp only [gS] at hG2
   refine sy_skip ?_
   refine then_n ?_
   refine sy_seq ?_
   have hcb : chB c = true := by assumption
   have hO := chB_iff.1 hcb
   have hl10 := hO.l
   have hp2 : 2 ^ c.si.length ≤ 2 ^ 10 := Nat.pow_le_pow_right (by omega) hl10
   have hp1 := Nat.one_le_two_pow (n := c.si.length)
   refine sy_ops ?_
   refine o_v hf hh (yv_assign rfl) ?_; clear hf a; intro a hf
   refine o_end ?_
   refine sy_seq ?_
   refine sy_sq ?_
   refine o_v hf hh (yv_assign rfl) ?_; clear hf a; intro a hf
   refine o_end ?_
   refine sy_block ?_
   refine sy_loopH (σ := Nat) [4, 5, 9, 10, 11, 12, 13, 14, 15, 16, 17, 18, 19, 20, 21, 22, 23, 24, 25, 26, 27, 28, 29, 30] (fun i => [(5, .int .i64 (i : Nat)), (4, .int .i64 (oN (whyF c i)))]) (fun i => fun w' => i ≤ 2 ^ c.si.length ∧ oN (whyF c i) ≤ 1024 ∧ Hp u [] [(B1, .cells (chC c sa cp) 24)] w') (fun i => 2 ^ c.si.length - i) (0) hf ?_ ?_ ?_
   · repeat' (first | exact True.intro | refine And.intro rfl ?_)
   · exact ⟨Nat.zero_le _, (show (-1 : Int) ≤ 1024 by decide), hh⟩
   ·rintro i a w ⟨hi, hwb, hh⟩ hf
    refine sy_seq ?_
    refine sy_sq ?_
    refine o_v hf hh (yv_move rfl) ?_; clear hf a; intro a hf
    refine o_v hf hh (y_lds Try.ag_24 rfl) ?_; clear hf a; intro a hf
    refine o_call hf Try.en_48 rfl rfl rfl (p48 c sa cp (by omega) _) ?_; clear hf a; intro v a w hR hf
    obtain ⟨rfl, hx⟩ := hR; replace hh := hh.more hx; clear hx
    refine o_v hf hh (yv_bin rfl rfl rfl) ?_; clear hf a; intro a hf
    refine o_end ?_
    refine sy_cond hf rfl (fun hg5 => ?_) (fun hg5 => ?_)
    ·have hG5 := hg5; try simp only [gS] at hG5
     refine sy_skip ?_
     refine then_n ?_
     refine sy_seq ?_
     refine sy_block ?_
     refine sy_sq ?_
     refine o_v hf hh (yv_move rfl) ?_; clear hf a; intro a hf
     refine o_v hf hh (yv_bin rfl rfl rfl) ?_; clear hf a; intro a hf
     refine o_v hf hh (yv_move rfl) ?_; clear hf a; intro a hf
     refine guard_split hf (t := 17) rfl (fun hg7 => ?_) (fun hg7 => ?_)
     ·have hG7 := hg7; try simp only [gS] at hG7
      refine o_off hf ?_; clear hf a; intro a hf
      refine o_off hf ?_; clear hf a; intro a hf
      refine o_off hf ?_; clear hf a; intro a hf
      refine o_off hf ?_; clear hf a; intro a hf
      refine o_off hf ?_; clear hf a; intro a hf
      refine o_v hf hh (y_pt rfl rfl) ?_; clear hf a; intro a hf
      refine o_v hf hh (yv_move rfl) ?_; clear hf a; intro a hf
      refine o_v hf hh (y_lds Try.ag_24 rfl) ?_; clear hf a; intro a hf
      refine o_v hf hh (yv_move rfl) ?_; clear hf a; intro a hf
      refine o_call hf Try.en_47 rfl rfl rfl (p47 c sa cp i _ (hA.ext hh.ext) hO (by omega)) ?_; clear hf a; intro v a w hR hf
      obtain ⟨rfl, hx⟩ := hR; replace hh := hh.more hx; clear hx
      refine o_v hf hh (yv_not rfl) ?_; clear hf a; intro a hf
      refine o_v hf hh (y_pt rfl rfl) ?_; clear hf a; intro a hf
      refine o_end ?_
      refine sy_cond hf rfl (fun hg9 => ?_) (fun hg9 => ?_)
      ·have hG9 := hg9; try simp only [gS] at hG9
       refine sy_ops ?_
       refine o_v hf hh (yv_move rfl) ?_; clear hf a; intro a hf
       refine o_v hf hh (yv_assign rfl) ?_; clear hf a; intro a hf
       refine ops_end ?_
       refine blk_n ?_
       refine then_n ?_
       refine sy_ops ?_
       refine o_v hf hh (yv_move rfl) ?_; clear hf a; intro a hf
       refine o_v hf hh (y_add rfl rfl) ?_; clear hf a; intro a hf
       refine o_v hf hh (yv_assign rfl) ?_; clear hf a; intro a hf
       refine ops_end ?_
       refine then_n ?_
       first
         | (have e := whyF_put (c := c) (i := i) (by first | exact .inl (by assumption) | exact .inr ⟨by assumption, by omega⟩) (by assumption)
            exact ⟨i + 1, ⟨⟨by omega, by rw [e]; show ((i : Nat) : Int) ≤ 1024; omega, hh⟩, hf.head ⟨rfl, congrArg (fun o => some (Value.int IntKind.i64 (oN o))) e.symm, True.intro⟩ (Keep.cons rfl (Keep.cons rfl (Keep.cons rfl (Keep.cons rfl (Keep.cons rfl (Keep.cons rfl (Keep.cons rfl (Keep.cons rfl (Keep.cons rfl (Keep.cons rfl (Keep.cons rfl (Keep.cons rfl (Keep.cons rfl (Keep.cons rfl (Keep.cons rfl (Keep.cons rfl (Keep.cons rfl (Keep.cons rfl (Keep.cons rfl (Keep.cons rfl (Keep.cons rfl (Keep.cons rfl (Keep.cons rfl (Keep.cons rfl (Keep.app rfl (Keep.rm rfl Keep.base))))))))))))))))))))))))))⟩, by omega⟩)
         | (have e : whyF c (i + 1) = whyF c i := by first | exact whyF_can (by assumption) | exact whyF_big (by assumption) (by omega)
            exact ⟨i + 1, ⟨⟨by omega, by rw [e]; exact hwb, hh⟩, hf.head ⟨rfl, congrArg (fun o => some (Value.int IntKind.i64 (oN o))) e.symm, True.intro⟩ (Keep.cons rfl (Keep.cons rfl (Keep.cons rfl (Keep.cons rfl (Keep.cons rfl (Keep.cons rfl (Keep.cons rfl (Keep.cons rfl (Keep.cons rfl (Keep.cons rfl (Keep.cons rfl (Keep.cons rfl (Keep.cons rfl (Keep.cons rfl (Keep.cons rfl (Keep.cons rfl (Keep.cons rfl (Keep.cons rfl (Keep.cons rfl (Keep.cons rfl (Keep.cons rfl (Keep.cons rfl (Keep.cons rfl (Keep.cons rfl (Keep.app rfl (Keep.rm rfl Keep.base))))))))))))))))))))))))))⟩, by omega⟩)
      ·have hG9 := hg9; try simp only [gS] at hG9
       refine sy_skip ?_
       refine blk_n ?_
       refine then_n ?_
       refine sy_ops ?_
       refine o_v hf hh (yv_move rfl) ?_; clear hf a; intro a hf
       refine o_v hf hh (y_add rfl rfl) ?_; clear hf a; intro a hf
       refine o_v hf hh (yv_assign rfl) ?_; clear hf a; intro a hf
       refine ops_end ?_
       refine then_n ?_
       first
         | (have e := whyF_put (c := c) (i := i) (by first | exact .inl (by assumption) | exact .inr ⟨by assumption, by omega⟩) (by assumption)
            exact ⟨i + 1, ⟨⟨by omega, by rw [e]; show ((i : Nat) : Int) ≤ 1024; omega, hh⟩, hf.head ⟨rfl, congrArg (fun o => some (Value.int IntKind.i64 (oN o))) e.symm, True.intro⟩ (Keep.cons rfl (Keep.cons rfl (Keep.cons rfl (Keep.cons rfl (Keep.cons rfl (Keep.cons rfl (Keep.cons rfl (Keep.cons rfl (Keep.cons rfl (Keep.cons rfl (Keep.cons rfl (Keep.cons rfl (Keep.cons rfl (Keep.cons rfl (Keep.cons rfl (Keep.cons rfl (Keep.cons rfl (Keep.cons rfl (Keep.cons rfl (Keep.cons rfl (Keep.cons rfl (Keep.cons rfl (Keep.app rfl (Keep.rm rfl Keep.base))))))))))))))))))))))))⟩, by omega⟩)
         | (have e : whyF c (i + 1) = whyF c i := by first | exact whyF_can (by assumption) | exact whyF_big (by assumption) (by omega)
            exact ⟨i + 1, ⟨⟨by omega, by rw [e]; exact hwb, hh⟩, hf.head ⟨rfl, congrArg (fun o => some (Value.int IntKind.i64 (oN o))) e.symm, True.intro⟩ (Keep.cons rfl (Keep.cons rfl (Keep.cons rfl (Keep.cons rfl (Keep.cons rfl (Keep.cons rfl (Keep.cons rfl (Keep.cons rfl (Keep.cons rfl (Keep.cons rfl (Keep.cons rfl (Keep.cons rfl (Keep.cons rfl (Keep.cons rfl (Keep.cons rfl (Keep.cons rfl (Keep.cons rfl (Keep.cons rfl (Keep.cons rfl (Keep.cons rfl (Keep.cons rfl (Keep.cons rfl (Keep.app rfl (Keep.rm rfl Keep.base))))))))))))))))))))))))⟩, by omega⟩)
     ·have hG7 := hg7; try simp only [gS] at hG7
      refine o_v hf hh (yv_move rfl) ?_; clear hf a; intro a hf
      refine o_call hf Try.en_36 rfl rfl rfl (p36 i (by omega) _) ?_; clear hf a; intro v a w hR hf
      obtain ⟨rfl, hx⟩ := hR; replace hh := hh.more hx; clear hx
      refine o_v hf hh (yv_cast (yv_move rfl) (show Value.int .i64 (oN (whyF c i)) = Value.int .i64 (((whyF c i).getD 0 : Nat) : Int) from intv (oN_get (by assumption)))) ?_; clear hf a; intro a hf
      refine o_call hf Try.en_36 rfl rfl rfl (p36 ((whyF c i).getD 0) (by have := oN_get (o := whyF c i) (by assumption); omega) _) ?_; clear hf a; intro v a w hR hf
      obtain ⟨rfl, hx⟩ := hR; replace hh := hh.more hx; clear hx
      refine o_v hf hh (yv_bin rfl rfl rfl) ?_; clear hf a; intro a hf
      refine o_v hf hh (y_pf rfl rfl) ?_; clear hf a; intro a hf
      refine o_v hf hh (yv_move rfl) ?_; clear hf a; intro a hf
      refine guard_split hf (t := 24) rfl (fun hg14 => ?_) (fun hg14 => ?_)
      ·have hG14 := hg14; try simp only [gS] at hG14
       refine o_v hf hh (y_lds Try.ag_24 rfl) ?_; clear hf a; intro a hf
       refine o_v hf hh (yv_move rfl) ?_; clear hf a; intro a hf
       refine o_call hf Try.en_47 rfl rfl rfl (p47 c sa cp i _ (hA.ext hh.ext) hO (by omega)) ?_; clear hf a; intro v a w hR hf
       obtain ⟨rfl, hx⟩ := hR; replace hh := hh.more hx; clear hx
       refine o_v hf hh (yv_not rfl) ?_; clear hf a; intro a hf
       refine o_v hf hh (y_pt rfl rfl) ?_; clear hf a; intro a hf
       refine o_end ?_
       refine sy_cond hf rfl (fun hg16 => ?_) (fun hg16 => ?_)
       ·have hG16 := hg16; try simp only [gS] at hG16
        refine sy_ops ?_
        refine o_v hf hh (yv_move rfl) ?_; clear hf a; intro a hf
        refine o_v hf hh (yv_assign rfl) ?_; clear hf a; intro a hf
        refine ops_end ?_
        refine blk_n ?_
        refine then_n ?_
        refine sy_ops ?_
        refine o_v hf hh (yv_move rfl) ?_; clear hf a; intro a hf
        refine o_v hf hh (y_add rfl rfl) ?_; clear hf a; intro a hf
        refine o_v hf hh (yv_assign rfl) ?_; clear hf a; intro a hf
        refine ops_end ?_
        refine then_n ?_
        first
          | (have e := whyF_put (c := c) (i := i) (by first | exact .inl (by assumption) | exact .inr ⟨by assumption, by omega⟩) (by assumption)
             exact ⟨i + 1, ⟨⟨by omega, by rw [e]; show ((i : Nat) : Int) ≤ 1024; omega, hh⟩, hf.head ⟨rfl, congrArg (fun o => some (Value.int IntKind.i64 (oN o))) e.symm, True.intro⟩ (Keep.cons rfl (Keep.cons rfl (Keep.cons rfl (Keep.cons rfl (Keep.cons rfl (Keep.cons rfl (Keep.cons rfl (Keep.cons rfl (Keep.cons rfl (Keep.cons rfl (Keep.cons rfl (Keep.cons rfl (Keep.cons rfl (Keep.cons rfl (Keep.cons rfl (Keep.cons rfl (Keep.cons rfl (Keep.cons rfl (Keep.cons rfl (Keep.cons rfl (Keep.cons rfl (Keep.cons rfl (Keep.cons rfl (Keep.cons rfl (Keep.app rfl (Keep.rm rfl Keep.base))))))))))))))))))))))))))⟩, by omega⟩)
          | (have e : whyF c (i + 1) = whyF c i := by first | exact whyF_can (by assumption) | exact whyF_big (by assumption) (by omega)
             exact ⟨i + 1, ⟨⟨by omega, by rw [e]; exact hwb, hh⟩, hf.head ⟨rfl, congrArg (fun o => some (Value.int IntKind.i64 (oN o))) e.symm, True.intro⟩ (Keep.cons rfl (Keep.cons rfl (Keep.cons rfl (Keep.cons rfl (Keep.cons rfl (Keep.cons rfl (Keep.cons rfl (Keep.cons rfl (Keep.cons rfl (Keep.cons rfl (Keep.cons rfl (Keep.cons rfl (Keep.cons rfl (Keep.cons rfl (Keep.cons rfl (Keep.cons rfl (Keep.cons rfl (Keep.cons rfl (Keep.cons rfl (Keep.cons rfl (Keep.cons rfl (Keep.cons rfl (Keep.cons rfl (Keep.cons rfl (Keep.app rfl (Keep.rm rfl Keep.base))))))))))))))))))))))))))⟩, by omega⟩)
       ·have hG16 := hg16; try simp only [gS] at hG16
        refine sy_skip ?_
        refine blk_n ?_
        refine then_n ?_
        refine sy_ops ?_
        refine o_v hf hh (yv_move rfl) ?_; clear hf a; intro a hf
        refine o_v hf hh (y_add rfl rfl) ?_; clear hf a; intro a hf
        refine o_v hf hh (yv_assign rfl) ?_; clear hf a; intro a hf
        refine ops_end ?_
        refine then_n ?_
        first
          | (have e := whyF_put (c := c) (i := i) (by first | exact .inl (by assumption) | exact .inr ⟨by assumption, by omega⟩) (by assumption)
             exact ⟨i + 1, ⟨⟨by omega, by rw [e]; show ((i : Nat) : Int) ≤ 1024; omega, hh⟩, hf.head ⟨rfl, congrArg (fun o => some (Value.int IntKind.i64 (oN o))) e.symm, True.intro⟩ (Keep.cons rfl (Keep.cons rfl (Keep.cons rfl (Keep.cons rfl (Keep.cons rfl (Keep.cons rfl (Keep.cons rfl (Keep.cons rfl (Keep.cons rfl (Keep.cons rfl (Keep.cons rfl (Keep.cons rfl (Keep.cons rfl (Keep.cons rfl (Keep.cons rfl (Keep.cons rfl (Keep.cons rfl (Keep.cons rfl (Keep.cons rfl (Keep.cons rfl (Keep.cons rfl (Keep.cons rfl (Keep.app rfl (Keep.rm rfl Keep.base))))))))))))))))))))))))⟩, by omega⟩)
          | (have e : whyF c (i + 1) = whyF c i := by first | exact whyF_can (by assumption) | exact whyF_big (by assumption) (by omega)
             exact ⟨i + 1, ⟨⟨by omega, by rw [e]; exact hwb, hh⟩, hf.head ⟨rfl, congrArg (fun o => some (Value.int IntKind.i64 (oN o))) e.symm, True.intro⟩ (Keep.cons rfl (Keep.cons rfl (Keep.cons rfl (Keep.cons rfl (Keep.cons rfl (Keep.cons rfl (Keep.cons rfl (Keep.cons rfl (Keep.cons rfl (Keep.cons rfl (Keep.cons rfl (Keep.cons rfl (Keep.cons rfl (Keep.cons rfl (Keep.cons rfl (Keep.cons rfl (Keep.cons rfl (Keep.cons rfl (Keep.cons rfl (Keep.cons rfl (Keep.cons rfl (Keep.cons rfl (Keep.app rfl (Keep.rm rfl Keep.base))))))))))))))))))))))))⟩, by omega⟩)
      ·have hG14 := hg14; try simp only [gS] at hG14
       refine o_off hf ?_; clear hf a; intro a hf
       refine o_off hf ?_; clear hf a; intro a hf
       refine o_off hf ?_; clear hf a; intro a hf
       refine o_off hf ?_; clear hf a; intro a hf
       refine o_v hf hh (y_pf rfl rfl) ?_; clear hf a; intro a hf
       refine o_end ?_
       refine c_f hf ?_
       refine sy_skip ?_
       refine blk_n ?_
       refine then_n ?_
       refine sy_ops ?_
       refine o_v hf hh (yv_move rfl) ?_; clear hf a; intro a hf
       refine o_v hf hh (y_add rfl rfl) ?_; clear hf a; intro a hf
       refine o_v hf hh (yv_assign rfl) ?_; clear hf a; intro a hf
       refine ops_end ?_
       refine then_n ?_
       first
         | (have e := whyF_put (c := c) (i := i) (by first | exact .inl (by assumption) | exact .inr ⟨by assumption, by omega⟩) (by assumption)
            exact ⟨i + 1, ⟨⟨by omega, by rw [e]; show ((i : Nat) : Int) ≤ 1024; omega, hh⟩, hf.head ⟨rfl, congrArg (fun o => some (Value.int IntKind.i64 (oN o))) e.symm, True.intro⟩ (Keep.cons rfl (Keep.cons rfl (Keep.cons rfl (Keep.cons rfl (Keep.cons rfl (Keep.cons rfl (Keep.cons rfl (Keep.cons rfl (Keep.cons rfl (Keep.cons rfl (Keep.cons rfl (Keep.cons rfl (Keep.cons rfl (Keep.cons rfl (Keep.cons rfl (Keep.cons rfl (Keep.cons rfl (Keep.cons rfl (Keep.cons rfl (Keep.cons rfl (Keep.cons rfl (Keep.cons rfl (Keep.app rfl (Keep.rm rfl Keep.base))))))))))))))))))))))))⟩, by omega⟩)
         | (have e : whyF c (i + 1) = whyF c i := by first | exact whyF_can (by assumption) | exact whyF_big (by assumption) (by omega)
            exact ⟨i + 1, ⟨⟨by omega, by rw [e]; exact hwb, hh⟩, hf.head ⟨rfl, congrArg (fun o => some (Value.int IntKind.i64 (oN o))) e.symm, True.intro⟩ (Keep.cons rfl (Keep.cons rfl (Keep.cons rfl (Keep.cons rfl (Keep.cons rfl (Keep.cons rfl (Keep.cons rfl (Keep.cons rfl (Keep.cons rfl (Keep.cons rfl (Keep.cons rfl (Keep.cons rfl (Keep.cons rfl (Keep.cons rfl (Keep.cons rfl (Keep.cons rfl (Keep.cons rfl (Keep.cons rfl (Keep.cons rfl (Keep.cons rfl (Keep.cons rfl (Keep.cons rfl (Keep.app rfl (Keep.rm rfl Keep.base))))))))))))))))))))))))⟩, by omega⟩)
    ·have hG5 := hg5; try simp only [gS] at hG5
     refine sy_exit ?_
     refine then_e ?_
     refine then_e ?_
     refine blk_e ?_
     refine then_n ?_
     refine sy_seq ?_
     refine sy_sq ?_
     refine o_v hf hh (yv_move rfl) ?_; clear hf a; intro a hf
     refine o_v hf hh (yv_bin rfl rfl rfl) ?_; clear hf a; intro a hf
     refine o_end ?_
     refine sy_cond hf rfl (fun hg18 => ?_) (fun hg18 => ?_)
     ·have hG18 := hg18; try simp only [gS] at hG18
      refine sy_sq ?_
      refine o_v hf hh (yv_assign rfl) ?_; clear hf a; intro a hf
      refine o_v hf hh (yv_assign rfl) ?_; clear hf a; intro a hf
      refine o_end ?_
      refine sy_ret ?_
      refine then_r ?_
      refine ret_r hf rfl rfl ?_
      first
        | (have h9 : chB c = false := by assumption
           rw [(why_bad h9).1, (why_bad h9).2]; exact ⟨rfl, hh.ext⟩)
        | (have ei : i = 2 ^ c.si.length := by omega
           have e := whyF_all hO
           rw [← ei] at e
           have e1 := why_e hcb
           have e2 := why_v hcb
           by_cases hw : wrL c = []
           · rw [if_pos hw] at e e1
             first
               | (rw [e1, e2, hw]; exact ⟨rfl, hh.ext⟩)
               | (exfalso; have h9 : 0 ≤ oN (whyF c i) := by assumption
                  rw [e] at h9; exact absurd h9 (by decide))
           · rw [if_neg hw] at e e1
             first
               | (have h9 : 0 ≤ oN (whyF c i) := by assumption
                  rw [e1, e2]
                  refine ⟨?_, hh.ext⟩
                  show Value.tuple #[.int .i64 (oN (whyF c i)), .int .i64 11] = _
                  rw [e]; rfl)
               | (exfalso; have h9 : oN (whyF c i) < 0 := by assumption
                  rw [e] at h9
                  have h8 : ((bst (wrL c) : Nat) : Int) < 0 := h9
                  omega))
     ·have hG18 := hg18; try simp only [gS] at hG18
      refine sy_skip ?_
      refine then_n ?_
      refine sy_sq ?_
      refine o_v hf hh (yv_move rfl) ?_; clear hf a; intro a hf
      refine o_v hf hh (yv_assign rfl) ?_; clear hf a; intro a hf
      refine o_v hf hh (yv_assign rfl) ?_; clear hf a; intro a hf
      refine o_end ?_
      refine sy_ret ?_
      refine ret_r hf rfl rfl ?_
      first
        | (have h9 : chB c = false := by assumption
           rw [(why_bad h9).1, (why_bad h9).2]; exact ⟨rfl, hh.ext⟩)
        | (have ei : i = 2 ^ c.si.length := by omega
           have e := whyF_all hO
           rw [← ei] at e
           have e1 := why_e hcb
           have e2 := why_v hcb
           by_cases hw : wrL c = []
           · rw [if_pos hw] at e e1
             first
               | (rw [e1, e2, hw]; exact ⟨rfl, hh.ext⟩)
               | (exfalso; have h9 : 0 ≤ oN (whyF c i) := by assumption
                  rw [e] at h9; exact absurd h9 (by decide))
           · rw [if_neg hw] at e e1
             first
               | (have h9 : 0 ≤ oN (whyF c i) := by assumption
                  rw [e1, e2]
                  refine ⟨?_, hh.ext⟩
                  show Value.tuple #[.int .i64 (oN (whyF c i)), .int .i64 11] = _
                  rw [e]; rfl)
               | (exfalso; have h9 : oN (whyF c i) < 0 := by assumption
                  rw [e] at h9
                  have h8 : ((bst (wrL c) : Nat) : Int) < 0 := h9
                  omega))
end Go.Proofs.Ytccjnjhlnpgocaa
namespace Go.Proofs.Ytccjnjhlnpgocaa
open Go Go.Sy Go.ChaM
set_option maxRecDepth 100000 in
theorem p27 (c : ChD) (sa : Option Addr) (cp : Nat) (u : World) (hA : ChAt u c sa) : Calls Try.prog 27 #[.agg (chC c sa cp)] u (Ret fun v w' => v = .tuple #[.int .i64 (drpV c : Nat), .int .i64 (drpE c)] ∧ Ext [] u w') := by
  refine calls_of Try.func27 rfl rfl (fun a hf => ?_)
  have hh := Hp.init u []
  have hl9 := hA.len
  refine sy_sq ?_
  refine o_box hf hh ?_; clear hf hh a; intro B1 a w hf hh
  refine o_v hf hh (yv_assign rfl) ?_; clear hf a; intro a hf
  refine o_v hf hh (yv_assign rfl) ?_; clear hf a; intro a hf
  refine o_end ?_
  refine sy_seq ?_
  refine sy_sq ?_
  refine o_v hf hh (y_lds Try.ag_24 rfl) ?_; clear hf a; intro a hf
  refine o_call hf Try.en_31 rfl rfl rfl (p31 c sa cp _ (hA.ext hh.ext)) ?_; clear hf a; intro v a w hR hf
  obtain ⟨rfl, hx⟩ := hR; replace hh := hh.more hx; clear hx
  refine o_v hf hh (yv_not rfl) ?_; clear hf a; intro a hf
  refine o_end ?_
  refine sy_cond hf rfl (fun hg2 => ?_) (fun hg2 => ?_)
  ·have hG2 := hg2; try simp only [gS] at hG2
   refine sy_sq ?_
   refine o_v hf hh (yv_assign rfl) ?_; clear hf a; intro a hf
   refine o_v hf hh (yv_assign rfl) ?_; clear hf a; intro a hf
   refine o_end ?_
   refine sy_ret ?_
   refine then_r ?_
   refine ret_r hf rfl rfl ?_
   first
     | (have h9 : chB c = false := by assumption
        rw [(drp_bad h9).1, (drp_bad h9).2]; exact ⟨rfl, hh.ext⟩)
     | (have ei : i = 2 ^ c.si.length := by omega
        have e := drpF_all hO
        rw [← ei] at e
        rw [(drp_good hcb).1, (drp_good hcb).2, ← e]; exact ⟨rfl, hh.ext⟩)
  ·have hG2 := hg2; try simp only [gS] at hG2
   refine sy_skip ?_
   refine then_n ?_
   refine sy_seq ?_
   have hcb : chB c = true := by assumption
   have hO := chB_iff.1 hcb
   have hl10 := hO.l
   have hp2 : 2 ^ c.si.length ≤ 2 ^ 10 := Nat.pow_le_pow_right (by omega) hl10
   have hp1 := Nat.one_le_two_pow (n := c.si.length)
   refine sy_ops ?_
   refine o_v hf hh (y_lds Try.ag_24 rfl) ?_; clear hf a; intro a hf
   refine o_call hf Try.en_48 rfl rfl rfl (p48 c sa cp (by omega) _) ?_; clear hf a; intro v a w hR hf
   obtain ⟨rfl, hx⟩ := hR; replace hh := hh.more hx; clear hx
   refine o_v hf hh (yv_assign rfl) ?_; clear hf a; intro a hf
   refine o_end ?_
   refine sy_seq ?_
   refine sy_sq ?_
   refine o_v hf hh (yv_assign rfl) ?_; clear hf a; intro a hf
   refine o_end ?_
   refine sy_block ?_
   refine sy_loopH (σ := Nat) [4, 5, 11, 12, 13, 14, 15, 16, 17, 18, 19, 20, 21, 22, 23, 24, 25, 26, 27, 28, 29, 30] (fun i => [(5, .int .i64 (i : Nat)), (4, .int .i64 (drpF c i : Nat))]) (fun i => fun w' => i ≤ 2 ^ c.si.length ∧ drpF c i ≤ 1024 ∧ Hp u [] [(B1, .cells (chC c sa cp) 24)] w') (fun i => 2 ^ c.si.length - i) (0) hf ?_ ?_ ?_
   · repeat' (first | exact True.intro | refine And.intro rfl ?_)
   · exact ⟨Nat.zero_le _, (show 2 ^ c.si.length - 1 ≤ 1024 by omega), hh⟩
   ·rintro i a w ⟨hi, hwb, hh⟩ hf
    refine sy_seq ?_
    refine sy_sq ?_
    refine o_v hf hh (yv_move rfl) ?_; clear hf a; intro a hf
    refine o_v hf hh (y_lds Try.ag_24 rfl) ?_; clear hf a; intro a hf
    refine o_call hf Try.en_48 rfl rfl rfl (p48 c sa cp (by omega) _) ?_; clear hf a; intro v a w hR hf
    obtain ⟨rfl, hx⟩ := hR; replace hh := hh.more hx; clear hx
    refine o_v hf hh (yv_bin rfl rfl rfl) ?_; clear hf a; intro a hf
    refine o_end ?_
    refine sy_cond hf rfl (fun hg6 => ?_) (fun hg6 => ?_)
    ·have hG6 := hg6; try simp only [gS] at hG6
     refine sy_skip ?_
     refine then_n ?_
     refine sy_seq ?_
     refine sy_block ?_
     refine sy_seq ?_
     refine sy_treeC (.p 0 (.p 2 (.e1 1 (.e1 3 (.p 4 (.p 5 (.q 0 6 (.q 0 7 (.p 9 (.e1 8 (.p 10 (.e1 11 (.p 12 (.fin)))))))))))))) [[]] [(AtE u [] [(B1, .cells (chC c sa cp) 24)], [])] Try.follows (by kernel_rfl) rfl hh (fun w hh => ?_)
     refine mc_p rfl   hf (yv_move rfl) (.inl rfl) rfl rfl ?_; clear hf a; intro a hf
     refine mc_p rfl   hf (yv_move rfl) (.inl rfl) rfl rfl ?_; clear hf a; intro a hf
     refine mc_e rfl fun Q1 => ?_
     refine o_call hf Try.en_36 rfl rfl rfl (p36 i (by omega) _) ?_; clear hf a; intro v a w hR hf
     obtain ⟨rfl, hx⟩ := hR; replace hh := hh.more hx; clear hx
     refine ops_end ?_
     refine then_n ⟨⟨fun _ _ => (AtE.of hh (by intro p hp; rw [List.mem_singleton.1 hp]; simp)), trivial⟩, ?_⟩
     refine mc_e rfl fun Q1 => ?_
     refine o_call hf Try.en_36 rfl rfl rfl (p36 (drpF c i) (by omega) _) ?_; clear hf a; intro v a w hR hf
     obtain ⟨rfl, hx⟩ := hR; replace hh := hh.more hx; clear hx
     refine ops_end ?_
     refine then_n ⟨⟨fun _ _ => (AtE.of hh (by intro p hp; rw [List.mem_singleton.1 hp]; simp)), trivial⟩, ?_⟩
     refine mc_p rfl   hf (yv_bin rfl rfl rfl) (.inl rfl) rfl rfl ?_; clear hf a; intro a hf
     refine mc_p rfl   hf (yv_move rfl) (.inl rfl) rfl rfl ?_; clear hf a; intro a hf
     refine guard_any hf (t := 22) rfl (fun hg10 => ?_) (fun hg10 => ?_)
     ·have hG10 := hg10; try simp only [gS] at hG10
      refine mc_q rfl rfl (AtE.of hh (by intro p hp; rw [List.mem_singleton.1 hp]; simp)) hf (y_lds Try.ag_24 rfl) (gon rfl rfl rfl (by first | assumption | rfl | (simp; done) | (simp; omega))) rfl rfl ?_; clear hf a; intro a hf
      refine mc_q rfl rfl (AtE.of hh (by intro p hp; rw [List.mem_singleton.1 hp]; simp)) hf (y_lds Try.ag_24 rfl) (gon rfl rfl rfl (by first | assumption | rfl | (simp; done) | (simp; omega))) rfl rfl ?_; clear hf a; intro a hf
      refine mc_p rfl   hf (yv_move rfl) (gon rfl rfl rfl (by first | assumption | rfl | (simp; done) | (simp; omega))) rfl rfl ?_; clear hf a; intro a hf
      refine mc_e rfl fun Q1 => ?_
      refine o_call hf Try.en_48 rfl rfl rfl (p48 c sa cp (by omega) _) ?_; clear hf a; intro v a w hR hf
      obtain ⟨rfl, hx⟩ := hR; replace hh := hh.more hx; clear hx
      refine ops_end ?_
      refine then_n ⟨⟨fun _ _ => (AtE.of hh (by intro p hp; rw [List.mem_singleton.1 hp]; simp)), trivial⟩, ?_⟩
      refine mc_p rfl   hf (yv_cast (yv_sub rfl rfl (by omega) (by omega)) (intv (b := ((2 ^ c.si.length - 1 - i : Nat) : Int)) (by omega))) (gon rfl rfl rfl (by first | assumption | rfl | (simp; done) | (simp; omega))) rfl rfl ?_; clear hf a; intro a hf
      refine mc_e rfl fun Q1 => ?_
      refine o_call hf Try.en_47 rfl rfl rfl (p47 c sa cp (2 ^ c.si.length - 1 - i) _ (hA.ext hh.ext) hO (by omega)) ?_; clear hf a; intro v a w hR hf
      obtain ⟨rfl, hx⟩ := hR; replace hh := hh.more hx; clear hx
      refine ops_end ?_
      refine then_n ⟨⟨fun _ _ => (AtE.of hh (by intro p hp; rw [List.mem_singleton.1 hp]; simp)), trivial⟩, ?_⟩
      refine mc_p rfl   hf (y_pt rfl rfl) (.inl rfl) rfl rfl ?_; clear hf a; intro a hf
      refine mc_end ?_
      refine then_n ?_
      refine sy_cond hf rfl (fun hg14 => ?_) (fun hg14 => ?_)
      ·have hG14 := hg14; try simp only [gS] at hG14
       refine sy_ops ?_
       refine o_v hf hh (yv_move rfl) ?_; clear hf a; intro a hf
       refine o_v hf hh (yv_assign rfl) ?_; clear hf a; intro a hf
       refine ops_end ?_
       refine blk_n ?_
       refine then_n ?_
       refine sy_ops ?_
       refine o_v hf hh (yv_move rfl) ?_; clear hf a; intro a hf
       refine o_v hf hh (y_add rfl rfl) ?_; clear hf a; intro a hf
       refine o_v hf hh (yv_assign rfl) ?_; clear hf a; intro a hf
       refine ops_end ?_
       refine then_n ?_
       first
         | (have e : drpF c (i + 1) = i := by rw [drpF, if_pos ⟨by omega, by assumption⟩]
            exact ⟨i + 1, ⟨⟨by omega, by rw [e]; omega, hh⟩, hf.head ⟨rfl, congrArg (fun o => some (Value.int IntKind.i64 ((o : Nat) : Int))) e.symm, True.intro⟩ (Keep.cons rfl (Keep.cons rfl (Keep.cons rfl (Keep.cons rfl (Keep.cons rfl (Keep.cons rfl (Keep.cons rfl (Keep.cons rfl (Keep.cons rfl (Keep.cons rfl (Keep.cons rfl (Keep.cons rfl (Keep.cons rfl (Keep.cons rfl (Keep.cons rfl (Keep.cons rfl (Keep.cons rfl (Keep.cons rfl (Keep.cons rfl (Keep.cons rfl (Keep.cons rfl (Keep.cons rfl (Keep.app rfl (Keep.rm rfl Keep.base))))))))))))))))))))))))⟩, by omega⟩)
         | (have e : drpF c (i + 1) = drpF c i := by
              rw [drpF, if_neg]
              rintro ⟨h1, h2⟩
              first
                | omega
                | (have h9 : canT c (2 ^ c.si.length - 1 - i).testBit = false := by assumption
                   rw [h9] at h2; cases h2)
            exact ⟨i + 1, ⟨⟨by omega, by rw [e]; exact hwb, hh⟩, hf.head ⟨rfl, congrArg (fun o => some (Value.int IntKind.i64 ((o : Nat) : Int))) e.symm, True.intro⟩ (Keep.cons rfl (Keep.cons rfl (Keep.cons rfl (Keep.cons rfl (Keep.cons rfl (Keep.cons rfl (Keep.cons rfl (Keep.cons rfl (Keep.cons rfl (Keep.cons rfl (Keep.cons rfl (Keep.cons rfl (Keep.cons rfl (Keep.cons rfl (Keep.cons rfl (Keep.cons rfl (Keep.cons rfl (Keep.cons rfl (Keep.cons rfl (Keep.cons rfl (Keep.cons rfl (Keep.cons rfl (Keep.app rfl (Keep.rm rfl Keep.base))))))))))))))))))))))))⟩, by omega⟩)
      ·have hG14 := hg14; try simp only [gS] at hG14
       refine sy_skip ?_
       refine blk_n ?_
       refine then_n ?_
       refine sy_ops ?_
       refine o_v hf hh (yv_move rfl) ?_; clear hf a; intro a hf
       refine o_v hf hh (y_add rfl rfl) ?_; clear hf a; intro a hf
       refine o_v hf hh (yv_assign rfl) ?_; clear hf a; intro a hf
       refine ops_end ?_
       refine then_n ?_
       first
         | (have e : drpF c (i + 1) = i := by rw [drpF, if_pos ⟨by omega, by assumption⟩]
            exact ⟨i + 1, ⟨⟨by omega, by rw [e]; omega, hh⟩, hf.head ⟨rfl, congrArg (fun o => some (Value.int IntKind.i64 ((o : Nat) : Int))) e.symm, True.intro⟩ (Keep.cons rfl (Keep.cons rfl (Keep.cons rfl (Keep.cons rfl (Keep.cons rfl (Keep.cons rfl (Keep.cons rfl (Keep.cons rfl (Keep.cons rfl (Keep.cons rfl (Keep.cons rfl (Keep.cons rfl (Keep.cons rfl (Keep.cons rfl (Keep.cons rfl (Keep.cons rfl (Keep.cons rfl (Keep.cons rfl (Keep.cons rfl (Keep.cons rfl (Keep.app rfl (Keep.rm rfl Keep.base))))))))))))))))))))))⟩, by omega⟩)
         | (have e : drpF c (i + 1) = drpF c i := by
              rw [drpF, if_neg]
              rintro ⟨h1, h2⟩
              first
                | omega
                | (have h9 : canT c (2 ^ c.si.length - 1 - i).testBit = false := by assumption
                   rw [h9] at h2; cases h2)
            exact ⟨i + 1, ⟨⟨by omega, by rw [e]; exact hwb, hh⟩, hf.head ⟨rfl, congrArg (fun o => some (Value.int IntKind.i64 ((o : Nat) : Int))) e.symm, True.intro⟩ (Keep.cons rfl (Keep.cons rfl (Keep.cons rfl (Keep.cons rfl (Keep.cons rfl (Keep.cons rfl (Keep.cons rfl (Keep.cons rfl (Keep.cons rfl (Keep.cons rfl (Keep.cons rfl (Keep.cons rfl (Keep.cons rfl (Keep.cons rfl (Keep.cons rfl (Keep.cons rfl (Keep.cons rfl (Keep.cons rfl (Keep.cons rfl (Keep.cons rfl (Keep.app rfl (Keep.rm rfl Keep.base))))))))))))))))))))))⟩, by omega⟩)
     ·have hG10 := hg10; try simp only [gS] at hG10
      refine mc_offq rfl rfl (AtE.of hh (by intro p hp; rw [List.mem_singleton.1 hp]; simp)) hf (goff rfl rfl rfl (by first | assumption | rfl | (simp; done) | (simp; omega))) rfl rfl ?_; clear hf a; intro a hf
      refine mc_offq rfl rfl (AtE.of hh (by intro p hp; rw [List.mem_singleton.1 hp]; simp)) hf (goff rfl rfl rfl (by first | assumption | rfl | (simp; done) | (simp; omega))) rfl rfl ?_; clear hf a; intro a hf
      refine mc_off rfl hf (goff rfl rfl rfl (by first | assumption | rfl | (simp; done) | (simp; omega))) rfl rfl ?_; clear hf a; intro a hf
      refine mc_e rfl fun Q1 => ?_
      refine o_off hf ?_; clear hf a; intro a hf
      refine ops_end ?_
      refine then_n ⟨⟨fun _ _ => (AtE.of hh (by intro p hp; rw [List.mem_singleton.1 hp]; simp)), trivial⟩, ?_⟩
      refine mc_off rfl hf (goff rfl rfl rfl (by first | assumption | rfl | (simp; done) | (simp; omega))) rfl rfl ?_; clear hf a; intro a hf
      refine mc_e rfl fun Q1 => ?_
      refine o_off hf ?_; clear hf a; intro a hf
      refine ops_end ?_
      refine then_n ⟨⟨fun _ _ => (AtE.of hh (by intro p hp; rw [List.mem_singleton.1 hp]; simp)), trivial⟩, ?_⟩
      refine mc_p rfl   hf (y_pf rfl rfl) (.inl rfl) rfl rfl ?_; clear hf a; intro a hf
      refine mc_end ?_
      refine then_n ?_
      refine c_f hf ?_
      refine sy_skip ?_
      refine blk_n ?_
      refine then_n ?_
      refine sy_ops ?_
      refine o_v hf hh (yv_move rfl) ?_; clear hf a; intro a hf
      refine o_v hf hh (y_add rfl rfl) ?_; clear hf a; intro a hf
      refine o_v hf hh (yv_assign rfl) ?_; clear hf a; intro a hf
      refine ops_end ?_
      refine then_n ?_
      first
        | (have e : drpF c (i + 1) = i := by rw [drpF, if_pos ⟨by omega, by assumption⟩]
           exact ⟨i + 1, ⟨⟨by omega, by rw [e]; omega, hh⟩, hf.head ⟨rfl, congrArg (fun o => some (Value.int IntKind.i64 ((o : Nat) : Int))) e.symm, True.intro⟩ (Keep.cons rfl (Keep.cons rfl (Keep.cons rfl (Keep.cons rfl (Keep.cons rfl (Keep.cons rfl (Keep.cons rfl (Keep.cons rfl (Keep.cons rfl (Keep.cons rfl (Keep.cons rfl (Keep.cons rfl (Keep.cons rfl (Keep.cons rfl (Keep.cons rfl (Keep.cons rfl (Keep.cons rfl (Keep.cons rfl (Keep.cons rfl (Keep.cons rfl (Keep.app rfl (Keep.rm rfl Keep.base))))))))))))))))))))))⟩, by omega⟩)
        | (have e : drpF c (i + 1) = drpF c i := by
             rw [drpF, if_neg]
             rintro ⟨h1, h2⟩
             first
               | omega
               | (have h9 : canT c (2 ^ c.si.length - 1 - i).testBit = false := by assumption
                  rw [h9] at h2; cases h2)
           exact ⟨i + 1, ⟨⟨by omega, by rw [e]; exact hwb, hh⟩, hf.head ⟨rfl, congrArg (fun o => some (Value.int IntKind.i64 ((o : Nat) : Int))) e.symm, True.intro⟩ (Keep.cons rfl (Keep.cons rfl (Keep.cons rfl (Keep.cons rfl (Keep.cons rfl (Keep.cons rfl (Keep.cons rfl (Keep.cons rfl (Keep.cons rfl (Keep.cons rfl (Keep.cons rfl (Keep.cons rfl (Keep.cons rfl (Keep.cons rfl (Keep.cons rfl (Keep.cons rfl (Keep.cons rfl (Keep.cons rfl (Keep.cons rfl (Keep.cons rfl (Keep.app rfl (Keep.rm rfl Keep.base))))))))))))))))))))))⟩, by omega⟩)
    ·have hG6 := hg6; try simp only [gS] at hG6
     refine sy_exit ?_
     refine then_e ?_
     refine then_e ?_
     refine blk_e ?_
     refine then_n ?_
     refine sy_sq ?_
     refine o_v hf hh (yv_move rfl) ?_; clear hf a; intro a hf
     refine o_v hf hh (yv_assign rfl) ?_; clear hf a; intro a hf
     refine o_v hf hh (yv_assign rfl) ?_; clear hf a; intro a hf
     refine o_end ?_
     refine sy_ret ?_
     refine ret_r hf rfl rfl ?_
     first
       | (have h9 : chB c = false := by assumption
          rw [(drp_bad h9).1, (drp_bad h9).2]; exact ⟨rfl, hh.ext⟩)
       | (have ei : i = 2 ^ c.si.length := by omega
          have e := drpF_all hO
          rw [← ei] at e
          rw [(drp_good hcb).1, (drp_good hcb).2, ← e]; exact ⟨rfl, hh.ext⟩)
end Go.Proofs.Ytccjnjhlnpgocaa
namespace Go.Proofs.Ytccjnjhlnpgocaa
open Go Go.Sy Go.ChaM
set_option maxRecDepth 100000 in
set_option maxHeartbeats 4000000 in
theorem p4 (c : ChD) (sa : Option Addr) (cp : Nat) (u : World) (hC : ChIn u c sa) : Calls Try.prog 4 #[.agg (chC c sa cp)] u (Ret fun v w' => v = .bool true ∧ Ext [] u w') := by
  refine calls_of Try.func4 rfl rfl (fun a hf => ?_)
  have hh := Hp.init u []
  refine sy_sq ?_
  refine o_box hf hh ?_; clear hf hh a; intro B1 a w hf hh
  refine o_v hf hh (yv_assign rfl) ?_; clear hf a; intro a hf
  refine o_end ?_
  refine sy_seq ?_
  refine sy_sq ?_
  refine o_v hf hh (y_lds Try.ag_24 rfl) ?_; clear hf a; intro a hf
  refine o_call hf Try.en_13 rfl rfl rfl (p13 c sa cp _) ?_; clear hf a; intro v a w hR hf
  obtain ⟨rfl, hx⟩ := hR; replace hh := hh.more hx; clear hx
  refine o_v hf hh (yv_move rfl) ?_; clear hf a; intro a hf
  refine guard_split hf (t := 13) rfl (fun hg2 => ?_) (fun hg2 => ?_)
  ·have hG2 := hg2; try simp only [gS] at hG2
   refine o_off hf ?_; clear hf a; intro a hf
   refine o_off hf ?_; clear hf a; intro a hf
   refine o_v hf hh (y_pt rfl rfl) ?_; clear hf a; intro a hf
   refine o_end ?_
   refine c_t hf ?_
   refine sy_sq ?_
   refine o_call hf Try.en_14 rfl rfl rfl (p14 _) ?_; clear hf a; intro v a w hR hf
   obtain ⟨rfl, hx⟩ := hR; replace hh := hh.more hx; clear hx
   refine o_v hf hh (yv_assign rfl) ?_; clear hf a; intro a hf
   refine o_end ?_
   refine sy_ret ?_
   refine then_r ?_
   refine ret_r hf rfl rfl ?_
   first
     | exact ⟨rfl, hh.ext⟩
     | (exfalso
        (repeat (rename Fr _ _ _ _ => z9; clear z9))
        (repeat (rename Hp _ _ _ _ => z9; clear z9))
        (try clear hcn); (try clear hat); (try clear hbe)
        first
          | (rcases hK with ⟨h1, h2, h3⟩ | ⟨h1, h2, h3⟩ | ⟨h1, h2, h3⟩ <;> first | (omega; done) | (simp_all; done))
          | (omega; done)
          | (simp_all; done)
          | (simp_all <;> omega))
     | omega
  ·have hG2 := hg2; try simp only [gS] at hG2
   have hA := hC.at (by assumption)
   refine o_v hf hh (y_lds Try.ag_24 rfl) ?_; clear hf a; intro a hf
   refine o_call hf Try.en_23 rfl rfl rfl (p23 c sa cp 8 _ (hA.ext hh.ext)) ?_; clear hf a; intro v a w hR hf
   obtain ⟨rfl, hx⟩ := hR; replace hh := hh.more hx; clear hx
   refine o_v hf hh (y_pf rfl rfl) ?_; clear hf a; intro a hf
   refine o_end ?_
   refine sy_cond hf rfl (fun hg5 => ?_) (fun hg5 => ?_)
   ·have hG5 := hg5; try simp only [gS] at hG5
    refine sy_sq ?_
    refine o_call hf Try.en_14 rfl rfl rfl (p14 _) ?_; clear hf a; intro v a w hR hf
    obtain ⟨rfl, hx⟩ := hR; replace hh := hh.more hx; clear hx
    refine o_v hf hh (yv_assign rfl) ?_; clear hf a; intro a hf
    refine o_end ?_
    refine sy_ret ?_
    refine then_r ?_
    refine ret_r hf rfl rfl ?_
    first
      | exact ⟨rfl, hh.ext⟩
      | (exfalso
         (repeat (rename Fr _ _ _ _ => z9; clear z9))
         (repeat (rename Hp _ _ _ _ => z9; clear z9))
         (try clear hcn); (try clear hat); (try clear hbe)
         first
           | (rcases hK with ⟨h1, h2, h3⟩ | ⟨h1, h2, h3⟩ | ⟨h1, h2, h3⟩ <;> first | (omega; done) | (simp_all; done))
           | (omega; done)
           | (simp_all; done)
           | (simp_all <;> omega))
      | omega
   ·have hG5 := hg5; try simp only [gS] at hG5
    refine sy_skip ?_
    refine then_n ?_
    refine sy_seq ?_
    have hA := hC.at (by assumption)
    refine sy_ops ?_
    refine o_v hf hh (y_lds Try.ag_24 rfl) ?_; clear hf a; intro a hf
    refine o_call hf Try.en_24 rfl rfl rfl (p24 c sa cp _ (hA.ext hh.ext)) ?_; clear hf a; intro v a w hR hf
    obtain ⟨rfl, hx⟩ := hR; replace hh := hh.more hx; clear hx
    refine o_v hf hh (yv_move rfl) ?_; clear hf a; intro a hf
    refine o_v hf hh (yv_extract rfl rfl) ?_; clear hf a; intro a hf
    refine o_v hf hh (yv_extract rfl rfl) ?_; clear hf a; intro a hf
    refine o_v hf hh (yv_assign rfl) ?_; clear hf a; intro a hf
    refine o_v hf hh (yv_assign rfl) ?_; clear hf a; intro a hf
    refine o_end ?_
    refine sy_sq ?_
    refine o_v hf hh (y_lds Try.ag_24 rfl) ?_; clear hf a; intro a hf
    refine o_call hf Try.en_25 rfl rfl rfl (p25 c sa cp _ (hA.ext hh.ext)) ?_; clear hf a; intro v a w hR hf
    obtain ⟨rfl, hx⟩ := hR; replace hh := hh.more hx; clear hx
    refine o_v hf hh (yv_move rfl) ?_; clear hf a; intro a hf
    refine o_v hf hh (yv_extract rfl rfl) ?_; clear hf a; intro a hf
    refine o_v hf hh (yv_extract rfl rfl) ?_; clear hf a; intro a hf
    refine o_v hf hh (yv_assign rfl) ?_; clear hf a; intro a hf
    refine o_v hf hh (yv_assign rfl) ?_; clear hf a; intro a hf
    refine o_end ?_
    refine sy_sq ?_
    refine o_v hf hh (y_lds Try.ag_24 rfl) ?_; clear hf a; intro a hf
    refine o_call hf Try.en_26 rfl rfl rfl (p26 c sa cp _ (hA.ext hh.ext)) ?_; clear hf a; intro v a w hR hf
    obtain ⟨rfl, hx⟩ := hR; replace hh := hh.more hx; clear hx
    refine o_v hf hh (yv_move rfl) ?_; clear hf a; intro a hf
    refine o_v hf hh (yv_extract rfl rfl) ?_; clear hf a; intro a hf
    refine o_v hf hh (yv_extract rfl rfl) ?_; clear hf a; intro a hf
    refine o_v hf hh (yv_assign rfl) ?_; clear hf a; intro a hf
    refine o_v hf hh (yv_assign rfl) ?_; clear hf a; intro a hf
    refine o_end ?_
    refine sy_sq ?_
    refine o_v hf hh (y_lds Try.ag_24 rfl) ?_; clear hf a; intro a hf
    refine o_call hf Try.en_27 rfl rfl rfl (p27 c sa cp _ (hA.ext hh.ext)) ?_; clear hf a; intro v a w hR hf
    obtain ⟨rfl, hx⟩ := hR; replace hh := hh.more hx; clear hx
    refine o_v hf hh (yv_move rfl) ?_; clear hf a; intro a hf
    refine o_v hf hh (yv_extract rfl rfl) ?_; clear hf a; intro a hf
    refine o_v hf hh (yv_extract rfl rfl) ?_; clear hf a; intro a hf
    refine o_v hf hh (yv_assign rfl) ?_; clear hf a; intro a hf
    refine o_v hf hh (yv_assign rfl) ?_; clear hf a; intro a hf
    refine o_end ?_
    refine sy_sq ?_
    refine o_v hf hh (yv_move rfl) ?_; clear hf a; intro a hf
    refine o_v hf hh (yv_move rfl) ?_; clear hf a; intro a hf
    refine o_v hf hh (yv_bin rfl rfl rfl) ?_; clear hf a; intro a hf
    refine o_v hf hh (yv_move rfl) ?_; clear hf a; intro a hf
    refine guard_split hf (t := 41) rfl (fun hg20 => ?_) (fun hg20 => ?_)
    ·have hG20 := hg20; try simp only [gS] at hG20
     refine o_v hf hh (yv_move rfl) ?_; clear hf a; intro a hf
     refine o_v hf hh (yv_move rfl) ?_; clear hf a; intro a hf
     refine o_v hf hh (yv_bin rfl rfl rfl) ?_; clear hf a; intro a hf
     refine o_v hf hh (y_pt rfl rfl) ?_; clear hf a; intro a hf
     refine o_v hf hh (yv_move rfl) ?_; clear hf a; intro a hf
     refine guard_split hf (t := 46) rfl (fun hg22 => ?_) (fun hg22 => ?_)
     ·have hG22 := hg22; try simp only [gS] at hG22
      refine o_v hf hh (yv_move rfl) ?_; clear hf a; intro a hf
      refine o_v hf hh (yv_move rfl) ?_; clear hf a; intro a hf
      refine o_v hf hh (yv_bin rfl rfl rfl) ?_; clear hf a; intro a hf
      refine o_v hf hh (y_pt rfl rfl) ?_; clear hf a; intro a hf
      refine o_v hf hh (yv_move rfl) ?_; clear hf a; intro a hf
      refine guard_split hf (t := 51) rfl (fun hg24 => ?_) (fun hg24 => ?_)
      ·have hG24 := hg24; try simp only [gS] at hG24
       refine o_v hf hh (yv_move rfl) ?_; clear hf a; intro a hf
       refine o_v hf hh (yv_move rfl) ?_; clear hf a; intro a hf
       refine o_v hf hh (yv_bin rfl rfl rfl) ?_; clear hf a; intro a hf
       refine o_v hf hh (y_pt rfl rfl) ?_; clear hf a; intro a hf
       refine o_v hf hh (yv_move rfl) ?_; clear hf a; intro a hf
       refine guard_split hf (t := 56) rfl (fun hg26 => ?_) (fun hg26 => ?_)
       ·have hG26 := hg26; try simp only [gS] at hG26
        refine o_call hf Try.en_14 rfl rfl rfl (p14 _) ?_; clear hf a; intro v a w hR hf
        obtain ⟨rfl, hx⟩ := hR; replace hh := hh.more hx; clear hx
        refine o_v hf hh (y_pt rfl rfl) ?_; clear hf a; intro a hf
        refine o_v hf hh (yv_assign rfl) ?_; clear hf a; intro a hf
        refine o_end ?_
        refine sy_ret ?_
        refine ret_r hf rfl rfl ?_
        first
          | exact ⟨rfl, hh.ext⟩
          | (exfalso
             (repeat (rename Fr _ _ _ _ => z9; clear z9))
             (repeat (rename Hp _ _ _ _ => z9; clear z9))
             (try clear hcn); (try clear hat); (try clear hbe)
             first
               | (rcases hK with ⟨h1, h2, h3⟩ | ⟨h1, h2, h3⟩ | ⟨h1, h2, h3⟩ <;> first | (omega; done) | (simp_all; done))
               | (omega; done)
               | (simp_all; done)
               | (simp_all <;> omega))
          | omega
       ·have hG26 := hg26; try simp only [gS] at hG26
        refine o_off hf ?_; clear hf a; intro a hf
        refine o_v hf hh (y_pf rfl rfl) ?_; clear hf a; intro a hf
        refine o_v hf hh (yv_assign rfl) ?_; clear hf a; intro a hf
        refine o_end ?_
        refine sy_ret ?_
        refine ret_r hf rfl rfl ?_
        first
          | exact ⟨rfl, hh.ext⟩
          | (exfalso
             (repeat (rename Fr _ _ _ _ => z9; clear z9))
             (repeat (rename Hp _ _ _ _ => z9; clear z9))
             (try clear hcn); (try clear hat); (try clear hbe)
             first
               | (rcases hK with ⟨h1, h2, h3⟩ | ⟨h1, h2, h3⟩ | ⟨h1, h2, h3⟩ <;> first | (omega; done) | (simp_all; done))
               | (omega; done)
               | (simp_all; done)
               | (simp_all <;> omega))
          | omega
      ·have hG24 := hg24; try simp only [gS] at hG24
       refine o_off hf ?_; clear hf a; intro a hf
       refine o_off hf ?_; clear hf a; intro a hf
       refine o_off hf ?_; clear hf a; intro a hf
       refine o_v hf hh (y_pf rfl rfl) ?_; clear hf a; intro a hf
       refine o_v hf hh (yv_move rfl) ?_; clear hf a; intro a hf
       refine o_off hf ?_; clear hf a; intro a hf
       refine o_v hf hh (y_pf rfl rfl) ?_; clear hf a; intro a hf
       refine o_v hf hh (yv_assign rfl) ?_; clear hf a; intro a hf
       refine o_end ?_
       refine sy_ret ?_
       refine ret_r hf rfl rfl ?_
       first
         | exact ⟨rfl, hh.ext⟩
         | (exfalso
            (repeat (rename Fr _ _ _ _ => z9; clear z9))
            (repeat (rename Hp _ _ _ _ => z9; clear z9))
            (try clear hcn); (try clear hat); (try clear hbe)
            first
              | (rcases hK with ⟨h1, h2, h3⟩ | ⟨h1, h2, h3⟩ | ⟨h1, h2, h3⟩ <;> first | (omega; done) | (simp_all; done))
              | (omega; done)
              | (simp_all; done)
              | (simp_all <;> omega))
         | omega
     ·have hG22 := hg22; try simp only [gS] at hG22
      refine o_off hf ?_; clear hf a; intro a hf
      refine o_off hf ?_; clear hf a; intro a hf
      refine o_off hf ?_; clear hf a; intro a hf
      refine o_v hf hh (y_pf rfl rfl) ?_; clear hf a; intro a hf
      refine o_v hf hh (yv_move rfl) ?_; clear hf a; intro a hf
      refine o_off hf ?_; clear hf a; intro a hf
      refine o_off hf ?_; clear hf a; intro a hf
      refine o_off hf ?_; clear hf a; intro a hf
      refine o_v hf hh (y_pf rfl rfl) ?_; clear hf a; intro a hf
      refine o_v hf hh (yv_move rfl) ?_; clear hf a; intro a hf
      refine o_off hf ?_; clear hf a; intro a hf
      refine o_v hf hh (y_pf rfl rfl) ?_; clear hf a; intro a hf
      refine o_v hf hh (yv_assign rfl) ?_; clear hf a; intro a hf
      refine o_end ?_
      refine sy_ret ?_
      refine ret_r hf rfl rfl ?_
      first
        | exact ⟨rfl, hh.ext⟩
        | (exfalso
           (repeat (rename Fr _ _ _ _ => z9; clear z9))
           (repeat (rename Hp _ _ _ _ => z9; clear z9))
           (try clear hcn); (try clear hat); (try clear hbe)
           first
             | (rcases hK with ⟨h1, h2, h3⟩ | ⟨h1, h2, h3⟩ | ⟨h1, h2, h3⟩ <;> first | (omega; done) | (simp_all; done))
             | (omega; done)
             | (simp_all; done)
             | (simp_all <;> omega))
        | omega
    ·have hG20 := hg20; try simp only [gS] at hG20
     refine o_off hf ?_; clear hf a; intro a hf
     refine o_off hf ?_; clear hf a; intro a hf
     refine o_off hf ?_; clear hf a; intro a hf
     refine o_v hf hh (y_pf rfl rfl) ?_; clear hf a; intro a hf
     refine o_v hf hh (yv_move rfl) ?_; clear hf a; intro a hf
     refine o_off hf ?_; clear hf a; intro a hf
     refine o_off hf ?_; clear hf a; intro a hf
     refine o_off hf ?_; clear hf a; intro a hf
     refine o_v hf hh (y_pf rfl rfl) ?_; clear hf a; intro a hf
     refine o_v hf hh (yv_move rfl) ?_; clear hf a; intro a hf
     refine o_off hf ?_; clear hf a; intro a hf
     refine o_off hf ?_; clear hf a; intro a hf
     refine o_off hf ?_; clear hf a; intro a hf
     refine o_v hf hh (y_pf rfl rfl) ?_; clear hf a; intro a hf
     refine o_v hf hh (yv_move rfl) ?_; clear hf a; intro a hf
     refine o_off hf ?_; clear hf a; intro a hf
     refine o_v hf hh (y_pf rfl rfl) ?_; clear hf a; intro a hf
     refine o_v hf hh (yv_assign rfl) ?_; clear hf a; intro a hf
     refine o_end ?_
     refine sy_ret ?_
     refine ret_r hf rfl rfl ?_
     first
       | exact ⟨rfl, hh.ext⟩
       | (exfalso
          (repeat (rename Fr _ _ _ _ => z9; clear z9))
          (repeat (rename Hp _ _ _ _ => z9; clear z9))
          (try clear hcn); (try clear hat); (try clear hbe)
          first
            | (rcases hK with ⟨h1, h2, h3⟩ | ⟨h1, h2, h3⟩ | ⟨h1, h2, h3⟩ <;> first | (omega; done) | (simp_all; done))
            | (omega; done)
            | (simp_all; done)
            | (simp_all <;> omega))
       | omega
end Go.Proofs.Ytccjnjhlnpgocaa
namespace Go.Proofs.Ytccjnjhlnpgocaa
open Go Go.Sy Go.ChaM Go.ChangeShapes Go.WideShapes Go.Deep Go.RowKit
theorem hs24 : Try.prog.underlying 24 = some (.struct (Try.prog.fieldsOf 24)) := by kernel_rfl
theorem fs24 : (Try.prog.fieldsOf 24).map (fun f => (f.offset, f.type)) = #[(0, 3), (1, 22)] := by kernel_rfl
theorem co24 : Try.prog.cellsOf 24 = 2 := by kernel_rfl
theorem co22 : Try.prog.cellsOf 22 = 1 := by kernel_rfl
theorem co3 : Try.prog.cellsOf 3 = 1 := by kernel_rfl
theorem un22 : Try.prog.underlying 22 = some (.slice 46) := by kernel_rfl
theorem un42 : Try.prog.underlying 42 = some (.slice 56) := by kernel_rfl
theorem un56 : Try.prog.underlying 56 = some (.int .u16) := by kernel_rfl
theorem un5 : Try.prog.underlying 5 = some (.int .u8) := by kernel_rfl
theorem hs46 : Try.prog.underlying 46 = some (.struct (Try.prog.fieldsOf 46)) := by kernel_rfl
theorem co46 : Try.prog.cellsOf 46 = 6 := by kernel_rfl
theorem fk46 : flK Try.prog .i64 9 46 = some 6 := by kernel_rfl
theorem fk56 : flK Try.prog .u16 9 56 = some 1 := by kernel_rfl
theorem un4 : Try.prog.underlying 4 = some .bool := by kernel_rfl
theorem own : ownKnob Try.prog.godebug = none := by kernel_rfl
def toSi (p : List Int) : SiD := match p with
  | [a, b, c, d, e, f] => ⟨a, b, c, d, e, f⟩
  | _ => ⟨0, 0, 0, 0, 0, 0⟩
theorem toSi_enc {p : List Int} (h : p.length = 6) : siC (toSi p) = p.map (Value.int .i64) := by
  match p, h with
  | [a, b, c, d, e, f], _ => rfl
theorem toSi_bd {p : List Int} (h : p.length = 6) (hb : ∀ z ∈ p, I64 z) : SiI (toSi p) := by
  match p, h with
  | [a, b, c, d, e, f], _ => exact ⟨hb a (by simp), hb b (by simp), hb c (by simp), hb d (by simp), hb e (by simp), hb f (by simp)⟩
theorem tAt_flat {α : Type} {W : World} {sa : Option Addr} {l : List (List Int)} {n : Nat} {enc : α → List Value} {f : List Int → α} (hf : ∀ p ∈ l, enc (f p) = p.map (Value.int .i64)) (h : FlatAt W .i64 sa n l) : TAt n enc W sa (l.map f) := fun i s hi => by
  rw [List.getElem?_map] at hi
  cases hp : l[i]? with
  | none => rw [hp] at hi; cases hi
  | some p =>
    rw [hp] at hi
    cases hi
    obtain ⟨blk, off, c, T, fr, h1, h2, h3⟩ := h i p hp
    exact ⟨blk, off, c, T, fr, h1, h2, by rw [hf p (List.mem_of_getElem? hp)]; exact h3⟩
theorem len2 {l : List Value} (h : l.length = 2) : ∃ a b, l = [a, b] := by
  match l, h with
  | [a, b], _ => exact ⟨a, b, rfl⟩
section
variable {H : Type} {enc : TypeId × Value → H} {W : World} {base : Nat} {spare : Nat → Bool} {held : Bool}
set_option maxRecDepth 100000 in
theorem openCha {r : Reach} {b0 : Nat} {v : Value} {d : DataW H} {p : List MemPlace} (hv : Value.okWide Try.prog W r b0 24 v) (h : DataW.Trod enc Try.prog W base spare held 24 v d p) : ∃ (c : ChD) (sa : Option Addr) (cp : Nat), v = .agg (chC c sa cp) ∧ ChIn W c sa ∧ c.si.length ≤ cp := by
  obtain ⟨cs, rfl, hsz⟩ := okWide_struct hs24 hv
  obtain ⟨fuel, h⟩ := h
  obtain ⟨_, hf⟩ := trod_field hs24 h
  rw [fs24] at hf
  rw [co24] at hsz
  obtain ⟨l, rfl⟩ : ∃ l : List Value, cs = l.toArray := ⟨cs.toList, by simp⟩
  obtain ⟨c0, c1, rfl⟩ := len2 (by simpa using hsz)
  replace hf : ∀ (i o : Nat) (u : TypeId) (c : Nat), (#[(0, 3), (1, 22)] : Array (Nat × TypeId))[i]? = some (o, u) → Try.prog.cellsOf u = c → ∃ n y, DataW.trod enc Try.prog W base spare held n u (([c0, c1].drop o).take c) = some y := hf
  obtain ⟨_, y0, g0⟩ := hf 0 0 3 1 rfl co3
  obtain ⟨_, _, g1⟩ := hf 1 1 22 1 rfl co22
  obtain ⟨n, e1, _, hn⟩ := DataW.trod_int Try.un_3 g0
  obtain ⟨l1, s1, a1, e2, m1, b1, f1⟩ := trod_slices un22 fk46 (by omega) g1
  have hc1 := trod_cap un22 e2 g1
  simp at e1 e2
  subst e1; subst e2
  refine ⟨⟨n, l1.map toSi⟩, s1, a1, by simp, ⟨tAt_flat (fun p hp => toSi_enc (b1 p hp).1) f1, wf64 hn, fun s hs => ?_⟩, by simpa using hc1⟩
  obtain ⟨p, hp, rfl⟩ := List.mem_map.1 hs
  exact toSi_bd (b1 p hp).1 (fun z hz => wf64 ((b1 p hp).2 z hz))
set_option maxRecDepth 100000 in
theorem openSi {r : Reach} {b0 : Nat} {v : Value} {d : DataW H} {p : List MemPlace} (hv : Value.okWide Try.prog W r b0 46 v) (h : DataW.Trod enc Try.prog W base spare held 46 v d p) : ∃ t : SiD, v = siV t ∧ SiI t := by
  obtain ⟨cs, rfl, hsz⟩ := okWide_struct hs46 hv
  obtain ⟨fuel, h⟩ := h
  obtain ⟨p, h1, h2, h3⟩ := trod_fl fk46 h
  refine ⟨toSi p, ?_, toSi_bd h1 (fun z hz => wf64 (h3 z hz))⟩
  match p, h1 with
  | [x1, x2, x3, x4, x5, x6], _ =>
    have e : cs = #[.int .i64 x1, .int .i64 x2, .int .i64 x3, .int .i64 x4, .int .i64 x5, .int .i64 x6] := by
      apply Array.ext'
      have h4 : cs.toList = [x1, x2, x3, x4, x5, x6].map (Value.int .i64) := h2
      rw [h4]; rfl
    subst e
    rfl
end
end Go.Proofs.Ytccjnjhlnpgocaa
